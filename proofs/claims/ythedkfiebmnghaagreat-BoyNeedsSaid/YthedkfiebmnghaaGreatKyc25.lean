/- Texts of the proof, joined. -/
import Derived.Test.YthedkfiebmnghaaGreatKyb33
set_option linter.all false
set_option maxHeartbeats 16000000
set_option maxRecDepth 20000
namespace Go.Proofs.YthedkfiebmnghaaGreat
open Go Go.RowKit Go.Sh Go.Pv
theorem ans41 : AnswersOK Tryz.prog 41 stopV := by
 have hta : ∀ c w, (Instr.typeAssert (.iface 125 (.int .i64 c)) 20 125 true).run Tryz.prog w = .ok (.tuple #[.int .i64 c, .bool true]) w := fun _ _ => by kernel_rfl
 refine ⟨fun p w => ?_, fun p x c w hc hz => ?_⟩
 ·refine callsDIn_of_wpSIn Tryz.func41 rfl trivial fun c₀ cs hu => ?_
  refine wpSIn_seq ?_
  refine wpSIn_region ?_
  have e1 : recoverD (c₀ :: cs) = none := by simp [recoverD, hu]
  show wpOpsSIn _ _ _ _ _ [0, 1] _ _ _
  simp [wpOpsSIn, Region.wanted, yielded, execOp, resolve, invoke, builtin, e1, Act.put, Act.eval, Exit.thenS, Oper.about]
  refine ⟨fun _ _ => trivial, ?_⟩
  refine wpSIn_of_wpIn rfl (wpIn_wide.2 ?_)
  rw [show (#[Value.pointer (some p)] ++ ((Array.replicate 18 undef).setIfInBounds 4 Value.nilIface).setIfInBounds 1 Value.nilIface) = #[.pointer (some p), undef, .nilIface, undef, undef, .nilIface, undef, undef, undef, undef, undef, undef, undef, undef, undef, undef, undef, undef, undef] from rfl]
  go_wp2
  exact ⟨rfl, .returning, by cases c₀; simp_all, _, results_none rfl _ _ _, rfl, rfl, Below.refl _ _⟩
 ·refine callsDIn_of_wpSIn Tryz.func41 rfl trivial fun c₀ cs hu => ?_
  refine wpSIn_seq ?_
  refine wpSIn_region ?_
  have e1 : recoverD (c₀ :: cs) = some (stopV c, { c₀ with mode := .panicking [{ v := stopV c, recovered := true }] } :: cs) := by simp [recoverD, hu]
  show wpOpsSIn _ _ _ _ _ [0, 1] _ _ _
  simp [wpOpsSIn, Region.wanted, yielded, execOp, resolve, invoke, builtin, e1, Act.put, Act.eval, Exit.thenS, Oper.about]
  refine ⟨fun _ _ => trivial, ?_⟩
  refine wpSIn_of_wpIn rfl (wpIn_wide.2 ?_)
  have hlt := World.block_lt_of_cell? _ _ hc
  have hb : ∀ ob, Below w.heap.size w (w.alloc ob) := fun ob => (Below.refl _ w).alloc (Nat.le_refl _) _
  rw [show (#[Value.pointer (some p)] ++ ((Array.replicate 18 undef).setIfInBounds 4 (stopV c)).setIfInBounds 1 (stopV c)) = #[.pointer (some p), undef, stopV c, undef, undef, stopV c, undef, undef, undef, undef, undef, undef, undef, undef, undef, undef, undef, undef, undef] from rfl]
  unfold stopV
  go_wp2
  exact ⟨rfl, _, rfl, _, results_none rfl _ _ _, rfl, rfl, w, Below.refl _ _, rfl⟩
theorem ansFid_eq : ansFid Tryz.prog = 41 := by kernel_rfl
end Go.Proofs.YthedkfiebmnghaaGreat
namespace Go.Proofs.YthedkfiebmnghaaGreat
open Go Go.RowKit Go.Sh Go.Pv Go.By
section
variable {y : YD} {b : Nat} {o : Obj}
theorem s_always : FunS Tryz.prog 64 [.one (.box 0 0)] (YH y .nil b o) 2 (.one (.one (.v (.bool true)))) := by
 unfold YH
 refine funS_ok (nt := 3) (rs := [.tmp 2]) Tryz.func64 rfl rfl rfl (by simp) fun Z w0 cap pan dk tm => ?_; refine tV ?_
 refine tw ?_
 (refine aw_ret ⟨.inr rfl, qMN, qMN, qVN⟩)
theorem s_isT (h : YOK y) (i : Int) : FunS Tryz.prog 50 [.one (.box 0 0), .one (.box 2 0)] ((2, .box [.p (iP i)]) :: YH y .nil b o) 3 (.one (.one (.v (.bool (inB i 0 ((y.S : Int) - 1)))))) := by
 have hs := s_isStand (c := .nil) (b := b) (o := o) h i
 unfold YH at hs ⊢
 refine funS_ok (nt := 7) (rs := [.tmp 3]) Tryz.func50 rfl rfl rfl (by simp) fun Z w0 cap pan dk tm => ?_; refine tV ?_
 refine tw fun QQ hQQ => ?_
 (refine callO_S [0, 1] (hs) rfl rfl qN qN Tryz.func44 rfl (by decide) (by rfl) qAN (by decide) (by decide) qCN ?_); refine ts ?_; clear hQQ QQ
 refine tw ?_
 (refine aw_ret ⟨.inr rfl, qMN, qMN, qVN⟩)
theorem s_isW (h : YOK y) (l : List Int) (hl : l.length ≤ 100000) : FunS Tryz.prog 53 [.one (.box 0 0), .one (.box 2 0)] ((2, .box [.p (.sl (l.map row1))]) :: YH y .nil b o) 3 (.one (.one (.v (.bool (l.all fun x => inB x 0 ((y.S : Int) - 1)))))) := by
 have hs := s_areStands (c := .nil) (b := b) (o := o) h (.inl rfl) l hl
 unfold YH at hs ⊢
 refine funS_ok (nt := 7) (rs := [.tmp 3]) Tryz.func53 rfl rfl rfl (by simp) fun Z w0 cap pan dk tm => ?_; refine tV ?_
 refine tw fun QQ hQQ => ?_
 (refine callO_S [0, 1] (hs) rfl rfl qN qN Tryz.func54 rfl (by decide) (by rfl) qAN (by decide) (by decide) qCN ?_); refine ts ?_; clear hQQ QQ
 refine tw ?_
 (refine aw_ret ⟨.inr rfl, qMN, qMN, qVN⟩)
theorem s_isB (h : YOK y) (l : List Int) (hl : l.length ≤ 100000) (i m : Int) : FunS Tryz.prog 60 [.one (.box 0 0), .one (.box 2 0), .one (.box 3 0), .one (.box 4 0)] ((2, .box [.p (.sl (l.map row1))]) :: (3, .box [.p (iP i)]) :: (4, .box [.p (iP m)]) :: YH y .nil b o) 5 (.one (.one (.v (.bool ((l.all fun x => inB x 0 ((y.S : Int) - 1)) && inB i 0 ((y.S : Int) - 1) && inB m 0 999))))) := by
 have hs := s_areStands (c := .nil) (b := b) (o := o) h (.inl rfl) l hl
 have ht := s_isStand (c := .nil) (b := b) (o := o) h i
 have hw := ok_within m 0 999
 unfold YH at hs ht ⊢
 cases b1 : (l.all fun x => inB x 0 ((y.S : Int) - 1))
 ·rw [b1] at hs
  rw [Bool.false_and, Bool.false_and]
  refine funS_ok (nt := 18) (rs := [.tmp 5]) Tryz.func60 rfl rfl rfl (by simp) fun Z w0 cap pan dk tm => ?_; refine tV ?_
  refine tw fun QQ hQQ => ?_
  (refine callO_S [0, 1] (hs) rfl rfl qN qN Tryz.func54 rfl (by decide) (by rfl) qAN (by decide) (by decide) qCN ?_); refine ts ?_; clear hQQ QQ
  refine tw ?_
  (refine aw_ret ⟨.inr rfl, qMN, qMN, qVN⟩)
 ·rw [b1] at hs
  rw [Bool.true_and]
  cases b2 : inB i 0 ((y.S : Int) - 1)
  ·rw [b2] at ht
   rw [Bool.false_and]
   refine funS_ok (nt := 18) (rs := [.tmp 5]) Tryz.func60 rfl rfl rfl (by simp) fun Z w0 cap pan dk tm => ?_; refine tV ?_
   refine tw fun QQ hQQ => ?_
   (refine callO_S [0, 1] (hs) rfl rfl qN qN Tryz.func54 rfl (by decide) (by rfl) qAN (by decide) (by decide) qCN ?_); refine ts ?_
   refine tw ?_
   (refine callO_S [0, 1] (ht) rfl rfl qN qN Tryz.func44 rfl (by decide) (by rfl) qAN (by decide) (by decide) qCN ?_); refine ts ?_; clear hQQ QQ
   refine tw ?_
   (refine aw_ret ⟨.inr rfl, qMN, qMN, qVN⟩)
  ·rw [b2] at ht
   rw [Bool.true_and]
   refine funS_ok (nt := 18) (rs := [.tmp 5]) Tryz.func60 rfl rfl rfl (by simp) fun Z w0 cap pan dk tm => ?_; refine tV ?_
   refine tw fun QQ hQQ => ?_
   (refine callO_S [0, 1] (hs) rfl rfl qN qN Tryz.func54 rfl (by decide) (by rfl) qAN (by decide) (by decide) qCN ?_); refine ts ?_
   refine tw ?_
   (refine callO_S [0, 1] (ht) rfl rfl qN qN Tryz.func44 rfl (by decide) (by rfl) qAN (by decide) (by decide) qCN ?_); refine ts ?_
   refine tw ?_
   ((refine cO 45 rfl rfl rfl (hw) Tryz.func45 rfl ?_); refine tu ?_; clear hQQ QQ); refine tw ?_
   (refine aw_ret ⟨.inr rfl, qMN, qMN, qVN⟩)
end
section
variable {Z : Zn} {w0 : World} {cap : Nat → Prop} {nt : Nat} {rd : Option Nat} {pan : List PanicEntry → St → Prop} {df : Option Nat} {dk : List Nat} {rg : Bool} {fr : List (Nat × AV)} {hp : List (Nat × Obj')} {nx : Nat} {g : FuncId} {caps : List CC} {gn : Func}
def yOf (ss : List SD) (first : List Int) (trip load : Int) : YD := ⟨ss, first.map Int.toNat, trip.toNat, load.toNat⟩
theorem castN (F : List Nat) : (F.map fun x : Nat => (x : Int)).map Int.toNat = F := by
 rw [List.map_map]
 conv => rhs; rw [← List.map_id F]
 exact List.map_congr_left fun x _ => by simp
theorem castR (F : List Nat) : (F.map fun x : Nat => (x : Int)).map row1 = F.map rowN := by rw [List.map_map]; rfl
theorem yOf_y (y : YD) : yOf y.ss (y.F.map fun x : Nat => (x : Int)) y.T y.L = y := by
 unfold yOf
 rw [castN, Int.toNat_natCast, Int.toNat_natCast]
theorem boy_yOf {ss : List SD} {first : List Int} {trip load : Int} (h : boyB ss first trip load = true) : ∃ y, YOK y ∧ yOf ss first trip load = y ∧ ss = y.ss ∧ first = y.F.map (fun x : Nat => (x : Int)) ∧ trip = y.T ∧ load = y.L := by
 obtain ⟨y, h1, rfl, rfl, rfl, rfl⟩ := boy_of h
 exact ⟨y, h1, yOf_y y, rfl, rfl, rfl, rfl⟩
def IsOK (g : FuncId) (caps : List CC) (hp : List (Nat × Obj')) (nx : Nat) (y : YD) (b : Bool) : Prop :=
 ∀ (K : Kx) (hpX : List (Nat × Obj')) (nxX : Nat) (fr : List (Nat × AV)) (bb : Nat), K.P = Tryz.prog → AL.get hpX (nx + 1 + 1 + 1) = some (.box (cells0 y.ss (y.F.map fun x : Nat => (x : Int)) y.T y.L (nx + 1 + 1))) → AL.get hpX (nx + 1 + 1) = some (.raw bb (.map #[] 0)) →
   (∀ id o, id < nx → AL.get hp id = some o → AL.get hpX id = some o) → CallF K g ([.one (.box (nx + 1 + 1 + 1) 0)] ++ caps.map capV) ⟨fr, hpX, nxX⟩ fun st' av => st' = ⟨fr, hpX, nxX⟩ ∧ av = .one (.p (.v (.bool b)))
theorem c_open_ok {y : YD} (hv : boyB y.ss (y.F.map fun x : Nat => (x : Int)) y.T y.L = true) (h : YOK y) (hg : Tryz.prog.funcs[g]? = some gn) (hgb : gn.body.isSome = true) (hgn : gn.name ≠ "runtime.NumGoroutine") (hcaps : ∀ i ∈ caps.flatMap refsCC, ∃ o, AL.get hp i = some o) (hIS : IsOK g caps hp nx y true) :
  CallF ⟨Tryz.prog, Z, w0, cap, nt, rd, pan, df, dk, rg⟩ 42 [.agg [.p (.sl (y.ss.map SD.row)), .p (.sl (y.F.map rowN)), .p (iP (y.T : Int)), .p (iP (y.L : Int))], .one (.fn g caps)] ⟨fr, hp, nx⟩ fun st' av => ∃ bb, st' = ⟨fr, (nx + 1 + 1 + 1, .box (y.cells (nx + 1 + 1))) :: (nx + 1 + 1, y.mapO bb) :: hp, nx + 1 + 1 + 1 + 1⟩ ∧ av = .one (.box (nx + 1 + 1 + 1) 0) := by
 rw [← castR]
 exact c_open hg hgb hgn true y (fun _ => ⟨h, rfl, rfl, rfl, rfl⟩) hcaps (fun _ => hIS) (fun _ _ bb => ⟨bb, rfl, rfl⟩) (fun h0 => by rw [hv] at h0; cases h0) (fun _ h0 => by cases h0)
theorem c_open_ran {y : YD} (hv : boyB y.ss (y.F.map fun x : Nat => (x : Int)) y.T y.L = true) (h : YOK y) (hg : Tryz.prog.funcs[g]? = some gn) (hgb : gn.body.isSome = true) (hgn : gn.name ≠ "runtime.NumGoroutine") (hcaps : ∀ i ∈ caps.flatMap refsCC, ∃ o, AL.get hp i = some o) (hIS : IsOK g caps hp nx y false) (hp2 : pan [{ v := stopV 2, recovered := false }] ⟨fr, hp, nx⟩) :
  CallF ⟨Tryz.prog, Z, w0, cap, nt, rd, pan, df, dk, rg⟩ 42 [.agg [.p (.sl (y.ss.map SD.row)), .p (.sl (y.F.map rowN)), .p (iP (y.T : Int)), .p (iP (y.L : Int))], .one (.fn g caps)] ⟨fr, hp, nx⟩ fun _ _ => False := by
 rw [← castR]
 exact c_open hg hgb hgn false y (fun _ => ⟨h, rfl, rfl, rfl, rfl⟩) hcaps (fun _ => hIS) (fun _ h0 => by cases h0) (fun h0 => by rw [hv] at h0; cases h0) (fun _ _ => hp2)
theorem c_open_arg {ss : List SD} {first : List Int} {trip load : Int} (hv : boyB ss first trip load = false) (hg : Tryz.prog.funcs[g]? = some gn) (hgb : gn.body.isSome = true) (hgn : gn.name ≠ "runtime.NumGoroutine") (hcaps : ∀ i ∈ caps.flatMap refsCC, ∃ o, AL.get hp i = some o) (hp2 : pan [{ v := stopV 1, recovered := false }] ⟨fr, hp, nx⟩) :
  CallF ⟨Tryz.prog, Z, w0, cap, nt, rd, pan, df, dk, rg⟩ 42 [.agg [.p (.sl (ss.map SD.row)), .p (.sl (first.map row1)), .p (iP trip), .p (iP load)], .one (.fn g caps)] ⟨fr, hp, nx⟩ fun _ _ => False :=
 c_open hg hgb hgn false (yOf ss first trip load) (fun h => by rw [hv] at h; cases h) hcaps (fun h => by rw [hv] at h; cases h) (fun h => by rw [hv] at h; cases h) (fun _ => hp2) (fun h => by rw [hv] at h; cases h)
theorem cells0_eq (y : YD) (m : Nat) : cells0 y.ss (y.F.map fun x : Nat => (x : Int)) y.T y.L m = [.p (.sl (y.ss.map SD.row)), .p (.sl (y.F.map rowN)), .p (iP (y.T : Int)), .p (iP (y.L : Int)), .nil, .raw m] := by unfold cells0; rw [castR]
theorem is_box0 {y : YD} {g : FuncId} {b : Bool} (hS : ∀ bb o, FunS Tryz.prog g [.one (.box 0 0)] (YH y .nil bb o) 2 (.one (.one (.v (.bool b))))) : IsOK g [] hp nx y b := fun K hpX nxX fr bb hK h3 h2 hx => by
 rw [cells0_eq] at h3
 exact callF_S (st := ⟨fr, hpX, nxX⟩) (hp := YH y .nil bb (.map #[] 0)) (avs0 := [.one (.box 0 0)]) (nx := 2) [nx + 1 + 1 + 1, nx + 1 + 1] (by rw [hK]; exact hS bb _) rfl (show _ ∧ _ ∧ True from ⟨h3, h2, trivial⟩) (by simp) (by simp) rfl
theorem is_box1 {y : YD} {g : FuncId} {b : Bool} {x : PV} (hS : ∀ bb o, FunS Tryz.prog g [.one (.box 0 0), .one (.box 2 0)] ((2, .box [.p x]) :: YH y .nil bb o) 3 (.one (.one (.v (.bool b)))))
  {c : Nat} (hc : AL.get hp c = some (.box [.p x])) (hcl : c < nx) : IsOK g [.box c] hp nx y b := fun K hpX nxX fr bb hK h3 h2 hx => by
 rw [cells0_eq] at h3
 exact callF_S (st := ⟨fr, hpX, nxX⟩) (hp := (2, .box [.p x]) :: YH y .nil bb (.map #[] 0)) (avs0 := [.one (.box 0 0), .one (.box 2 0)]) (nx := 3) [nx + 1 + 1 + 1, nx + 1 + 1, c] (by rw [hK]; exact hS bb _) rfl (show _ ∧ _ ∧ _ ∧ True from ⟨hx c _ hcl hc, h3, h2, trivial⟩) (by simp; omega) (by simp) rfl
theorem is_box2 {y : YD} {g : FuncId} {b : Bool} {x z : PV} (hS : ∀ bb o, FunS Tryz.prog g [.one (.box 0 0), .one (.box 2 0), .one (.box 3 0)] ((2, .box [.p x]) :: (3, .box [.p z]) :: YH y .nil bb o) 4 (.one (.one (.v (.bool b)))))
  {c d : Nat} (hc : AL.get hp c = some (.box [.p x])) (hd : AL.get hp d = some (.box [.p z])) (hcl : c < nx) (hdl : d < nx) (hcd : c ≠ d) : IsOK g [.box c, .box d] hp nx y b := fun K hpX nxX fr bb hK h3 h2 hx => by
 rw [cells0_eq] at h3
 exact callF_S (st := ⟨fr, hpX, nxX⟩) (hp := (2, .box [.p x]) :: (3, .box [.p z]) :: YH y .nil bb (.map #[] 0)) (avs0 := [.one (.box 0 0), .one (.box 2 0), .one (.box 3 0)]) (nx := 4) [nx + 1 + 1 + 1, nx + 1 + 1, c, d] (by rw [hK]; exact hS bb _) rfl (show _ ∧ _ ∧ _ ∧ _ ∧ True from ⟨hx c _ hcl hc, hx d _ hdl hd, h3, h2, trivial⟩) (by simp; omega) (by simp) rfl
theorem is_box3 {y : YD} {g : FuncId} {b : Bool} {x z u : PV} (hS : ∀ bb o, FunS Tryz.prog g [.one (.box 0 0), .one (.box 2 0), .one (.box 3 0), .one (.box 4 0)] ((2, .box [.p x]) :: (3, .box [.p z]) :: (4, .box [.p u]) :: YH y .nil bb o) 5 (.one (.one (.v (.bool b)))))
  {c d e : Nat} (hc : AL.get hp c = some (.box [.p x])) (hd : AL.get hp d = some (.box [.p z])) (he : AL.get hp e = some (.box [.p u])) (hcl : c < nx) (hdl : d < nx) (hel : e < nx) (hcd : c ≠ d ∧ c ≠ e ∧ d ≠ e) : IsOK g [.box c, .box d, .box e] hp nx y b := fun K hpX nxX fr bb hK h3 h2 hx => by
 rw [cells0_eq] at h3
 exact callF_S (st := ⟨fr, hpX, nxX⟩) (hp := (2, .box [.p x]) :: (3, .box [.p z]) :: (4, .box [.p u]) :: YH y .nil bb (.map #[] 0)) (avs0 := [.one (.box 0 0), .one (.box 2 0), .one (.box 3 0), .one (.box 4 0)]) (nx := 5) [nx + 1 + 1 + 1, nx + 1 + 1, c, d, e] (by rw [hK]; exact hS bb _) rfl (show _ ∧ _ ∧ _ ∧ _ ∧ _ ∧ True from ⟨hx c _ hcl hc, hx d _ hdl hd, hx e _ hel he, h3, h2, trivial⟩) (by simp; omega) (by simp) rfl
end
noncomputable def bestY (y : YD) : List Nat := firstF y.D (y.T : Int) (waitsS y.D (y.T : Int) (soonY y)) y.S (soonY y).length [] (soonY y)
def ansB (v : Bool) (l : List Nat) (n : Int) : RR := .tup [.one (.sl (if v = true then l.map rowN else [])), .one (iP (if v = true then n else 0)), .one (iP (if v = true then 0 else 1))]
theorem waits_rng {y : YD} (h : YOK y) : 0 ≤ waitsS y.D (y.T : Int) (soonY y) ∧ waitsS y.D (y.T : Int) (soonY y) ≤ 1000000 := by
 obtain ⟨h3, h4⟩ := over_rng h (soonY_plan h).1 (T := y.T) (by have := h.t60; omega)
 unfold waitsS
 omega
section
variable {ss : List SD} {first : List Int} {trip load : Int}
theorem ok_Best : FunOK Tryz.prog 23 [boyR ss first trip load] (ansB (boyB ss first trip load) (bestY (yOf ss first trip load)) (waitsS (yOf ss first trip load).D ((yOf ss first trip load).T : Int) (soonY (yOf ss first trip load)))) := by
 cases hv : boyB ss first trip load
 ·generalize bestY (yOf ss first trip load) = l
  generalize waitsS (yOf ss first trip load).D ((yOf ss first trip load).T : Int) (soonY (yOf ss first trip load)) = n
  rw [show ansB false l n = .tup [.one (.sl []), .one (iP 0), .one (iP 1)] from rfl]
  refine fun_expA (l := []) (od := _) (nt := 17) (t := 4) (eb := 1) (rs := [.tmp 2, .tmp 3, .cell 4 28]) ans41 Tryz.func23 rfl rfl rfl (by simp) rfl rfl rfl ansFid_eq Tryz.func41 rfl (by decide) fun Z w0 => ?_; refine tI ?_
  simp only [boyR, List.map_cons, List.map_nil]
  refine tw ?_
  refine ⟨rfl, ?_⟩
  (refine ts ?_)
  refine tw fun QQ hQQ => ?_
  refine callS_ok rfl rfl 42 qN qN Tryz.func42 rfl (by decide) (CallF.mono (c_open_arg hv Tryz.func64 rfl (by decide) ?_ ?_) fun _ _ h => False.elim h); exact qHN
  exact ⟨1, 0, rfl, qN, qN, qSN⟩
 ·obtain ⟨y, h, hy, rfl, rfl, rfl, rfl⟩ := boy_yOf hv
  rw [hy]
  have h1 := fun bb => s_soonest (b := bb) h
  have h2 := fun bb => s_waits (b := bb) h (soonY_plan h).1
  have hr := waits_rng h
  have h3 := fun bb => s_first (b := bb) h hr.1 hr.2
  unfold bestY
  generalize firstF y.D (y.T : Int) (waitsS y.D (y.T : Int) (soonY y)) y.S (soonY y).length [] (soonY y) = G at *
  generalize waitsS y.D (y.T : Int) (soonY y) = n at *
  generalize soonY y = soon at *
  rw [show ansB true G n = .tup [.one (.sl (G.map rowN)), .one (iP n), .one (iP 0)] from rfl]
  unfold boyR
  rw [castR]
  refine fun_expA (l := []) (od := _) (nt := 17) (t := 4) (eb := 1) (rs := [.tmp 2, .tmp 3, .cell 4 28]) ans41 Tryz.func23 rfl rfl rfl (by simp) rfl rfl rfl ansFid_eq Tryz.func41 rfl (by decide) fun Z w0 => ?_; refine tI ?_
  refine tw ?_
  refine ⟨rfl, ?_⟩
  (refine ts ?_)
  refine tw fun QQ hQQ => ?_
  refine callS_ok rfl rfl 42 qN qN Tryz.func42 rfl (by decide) (CallF.mono (c_open_ok hv h Tryz.func64 rfl (by decide) ?_ ?_) ?_); exact qHN; (exact is_box0 fun bb o => s_always); rintro _ _ ⟨bb, rfl, rfl⟩; refine ts ?_; clear hQQ QQ
  refine tw fun QQ hQQ => ?_
  have h1 := h1 bb
  have h2 := h2 bb
  have h3 := h3 bb
  unfold YF YH at h1 h2 h3
  unfold YD.cells YD.mapO
  (refine callO_S [5, 4] (h1) rfl rfl qN qN Tryz.func65 rfl (by decide) (by rfl) qAN (by decide) (by decide) qCN ?_); refine ts ?_
  (refine callO_S [5, 4] (h2) rfl rfl qN qN Tryz.func55 rfl (by decide) (by rfl) qAN (by decide) (by decide) qCN ?_); refine ts ?_; clear hQQ QQ
  refine tw fun QQ hQQ => ?_
  (refine callO_S [5, 4] (h3) rfl rfl qN qN Tryz.func66 rfl (by decide) (by rfl) qAN (by decide) (by decide) qCN ?_); refine ts ?_; clear hQQ QQ
  refine tw ?_
  (refine aw_ret ⟨.inr rfl, qN, qSN⟩)
end
def ansN (e n : Int) : RR := .tup [.one (iP (if e = 0 then n else 0)), .one (iP e)]
def whyI (v is pl : Bool) (e : Int) : Int := if v = true then (if is = true then (if pl = true then 0 else e) else 2) else 1
theorem stands_of {l : List Int} {S : Nat} (h : (l.all fun x => inB x 0 ((S : Int) - 1)) = true) : l = (l.map Int.toNat).map (fun x : Nat => (x : Int)) ∧ ∀ s ∈ l.map Int.toNat, s < S := by
 have h1 : ∀ x ∈ l, 0 ≤ x ∧ x ≤ (S : Int) - 1 := fun x hx => by simpa [inB] using List.all_eq_true.1 h x hx
 refine ⟨?_, fun s hs => ?_⟩
 ·rw [List.map_map]
  conv => lhs; rw [← List.map_id l]
  exact List.map_congr_left fun x hx => by
   have := h1 x hx
   show x = ((x.toNat : Nat) : Int)
   omega
 ·obtain ⟨x, hx, rfl⟩ := List.mem_map.1 hs
  have := h1 x hx
  omega
instance planDec (S : Nat) (l : Nat → Nat) (p : List Nat) : Decidable (IsPlan S l p) := by unfold IsPlan; exact inferInstance
def whyL (v : Bool) (y : YD) (l : List Int) (more : Bool) : Int := whyI v ((l.all fun x => inB x 0 ((y.S : Int) - 1)) && more) (decide (IsPlan y.S y.n (l.map Int.toNat))) 6
section
variable {ss : List SD} {first : List Int} {trip load : Int}
theorem ok_Waits (l : List Int) (hl : l.length ≤ 100000) : FunOK Tryz.prog 18 [boyR ss first trip load, .one (.sl (l.map row1))] (ansN (whyL (boyB ss first trip load) (yOf ss first trip load) l true) (waitsS (yOf ss first trip load).D ((yOf ss first trip load).T : Int) (l.map Int.toNat))) := by
 cases hv : boyB ss first trip load
 ·generalize waitsS (yOf ss first trip load).D ((yOf ss first trip load).T : Int) (l.map Int.toNat) = n
  rw [show ansN (whyL false (yOf ss first trip load) l true) n = .tup [.one (iP 0), .one (iP 1)] from rfl]
  refine fun_expA (l := []) (od := _) (nt := 15) (t := 5) (eb := 2) (rs := [.tmp 4, .cell 5 28]) ans41 Tryz.func18 rfl rfl rfl (by simp) rfl rfl rfl ansFid_eq Tryz.func41 rfl (by decide) fun Z w0 => ?_; refine tI ?_
  simp only [boyR, List.map_cons, List.map_nil]
  refine tw ?_
  refine ⟨rfl, ?_⟩
  (refine ts ?_)
  refine tw fun QQ hQQ => ?_
  refine callS_ok rfl rfl 42 qN qN Tryz.func42 rfl (by decide) (CallF.mono (c_open_arg hv Tryz.func53 rfl (by decide) ?_ ?_) fun _ _ h => False.elim h); exact qHN
  exact ⟨1, 0, rfl, qN, qN, qSN⟩
 ·obtain ⟨y, h, hy, rfl, rfl, rfl, rfl⟩ := boy_yOf hv
  rw [hy]
  have hS := fun bb o => s_isW (b := bb) (o := o) h l hl
  unfold boyR
  rw [castR]
  cases b1 : (l.all fun x => inB x 0 ((y.S : Int) - 1))
  ·have hS : ∀ bb o, _ := fun bb o => by have := hS bb o; rw [b1] at this; exact this
   rw [show ansN (whyL true y l true) (waitsS y.D (y.T : Int) (l.map Int.toNat)) = .tup [.one (iP 0), .one (iP 2)] by unfold whyL; rw [b1]; rfl]
   refine fun_expA (l := []) (od := _) (nt := 15) (t := 5) (eb := 2) (rs := [.tmp 4, .cell 5 28]) ans41 Tryz.func18 rfl rfl rfl (by simp) rfl rfl rfl ansFid_eq Tryz.func41 rfl (by decide) fun Z w0 => ?_; refine tI ?_
   refine tw ?_
   refine ⟨rfl, ?_⟩
   (refine ts ?_)
   refine tw fun QQ hQQ => ?_
   refine callS_ok rfl rfl 42 qN qN Tryz.func42 rfl (by decide) (CallF.mono (c_open_ran hv h Tryz.func53 rfl (by decide) ?_ ?_ ?_) fun _ _ h => False.elim h); exact qHN; (exact is_box1 (c := 1) hS (by rfl) (by decide))
   exact ⟨2, 0, rfl, qN, qN, qSN⟩
  ·have hS : ∀ bb o, _ := fun bb o => by have := hS bb o; rw [b1] at this; exact this
   obtain ⟨hle, hlt⟩ := stands_of b1
   have hw : whyL true y l true = if IsPlan y.S y.n (l.map Int.toNat) then 0 else 6 := by
    unfold whyL; rw [b1]
    by_cases hp : IsPlan y.S y.n (l.map Int.toNat)
    ·rw [if_pos hp]; unfold whyI; simp [hp]
    ·rw [if_neg hp]; unfold whyI; simp [hp]
   rw [hw]
   clear hw b1
   have hlen : (l.map Int.toNat).length ≤ 100000 := by rw [List.length_map]; exact hl
   generalize l.map Int.toNat = p at *
   subst hle
   rw [castR] at hS ⊢
   by_cases hp : IsPlan y.S y.n p
   ·rw [if_pos hp]
    have h1 := fun bb => s_planned (b := bb) h hlt hlen hp
    have h2 := fun bb => s_waits (b := bb) h hp
    generalize waitsS y.D (y.T : Int) p = n at *
    rw [show ansN 0 n = .tup [.one (iP n), .one (iP 0)] from rfl]
    refine fun_expA (l := []) (od := _) (nt := 15) (t := 5) (eb := 2) (rs := [.tmp 4, .cell 5 28]) ans41 Tryz.func18 rfl rfl rfl (by simp) rfl rfl rfl ansFid_eq Tryz.func41 rfl (by decide) fun Z w0 => ?_; refine tI ?_
    refine tw ?_
    refine ⟨rfl, ?_⟩
    (refine ts ?_)
    refine tw fun QQ hQQ => ?_
    refine callS_ok rfl rfl 42 qN qN Tryz.func42 rfl (by decide) (CallF.mono (c_open_ok hv h Tryz.func53 rfl (by decide) ?_ ?_) ?_); exact qHN; (exact is_box1 (c := 1) hS (by rfl) (by decide)); rintro _ _ ⟨bb, rfl, rfl⟩; refine ts ?_; clear hQQ QQ
    refine tw fun QQ hQQ => ?_
    have h1 := h1 bb
    have h2 := h2 bb
    unfold YF YH at h1 h2
    unfold YD.cells YD.mapO
    (refine callO_S [6, 5] (h1) rfl rfl qN qN Tryz.func56 rfl (by decide) (by rfl) qAN (by decide) (by decide) qCN ?_); refine ts ?_
    (refine callO_S [6, 5] (h2) rfl rfl qN qN Tryz.func55 rfl (by decide) (by rfl) qAN (by decide) (by decide) qCN ?_); refine ts ?_; clear hQQ QQ
    refine tw ?_
    (refine aw_ret ⟨.inr rfl, qN, qSN⟩)
   ·rw [if_neg hp]
    have h1 := fun bb => sx_planned (b := bb) h hlt hlen hp
    rw [show ansN 6 (waitsS y.D (y.T : Int) p) = .tup [.one (iP 0), .one (iP 6)] from rfl]
    refine fun_expA (l := []) (od := _) (nt := 15) (t := 5) (eb := 2) (rs := [.tmp 4, .cell 5 28]) ans41 Tryz.func18 rfl rfl rfl (by simp) rfl rfl rfl ansFid_eq Tryz.func41 rfl (by decide) fun Z w0 => ?_; refine tI ?_
    refine tw ?_
    refine ⟨rfl, ?_⟩
    (refine ts ?_)
    refine tw fun QQ hQQ => ?_
    refine callS_ok rfl rfl 42 qN qN Tryz.func42 rfl (by decide) (CallF.mono (c_open_ok hv h Tryz.func53 rfl (by decide) ?_ ?_) ?_); exact qHN; (exact is_box1 (c := 1) hS (by rfl) (by decide)); rintro _ _ ⟨bb, rfl, rfl⟩; refine ts ?_; clear hQQ QQ
    refine tw fun QQ hQQ => ?_
    have h1 := h1 bb
    unfold YF YH at h1
    unfold YD.cells YD.mapO
    refine callO_SX [6, 5] (h1) rfl rfl qN qN Tryz.func56 rfl (by decide) (by rfl) qAN (by decide) (by decide) qCN ?_
    exact ⟨6, 0, rfl, qN, qN, qSN⟩
end
theorem lastI_lastN (p : Int → Bool) (lo : Nat) : ∀ k, lastI p ((List.range k).map fun i => ((lo + i : Nat) : Int)) = (lastN (fun n => p (n : Int)) lo k).map (fun n : Nat => (n : Int))
 | 0 => rfl
 | k + 1 => by
  unfold lastI lastN
  rw [List.range_succ, List.map_append, List.reverse_append]
  simp only [List.map_cons, List.map_nil, List.reverse_cons, List.reverse_nil, List.nil_append, List.cons_append, List.find?_cons]
  by_cases h : p ((lo + k : Nat) : Int) = true
  ·rw [if_pos h, h]; rfl
  ·have h' : p ((lo + k : Nat) : Int) = false := by simpa using h
   rw [if_neg h, h']
   exact lastI_lastN p lo k
theorem lastI_no {p : Int → Bool} {l : List Int} (h : lastI p l = none) : ∀ j, j < l.length → p (l.getD j 0) = false := fun j hj => by
 have := List.find?_eq_none.1 h (l.getD j 0) (List.mem_reverse.2 (mem_of_getD hj))
 simpa using this
theorem mem_fromL {lo hi : Nat} {x : Int} (h : x ∈ fromL lo hi) : ∃ n : Nat, x = n ∧ lo ≤ n ∧ n ≤ hi := by
 unfold fromL at h
 obtain ⟨i, hi', rfl⟩ := List.mem_map.1 h
 have := List.mem_range.1 hi'
 exact ⟨lo + i, rfl, by omega, by omega⟩
theorem fromL_len (lo hi : Nat) : (fromL lo hi).length = hi + 1 - lo := by unfold fromL; rw [List.length_map, List.length_range]
def ansO (v : Bool) (n : Option Nat) : RR := ansN (if v = true then (match n with | some _ => 0 | none => 4) else 1) (match n with | some n => (n : Int) | none => 0)
section
variable {ss : List SD} {first : List Int} {trip load : Int}
theorem ok_Slow : FunOK Tryz.prog 25 [boyR ss first trip load] (ansO (boyB ss first trip load) (slowS (yOf ss first trip load).D (soonY (yOf ss first trip load)))) := by
 cases hv : boyB ss first trip load
 ·have hA : ∀ n, ansO false n = .tup [.one (iP 0), .one (iP 1)] := fun n => by cases n <;> rfl
  rw [hA]
  refine fun_expA (l := []) (od := _) (nt := 11) (t := 3) (eb := 1) (rs := [.tmp 2, .cell 3 28]) ans41 Tryz.func25 rfl rfl rfl (by simp) rfl rfl rfl ansFid_eq Tryz.func41 rfl (by decide) fun Z w0 => ?_; refine tI ?_
  simp only [boyR, List.map_cons, List.map_nil]
  refine tw ?_
  refine ⟨rfl, ?_⟩
  (refine ts ?_)
  refine tw fun QQ hQQ => ?_
  refine callS_ok rfl rfl 42 qN qN Tryz.func42 rfl (by decide) (CallF.mono (c_open_arg hv Tryz.func64 rfl (by decide) ?_ ?_) fun _ _ h => False.elim h); exact qHN
  exact ⟨1, 0, rfl, qN, qN, qSN⟩
 ·obtain ⟨y, h, hy, rfl, rfl, rfl, rfl⟩ := boy_yOf hv
  rw [hy]
  have hsl := fun bb n hn => s_slowC (b := bb) h n hn
  have hla := lastI_lastN (fun z => decide (overS y.D z (soonY y) ≤ 0)) 1 60
  have hfr : FunOK Tryz.prog 69 [.one (iP 1), .one (iP 60)] (.one (.one (.sl ((fromL 1 60).map row1)))) := ok_from 1 60 (by omega) (by omega)
  have hmem := fun x (hx : x ∈ fromL 1 60) => mem_fromL hx
  have hlen : (fromL 1 60).length ≤ 100000 := by rw [fromL_len]; omega
  change lastI _ (fromL 1 60) = (slowS y.D (soonY y)).map _ at hla
  generalize fromL 1 60 = l at *
  have hpr : ∀ (K : Kx) (st : St) (x : Int) (bb : Nat), K.P = Tryz.prog → x ∈ l → AL.get st.hp 5 = some (.box [.p (.sl (y.ss.map SD.row)), .p (.sl (y.F.map rowN)), .p (iP (y.T : Int)), .p (iP (y.L : Int)), .p (.sl (y.ndR y.S)), .raw 4]) → AL.get st.hp 4 = some (.raw bb (.map (toE y.D y.all) y.all.length)) → AL.get st.hp 6 = some (.box [.box 5 0]) →
    CallF K 70 ([.one (.p (iP x))] ++ [CC.box 6].map capV) st fun st' av => st' = st ∧ av = .one (.p (.v (.bool (decide (overS y.D x (soonY y) ≤ 0))))) := by
   intro K st x bb hK hx h5 h4 h6
   obtain ⟨n, rfl, _, hn⟩ := hmem x hx
   have := hsl bb n (by omega)
   exact callF_S (st := st) (hp := (2, .box [.box 0 0]) :: YF y bb) (avs0 := [.one (.p (iP (n : Int))), .one (.box 2 0)]) (nx := 3) [5, 4, 6] (by rw [hK]; exact this) rfl (show _ ∧ _ ∧ _ ∧ True from ⟨h6, h5, h4, trivial⟩) (by decide) (by decide) rfl
  clear hsl hmem
  unfold boyR
  rw [castR]
  cases hs : slowS y.D (soonY y) with
  | none =>
   rw [hs] at hla
   have hno := lastI_no hla
   rw [show ansO true none = .tup [.one (iP 0), .one (iP 4)] from rfl]
   refine fun_expA (l := []) (od := _) (nt := 11) (t := 3) (eb := 1) (rs := [.tmp 2, .cell 3 28]) ans41 Tryz.func25 rfl rfl rfl (by simp) rfl rfl rfl ansFid_eq Tryz.func41 rfl (by decide) fun Z w0 => ?_; refine tI ?_
   refine tw ?_
   refine ⟨rfl, ?_⟩
   (refine ts ?_)
   refine tw fun QQ hQQ => ?_
   refine callS_ok rfl rfl 42 qN qN Tryz.func42 rfl (by decide) (CallF.mono (c_open_ok hv h Tryz.func64 rfl (by decide) ?_ ?_) ?_); exact qHN; (exact is_box0 fun bb o => s_always); rintro _ _ ⟨bb, rfl, rfl⟩; refine ts ?_; clear hQQ QQ
   refine tw fun QQ hQQ => ?_
   unfold YD.cells YD.mapO
   ((refine cB 69 rfl rfl rfl (hfr) Tryz.func69 rfl ?_); refine tu ?_); refine tw ?_
   refine callS_ok rfl rfl 68 qN qN Tryz.func68 rfl (by decide) (CallF.mono (cx_last (p := fun z => decide (overS y.D z (soonY y) ≤ 0)) hlen (pred_clo Tryz.func70 rfl (by decide) ?_) hno ?_) fun _ _ h => False.elim h)
   ·intro K st x hK hx hh
    exact hpr K st x bb hK hx (hh 5 _ (by decide) (by rfl)) (hh 4 _ (by decide) (by rfl)) (hh 6 _ (by decide) (by rfl))
   ·rintro _ _ rfl rfl
    exact ⟨4, 0, rfl, qN, qN, qSN⟩
  | some n =>
   rw [hs] at hla
   rw [show ansO true (some n) = .tup [.one (iP (n : Int)), .one (iP 0)] from rfl]
   refine fun_expA (l := []) (od := _) (nt := 11) (t := 3) (eb := 1) (rs := [.tmp 2, .cell 3 28]) ans41 Tryz.func25 rfl rfl rfl (by simp) rfl rfl rfl ansFid_eq Tryz.func41 rfl (by decide) fun Z w0 => ?_; refine tI ?_
   refine tw ?_
   refine ⟨rfl, ?_⟩
   (refine ts ?_)
   refine tw fun QQ hQQ => ?_
   refine callS_ok rfl rfl 42 qN qN Tryz.func42 rfl (by decide) (CallF.mono (c_open_ok hv h Tryz.func64 rfl (by decide) ?_ ?_) ?_); exact qHN; (exact is_box0 fun bb o => s_always); rintro _ _ ⟨bb, rfl, rfl⟩; refine ts ?_; clear hQQ QQ
   refine tw fun QQ hQQ => ?_
   unfold YD.cells YD.mapO
   ((refine cB 69 rfl rfl rfl (hfr) Tryz.func69 rfl ?_); refine tu ?_); refine tw ?_
   refine callS_ok rfl rfl 68 qN qN Tryz.func68 rfl (by decide) (CallF.mono (c_last (p := fun z => decide (overS y.D z (soonY y) ≤ 0)) hlen (pred_clo Tryz.func70 rfl (by decide) ?_) hla) ?_)
   ·intro K st x hK hx hh
    exact hpr K st x bb hK hx (hh 5 _ (by decide) (by rfl)) (hh 4 _ (by decide) (by rfl)) (hh 6 _ (by decide) (by rfl))
   ·rintro _ _ ⟨rfl, rfl⟩
    (refine ts ?_; clear hQQ QQ)
    refine tw ?_
    (refine aw_ret ⟨.inr rfl, qN, qSN⟩)
end
noncomputable def spareY (y : YD) : Option Nat := if y.all.length = 0 then none else spareS y.D (y.T : Int) (soonY y)
section
variable {ss : List SD} {first : List Int} {trip load : Int}
theorem ok_Spare : FunOK Tryz.prog 27 [boyR ss first trip load] (ansO (boyB ss first trip load) (spareY (yOf ss first trip load))) := by
 cases hv : boyB ss first trip load
 ·have hA : ∀ n, ansO false n = .tup [.one (iP 0), .one (iP 1)] := fun n => by cases n <;> rfl
  rw [hA]
  refine fun_expA (l := []) (od := _) (nt := 18) (t := 3) (eb := 1) (rs := [.tmp 2, .cell 3 28]) ans41 Tryz.func27 rfl rfl rfl (by simp) rfl rfl rfl ansFid_eq Tryz.func41 rfl (by decide) fun Z w0 => ?_; refine tI ?_
  simp only [boyR, List.map_cons, List.map_nil]
  refine tw ?_
  refine ⟨rfl, ?_⟩
  (refine ts ?_)
  refine tw fun QQ hQQ => ?_
  refine callS_ok rfl rfl 42 qN qN Tryz.func42 rfl (by decide) (CallF.mono (c_open_arg hv Tryz.func64 rfl (by decide) ?_ ?_) fun _ _ h => False.elim h); exact qHN
  exact ⟨1, 0, rfl, qN, qN, qSN⟩
 ·obtain ⟨y, h, hy, rfl, rfl, rfl, rfl⟩ := boy_yOf hv
  rw [hy]
  have hsl := fun bb n hn => s_spareC (b := bb) h n hn
  have hla := lastI_lastN (fun z => decide (overL y.D (y.T : Int) z (soonY y) ≤ 0)) 0 1001
  have hfr : FunOK Tryz.prog 69 [.one (iP 0), .one (iP 1000)] (.one (.one (.sl ((fromL 0 1000).map row1)))) := ok_from 0 1000 (by omega) (by omega)
  have hmem := fun x (hx : x ∈ fromL 0 1000) => mem_fromL hx
  have hlen : (fromL 0 1000).length ≤ 100000 := by rw [fromL_len]; omega
  change lastI _ (fromL 0 1000) = (spareS y.D (y.T : Int) (soonY y)).map _ at hla
  generalize fromL 0 1000 = l at *
  have hpr : ∀ (K : Kx) (st : St) (x : Int) (bb : Nat), K.P = Tryz.prog → x ∈ l → AL.get st.hp 0 = some (.box [.p (.sl (y.ss.map SD.row)), .p (.sl (y.F.map rowN)), .p (iP (y.T : Int)), .p (iP (y.L : Int))]) → AL.get st.hp 5 = some (.box [.p (.sl (y.ss.map SD.row)), .p (.sl (y.F.map rowN)), .p (iP (y.T : Int)), .p (iP (y.L : Int)), .p (.sl (y.ndR y.S)), .raw 4]) → AL.get st.hp 4 = some (.raw bb (.map (toE y.D y.all) y.all.length)) → AL.get st.hp 6 = some (.box [.box 5 0]) →
    CallF K 72 ([.one (.p (iP x))] ++ [CC.box 6, CC.box 0].map capV) st fun st' av => st' = st ∧ av = .one (.p (.v (.bool (decide (overL y.D (y.T : Int) x (soonY y) ≤ 0))))) := by
   intro K st x bb hK hx h0 h5 h4 h6
   obtain ⟨n, rfl, _, hn⟩ := hmem x hx
   have := hsl bb n (by omega)
   exact callF_S (st := st) (hp := (2, .box [.box 0 0]) :: (3, .box [.p (.sl (y.ss.map SD.row)), .p (.sl (y.F.map rowN)), .p (iP (y.T : Int)), .p (iP (y.L : Int))]) :: YF y bb) (avs0 := [.one (.p (iP (n : Int))), .one (.box 2 0), .one (.box 3 0)]) (nx := 4) [5, 4, 6, 0] (by rw [hK]; exact this) rfl (show _ ∧ _ ∧ _ ∧ _ ∧ True from ⟨h6, h0, h5, h4, trivial⟩) (by decide) (by decide) rfl
  clear hsl hmem
  unfold boyR
  rw [castR]
  unfold spareY
  have hsz : (toE y.D y.all).size = y.all.length := by simp [toE]
  have h48 := all_len h
  by_cases h0 : y.all.length = 0
  ·rw [if_pos h0, show ansO true none = .tup [.one (iP 0), .one (iP 4)] from rfl]
   refine fun_expA (l := []) (od := _) (nt := 18) (t := 3) (eb := 1) (rs := [.tmp 2, .cell 3 28]) ans41 Tryz.func27 rfl rfl rfl (by simp) rfl rfl rfl ansFid_eq Tryz.func41 rfl (by decide) fun Z w0 => ?_; refine tI ?_
   refine tw ?_
   refine ⟨rfl, ?_⟩
   (refine ts ?_)
   refine tw fun QQ hQQ => ?_
   refine callS_ok rfl rfl 42 qN qN Tryz.func42 rfl (by decide) (CallF.mono (c_open_ok hv h Tryz.func64 rfl (by decide) ?_ ?_) ?_); exact qHN; (exact is_box0 fun bb o => s_always); rintro _ _ ⟨bb, rfl, rfl⟩; refine ts ?_; clear hQQ QQ
   unfold YD.cells YD.mapO
   refine aw_seq ?_
   refine aw_opS (l1 := [_, _, _, _]) (o := _) (l2 := [_, _]) ?_
   refine hideO fun QQ hQQ => ?_
   (refine ts ?_; clear hQQ QQ)
   refine ⟨by (simp (disch := first | decide | omega) only [go_sem, ↓reduceIte]; try rfl), callS_lenRaw (id := 4) (b := bb) (es := toE y.D y.all) (ck := y.all.length) (n := 0) rfl rfl und73 qN qN (by rw [hsz, h0]) ?_⟩
   refine hideO fun QQ hQQ => ?_
   (refine ts ?_)
   (refine ⟨rfl, .inr ⟨rfl, callS_x rfl 46 ⟨qN, qN⟩ Tryz.func46 rfl (by decide) (x_ask 4) ?_⟩⟩)
   exact ⟨4, 0, rfl, qN, qN, qSN⟩
  ·rw [if_neg h0]
   have hpos : ((y.all.length : Nat) : Int) > 0 := by omega
   have hdt : decide (((y.all.length : Nat) : Int) > 0) = true := decide_eq_true hpos
   have hm := ok_ask 4
   cases hs : spareS y.D (y.T : Int) (soonY y) with
   | none =>
    rw [hs] at hla
    have hno := lastI_no hla
    rw [show ansO true none = .tup [.one (iP 0), .one (iP 4)] from rfl]
    refine fun_expA (l := []) (od := _) (nt := 18) (t := 3) (eb := 1) (rs := [.tmp 2, .cell 3 28]) ans41 Tryz.func27 rfl rfl rfl (by simp) rfl rfl rfl ansFid_eq Tryz.func41 rfl (by decide) fun Z w0 => ?_; refine tI ?_
    refine tw ?_
    refine ⟨rfl, ?_⟩
    (refine ts ?_)
    refine tw fun QQ hQQ => ?_
    refine callS_ok rfl rfl 42 qN qN Tryz.func42 rfl (by decide) (CallF.mono (c_open_ok hv h Tryz.func64 rfl (by decide) ?_ ?_) ?_); exact qHN; (exact is_box0 fun bb o => s_always); rintro _ _ ⟨bb, rfl, rfl⟩; refine ts ?_; clear hQQ QQ
    unfold YD.cells YD.mapO
    refine aw_seq ?_
    refine aw_opS (l1 := [_, _, _, _]) (o := _) (l2 := [_, _]) ?_
    refine hideO fun QQ hQQ => ?_
    (refine ts ?_; clear hQQ QQ)
    refine ⟨by (simp (disch := first | decide | omega) only [go_sem, ↓reduceIte]; try rfl), callS_lenRaw (id := 4) (b := bb) (es := toE y.D y.all) (ck := y.all.length) (n := y.all.length) rfl rfl und73 qN qN (hsz) ?_⟩
    refine hideO fun QQ hQQ => ?_
    (refine ts ?_)
    ((refine cO 46 rfl rfl rfl (hm) Tryz.func46 rfl ?_); refine tu ?_; clear hQQ QQ); refine tw fun QQ hQQ => ?_
    ((refine cB 69 rfl rfl rfl (hfr) Tryz.func69 rfl ?_); refine tu ?_); refine tw ?_
    refine callS_ok rfl rfl 68 qN qN Tryz.func68 rfl (by decide) (CallF.mono (cx_last (p := fun z => decide (overL y.D (y.T : Int) z (soonY y) ≤ 0)) hlen (pred_clo Tryz.func72 rfl (by decide) ?_) hno ?_) fun _ _ h => False.elim h)
    ·intro K st x hK hx hh
     exact hpr K st x bb hK hx (hh 0 _ (by decide) (by rfl)) (hh 5 _ (by decide) (by rfl)) (hh 4 _ (by decide) (by rfl)) (hh 6 _ (by decide) (by rfl))
    ·rintro _ _ rfl rfl
     exact ⟨4, 0, rfl, qN, qN, qSN⟩
   | some n =>
    rw [hs] at hla
    rw [show ansO true (some n) = .tup [.one (iP (n : Int)), .one (iP 0)] from rfl]
    refine fun_expA (l := []) (od := _) (nt := 18) (t := 3) (eb := 1) (rs := [.tmp 2, .cell 3 28]) ans41 Tryz.func27 rfl rfl rfl (by simp) rfl rfl rfl ansFid_eq Tryz.func41 rfl (by decide) fun Z w0 => ?_; refine tI ?_
    refine tw ?_
    refine ⟨rfl, ?_⟩
    (refine ts ?_)
    refine tw fun QQ hQQ => ?_
    refine callS_ok rfl rfl 42 qN qN Tryz.func42 rfl (by decide) (CallF.mono (c_open_ok hv h Tryz.func64 rfl (by decide) ?_ ?_) ?_); exact qHN; (exact is_box0 fun bb o => s_always); rintro _ _ ⟨bb, rfl, rfl⟩; refine ts ?_; clear hQQ QQ
    unfold YD.cells YD.mapO
    refine aw_seq ?_
    refine aw_opS (l1 := [_, _, _, _]) (o := _) (l2 := [_, _]) ?_
    refine hideO fun QQ hQQ => ?_
    (refine ts ?_; clear hQQ QQ)
    refine ⟨by (simp (disch := first | decide | omega) only [go_sem, ↓reduceIte]; try rfl), callS_lenRaw (id := 4) (b := bb) (es := toE y.D y.all) (ck := y.all.length) (n := y.all.length) rfl rfl und73 qN qN (hsz) ?_⟩
    refine hideO fun QQ hQQ => ?_
    (refine ts ?_)
    ((refine cO 46 rfl rfl rfl (hm) Tryz.func46 rfl ?_); refine tu ?_; clear hQQ QQ); refine tw fun QQ hQQ => ?_
    ((refine cB 69 rfl rfl rfl (hfr) Tryz.func69 rfl ?_); refine tu ?_); refine tw ?_
    refine callS_ok rfl rfl 68 qN qN Tryz.func68 rfl (by decide) (CallF.mono (c_last (p := fun z => decide (overL y.D (y.T : Int) z (soonY y) ≤ 0)) hlen (pred_clo Tryz.func72 rfl (by decide) ?_) hla) ?_)
    ·intro K st x hK hx hh
     exact hpr K st x bb hK hx (hh 0 _ (by decide) (by rfl)) (hh 5 _ (by decide) (by rfl)) (hh 4 _ (by decide) (by rfl)) (hh 6 _ (by decide) (by rfl))
    ·rintro _ _ ⟨rfl, rfl⟩
     (refine ts ?_; clear hQQ QQ)
     refine tw ?_
     (refine aw_ret ⟨.inr rfl, qN, qSN⟩)
end
end Go.Proofs.YthedkfiebmnghaaGreat
