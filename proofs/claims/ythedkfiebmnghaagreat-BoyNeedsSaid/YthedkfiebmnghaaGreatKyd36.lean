/- Texts of the proof, joined. -/
import Derived.Test.YthedkfiebmnghaaGreatKyd22
import Derived.Test.YthedkfiebmnghaaGreatRows
set_option linter.all false
set_option maxHeartbeats 16000000
set_option maxRecDepth 20000
namespace Go.Proofs.YthedkfiebmnghaaGreat
open Go Go.RowKit Go.Sh Go.Pv Go.By
section
variable {y : YD}
theorem over_any (h : YOK y) {p : List Nat} (hp : IsPlan y.S y.n p) (hs : (dseq y.D (fun _ => 0) p).Pairwise (· ≤ ·)) {T : Int} (hT : 0 ≤ T) : overS y.D T (soonY y) = overS y.D T p :=
 soon_same hT (soonY_plan h).1 hp (soonY_plan h).2 hs
theorem waits_any (h : YOK y) {p : List Nat} (hp : IsPlan y.S y.n p) (hs : (dseq y.D (fun _ => 0) p).Pairwise (· ≤ ·)) {T : Int} (hT : 0 ≤ T) : waitsS y.D T (soonY y) = waitsS y.D T p := by
 unfold waitsS; rw [over_any h hp hs hT]
theorem slow_any (h : YOK y) {p : List Nat} (hp : IsPlan y.S y.n p) (hs : (dseq y.D (fun _ => 0) p).Pairwise (· ≤ ·)) : slowS y.D (soonY y) = slowS y.D p := by
 have : ∀ n : Nat, overS y.D (n : Int) (soonY y) = overS y.D (n : Int) p := fun n => over_any h hp hs (by omega)
 unfold slowS
 simp only [this]
theorem spare_any (h : YOK y) {p : List Nat} (hp : IsPlan y.S y.n p) (hs : (dseq y.D (fun _ => 0) p).Pairwise (· ≤ ·)) : spareY y = if y.all.length = 0 then none else spareS y.D (y.T : Int) p := by
 unfold spareY
 rw [spare_eq, spare_eq, over_any h hp hs (by omega)]
theorem bestY_eq (h : YOK y) : bestY y = bestF y.D (y.T : Int) (plansL y.S (totN y.n y.S) y.n) (plansL y.S (totN y.n y.S) y.n).length :=
 (best_first (by omega) (soonY_plan h).1 (soonY_plan h).2).symm
end
def exY (t : Nat) : YD := ⟨exS, [2, 1], t, 2⟩
theorem exY_eq (t : Nat) : yOf exS [2, 1] (t : Int) 2 = exY t := by
 unfold yOf exY
 rw [Int.toNat_natCast]; rfl
theorem exY3 : yOf exS [2, 1] 3 2 = exY 3 := exY_eq 3
theorem exY4 : yOf exS [2, 1] 4 2 = exY 4 := exY_eq 4
theorem exY5 : yOf exS [2, 1] 5 2 = exY 5 := exY_eq 5
theorem ex_ok (t : Nat) (h1 : 1 ≤ t) (h2 : t ≤ 60) (hv : boyB exS [2, 1] (t : Int) 2 = true) : YOK (exY t) := by
 obtain ⟨y, h, hy, _⟩ := boy_yOf hv
 rw [exY_eq] at hy
 rw [hy]; exact h
theorem exB3 : boyB exS [2, 1] 3 2 = true := by decide +kernel
theorem exB4 : boyB exS [2, 1] 4 2 = true := by decide +kernel
theorem exB5 : boyB exS [2, 1] 5 2 = true := by decide +kernel
theorem ex_plan (t : Nat) : IsPlan (exY t).S (exY t).n [1, 0, 1, 0] := by
 have : IsPlan (exY 4).S (exY 4).n [1, 0, 1, 0] := by decide +kernel
 exact this
theorem ex_sorted (t : Nat) : (dseq (exY t).D (fun _ => 0) [1, 0, 1, 0]).Pairwise (· ≤ ·) := by
 have : (dseq (exY 4).D (fun _ => 0) [1, 0, 1, 0]).Pairwise (· ≤ ·) := by decide +kernel
 exact this
theorem ex_Need : FunOK Tryz.prog 14 [boyR exS [2, 1] 4 2, .one (iP 0), .one (iP 4)] (.tup [.one (iP 19), .one (iP 0)]) := by
 have h := ok_Need (ss := exS) (first := [2, 1]) (trip := 4) (load := 2) 0 4
 rw [exB4, exY4] at h
 have e1 : (inB 0 0 (((exY 4).S : Int) - 1) && inB 4 0 ((((exY 4).sd (0 : Int).toNat).sheep.length : Int) - 1)) = true := by decide +kernel
 have e2 : decide ((4 : Int).toNat < ((exY 4).need (0 : Int).toNat).length) = true := by decide +kernel
 have e3 : ((exY 4).need (0 : Int).toNat).getD (4 : Int).toNat 0 = 19 := by decide +kernel
 rw [e1, e2, e3] at h
 exact h
theorem ex_Trips : FunOK Tryz.prog 16 [boyR exS [2, 1] 4 2, .one (iP 1)] (.tup [.one (iP 2), .one (iP 0)]) := by
 have h := ok_Trips (ss := exS) (first := [2, 1]) (trip := 4) (load := 2) 1
 rw [exB4, exY4] at h
 have e1 : inB 1 0 ((exS.length : Int) - 1) = true := by decide +kernel
 have e3 : (exY 4).n (1 : Int).toNat = 2 := by decide +kernel
 rw [e1, e3] at h
 exact h
theorem ex_Waits : FunOK Tryz.prog 18 [boyR exS [2, 1] 4 2, .one (.sl [[iP 0], [iP 1], [iP 0], [iP 1]])] (.tup [.one (iP 4), .one (iP 0)]) := by
 have h := ok_Waits (ss := exS) (first := [2, 1]) (trip := 4) (load := 2) [0, 1, 0, 1] (by simp)
 rw [exB4, exY4] at h
 have e1 : whyL true (exY 4) [0, 1, 0, 1] true = 0 := by decide +kernel
 have e3 : waitsS (exY 4).D ((exY 4).T : Int) ([0, 1, 0, 1].map Int.toNat) = 4 := by decide +kernel
 rw [e1, e3] at h
 exact h
theorem ex_Best : FunOK Tryz.prog 23 [boyR exS [2, 1] 5 2] (.tup [.one (.sl [[iP 1], [iP 0], [iP 1], [iP 0]]), .one (iP 3), .one (iP 0)]) := by
 have h := ok_Best (ss := exS) (first := [2, 1]) (trip := 5) (load := 2)
 have hok := ex_ok 5 (by omega) (by omega) exB5
 rw [exB5, exY5, bestY_eq hok, waits_any hok (ex_plan 5) (ex_sorted 5) (by omega)] at h
 have e1 : bestF (exY 5).D ((exY 5).T : Int) (plansL (exY 5).S (totN (exY 5).n (exY 5).S) (exY 5).n) (plansL (exY 5).S (totN (exY 5).n (exY 5).S) (exY 5).n).length = [1, 0, 1, 0] := by decide +kernel
 have e3 : waitsS (exY 5).D ((exY 5).T : Int) [1, 0, 1, 0] = 3 := by decide +kernel
 rw [e1, e3] at h
 exact h
theorem ex_Brought : FunOK Tryz.prog 20 [boyR exS [2, 1] 4 2, .one (.sl [[iP 1], [iP 0], [iP 1], [iP 0]]), .one (iP 1), .one (iP 4)] (.tup [.one (iP 3), .one (iP 0)]) := by
 have h := ok_Brought (ss := exS) (first := [2, 1]) (trip := 4) (load := 2) [1, 0, 1, 0] (by simp) 1 4
 rw [exB4, exY4] at h
 have e1 : whyL true (exY 4) [1, 0, 1, 0] (inB 1 0 (((exY 4).S : Int) - 1) && inB 4 0 999) = 0 := by decide +kernel
 have e3 : (exY 4).f (1 : Int).toNat + broughtF (exY 4).L ((exY 4).T : Int) (1 : Int).toNat 4 0 ([1, 0, 1, 0].map Int.toNat) = 3 := by decide +kernel
 rw [e1, e3] at h
 exact h
theorem ex_Slow : FunOK Tryz.prog 25 [boyR exS [2, 1] 4 2] (.tup [.one (iP 4), .one (iP 0)]) := by
 have h := ok_Slow (ss := exS) (first := [2, 1]) (trip := 4) (load := 2)
 have hok := ex_ok 4 (by omega) (by omega) exB4
 rw [exB4, exY4, slow_any hok (ex_plan 4) (ex_sorted 4)] at h
 have e1 : slowS (exY 4).D [1, 0, 1, 0] = some 4 := by decide +kernel
 rw [e1] at h
 exact h
theorem ex_Spare3 : FunOK Tryz.prog 27 [boyR exS [2, 1] 3 2] (.tup [.one (iP 1), .one (iP 0)]) := by
 have h := ok_Spare (ss := exS) (first := [2, 1]) (trip := 3) (load := 2)
 have hok := ex_ok 3 (by omega) (by omega) exB3
 rw [exB3, exY3, spare_any hok (ex_plan 3) (ex_sorted 3)] at h
 have e1 : (if (exY 3).all.length = 0 then none else spareS (exY 3).D ((exY 3).T : Int) [1, 0, 1, 0]) = some 1 := by
  rw [spare_eq]; decide +kernel
 rw [e1] at h
 exact h
theorem ex_Spare5 : FunOK Tryz.prog 27 [boyR exS [2, 1] 5 2] (.tup [.one (iP 0), .one (iP 4)]) := by
 have h := ok_Spare (ss := exS) (first := [2, 1]) (trip := 5) (load := 2)
 have hok := ex_ok 5 (by omega) (by omega) exB5
 rw [exB5, exY5, spare_any hok (ex_plan 5) (ex_sorted 5)] at h
 have e1 : (if (exY 5).all.length = 0 then none else spareS (exY 5).D ((exY 5).T : Int) [1, 0, 1, 0]) = none := by
  rw [spare_eq]; decide +kernel
 rw [e1] at h
 exact h
theorem ex_Ints : FunOK Tryz.prog 29 [.one (.sl [[iP 1], [iP 0], [iP 1], [iP 0]]), .one (.sl [[iP 1], [iP 0], [iP 1], [iP 0]])] (.one (.one (.v (.bool true)))) := ok_Ints [1, 0, 1, 0] [1, 0, 1, 0] (by simp)
theorem ok_awake : FunOK Tryz.prog 13 [] (.one (.one (.v (.bool true)))) := by
 have s3 := ok_sample 3
 have s4 := ok_sample 4
 have s5 := ok_sample 5
 have c1 := ex_Need
 have c2 := ex_Trips
 have c3 := ex_Waits
 have c4 := ex_Best
 have c5 := ex_Brought
 have c6 := ex_Slow
 have c7 := ex_Spare3
 have c8 := ex_Spare5
 have c9 := ex_Ints
 unfold boyR at s3 s4 s5 c1 c2 c3 c4 c5 c6 c7 c8
 generalize PV.sl (exS.map SD.row) = A at *
 generalize PV.sl (([2, 1] : List Int).map row1) = B at *
 refine fun_ok (nt := 127) (rs := [.tmp 0]) Tryz.func13 rfl rfl rfl (by simp) fun Z w0 => ?_; refine tI ?_
 refine tw fun QQ hQQ => ?_
 (refine cB 40 rfl rfl rfl (s4) Tryz.func40 rfl ?_); refine ts ?_
 ((refine cB 40 rfl rfl rfl (s5) Tryz.func40 rfl ?_); refine tu ?_; clear hQQ QQ); refine tw fun QQ hQQ => ?_
 ((refine cO 14 rfl rfl rfl (c1) Tryz.func14 rfl ?_); refine tu ?_; clear hQQ QQ); refine tw fun QQ hQQ => ?_
 ((refine cO 16 rfl rfl rfl (c2) Tryz.func16 rfl ?_); refine tu ?_; clear hQQ QQ); refine tw fun QQ hQQ => ?_
 ((refine cO 18 rfl rfl rfl (c3) Tryz.func18 rfl ?_); refine tu ?_; clear hQQ QQ); refine tw fun QQ hQQ => ?_
 ((refine cB 23 rfl rfl rfl (c4) Tryz.func23 rfl ?_); refine tu ?_; clear hQQ QQ); refine tw fun QQ hQQ => ?_
 ((refine cO 20 rfl rfl rfl (c5) Tryz.func20 rfl ?_); refine tu ?_; clear hQQ QQ); refine tw fun QQ hQQ => ?_
 ((refine cO 25 rfl rfl rfl (c6) Tryz.func25 rfl ?_); refine tu ?_; clear hQQ QQ); refine tw fun QQ hQQ => ?_
 (refine cB 40 rfl rfl rfl (s3) Tryz.func40 rfl ?_); refine ts ?_
 ((refine cO 27 rfl rfl rfl (c7) Tryz.func27 rfl ?_); refine tu ?_; clear hQQ QQ); refine tw fun QQ hQQ => ?_
 ((refine cO 27 rfl rfl rfl (c8) Tryz.func27 rfl ?_); refine tu ?_; clear hQQ QQ); refine tw fun QQ hQQ => ?_
 ((refine cO 29 rfl rfl rfl (c9) Tryz.func29 rfl ?_); refine tu ?_; clear hQQ QQ); refine tw ?_
 refine ti ?_
 refine tw ?_
 exact qRN
section
variable {y : YD}
theorem boyB_y (h : YOK y) : boyB y.ss (y.F.map fun x : Nat => (x : Int)) y.T y.L = true := by
 have h1 := h.n1; have h3 := h.n3; have ht := h.t1; have ht2 := h.t60; have hl := h.l1; have hl2 := h.l5; have hf := h.fl
 have e : y.ss.length = y.S := rfl
 unfold boyB
 rw [e]
 simp only [Bool.and_eq_true, decide_eq_true_eq, List.length_map, inB, List.all_eq_true, List.mem_range]
 refine ⟨⟨⟨⟨by omega, hf⟩, by omega⟩, by omega⟩, fun i hi => ⟨h.ok i hi, ?_⟩⟩
 have := h.f16 i hi
 have e2 : (y.F.map fun x : Nat => (x : Int)).getD i 0 = (y.f i : Int) := by
  unfold YD.f
  rw [List.getD_eq_getElem?_getD, List.getElem?_map, List.getD_eq_getElem?_getD]
  cases y.F[i]? <;> rfl
 rw [e2]; omega
theorem need_len (h : YOK y) {i : Nat} (hi : i < y.S) : (y.need i).length ≤ (y.sd i).sheep.length := Go.By.need_len
end
section
variable {D : Nat → List Int} {n : Nat → Nat}
theorem pick_ex {S : Nat} {c : Nat → Nat} {k : Nat} (h : totN (fun s => n s - c s) S = k + 1) : ∃ s, pickS D n c S = some s ∧ s < S ∧ c s < n s ∧ totN (fun t => n t - bump c s t) S = k := by
 cases e : pickS D n c S with
 | none =>
  exfalso
  have h0 := pickS_none e
  have : ∀ T, T ≤ S → totN (fun s => n s - c s) T = 0 := fun T => by
   induction T with
   | zero => intro _; rfl
   | succ T ih =>
    intro hT
    have := ih (by omega)
    have := h0 T (by omega)
    unfold totN
    omega
  have := this S (Nat.le_refl _)
  omega
 | some m =>
  obtain ⟨g1, g2, g3⟩ := pickS_some e
  have hle : (fun s => n s - bump c m s) = less (fun s => n s - c s) m := by
   funext s
   show n s - (if s = m then c s + 1 else c s) = if s = m then n s - c s - 1 else n s - c s
   split <;> omega
  have ht := totN_less (l := fun s => n s - c s) (s := m) (show 0 < n m - c m by omega) S g1
  exact ⟨m, rfl, g1, g2, by rw [hle]; omega⟩
theorem least_step {S : Nat} {c : Nat → Nat} {k : Nat} {s : Nat} {T m : Int} {o : Nat} (h : pickS D n c S = some s) : leastF T m o (dseq D c (soonL D n S (k + 1) c)) = leastF T (min m ((D s).getD (c s) 0 - ((o + 1 : Nat) : Int) * T)) (o + 1) (dseq D (bump c s) (soonL D n S k (bump c s))) := by
 have : soonL D n S (k + 1) c = s :: soonL D n S k (bump c s) := by
  conv => lhs; unfold soonL
  rw [h]
 rw [this]
 rfl
end
structure LS (y : YD) (R : Int) (N k : Nat) (c : Nat → Nat) (m : Int) : Prop where
 le : k ≤ N
 tot : totN (fun s => y.n s - c s) y.S = N - k
 cle : ∀ s, s < y.S → c s ≤ y.n s
 go : leastF (y.T : Int) m k (dseq y.D c (soonL y.D y.n y.S (N - k) c)) = R
theorem LS.next {y : YD} {R : Int} {N k : Nat} {c : Nat → Nat} {m : Int} (h : LS y R N k c m) (hk : k < N) : ∃ s, pickS y.D y.n c y.S = some s ∧ s < y.S ∧ c s < y.n s ∧ LS y R N (k + 1) (bump c s) (min m ((y.D s).getD (c s) 0 - ((k + 1 : Nat) : Int) * (y.T : Int))) := by
 have ht := h.tot
 have hg := h.go
 rw [show N - k = (N - (k + 1)) + 1 by omega] at ht hg
 obtain ⟨s, h1, h2, h3, h4⟩ := pick_ex (D := y.D) ht
 refine ⟨s, h1, h2, h3, hk, h4, fun t ht => ?_, ?_⟩
 ·unfold bump
  split
  ·rename_i e; subst e; omega
  ·exact h.cle t ht
 ·rw [least_step h1] at hg
  exact hg
section
variable {D : Nat → List Int} {n : Nat → Nat} {c : Nat → Nat} {i : Nat}
end
section
variable {y : YD}
end
end Go.Proofs.YthedkfiebmnghaaGreat
namespace Go.Proofs.YthedkfiebmnghaaGreat
open Go Go.RowKit Go.Sh Go.Pv Go.By
section
variable {D : Nat → List Int} {n : Nat → Nat}
end
section
variable {y : YD}
end
theorem eql4 (x y : Operand) (a b : Bool) : binA Tryz.prog .eql 4 x y (.bool a) (.bool b) = some (.bool (a == b)) := bin_eql_bool (by kernel_rfl) x y a b
theorem neq4 (x y : Operand) (a b : Bool) : binA Tryz.prog .neq 4 x y (.bool a) (.bool b) = some (.bool (a != b)) := bin_neq_bool (by kernel_rfl) x y a b
section
variable {ss : List SD} {first : List Int} {trip load : Int}
attribute [local go_sem] eql4 neq4 bne_tf bne_ft beq_tf beq_ft
end
end Go.Proofs.YthedkfiebmnghaaGreat
namespace Go.Proofs.YthedkfiebmnghaaGreat
open Go Go.RowKit Go.Sh Go.Pv Go.By Go.ChangeShapes Go.WideShapes
set_option linter.constructorNameAsVariable false
theorem tyI {k : IntKind} {x : PV} (h : Ty (.int k) x) : ∃ n, x = .v (.int k n) ∧ (Lit.int k n).wf = true := by
 cases h with
 | int _ n h => exact ⟨n, rfl, h⟩
theorem tyS {ks : List CK} {x : PV} (h : Ty (.sl ks) x) : ∃ rows, x = .sl rows ∧ (∀ r ∈ rows, r.length = ks.length) ∧ ∀ r ∈ rows, ∀ (j : Nat) (c : CK) (x : PV), ks[j]? = some c → r[j]? = some x → Ty c x := by
 cases h with
 | sl _ rows h1 h2 => exact ⟨rows, rfl, h1, h2⟩
abbrev ckI : CK := .int .i64
theorem map_of {α : Type} {row : α → List PV} : ∀ (rows : List (List PV)), (∀ r ∈ rows, ∃ x, r = row x) → ∃ l : List α, rows = l.map row
 | [], _ => ⟨[], rfl⟩
 | r :: rs, h => by
  obtain ⟨x, hx⟩ := h r (List.mem_cons_self ..)
  obtain ⟨l, hl⟩ := map_of rs fun r hr => h r (List.mem_cons_of_mem _ hr)
  exact ⟨x :: l, by rw [hx, hl]; rfl⟩
theorem tyS3 {x : PV} (h : Ty (.sl [ckI, ckI, ckI]) x) : ∃ l : List (Int × Int × Int), x = .sl (l.map row3) := by
 obtain ⟨rows, rfl, h1, h2⟩ := tyS h
 obtain ⟨l, hl⟩ := map_of (row := row3) rows fun r hr => by
  have hl := h1 r hr
  match r, hl with
  | [a, b, c], _ =>
   obtain ⟨n, rfl, _⟩ := tyI (h2 _ hr 0 _ _ rfl rfl)
   obtain ⟨m, rfl, _⟩ := tyI (h2 _ hr 1 _ _ rfl rfl)
   obtain ⟨q, rfl, _⟩ := tyI (h2 _ hr 2 _ _ rfl rfl)
   exact ⟨(n, m, q), rfl⟩
 exact ⟨l, by rw [hl]⟩
theorem tyS2 {x : PV} (h : Ty (.sl [ckI, ckI]) x) : ∃ l : List (Int × Int), x = .sl (l.map row2) := by
 obtain ⟨rows, rfl, h1, h2⟩ := tyS h
 obtain ⟨l, hl⟩ := map_of (row := row2) rows fun r hr => by
  have hl := h1 r hr
  match r, hl with
  | [a, b], _ =>
   obtain ⟨n, rfl, _⟩ := tyI (h2 _ hr 0 _ _ rfl rfl)
   obtain ⟨m, rfl, _⟩ := tyI (h2 _ hr 1 _ _ rfl rfl)
   exact ⟨(n, m), rfl⟩
 exact ⟨l, by rw [hl]⟩
theorem tyS1 {x : PV} (h : Ty (.sl [ckI]) x) : ∃ l : List Int, x = .sl (l.map row1) := by
 obtain ⟨rows, rfl, h1, h2⟩ := tyS h
 obtain ⟨l, hl⟩ := map_of (row := row1) rows fun r hr => by
  have hl := h1 r hr
  match r, hl with
  | [a], _ =>
   obtain ⟨n, rfl, _⟩ := tyI (h2 _ hr 0 _ _ rfl rfl)
   exact ⟨n, rfl⟩
 exact ⟨l, by rw [hl]⟩
abbrev ckSD : List CK := [ckI, ckI, ckI, ckI, ckI, ckI, .sl [ckI, ckI], .sl [ckI], .sl [ckI, ckI, ckI]]
theorem tySD {x : PV} (h : Ty (.sl ckSD) x) : ∃ l : List SD, x = .sl (l.map SD.row) := by
 obtain ⟨rows, rfl, h1, h2⟩ := tyS h
 obtain ⟨l, hl⟩ := map_of (row := SD.row) rows fun r hr => by
  have hl := h1 r hr
  match r, hl with
  | [a0, a1, a2, a3, a4, a5, x6, x7, x8], _ =>
   obtain ⟨n0, rfl, _⟩ := tyI (h2 _ hr 0 _ _ rfl rfl)
   obtain ⟨n1, rfl, _⟩ := tyI (h2 _ hr 1 _ _ rfl rfl)
   obtain ⟨n2, rfl, _⟩ := tyI (h2 _ hr 2 _ _ rfl rfl)
   obtain ⟨n3, rfl, _⟩ := tyI (h2 _ hr 3 _ _ rfl rfl)
   obtain ⟨n4, rfl, _⟩ := tyI (h2 _ hr 4 _ _ rfl rfl)
   obtain ⟨n5, rfl, _⟩ := tyI (h2 _ hr 5 _ _ rfl rfl)
   obtain ⟨l6, rfl⟩ := tyS2 (h2 _ hr 6 _ _ rfl rfl)
   obtain ⟨l7, rfl⟩ := tyS1 (h2 _ hr 7 _ _ rfl rfl)
   obtain ⟨l8, rfl⟩ := tyS3 (h2 _ hr 8 _ _ rfl rfl)
   exact ⟨⟨(n0, n1), (n2, n3), (n4, n5), l6, l7, l8⟩, rfl⟩
 exact ⟨l, by rw [hl]⟩
theorem kinds25 : kindsOf Tryz.prog 8 25 = some [.sl ckSD, .sl [ckI], ckI, ckI] := by kernel_rfl
theorem cells_agg {H : Type} {enc : TypeId × Value → H} {W : World} {sp : Nat → Bool} {t : TypeId} {ks : List CK} {cs : Array Value} {d : DataW H} {p : List MemPlace} (hk : kindsOf Tryz.prog 8 t = some ks) (h : DataW.Trod enc Tryz.prog W 0 sp true t (.agg cs) d p) : ∃ ps, ps.length = ks.length ∧ RelR (fun _ _ => True) W (.agg ps) (.agg cs) ∧ ∀ (j : Nat) (k : CK), ks[j]? = some k → ∃ x, ps[j]? = some x ∧ Ty k x := by
 obtain ⟨fuel, h⟩ := h
 obtain ⟨ps, h1, h2, h3⟩ := trod_open 8 t ks fuel _ _ hk h
 have h1' : cs.size = ks.length := by simpa [Value.cells] using h1
 refine ⟨ps, h2, ⟨cs, rfl, by omega, fun j c hj => ?_⟩, fun j k hj => ?_⟩
 ·have hjl : j < ks.length := by
   have := (List.getElem?_eq_some_iff.1 hj).1
   omega
  obtain ⟨c', x, hc, hx, _, hr⟩ := h3 j _ (List.getElem?_eq_getElem hjl)
  rw [hx] at hj; cases hj
  exact ⟨c', by simpa [Value.cells] using hc, hr⟩
 ·obtain ⟨c', x, hc, hx, ht, _⟩ := h3 j k hj
  exact ⟨x, hx, ht⟩
theorem boy_open {H : Type} {enc : TypeId × Value → H} {W : World} {sp : Nat → Bool} {cs : Array Value} {d : DataW H} {p : List MemPlace} (h : DataW.Trod enc Tryz.prog W 0 sp true 25 (.agg cs) d p) :
  ∃ ss first trip load, RelR (fun _ _ => True) W (boyR ss first trip load) (.agg cs) := by
 obtain ⟨ps, hl, hr, ht⟩ := cells_agg kinds25 h
 obtain ⟨x0, e0, t0⟩ := ht 0 _ rfl
 obtain ⟨x1, e1, t1⟩ := ht 1 _ rfl
 obtain ⟨x2, e2, t2⟩ := ht 2 _ rfl
 obtain ⟨x3, e3, t3⟩ := ht 3 _ rfl
 obtain ⟨l0, rfl⟩ := tySD t0
 obtain ⟨l1, rfl⟩ := tyS1 t1
 obtain ⟨a2, rfl, _⟩ := tyI t2
 obtain ⟨a3, rfl, _⟩ := tyI t3
 refine ⟨l0, l1, a2, a3, ?_⟩
 have : ps = [.sl (l0.map SD.row), .sl (l1.map row1), iP a2, iP a3] := by
  apply List.ext_getElem?
  intro j
  rcases j with _ | _ | _ | _ | j
  ·exact e0
  ·exact e1
  ·exact e2
  ·exact e3
  ·rw [List.getElem?_eq_none (by simp at hl ⊢; omega), List.getElem?_eq_none (by simp)]
 rw [this] at hr
 exact hr
theorem agg_of {W : World} {b : Nat} {t : TypeId} {fs : Array Field} {v : Value} (hu : Tryz.prog.underlying t = some (.struct fs)) (h : Value.okWide Tryz.prog W .any b t v) : ∃ cs, v = .agg cs := by
 unfold Value.okWide at h
 rw [hu] at h
 obtain ⟨cs, e, _⟩ := h
 exact ⟨cs, e⟩
theorem own : ownKnob Tryz.prog.godebug = none := by kernel_rfl
theorem laidOut : laidOutB Tryz.prog = true := by kernel_rfl
end Go.Proofs.YthedkfiebmnghaaGreat
