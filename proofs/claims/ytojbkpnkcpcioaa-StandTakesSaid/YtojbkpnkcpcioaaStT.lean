/- The walk of Late. -/
import Derived.Test.YtojbkpnkcpcioaaStN2
import Derived.Test.YtojbkpnkcpcioaaStM5
import Derived.Test.YtojbkpnkcpcioaaBaseG
set_option linter.all false
namespace Go.Proofs.Ytojbkpnkcpcioaa
open Go.RowKit Go.Sh Go.Sh.Stand Go.Shelf

def lateL (s : Stand) (k : Int) : List Int := (truthsL s (everyB s)).map fun t => if lateOf s (day s t) k.toNat then 1 else 0
def lateN (x : Int × Int) : Int := if x = (1, 1) then 2 else if x = (0, 0) then 0 else 1
def ansN (s : Stand) (okI : Bool) (L : List Int) : Int × Int := if (ansE s okI L).2 = 0 then (lateN (ansE s okI L).1, 0) else (0, (ansE s okI L).2)
def AnsweredN (s : Stand) (okI : Bool) (L : List Int) (w : World) (e : Ending) (w' : World) : Prop :=
  e = .returned (.tuple #[.int .i64 (ansN s okI L).1, .int .i64 (ansN s okI L).2]) ∧ Below w.heap.size w w'
theorem Refuses.ansN {s : Stand} {okI : Bool} {L : List Int} {c : Int} (h : Refuses s okI L c) : ansN s okI L = (0, c) := by
  have h0 := h.ans
  have hc : c ≠ 0 := by rcases h with ⟨_, rfl⟩ | ⟨_, _, rfl⟩ | ⟨_, _, _, rfl⟩ <;> decide
  unfold Ytojbkpnkcpcioaa.ansN
  rw [h0]; exact if_neg hc

theorem end_panicN {fn : Func} (hres : fn.results = #[.tmp 4, .cell 5 32]) {tmps : Array Value} {N3 : Nat} {n : Int} (h4 : tmps[4]? = some (.int .i64 n)) (h5 : tmps[5]? = some (.pointer (some ⟨N3, 0, none⟩)))
    {c : Int} {x : World} (e0 : x.cell? ⟨N3, 0, none⟩ = some (.int .i64 0)) (f0 : x.frozen? ⟨N3, 0, none⟩ = false)
    {R : Ending → World → Prop} (hR : R (.returned (.tuple #[.int .i64 n, .int .i64 c])) (x.setCell ⟨N3, 0, none⟩ (.int .i64 c))) :
    Leaves Try.prog fn tmps R [{ target := .fn (.func 40) #[], args := #[.pointer (some ⟨N3, 0, none⟩)] }] (.panicking (refusal c)) x := by
  refine leaves_cons (f := 40) (args := #[.pointer (some ⟨N3, 0, none⟩)]) (by simp) (by simp [go_sem]) ?_
  refine (answer_refused ⟨N3, 0, none⟩ 0 c [] x e0 f0).mono ?_
  rintro e u' w' ⟨rfl, rfl, rfl⟩
  have k2 : (x.setCell ⟨N3, 0, none⟩ (.int .i64 c)).cell? ⟨N3, 0, none⟩ = some (.int .i64 c) := World.cell?_setCell_same' _ _ _ (by rw [e0]; rfl)
  refine ⟨_, ?_, hR⟩
  simp [results, hres, h4, h5, go_sem, k2]
theorem end_okN {fn : Func} (hres : fn.results = #[.tmp 4, .cell 5 32]) {tmps : Array Value} {N3 : Nat} {n : Int} (h4 : tmps[4]? = some (.int .i64 n)) (h5 : tmps[5]? = some (.pointer (some ⟨N3, 0, none⟩)))
    {x : World} {c : Int} (e0 : x.cell? ⟨N3, 0, none⟩ = some (.int .i64 c))
    {R : Ending → World → Prop} (hR : R (.returned (.tuple #[.int .i64 n, .int .i64 c])) x) :
    Leaves Try.prog fn tmps R [{ target := .fn (.func 40) #[], args := #[.pointer (some ⟨N3, 0, none⟩)] }] .returning x := by
  refine leaves_cons (f := 40) (args := #[.pointer (some ⟨N3, 0, none⟩)]) (by simp) (by simp [go_sem]) ?_
  refine (answer_idle ⟨N3, 0, none⟩ x).mono ?_
  rintro e u' w' ⟨rfl, rfl, rfl⟩
  refine ⟨_, ?_, hR⟩
  simp [results, hres, h4, h5, go_sem, e0]
theorem slot_int {a : Act} {t : Nat} {k : IntKind} {n : Int} (h : slot a t = .int k n) : a.tmps[t]? = some (.int k n) := by
  unfold slot at h
  cases ht : a.tmps[t]? with
  | none => rw [ht] at h; cases h
  | some v => rw [ht] at h; simpa using h

set_option maxHeartbeats 400000 in
theorem late1_any (b Bk : Nat) (ao : Option Addr) (n cap : Nat) (k : Int) (w : World) (hb : w.cell? ⟨b, 6, none⟩ = some (.slice ao n cap)) (hk : w.cell? ⟨Bk, 0, none⟩ = some (.int .i64 k)) (hn : n < 1000) :
    Calls Try.prog 62 #[.pointer (some ⟨b, 0, none⟩), .pointer (some ⟨Bk, 0, none⟩)] w fun e w' => e = .returned (.bool (inB k 0 (n - 1) && decide (0 < k))) ∧ Below w.heap.size w w' := by
  have HS := Lib.hid (isRun_any b ao n cap k w hb hn)
  cases h1 : inB k 0 (n - 1)
  · rw [h1] at HS
    go_enter Try.func62, Try.ntmps62
    go_wp2_with (go_at_call 58; refine HS.out.mono ?_; rintro e w' ⟨rfl, rfl⟩)
    go_ret
    exact ⟨rfl, Below.refl _ _⟩
  · rw [h1] at HS
    go_enter Try.func62, Try.ntmps62
    go_wp2_with (go_at_call 58; refine HS.out.mono ?_; rintro e w' ⟨rfl, rfl⟩)
    go_ret
    exact ⟨retB (by simp), Below.refl _ _⟩

theorem Board.putAny {x y : World} {b m b' m' : Nat} {s : Stand} (h : Board x b' m' s (fun _ => False)) (hf : Frm (fun k => k = m) x y) (hx : Board x b m s (fun _ => False)) (hk : MapInv Try.prog 140 y m' fun k v => ∃ t, k = keyV t ∧ Prs y y.heap.size v (day s t) ∧ Off (fun _ => False) v) : Board y b' m' s (fun _ => False) := by
  obtain ⟨rv, r1, r2, r3⟩ := h.runs
  obtain ⟨sv, s1, s2, s3⟩ := h.sheep
  obtain ⟨lv, l1, l2, l3⟩ := h.looks
  obtain ⟨es, ck, hb, _⟩ := hx.kept
  have hc : ∀ {a : Addr} {u : Value}, x.cell? a = some u → y.cell? a = some u := fun hc => hf.cell hc (ne_of_cell_map hc hb)
  exact ⟨fun k hk => ⟨hc (h.mins k hk).1, hc (h.mins k hk).2⟩, ⟨rv, hc r1, r2.frmM hb hf, r3⟩, ⟨sv, hc s1, s2.frmM hb hf, s3⟩, ⟨lv, hc l1, l2.frmM hb hf, l3⟩, hc h.map, hk, fun k hk => hk.elim, h.xb, h.xm⟩

/-- What the operations of Late's region do to the world: no cell turns, and no board. -/
def LateR (s : Stand) (n : Nat) (x y : World) : Prop := Below n x y ∧ (∀ a v, x.cell? a = some v → y.cell? a = some v ∧ y.frozen? a = x.frozen? a) ∧ ∀ b m, Board x b m s (fun _ => False) → Board y b m s (fun _ => False)
theorem LateR.of_below {s : Stand} {n : Nat} {x y : World} (h1 : n ≤ x.heap.size) (h2 : Below x.heap.size x y) : LateR s n x y :=
  ⟨h2.mono h1, fun a v h => ⟨cell_old h2 h, h2.frozen (p := a) (World.block_lt_of_cell? _ _ h)⟩, fun b m h => h.later h2⟩
theorem LateR.trans {s : Stand} {n : Nat} {x y z : World} (h1 : LateR s n x y) (h2 : LateR s n y z) : LateR s n x z :=
  ⟨h1.1.trans h2.1, fun a v h => ⟨(h2.2.1 a v (h1.2.1 a v h).1).1, ((h2.2.1 a v (h1.2.1 a v h).1).2).trans (h1.2.1 a v h).2⟩, fun b m h => h2.2.2 b m (h1.2.2 b m h)⟩

/-- Another board of the same stand abides too. -/
theorem OnBoard.any {b m b' m' : Nat} {s : Stand} {x y : World} (h : OnBoard b m s (fun _ => False) x y) (hx : Board x b m s (fun _ => False)) (h' : Board x b' m' s (fun _ => False)) : Board y b' m' s (fun _ => False) := by
  refine h'.putAny h.frm hx ?_
  by_cases e : m' = m
  · subst e; exact h.board.kept
  · obtain ⟨es, ck, hb, _⟩ := hx.kept
    exact h'.kept.imp (h.frm.block m' h'.mlt e) fun k v ⟨t, h1, h2, h3⟩ => ⟨t, h1, h2.frmM hb h.frm, h3⟩

set_option maxRecDepth 100000 in
set_option maxHeartbeats 1000000 in
theorem lateX_any (a0 b0 a1 b1 a2 b2 : Int) (rv sv lv : Value) (runs : List (Int × Int)) (sheep : List Int) (looks : List (Int × Int × Int)) (k : Int) (w : World)
    (hr : Prs w w.heap.size rv runs) (hsh : Ints w w.heap.size sv sheep) (hl : Trs w w.heap.size lv looks) (s : Stand) (hs : s = ⟨[(a0, b0), (a1, b1), (a2, b2)], runs, sheep, looks⟩) :
    Calls Try.prog 23 #[.agg #[.int .i64 a0, .int .i64 b0, .int .i64 a1, .int .i64 b1, .int .i64 a2, .int .i64 b2, rv, sv, lv], .int .i64 k] w (AnsweredN s ((inB k 0 (runs.length - 1) && decide (0 < k))) (lateL s k) w) := by
  obtain ⟨w1, hw1⟩ : ∃ x, ((w.alloc (.cells #[.int .i64 a0, .int .i64 b0, .int .i64 a1, .int .i64 b1, .int .i64 a2, .int .i64 b2, rv, sv, lv] 29)).alloc (.cells #[.int .i64 k] 3)).alloc (.cells #[.int .i64 0] 32) = x := ⟨_, rfl⟩
  have hb1 : Below w.heap.size w w1 := by rw [← hw1]; exact (below_two _ _ _).alloc (by simp; omega) _
  have hsz1 : w1.heap.size = w.heap.size + 3 := by rw [← hw1]; simp
  have hk1 : w1.cell? ⟨w.heap.size + 1, 0, none⟩ = some (.int .i64 k) := by rw [← hw1]; simp [go_sem]
  have x2 : w1.cell? ⟨w.heap.size + 2, 0, none⟩ = some (.int .i64 0) := by rw [← hw1]; simp [go_sem]
  have y2 : w1.frozen? ⟨w.heap.size + 2, 0, none⟩ = false := by rw [← hw1]; simp [go_sem]
  have hc1 : ∀ j v, #[Value.int .i64 a0, .int .i64 b0, .int .i64 a1, .int .i64 b1, .int .i64 a2, .int .i64 b2, rv, sv, lv][j]? = some v → w1.cell? ⟨w.heap.size, j, none⟩ = some v := by
    intro j v h; rw [← hw1]
    rw [World.cell?_alloc_lt _ _ _ (by simp; omega), World.cell?_alloc_lt _ _ _ (by simp), World.cell?_alloc_new]; exact h
  have hr1 := hr.later hb1
  have hsh1 := hsh.later hb1
  have hl1 := hl.later hb1
  have e0 : ∀ x, Below w1.heap.size w1 x → x.cell? ⟨w.heap.size, 0, none⟩ = some (.int .i64 a0) := fun x h => cell_old h (hc1 0 _ rfl)
  have e1 : ∀ x, Below w1.heap.size w1 x → x.cell? ⟨w.heap.size, 1, none⟩ = some (.int .i64 b0) := fun x h => cell_old h (hc1 1 _ rfl)
  have e2 : ∀ x, Below w1.heap.size w1 x → x.cell? ⟨w.heap.size, 2, none⟩ = some (.int .i64 a1) := fun x h => cell_old h (hc1 2 _ rfl)
  have e3 : ∀ x, Below w1.heap.size w1 x → x.cell? ⟨w.heap.size, 3, none⟩ = some (.int .i64 b1) := fun x h => cell_old h (hc1 3 _ rfl)
  have e4 : ∀ x, Below w1.heap.size w1 x → x.cell? ⟨w.heap.size, 4, none⟩ = some (.int .i64 a2) := fun x h => cell_old h (hc1 4 _ rfl)
  have e5 : ∀ x, Below w1.heap.size w1 x → x.cell? ⟨w.heap.size, 5, none⟩ = some (.int .i64 b2) := fun x h => cell_old h (hc1 5 _ rfl)
  have e6 : ∀ x, Below w1.heap.size w1 x → x.cell? ⟨w.heap.size, 6, none⟩ = some rv := fun x h => cell_old h (hc1 6 _ rfl)
  have e7 : ∀ x, Below w1.heap.size w1 x → x.cell? ⟨w.heap.size, 7, none⟩ = some sv := fun x h => cell_old h (hc1 7 _ rfl)
  have e8 : ∀ x, Below w1.heap.size w1 x → x.cell? ⟨w.heap.size, 8, none⟩ = some lv := fun x h => cell_old h (hc1 8 _ rfl)
  have ek : ∀ x, Below w1.heap.size w1 x → x.cell? ⟨w.heap.size + 1, 0, none⟩ = some (.int .i64 k) := fun x h => cell_old h hk1
  have hsheep : s.sheep = sheep := by rw [hs]
  have hmins3 : s.mins.length = 3 := by rw [hs]; rfl
  obtain ⟨okI, hok⟩ : ∃ x, (inB k 0 (runs.length - 1) && decide (0 < k)) = x := ⟨_, rfl⟩
  have hopen : ∀ x, Below w1.heap.size w1 x → Calls Try.prog 41 #[.agg #[.int .i64 a0, .int .i64 b0, .int .i64 a1, .int .i64 b1, .int .i64 a2, .int .i64 b2, rv, sv, lv], .func (.func 62) #[] #[.pointer (some ⟨w.heap.size + 1, 0, none⟩)]] x (OpenPost s okI x) := by
    intro x hx
    rw [hs]
    refine open_any a0 b0 a1 b1 a2 b2 rv sv lv runs sheep looks 62 #[.pointer (some ⟨w.heap.size + 1, 0, none⟩)] okI x (hr1.later hx) (hsh1.later hx) (hl1.later hx) (enters_of Try.func62 (by kernel_rfl) rfl) ?_
    intro A b m hA hBd hv
    obtain ⟨v7, h7, ⟨ao, cap, rfl, hln, _⟩, _⟩ := hBd.runs
    have hfit := (fit_of_valid rfl hv).runs
    simp only at hfit h7
    have := late1_any b (w.heap.size + 1) ao runs.length cap k A h7 (cell_old hA (cell_old hx hk1)) (by omega)
    rw [hok] at this
    exact this
  rw [hok]
  have HO := Lib.hid hopen
  have HS := Lib.hid hs
  have HOK := Lib.hid hok
  have HB1 := Lib.hid hb1
  have HM3 := Lib.hid hmins3
  have HSH := Lib.hid hsheep
  have HSZ := Lib.hid hsz1
  clear hopen hs hok hb1 hr hsh hl hr1 hsh1 hl1 hc1 hmins3 hsheep hsz1
  go_enter_defers Try.func23, Try.ntmps23
  go_upto_region 2 with (fail)
  clear hw1
  simp only [Nat.add_assoc, Nat.reduceAdd]
  obtain ⟨L, hLL⟩ : ∃ L, lateL s k = L := ⟨_, rfl⟩
  rw [hLL]
  have HLL := Lib.hid hLL
  clear hLL
  obtain ⟨jl, hjl⟩ : ∃ x, hull L = x := ⟨_, rfl⟩
  have HJL := Lib.hid hjl
  clear hjl
  refine wp_region_rel (sz := 22) 9 (LateR s w1.heap.size)
    [cV ?rv0, cV ?rv1, fun v x => ∃ b m, v = .pointer (some ⟨b, 0, none⟩) ∧ w1.heap.size ≤ b ∧ w1.heap.size ≤ m ∧ validB s = true ∧ okI = true ∧ Board x b m s (fun _ => False), cV ?rv3, cV ?rv4, cV ?rv5, cV ?rv6,
      fun v _ => validB s = true ∧ okI = true ∧ L ≠ [] ∧ v = .agg #[.int .i64 jl.1, .int .i64 jl.2],
      fun v x => ∃ B, v = .pointer (some ⟨B, 0, none⟩) ∧ w1.heap.size ≤ B ∧ x.cell? ⟨B, 0, none⟩ = some (.int .i64 0) ∧ x.cell? ⟨B, 1, none⟩ = some (.int .i64 0) ∧ x.frozen? ⟨B, 0, none⟩ = false ∧ x.frozen? ⟨B, 1, none⟩ = false]
    (fun ch x => ∃ c, ch = refusal c ∧ Refuses s okI L c ∧ Below w1.heap.size w1 x) (by kernel_rfl) rfl (by kernel_rfl) (LateR.of_below (Nat.le_refl _) (Below.refl _ _).drew) (fun h1 h2 => h1.trans h2) ?rgS ?rgO ?rgP ?rgL ?rgE
  case rgO =>
    refine ⟨?_, ?_, ?_, ?_, ?_, ?_, ?_, ?_, ?_, trivial⟩
    all_goals
      intro a x hR hA
      rw [if_pos (by rfl)]
      have hR : Below w1.heap.size w1 x := hR.1
    · have s2 : a.tmps[2]?.getD undef = .pointer (some ⟨w.heap.size, 0, none⟩) := hA.base 2 (by decide)
      clear hA
      refine rg_val_wide _ ?_ (by simp) rfl (LateR.of_below hR.size (Below.refl _ _)); go_simp; rfl
    · have s2 : a.tmps[3]?.getD undef = .pointer (some ⟨w.heap.size + 1, 0, none⟩) := hA.base 3 (by decide)
      clear hA
      refine rg_val_wide _ ?_ (by simp) rfl (LateR.of_below hR.size (Below.refl _ _)); go_simp; rfl
    · have s6 : a.tmps[7]?.getD undef = _ := hA.pre 0 _ rfl (by kernel_rfl)
      have s7 : a.tmps[8]?.getD undef = _ := hA.pre 1 _ rfl (by kernel_rfl)
      clear hA
      refine rg_call_wide rfl (by go_simp; exact ⟨rfl, rfl⟩) ?_
      refine (HO.out x hR).mono ?_
      rintro e w2 (⟨h1, rfl, hb⟩ | ⟨h1, h2, rfl, hb⟩ | ⟨h1, h2, b, m, rfl, hb, hbb, hmm, hne, hbd⟩)
      · exact ⟨1, rfl, .inl ⟨h1, rfl⟩, below_trans' hR hb⟩
      · exact ⟨2, rfl, .inr (.inl ⟨h1, h2, rfl⟩), below_trans' hR hb⟩
      · exact ⟨⟨b, m, rfl, Nat.le_trans hR.size hbb, Nat.le_trans hR.size hmm, h1, h2, hbd⟩, LateR.of_below hR.size hb⟩
    · have s2 : a.tmps[3]?.getD undef = .pointer (some ⟨w.heap.size + 1, 0, none⟩) := hA.base 3 (by decide)
      clear hA
      refine rg_val_wide _ ?_ (by simp) rfl (LateR.of_below hR.size (Below.refl _ _)); go_simp; rfl
    · have s6 : a.tmps[10]?.getD undef = _ := hA.pre 3 _ rfl (by kernel_rfl)
      clear hA
      refine rg_val_wide _ ?_ (by simp) rfl (LateR.of_below hR.size (Below.refl _ _)); go_simp; rfl
    · have s6 : a.tmps[11]?.getD undef = _ := hA.pre 4 _ rfl (by kernel_rfl)
      clear hA
      refine rg_val_wide _ ?_ (by simp) rfl (LateR.of_below hR.size (Below.refl _ _)); go_simp; rfl
    · have s6 : a.tmps[12]?.getD undef = _ := hA.pre 5 _ rfl (by kernel_rfl)
      clear hA
      refine rg_val_wide _ ?_ (by simp) rfl (LateR.of_below hR.size (Below.refl _ _)); go_simp; rfl
    · obtain ⟨b, m, s8, hbb, hbm, hv, hoi, hbd⟩ : ∃ b m, a.tmps[9]?.getD undef = .pointer (some ⟨b, 0, none⟩) ∧ w1.heap.size ≤ b ∧ w1.heap.size ≤ m ∧ validB s = true ∧ okI = true ∧ Board x b m s (fun _ => False) := hA.pre 2 _ rfl (by kernel_rfl)
      have s7 : a.tmps[13]?.getD undef = _ := hA.pre 6 _ rfl (by kernel_rfl)
      clear hA
      refine rg_call_wide rfl (by go_simp; exact ⟨rfl, rfl⟩) ?_
      have hfit := fit_of_valid HM3.out hv
      have hkn : 0 < k ∧ k.toNat < s.runs.length := by
        have h0 := HOK.out
        rw [hoi] at h0
        have h1 : s.runs = runs := by rw [HS.out]
        rw [h1]
        unfold inB at h0
        simp only [Bool.and_eq_true, decide_eq_true_eq] at h0
        omega
      have hkv : Value.agg #[.int .i64 k] = .agg #[.int .i64 (k.toNat : Int)] := by rw [Int.toNat_of_nonneg (by omega)]
      have hme := measured_any b m s (fun _ => False) 96 (.agg #[.int .i64 k]) 121 (fun l => if lateOf s l k.toNat then 1 else 0) x hfit hbd (fun _ => by kernel_rfl) (fun _ => by kernel_rfl) (enters_of Try.func121 (by kernel_rfl) rfl)
        (fun A X v t ht hA hp => by obtain ⟨rv, hr1, hr2, _⟩ := hA.runs; rw [hkv]; exact late_any b k.toNat rv s v _ A hr1 hr2 hp (by rw [day_len]; have := hfit.sheep; omega) hkn.2)
      have hL2 : (truthsL s (everyB s)).map (fun t => if lateOf s (day s t) k.toNat then (1 : Int) else 0) = L := HLL.out
      rw [hL2] at hme
      refine hme.mono ?_
      rintro e y ⟨hte, hon⟩
      have hby : Below w1.heap.size x y := hon.frm.below (fun k hk => by rw [hk]; exact hbm) hR.size
      unfold toldE at hte
      by_cases hl : L = []
      · rw [if_pos hl] at hte
        subst hte
        exact ⟨10, rfl, .inr (.inr ⟨hv, hoi, hl, rfl⟩), hR.trans hby⟩
      · rw [if_neg hl] at hte
        subst hte
        have hj2 : joinedL (L.map fun n => (n, n)) = jl := HJL.out
        rw [hj2]
        refine ⟨⟨hv, hoi, hl, rfl⟩, hby, fun a v h => ?_, fun b' m' h => hon.any hbd h⟩
        obtain ⟨es, ck, hmb, _⟩ := hbd.kept
        exact ⟨hon.cell h (ne_of_cell_map h hmb), hon.frm.frozen (World.block_lt_of_cell? _ _ h) (ne_of_cell_map h hmb)⟩
    · clear hA e0 e1 e2 e3 e4 e5 e6 e7 e8 ek
      refine rg_make_wide (w' := x.alloc (.cells #[.int .i64 0, .int .i64 0] 23)) (.pointer (some ⟨x.heap.size, 0, none⟩)) (by go_simp) (by simp) ⟨x.heap.size, rfl, hR.size, by simp [go_sem], by simp [go_sem], by simp [go_sem], by simp [go_sem]⟩ (LateR.of_below hR.size (box_below _ _))
  case rgS =>
    intro V hV u x y hR hu
    simp only [List.mem_cons, List.not_mem_nil, or_false] at hV
    rcases hV with rfl | rfl | rfl | rfl | rfl | rfl | rfl | rfl | rfl
    all_goals first | exact hu | skip
    · obtain ⟨b, m, h1, h2, h3, h4, h5, h6⟩ := hu; exact ⟨b, m, h1, h2, h3, h4, h5, hR.2.2 b m h6⟩
    · obtain ⟨B, h1, h2, h3, h4, h5, h6⟩ := hu
      exact ⟨B, h1, h2, (hR.2.1 _ _ h3).1, (hR.2.1 _ _ h4).1, (hR.2.1 _ _ h3).2.trans h5, (hR.2.1 _ _ h4).2.trans h6⟩
  case rgP =>
    rintro ch a x ⟨c, rfl, hc, hb⟩ hsl hdf
    have t4 : a.tmps[4]? = some (.int .i64 0) := slot_int (hsl 4 (by decide))
    have t5 : a.tmps[5]? = some (.pointer (some ⟨w.heap.size + 2, 0, none⟩)) := slot_ptr (hsl 5 (by decide))
    show Leaves Try.prog Try.f23 a.tmps _ a.defers (.panicking (refusal c)) x
    rw [hdf]
    refine end_panicN rfl t4 t5 (cell_old hb x2) (((bcell hb).2 _ 0 (by have := HSZ.out; omega)).trans y2) ?_
    unfold AnsweredN
    rw [hc.ansN]
    exact ⟨rfl, (below_trans' HB1.out hb).setCell (by simp only; omega) _⟩
  case rgL =>
    rintro ⟨a, x, h⟩
    have h' : AnsweredN s okI L w .outgrown x := h
    cases h'.1
  case rgE =>
    intro v0 v1 v2 v3 v4 v5 v6 v7 v8 x hk
    obtain ⟨⟨B, rfl, hB1, z0, z1, u0, u1⟩, ⟨hv, hoi, hl, rfl⟩, rfl, rfl, rfl, rfl, _, rfl, rfl, hx, _⟩ := hk
    simp only [List.drop_succ_cons, List.drop_zero, Act.put, List.setIfInBounds_toArray, List.set_cons_succ, List.set_cons_zero]
    subst hoi
    have hx : Below w1.heap.size w1 x := hx
    have z2 := cell_old hx x2
    have u2 := ((bcell hx).2 (w.heap.size + 2) 0 (by have := HSZ.out; omega)).trans y2
    have hBn : B ≠ w.heap.size + 2 := by have := HSZ.out; omega
    have hBx := World.block_lt_of_cell? _ _ z0
    have hcx := World.block_lt_of_cell? _ _ z2
    simp only at hBx hcx
    have HWX : Hid (Below w.heap.size w x) := below_trans' HB1.out hx
    have hws : w.heap.size ≤ B := by have := HSZ.out; omega
    have h01 : ∀ a ∈ L, a = 0 ∨ a = 1 := by
      rw [← HLL.out]
      intro a ha
      obtain ⟨t, _, rfl⟩ := List.mem_map.1 ha
      split <;> simp
    have hcase : jl = (0, 0) ∨ jl = (0, 1) ∨ jl = (1, 1) := by
      obtain ⟨i1, i2, i3⟩ := hull_spec hl
      rw [HJL.out] at i1 i2 i3
      have a1 := h01 _ i1
      have a2 := h01 _ i2
      have a3 := i3 _ i1
      obtain ⟨p, q⟩ := jl
      rcases a1 with rfl | rfl <;> rcases a2 with rfl | rfl <;> first | (exfalso; omega) | simp
    have HAN : Hid (ansN s true L = (lateN jl, 0)) := Lib.hid (by
      have h0 : ansE s true L = (jl, 0) := by rw [← HJL.out]; exact ans_told hv rfl hl
      unfold ansN; rw [h0]; rfl)
    clear e0 e1 e2 e3 e4 e5 e6 e7 e8 ek hx x2 y2 hk1 h01
    rcases hcase with rfl | rfl | rfl
    all_goals
      go_wp2
      refine end_okN (c := 0) rfl rfl rfl (by simp [go_sem, z0, z1, z2]) ?_
      unfold AnsweredN
      rw [HLL.out, HAN.out]
      exact ⟨rfl, ((HWX.out.setCell (by simp only; omega) _).setCell (by simp only; omega) _).setCell (by simp only; omega) _⟩
end Go.Proofs.Ytojbkpnkcpcioaa
