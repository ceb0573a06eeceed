/- Texts of the proof, joined. -/
import Derived.Test.YthedkfiebmnghaaGreatKst13
set_option linter.all false
namespace Go.Proofs.YthedkfiebmnghaaGreat
open Go.RowKit Go.Sh Go.Sh.Stand Go.Shelf
theorem slot_ptr {a : Act} {t : Nat} {p : Option Addr} (h : slot a t = .pointer p) : a.tmps[t]? = some (.pointer p) := by
 unfold slot at h
 cases ht : a.tmps[t]? with
 | none => rw [ht] at h; cases h
 | some v => rw [ht] at h; simpa using h
theorem end_panic {fn : Func} (hres : fn.results = #[.cell 4 45, .cell 5 28]) {tmps : Array Value} {N2 N3 : Nat} (h4 : tmps[4]? = some (.pointer (some ⟨N2, 0, none⟩))) (h5 : tmps[5]? = some (.pointer (some ⟨N3, 0, none⟩)))
  {c : Int} {x : World} {lo hi : Int} (c0 : x.cell? ⟨N2, 0, none⟩ = some (.int .i64 lo)) (c1 : x.cell? ⟨N2, 1, none⟩ = some (.int .i64 hi)) (e0 : x.cell? ⟨N3, 0, none⟩ = some (.int .i64 0)) (f0 : x.frozen? ⟨N3, 0, none⟩ = false) (hn : N2 ≠ N3)
  {R : Ending → World → Prop} (hR : R (.returned (.tuple #[.agg #[.int .i64 lo, .int .i64 hi], .int .i64 c])) (x.setCell ⟨N3, 0, none⟩ (.int .i64 c))) :
  Leaves Tryz.prog fn tmps R [{ target := .fn (.func 74) #[], args := #[.pointer (some ⟨N3, 0, none⟩)] }] (.panicking (refusal c)) x := by
 refine leaves_cons (f := 74) (args := #[.pointer (some ⟨N3, 0, none⟩)]) (by simp) (by simp [go_sem]) ?_
 refine (answer_refused ⟨N3, 0, none⟩ 0 c [] x e0 f0).mono ?_
 rintro e u' w' ⟨rfl, rfl, rfl⟩
 have k0 : (x.setCell ⟨N3, 0, none⟩ (.int .i64 c)).cell? ⟨N2, 0, none⟩ = some (.int .i64 lo) := by rw [World.cell?_of_block (Below.heap_setCell _ _ _ _ hn)]; exact c0
 have k1 : (x.setCell ⟨N3, 0, none⟩ (.int .i64 c)).cell? ⟨N2, 1, none⟩ = some (.int .i64 hi) := by rw [World.cell?_of_block (Below.heap_setCell _ _ _ _ hn)]; exact c1
 have k2 : (x.setCell ⟨N3, 0, none⟩ (.int .i64 c)).cell? ⟨N3, 0, none⟩ = some (.int .i64 c) := World.cell?_setCell_same' _ _ _ (by rw [e0]; rfl)
 refine ⟨_, ?_, hR⟩
 simp [results, hres, h4, h5, go_sem, k0, k1, k2]
theorem end_ok {fn : Func} (hres : fn.results = #[.cell 4 45, .cell 5 28]) {tmps : Array Value} {N2 N3 : Nat} (h4 : tmps[4]? = some (.pointer (some ⟨N2, 0, none⟩))) (h5 : tmps[5]? = some (.pointer (some ⟨N3, 0, none⟩)))
  {x : World} {lo hi c : Int} (c0 : x.cell? ⟨N2, 0, none⟩ = some (.int .i64 lo)) (c1 : x.cell? ⟨N2, 1, none⟩ = some (.int .i64 hi)) (e0 : x.cell? ⟨N3, 0, none⟩ = some (.int .i64 c))
  {R : Ending → World → Prop} (hR : R (.returned (.tuple #[.agg #[.int .i64 lo, .int .i64 hi], .int .i64 c])) x) :
  Leaves Tryz.prog fn tmps R [{ target := .fn (.func 74) #[], args := #[.pointer (some ⟨N3, 0, none⟩)] }] .returning x := by
 refine leaves_cons (f := 74) (args := #[.pointer (some ⟨N3, 0, none⟩)]) (by simp) (by simp [go_sem]) ?_
 refine (answer_idle ⟨N3, 0, none⟩ x).mono ?_
 rintro e u' w' ⟨rfl, rfl, rfl⟩
 refine ⟨_, ?_, hR⟩
 simp [results, hres, h4, h5, go_sem, c0, c1, e0]
def ansE (s : Stand) (okI : Bool) (L : List Int) : (Int × Int) × Int :=
 if validB s = false then ((0, 0), 1) else if okI = false then ((0, 0), 2) else if L = [] then ((0, 0), 10) else (joinedL (L.map fun n => (n, n)), 0)
def Answered (s : Stand) (okI : Bool) (L : List Int) (w : World) (e : Ending) (w' : World) : Prop :=
 e = .returned (.tuple #[.agg #[.int .i64 (ansE s okI L).1.1, .int .i64 (ansE s okI L).1.2], .int .i64 (ansE s okI L).2]) ∧ Below w.heap.size w w'
def Refuses (s : Stand) (okI : Bool) (L : List Int) (c : Int) : Prop := (validB s = false ∧ c = 1) ∨ (validB s = true ∧ okI = false ∧ c = 2) ∨ (validB s = true ∧ okI = true ∧ L = [] ∧ c = 10)
theorem Refuses.ans {s : Stand} {okI : Bool} {L : List Int} {c : Int} (h : Refuses s okI L c) : ansE s okI L = ((0, 0), c) := by
 unfold ansE
 rcases h with ⟨h1, rfl⟩ | ⟨h1, h2, rfl⟩ | ⟨h1, h2, h3, rfl⟩
 ·rw [if_pos h1]
 ·rw [if_neg (by simp [h1]), if_pos h2]
 ·rw [if_neg (by simp [h1]), if_neg (by simp [h2]), if_pos h3]
theorem ans_told {s : Stand} {okI : Bool} {L : List Int} (h1 : validB s = true) (h2 : okI = true) (h3 : L ≠ []) : ansE s okI L = (joinedL (L.map fun n => (n, n)), 0) := by
 unfold ansE
 rw [if_neg (by simp [h1]), if_neg (by simp [h2]), if_neg h3]
theorem fit_of_valid {s : Stand} (h3 : s.mins.length = 3) (h : validB s = true) : Fit s := by
 unfold validB lensB at h
 simp only [Bool.and_eq_true, List.all_eq_true] at h
 obtain ⟨h1, ⟨⟨h2, h4⟩, h5⟩, h6, h7, h8⟩ := h
 have hr : ∀ (l : List (Int × Int)) (bl : Int), 0 ≤ bl → runsB l bl = true → ∀ p ∈ l, 0 ≤ p.1 ∧ p.1 < p.2 ∧ p.2 ≤ 600 := by
  intro l
  induction l with
  | nil => intro bl _ _ p hp; cases hp
  | cons q r ih =>
   obtain ⟨st, be⟩ := q
   intro bl hbl h p hp
   simp only [runsB, inR, Bool.and_eq_true, decide_eq_true_eq] at h
   rcases List.mem_cons.1 hp with rfl | hp
   ·simp only; omega
   ·exact ih be (by omega) h.2 p hp
 unfold inR at h2
 simp only [Bool.and_eq_true, decide_eq_true_eq] at h2 h4 h5
 refine ⟨h3, fun p hp => ?_, by omega, hr _ 0 (by omega) h6, by omega, fun k hk => ?_, by omega, fun l hl => ?_⟩
 ·have := h1 p hp
  unfold minB at this
  simp only [Bool.and_eq_true, decide_eq_true_eq] at this
  omega
 ·have := h7 k hk
  unfold inR at this
  simpa using this
 ·have := h8 l hl
  unfold lookB inR at this
  simp only [Bool.and_eq_true, decide_eq_true_eq] at this
  omega
theorem day_len (s : Stand) (t : Shearer) : (day s t).length = s.sheep.length := dayFrom_length ..
end Go.Proofs.YthedkfiebmnghaaGreat
namespace Go.Sh.Stand
def hull (L : List Int) : Int × Int := joinedL (L.map fun n => (n, n))
theorem foldl_jn : ∀ (L : List Int) (s : Int × Int), s.1 ≤ s.2 →
  (((L.map fun n => (n, n)).foldl jn s).1 = s.1 ∨ ((L.map fun n => (n, n)).foldl jn s).1 ∈ L) ∧ (((L.map fun n => (n, n)).foldl jn s).2 = s.2 ∨ ((L.map fun n => (n, n)).foldl jn s).2 ∈ L) ∧
  ((L.map fun n => (n, n)).foldl jn s).1 ≤ s.1 ∧ s.2 ≤ ((L.map fun n => (n, n)).foldl jn s).2 ∧ (∀ a ∈ L, ((L.map fun n => (n, n)).foldl jn s).1 ≤ a ∧ a ≤ ((L.map fun n => (n, n)).foldl jn s).2)
 | [], s, _ => by simp
 | n :: L, s, h => by
  have h2 : (jn s (n, n)).1 ≤ (jn s (n, n)).2 := by unfold jn gmin gmax; simp only; split <;> split <;> omega
  obtain ⟨i1, i2, i3, i4, i5⟩ := foldl_jn L (jn s (n, n)) h2
  rw [List.map_cons, List.foldl_cons]
  have e1 : (jn s (n, n)).1 = s.1 ∨ (jn s (n, n)).1 = n := by unfold jn gmin; simp only; split <;> simp
  have e2 : (jn s (n, n)).2 = s.2 ∨ (jn s (n, n)).2 = n := by unfold jn gmax; simp only; split <;> simp
  have e3 : (jn s (n, n)).1 ≤ s.1 ∧ (jn s (n, n)).1 ≤ n := by unfold jn gmin; simp only; split <;> omega
  have e4 : s.2 ≤ (jn s (n, n)).2 ∧ n ≤ (jn s (n, n)).2 := by unfold jn gmax; simp only; split <;> omega
  refine ⟨?_, ?_, by omega, by omega, ?_⟩
  ·rcases i1 with h | h
   ·rcases e1 with e | e
    ·exact .inl (h.trans e)
    ·exact .inr (by rw [h, e]; exact List.mem_cons_self ..)
   ·exact .inr (List.mem_cons_of_mem _ h)
  ·rcases i2 with h | h
   ·rcases e2 with e | e
    ·exact .inl (h.trans e)
    ·exact .inr (by rw [h, e]; exact List.mem_cons_self ..)
   ·exact .inr (List.mem_cons_of_mem _ h)
  ·intro a ha
   rcases List.mem_cons.1 ha with rfl | ha
   ·omega
   ·exact i5 a ha
theorem hull_spec {L : List Int} (h : L ≠ []) : (hull L).1 ∈ L ∧ (hull L).2 ∈ L ∧ ∀ a ∈ L, (hull L).1 ≤ a ∧ a ≤ (hull L).2 := by
 cases L with
 | nil => exact absurd rfl h
 | cons n L =>
  have := foldl_jn (n :: L) (n, n) (Int.le_refl _)
  unfold hull joinedL
  simp only [List.map_cons, List.headD_cons]
  rw [List.map_cons] at this
  obtain ⟨i1, i2, i3, i4, i5⟩ := this
  refine ⟨?_, ?_, i5⟩
  ·rcases i1 with h | h
   ·rw [h]; exact List.mem_cons_self ..
   ·exact h
  ·rcases i2 with h | h
   ·rw [h]; exact List.mem_cons_self ..
   ·exact h
end Go.Sh.Stand
namespace Go.Proofs.YthedkfiebmnghaaGreat
open Go.RowKit Go.Sh Go.Sh.Stand Go.Shelf
def doneL (s : Stand) (k : Int) : List Int := (truthsL s (everyB s)).map fun t => ((day s t).getD k.toNat (0, 0)).1
set_option maxHeartbeats 400000 in
theorem done1_any (b Bk : Nat) (ao : Option Addr) (n cap : Nat) (k : Int) (w : World) (hb : w.cell? ⟨b, 7, none⟩ = some (.slice ao n cap)) (hk : w.cell? ⟨Bk, 0, none⟩ = some (.int .i64 k)) (hn : n < 1000) :
    Calls Tryz.prog 76 #[.pointer (some ⟨b, 0, none⟩), .pointer (some ⟨Bk, 0, none⟩)] w fun e w' => e = .returned (.bool (inB k 0 (n - 1))) ∧ Below w.heap.size w w' := by
  have HS := Lib.hid (isSheep_any b ao n cap k w hb hn)
  go_enter Tryz.func76, Tryz.ntmps76
  go_wp2_with (go_at_call 77; refine HS.out.mono ?_; rintro e w' ⟨rfl, rfl⟩)
  go_ret
  exact ⟨rfl, Below.refl _ _⟩
set_option maxRecDepth 100000 in
set_option maxHeartbeats 1000000 in
theorem done_any (a0 b0 a1 b1 a2 b2 : Int) (rv sv lv : Value) (runs : List (Int × Int)) (sheep : List Int) (looks : List (Int × Int × Int)) (k : Int) (w : World)
    (hr : Prs w w.heap.size rv runs) (hsh : Ints w w.heap.size sv sheep) (hl : Trs w w.heap.size lv looks) (s : Stand) (hs : s = ⟨[(a0, b0), (a1, b1), (a2, b2)], runs, sheep, looks⟩) :
    Calls Tryz.prog 33 #[.agg #[.int .i64 a0, .int .i64 b0, .int .i64 a1, .int .i64 b1, .int .i64 a2, .int .i64 b2, rv, sv, lv], .int .i64 k] w (Answered s (inB k 0 (sheep.length - 1)) (doneL s k) w) := by
  obtain ⟨w1, hw1⟩ : ∃ x, (((w.alloc (.cells #[.int .i64 a0, .int .i64 b0, .int .i64 a1, .int .i64 b1, .int .i64 a2, .int .i64 b2, rv, sv, lv] 50)).alloc (.cells #[.int .i64 k] 3)).alloc (.cells #[.int .i64 0, .int .i64 0] 45)).alloc (.cells #[.int .i64 0] 28) = x := ⟨_, rfl⟩
  have hb1 : Below w.heap.size w w1 := by rw [← hw1]; exact ((below_two _ _ _).alloc (by simp; omega) _).alloc (by simp; omega) _
  have hsz1 : w1.heap.size = w.heap.size + 4 := by rw [← hw1]; simp
  have hk1 : w1.cell? ⟨w.heap.size + 1, 0, none⟩ = some (.int .i64 k) := by rw [← hw1]; simp [go_sem]
  have x0 : w1.cell? ⟨w.heap.size + 2, 0, none⟩ = some (.int .i64 0) := by rw [← hw1]; simp [go_sem]
  have x1 : w1.cell? ⟨w.heap.size + 2, 1, none⟩ = some (.int .i64 0) := by rw [← hw1]; simp [go_sem]
  have x2 : w1.cell? ⟨w.heap.size + 3, 0, none⟩ = some (.int .i64 0) := by rw [← hw1]; simp [go_sem]
  have y0 : w1.frozen? ⟨w.heap.size + 2, 0, none⟩ = false := by rw [← hw1]; simp [go_sem]
  have y1 : w1.frozen? ⟨w.heap.size + 2, 1, none⟩ = false := by rw [← hw1]; simp [go_sem]
  have y2 : w1.frozen? ⟨w.heap.size + 3, 0, none⟩ = false := by rw [← hw1]; simp [go_sem]
  have hc1 : ∀ j v, #[Value.int .i64 a0, .int .i64 b0, .int .i64 a1, .int .i64 b1, .int .i64 a2, .int .i64 b2, rv, sv, lv][j]? = some v → w1.cell? ⟨w.heap.size, j, none⟩ = some v := by
    intro j v h; rw [← hw1]
    rw [World.cell?_alloc_lt _ _ _ (by simp; omega), World.cell?_alloc_lt _ _ _ (by simp; omega), World.cell?_alloc_lt _ _ _ (by simp), World.cell?_alloc_new]; exact h
  have hr1 := hr.later hb1
  have hsh1 := hsh.later hb1
  have hl1 := hl.later hb1
  have e0 : ∀ x, Below w1.heap.size w1 x → x.cell? ⟨w.heap.size, 0, none⟩ = some (.int .i64 a0) := fun x h => cell_old h (hc1 0 _ rfl)
  have e1 : ∀ x, Below w1.heap.size w1 x → x.cell? ⟨w.heap.size, 1, none⟩ = some (.int .i64 b0) := fun x h => cell_old h (hc1 1 _ rfl)
  have e2 : ∀ x, Below w1.heap.size w1 x → x.cell? ⟨w.heap.size, 2, none⟩ = some (.int .i64 a1) := fun x h => cell_old h (hc1 2 _ rfl)
  have e3 : ∀ x, Below w1.heap.size w1 x → x.cell? ⟨w.heap.size, 3, none⟩ = some (.int .i64 b1) := fun x h => cell_old h (hc1 3 _ rfl)
  have e4 : ∀ x, Below w1.heap.size w1 x → x.cell? ⟨w.heap.size, 4, none⟩ = some (.int .i64 a2) := fun x h => cell_old h (hc1 4 _ rfl)
  have e5 : ∀ x, Below w1.heap.size w1 x → x.cell? ⟨w.heap.size, 5, none⟩ = some (.int .i64 b2) := fun x h => cell_old h (hc1 5 _ rfl)
  have e6 : ∀ x, Below w1.heap.size w1 x → x.cell? ⟨w.heap.size, 6, none⟩ = some rv := fun x h => cell_old h (hc1 6 _ rfl)
  have e7 : ∀ x, Below w1.heap.size w1 x → x.cell? ⟨w.heap.size, 7, none⟩ = some sv := fun x h => cell_old h (hc1 7 _ rfl)
  have e8 : ∀ x, Below w1.heap.size w1 x → x.cell? ⟨w.heap.size, 8, none⟩ = some lv := fun x h => cell_old h (hc1 8 _ rfl)
  have ek : ∀ x, Below w1.heap.size w1 x → x.cell? ⟨w.heap.size + 1, 0, none⟩ = some (.int .i64 k) := fun x h => cell_old h hk1
  have hsheep : s.sheep = sheep := by rw [hs]
  have hmins3 : s.mins.length = 3 := by rw [hs]; rfl
  obtain ⟨okI, hok⟩ : ∃ x, inB k 0 (sheep.length - 1) = x := ⟨_, rfl⟩
  have hopen : ∀ x, Below w1.heap.size w1 x → Calls Tryz.prog 75 #[.agg #[.int .i64 a0, .int .i64 b0, .int .i64 a1, .int .i64 b1, .int .i64 a2, .int .i64 b2, rv, sv, lv], .func (.func 76) #[] #[.pointer (some ⟨w.heap.size + 1, 0, none⟩)]] x (OpenPost s okI x) := by
    intro x hx
    rw [hs]
    refine open_any a0 b0 a1 b1 a2 b2 rv sv lv runs sheep looks 76 #[.pointer (some ⟨w.heap.size + 1, 0, none⟩)] okI x (hr1.later hx) (hsh1.later hx) (hl1.later hx) (enters_of Tryz.func76 (by kernel_rfl) rfl) ?_
    intro A b m hA hBd hv
    obtain ⟨v7, h7, ⟨ao, cap, rfl, hln, _⟩, _⟩ := hBd.sheep
    have hfit := (fit_of_valid rfl hv).sheep
    simp only at hfit h7
    have := done1_any b (w.heap.size + 1) ao sheep.length cap k A h7 (cell_old hA (cell_old hx hk1)) (by omega)
    rw [hok] at this
    exact this
  rw [hok]
  have HO := Lib.hid hopen
  have HS := Lib.hid hs
  have HOK := Lib.hid hok
  have HB1 := Lib.hid hb1
  have HM3 := Lib.hid hmins3
  have HSH := Lib.hid hsheep
  have HSZ := Lib.hid hsz1
  clear hopen hs hok hb1 hr hsh hl hr1 hsh1 hl1 hc1 hmins3 hsheep hsz1
  go_enter_defers Tryz.func33, Tryz.ntmps33
  go_wp2
  clear hw1
  simp only [Nat.add_assoc, Nat.reduceAdd]
  refine wp_region_rel (sz := 13) 6 (fun x y => Below x.heap.size x y) [cV ?rv0, cV ?rv1, fun v x => ∃ b m, v = .pointer (some ⟨b, 0, none⟩) ∧ w1.heap.size ≤ b ∧ w1.heap.size ≤ m ∧ validB s = true ∧ okI = true ∧ Board x b m s (fun _ => False), cV ?rv3, cV ?rv4, cV ?rv5]
    (fun ch x => ∃ c, ch = refusal c ∧ Refuses s okI (doneL s k) c ∧ Below w1.heap.size w1 x) (by kernel_rfl) rfl (by kernel_rfl) ((Below.refl _ _).drew) (fun h1 h2 => below_trans' h1 h2) ?rgS ?rgO ?rgP ?rgL ?rgE
  case rgO =>
    refine ⟨?_, ?_, ?_, ?_, ?_, ?_, trivial⟩
    all_goals
      intro a x hR hA
      rw [if_pos (by rfl)]
      have hR : Below w1.heap.size w1 x := hR
    · have s2 : a.tmps[2]?.getD undef = .pointer (some ⟨w.heap.size, 0, none⟩) := hA.base 2 (by decide)
      clear hA
      refine rg_val_wide _ ?_ (by simp) rfl (Below.refl _ _); go_simp; rfl
    · have s2 : a.tmps[3]?.getD undef = .pointer (some ⟨w.heap.size + 1, 0, none⟩) := hA.base 3 (by decide)
      clear hA
      refine rg_val_wide _ ?_ (by simp) rfl (Below.refl _ _); go_simp; rfl
    · have s6 : a.tmps[6]?.getD undef = _ := hA.pre 0 _ rfl (by kernel_rfl)
      have s7 : a.tmps[7]?.getD undef = _ := hA.pre 1 _ rfl (by kernel_rfl)
      clear hA
      refine rg_call_wide rfl (by go_simp; exact ⟨rfl, rfl⟩) ?_
      refine (HO.out x hR).mono ?_
      rintro e w2 (⟨h1, rfl, hb⟩ | ⟨h1, h2, rfl, hb⟩ | ⟨h1, h2, b, m, rfl, hb, hbb, hmm, hne, hbd⟩)
      · exact ⟨1, rfl, .inl ⟨h1, rfl⟩, below_trans' hR hb⟩
      · exact ⟨2, rfl, .inr (.inl ⟨h1, h2, rfl⟩), below_trans' hR hb⟩
      · exact ⟨⟨b, m, rfl, Nat.le_trans hR.size hbb, Nat.le_trans hR.size hmm, h1, h2, hbd⟩, hb⟩
    · have s2 : a.tmps[3]?.getD undef = .pointer (some ⟨w.heap.size + 1, 0, none⟩) := hA.base 3 (by decide)
      clear hA
      refine rg_val_wide _ ?_ (by simp) rfl (Below.refl _ _); go_simp; rfl
    · have s6 : a.tmps[9]?.getD undef = _ := hA.pre 3 _ rfl (by kernel_rfl)
      clear hA
      refine rg_val_wide _ ?_ (by simp) rfl (Below.refl _ _); go_simp; rfl
    · have s6 : a.tmps[10]?.getD undef = _ := hA.pre 4 _ rfl (by kernel_rfl)
      clear hA
      refine rg_val_wide _ ?_ (by simp) rfl (Below.refl _ _); go_simp; rfl
  case rgS =>
    intro V hV u x y hR hu
    simp only [List.mem_cons, List.not_mem_nil, or_false] at hV
    rcases hV with rfl | rfl | rfl | rfl | rfl | rfl
    all_goals first | exact hu | (obtain ⟨b, m, h1, h2, h3, h4, h5, h6⟩ := hu; exact ⟨b, m, h1, h2, h3, h4, h5, h6.later hR⟩)
  case rgP =>
    rintro ch a x ⟨c, rfl, hc, hb⟩ hsl hdf
    have t4 : a.tmps[4]? = some (.pointer (some ⟨w.heap.size + 2, 0, none⟩)) := slot_ptr (hsl 4 (by decide))
    have t5 : a.tmps[5]? = some (.pointer (some ⟨w.heap.size + 3, 0, none⟩)) := slot_ptr (hsl 5 (by decide))
    show Leaves Tryz.prog Tryz.f33 a.tmps _ a.defers (.panicking (refusal c)) x
    rw [hdf]
    refine end_panic rfl t4 t5 (cell_old hb x0) (cell_old hb x1) (cell_old hb x2) (((bcell hb).2 _ 0 (by have := HSZ.out; omega)).trans y2) (by omega) ?_
    unfold Answered
    rw [hc.ans]
    exact ⟨rfl, (below_trans' HB1.out hb).setCell (by simp only; omega) _⟩
  case rgL =>
    rintro ⟨a, x, h⟩
    have h' : Answered s okI (doneL s k) w .outgrown x := h
    cases h'.1
  case rgE =>
    intro v0 v1 v2 v3 v4 v5 x hk
    obtain ⟨rfl, rfl, rfl, ⟨b, m, rfl, hbb, hbm, hv, hoi, hbd⟩, rfl, rfl, hx⟩ := hk
    simp only [List.drop_succ_cons, List.drop_zero, Act.put, List.setIfInBounds_toArray, List.set_cons_succ, List.set_cons_zero]
    have hx : Below w1.heap.size w1 x := hx
    subst hoi
    have hfit := fit_of_valid HM3.out hv
    have hkn : 0 ≤ k ∧ k.toNat < s.sheep.length := by
      have h0 := HOK.out
      have h1 : s.sheep = sheep := by rw [HS.out]
      rw [h1]
      unfold inB at h0
      simp only [Bool.and_eq_true, decide_eq_true_eq] at h0
      omega
    have hkv : Value.agg #[.int .i64 k] = .agg #[.int .i64 (k.toNat : Int)] := by rw [Int.toNat_of_nonneg hkn.1]
    have HKV := Lib.hid hkv
    clear hkv
    have hme := measured_any b m s (fun _ => False) 117 (.agg #[.int .i64 k]) 172 (fun l => (l.getD k.toNat (0, 0)).1) x hfit hbd (fun _ => by kernel_rfl) (fun _ => by kernel_rfl) (enters_of Tryz.func172 (by kernel_rfl) rfl)
      (fun A X v t ht hA hp => by rw [HKV.out]; exact doneAt_any k.toNat _ v _ A hp (by rw [day_len]; exact hkn.2))
    have z0 := cell_old hx x0
    have z1 := cell_old hx x1
    have z2 := cell_old hx x2
    have u0 := ((bcell hx).2 (w.heap.size + 2) 0 (by have := HSZ.out; omega)).trans y0
    have u1 := ((bcell hx).2 (w.heap.size + 2) 1 (by have := HSZ.out; omega)).trans y1
    have u2 := ((bcell hx).2 (w.heap.size + 3) 0 (by have := HSZ.out; omega)).trans y2
    have hL : ((truthsL s (everyB s)).map fun t => ((day s t).getD k.toNat (0, 0)).1) = doneL s k := rfl
    obtain ⟨L, hLL⟩ : ∃ L, doneL s k = L := ⟨_, rfl⟩
    rw [hLL] at hL ⊢
    rw [hL] at hme
    have hwx : Below w.heap.size w x := below_trans' HB1.out hx
    have hxs : w1.heap.size ≤ x.heap.size := hx.size
    have HWX := Lib.hid hwx
    have HLL := Lib.hid hLL
    have HXS := Lib.hid hxs
    clear hwx hxs hx hL hLL hbd e0 e1 e2 e3 e4 e5 e6 e7 e8 ek x0 x1 x2 y0 y1 y2 hk1
    have n2 : w.heap.size + 2 ≠ m := by have := HSZ.out; omega
    have n3 : w.heap.size + 3 ≠ m := by have := HSZ.out; omega
    have hlt2 : w.heap.size + 2 < x.heap.size := by have := HSZ.out; have := HXS.out; omega
    have hlt3 : w.heap.size + 3 < x.heap.size := by have := HSZ.out; have := HXS.out; omega
    have hmB : ∀ (y : World), Frm (fun k => k = m) x y → Below w.heap.size w y := fun _ hf => HWX.out.trans (hf.below (fun k hk => by have := HSZ.out; omega) HWX.out.size)
    have HMB := Lib.hid hmB
    clear hmB
    by_cases hl : L = []
    · subst hl
      simp only [toldE, if_pos] at hme
      have HME := Lib.hid hme
      have hrf : Refuses s true [] 10 := .inr (.inr ⟨hv, rfl, rfl, rfl⟩)
      have HRF := Lib.hid hrf
      clear hme hrf
      go_wp2_with (go_at_call 78; refine HME.out.mono ?_; rintro e y ⟨rfl, hon⟩
                   have z0 := hon.cell z0 n2
                   have z1 := hon.cell z1 n2
                   have z2 := hon.cell z2 n3
                   have u2 := (hon.frm.frozen hlt3 n3).trans u2
                   have HON := Lib.hid hon; clear hon)
      refine end_panic rfl rfl rfl z0 z1 z2 u2 (by omega) ?_
      unfold Answered
      rw [HRF.out.ans]
      exact ⟨rfl, (HMB.out _ HON.out.frm).setCell (by simp only; omega) _⟩
    · obtain ⟨jl, hjl⟩ : ∃ x, joinedL (L.map fun n => (n, n)) = x := ⟨_, rfl⟩
      simp only [toldE, if_neg hl, hjl] at hme
      have han : ansE s true L = (jl, 0) := by rw [← hjl]; exact ans_told hv rfl hl
      have HAN := Lib.hid han
      have HME := Lib.hid hme
      clear hme han hjl
      go_wp2_with (go_at_call 78; refine HME.out.mono ?_; rintro e y ⟨rfl, hon⟩
                   have z0 := hon.cell z0 n2
                   have z1 := hon.cell z1 n2
                   have z2 := hon.cell z2 n3
                   have u0 := (hon.frm.frozen hlt2 n2).trans u0
                   have u1 := (hon.frm.frozen hlt2 n2).trans u1
                   have u2 := (hon.frm.frozen hlt3 n3).trans u2
                   have HON := Lib.hid hon; clear hon)
      refine end_ok (lo := jl.1) (hi := jl.2) (c := 0) rfl rfl rfl (by simp [go_sem, z0, z1, z2]) (by simp [go_sem, z0, z1, z2]) (by simp [go_sem, z0, z1, z2]) ?_
      unfold Answered
      try rw [HLL.out]
      rw [HAN.out]
      exact ⟨rfl, (((HMB.out _ HON.out.frm).setCell (by simp only; omega) _).setCell (by simp only; omega) _).setCell (by simp only; omega) _⟩
end Go.Proofs.YthedkfiebmnghaaGreat
namespace Go.Proofs.YthedkfiebmnghaaGreat
open Go.RowKit Go.Sh Go.Sh.Stand Go.Shelf
attribute [local go_sem] Oper.semAt_some
structure CanAt (w : World) (m : Nat) (Rc : Nat) (T : Nat → Prop) (A : World) (v : Bool) : Prop where
 c : A.cell? ⟨Rc, 0, none⟩ = some (.bool v)
 f : A.frozen? ⟨Rc, 0, none⟩ = false
 t : T Rc
 old : ∀ k, k < w.heap.size → k ≠ m → A.heap[k]? = w.heap[k]?
set_option maxRecDepth 100000 in
set_option maxHeartbeats 1000000 in
theorem can_any (b m Bb set : Nat) (s : Stand) (X : Nat → Prop) (w : World) (hs : Fit s) (hset : set < 16) (hg : Board w b m s X) (hb : w.cell? ⟨Bb, 0, none⟩ = some (.pointer (some ⟨b, 0, none⟩))) :
  Calls Tryz.prog 113 #[.int .u64 set, .pointer (some ⟨Bb, 0, none⟩)] w fun e w' => e = .returned (.bool (decide (truthsL s set ≠ []))) ∧ OnBoard b m s X w w' := by
 have hml := hg.mlt
 have hBb := World.block_lt_of_cell? _ _ hb
 simp only at hBb
 refine (callsIn_wide (n := 0)).1 ?_
 refine callsIn_of_wp_marks Tryz.func113 rfl trivial ?_ rfl
 simp only [Tryz.ntmps113, List.size_toArray, List.length_cons, List.length_nil, Nat.reduceAdd, Nat.reduceSub, Array.replicate_succ, Array.replicate_zero, List.push_toArray, List.append_toArray, List.nil_append, List.cons_append]
 have HG := Lib.hid hg
 clear hg
 gi_wp2_with (refine ⟨trivial, rfl, ?_⟩; gi_at_call 114; refine (callsIn_wide.2 (truths_any b set _)).mono ?_; rintro e w' ⟨rfl, rfl⟩)
 obtain ⟨W2, hW2⟩ : ∃ x, ((w.alloc (.cells #[.bool false] 4)).alloc (.cells #[.pointer (some ⟨b, 0, none⟩)] 112)).alloc (.cells #[.int .u64 set] 159) = x := ⟨_, rfl⟩
 have hb2 : Below w.heap.size w W2 := by rw [← hW2]; exact (below_two _ _ _).alloc (by simp; omega) _
 have hsz : W2.heap.size = w.heap.size + 3 := by rw [← hW2]; simp
 have hg2 : Board W2 b m s (fun k => X k ∨ k = w.heap.size) := HG.out.grow hb2 (fun k hk => hk.elim .inl fun h => .inr (by omega)) (fun k hk => hk.elim (fun h => by have := HG.out.xlt k h; omega) fun h => by omega)
 have q0 : W2.cell? ⟨w.heap.size, 0, none⟩ = some (.bool false) := by rw [← hW2]; simp [go_sem]
 have q1 : W2.cell? ⟨w.heap.size + 1, 0, none⟩ = some (.pointer (some ⟨b, 0, none⟩)) := by rw [← hW2]; simp [go_sem]
 have q2 : W2.cell? ⟨w.heap.size + 2, 0, none⟩ = some (.int .u64 set) := by rw [← hW2]; simp [go_sem]
 have g0 : W2.frozen? ⟨w.heap.size, 0, none⟩ = false := by rw [← hW2]; simp [go_sem]
 rw [hW2]
 clear hW2
 rw [show w.heap.size + 1 + 1 = w.heap.size + 2 by omega]
 have hfin : ∀ (v : Bool) (D : Nat) (T' : Nat → Prop) (Z : World), W2.heap.size ≤ D → Rnd (fun k => k = m) (fun k => X k ∨ k = w.heap.size) T' W2 Z → Board Z b m s T' → CanAt w m w.heap.size T' Z v → Z.heap[D]? = some (.deferred (some [])) →
   OnBoard b m s X w (Z.putObj D (.deferred none)) ∧ (Z.putObj D (.deferred none)).cell? ⟨w.heap.size, 0, none⟩ = some (.bool v) := by
  intro v D T' Z hD hrn hg hc hK
  have hput := (board_good b m s).put (.deferred none) hg hK rfl (show ¬ D = m by omega)
  have h1 := hrn.pre hb2
  refine ⟨⟨⟨h1.frm.os, h1.frm.tape, h1.frm.output, by simpa using h1.frm.size, fun k hk hs => ?_⟩, hput.sub fun k hk => hrn.keep k (.inl hk)⟩, cell_putObj _ hc.c hK rfl⟩
  rw [World.putObj_heap_other (by omega)]
  exact hc.old k hk hs
 have HFIN := Lib.hid hfin
 clear hfin
 refine wpIn_range (gf := 129) (lb := #[.pointer (some ⟨w.heap.size + 1, 0, none⟩), .pointer (some ⟨w.heap.size + 2, 0, none⟩)]) rfl (enters_of Tryz.func129 (by kernel_rfl) rfl) (board_good b m s) (truths1_seq b m (w.heap.size + 1) (w.heap.size + 2) set s W2 hs hset q1 q2 (by omega) (by omega) (tok_all hs)) (Below.refl _ _) (fun _ => rfl)
  (fun k hk => by omega) (fun k => X k ∨ k = w.heap.size) (fun k hk => hk.elim (fun h => by have := HG.out.xlt k h; omega) (fun h => by omega)) (fun k hk => ⟨fun h => h.elim (fun h => by have := HG.out.xlt k h; omega) (fun h => by omega), by omega⟩) hg2
  (fun T pre A => pre = [] ∧ CanAt w m w.heap.size T A false) (fun c T pre A => c = .ret ∧ pre ≠ [] ∧ CanAt w m w.heap.size T A true) ?hI ?hIx ?h0
  (fun x a' A => a' = { tmps := #[.int .u64 set, .pointer (some ⟨Bb, 0, none⟩), undef, .pointer (some ⟨w.heap.size, 0, none⟩), .pointer (some ⟨b, 0, none⟩), .int .u64 set, .func (.func 129) #[] #[.pointer (some ⟨w.heap.size + 1, 0, none⟩), .pointer (some ⟨w.heap.size + 2, 0, none⟩)], keyV x], defers := [] })
  ?hAx ?assign ?body ?done ?stop
 case hI =>
  rintro T' pre A B ⟨hp, hc⟩ hga hgb hlt hff
  have hbl := World.block_lt_of_cell? _ _ hc.c
  have hnl : ¬ ((w.heap.size = m) ∨ (W2.heap.size ≤ w.heap.size ∧ ¬ T' w.heap.size)) := by rintro (h | h) <;> omega
  exact ⟨hp, hff.cell hc.c hnl, (hff.frozen hbl hnl).trans hc.f, hc.t, fun k hk hm => (hff.block k (by simp only at hbl; omega) (by rintro (h | h) <;> omega)).trans (hc.old k hk hm)⟩
 case hIx =>
  rintro c T' pre A B ⟨rfl, hp, hc⟩ hga hgb hlt hff
  have hbl := World.block_lt_of_cell? _ _ hc.c
  have hnl : ¬ ((w.heap.size = m) ∨ (W2.heap.size ≤ w.heap.size ∧ ¬ T' w.heap.size)) := by rintro (h | h) <;> omega
  exact ⟨rfl, hp, hff.cell hc.c hnl, (hff.frozen hbl hnl).trans hc.f, hc.t, fun k hk hm => (hff.block k (by simp only at hbl; omega) (by rintro (h | h) <;> omega)).trans (hc.old k hk hm)⟩
 case h0 => exact ⟨rfl, q0, g0, .inr rfl, fun k hk _ => hb2.block k hk⟩
 case hAx => rintro x a' A l' o o' rfl hl ho; rfl
 case assign =>
  rintro l' T' pre x W' K hI hg hlt hsz' hK
  have HK := Lib.hid hK
  clear hK
  gi_wp2
  exact HK.out _ _ (Below.refl _ _) (by simp [Array.zip, Array.zipWith, Array.zipWithMAux])
 case body =>
  rintro l' T' pre x a' W' ⟨hp, hc⟩ hg hlt hsz' hff rfl hpre
  have hcc := hc.c
  have hcf := hc.f
  have hbl := World.block_lt_of_cell? _ _ hcc
  simp only at hbl
  have HC := Lib.hid hc
  have HG' := Lib.hid hg
  have HL := Lib.hid hlt
  have HP := Lib.hid hpre
  clear hc hg hlt hff hpre
  gi_wp2
  have hz : Frm (fun k => k = w.heap.size) W' (W'.setCell ⟨w.heap.size, 0, none⟩ (.bool true)) := Frm.setCell (S := fun k => k = w.heap.size) (Frm.refl _ _) (.inl rfl) _
  refine ⟨T', ⟨hz.mono fun k _ hk => .inr (by rw [hk]; exact HC.out.t), fun _ h => .inl h, fun _ h => h, fun k hk => by simpa using HL.out k hk⟩, HG'.out.turn hz (fun k hk => by rw [hk]; exact HC.out.t), rfl, by simp, by simp [go_sem, hcc], by rw [World.frozen?_setCell]; exact hcf, HC.out.t, fun k hk hm => ?_⟩
  rw [Below.heap_setCell _ _ _ _ (by simp only; omega)]
  exact HC.out.old k hk hm
 case done =>
  rintro D T' W' hD hTD hrn hg ⟨hxs, hc⟩ hK
  have hcc := hc.c
  have hcf := hc.f
  have hbl := World.block_lt_of_cell? _ _ hcc
  simp only at hbl
  have hz : Frm (fun k => k = w.heap.size) W' (W'.setCell ⟨w.heap.size, 0, none⟩ (.bool false)) := Frm.setCell (S := fun k => k = w.heap.size) (Frm.refl _ _) (.inl rfl) _
  have hrn2 : Rnd (fun k => k = m) (fun k => X k ∨ k = w.heap.size) T' W2 (W'.setCell ⟨w.heap.size, 0, none⟩ (.bool false)) :=
   hrn.trans ⟨hz.mono fun k _ hk => .inr (by rw [hk]; exact hc.t), fun _ h => .inl h, fun _ h => h, fun k hk => by simpa using hrn.lt k hk⟩
  have hK2 : (W'.setCell ⟨w.heap.size, 0, none⟩ (.bool false)).heap[D]? = some (.deferred (some [])) := by rw [Below.heap_setCell _ _ _ _ (by simp only; omega)]; exact hK
  have hf := HFIN.out false D T' _ hD hrn2 (hg.turn hz (fun k hk => by rw [hk]; exact hc.t)) ⟨by simp [go_sem, hcc], by rw [World.frozen?_setCell]; exact hcf, hc.t, fun k hk hm => by rw [Below.heap_setCell _ _ _ _ (by simp only; omega)]; exact hc.old k hk hm⟩ hK2
  have HF := Lib.hid hf
  have HK2 := Lib.hid hK2
  have HXS : Hid (truthsL s set = []) := hxs
  clear hf hK2 hrn2 hz hrn hg hc hxs
  gi_wp2
  refine ⟨by simp, .inl ⟨_, _, rfl, run_takeDeferred HK2.out, ?_⟩⟩
  have y0 := HF.out.2
  refine ⟨.bool false, ?_, ?_⟩
  ·simp [results, Tryz.results113, go_sem, y0]
  ·exact ⟨retB (by simp [HXS.out]), HF.out.1⟩
 case stop =>
  rintro D c T' pre W' hD hTD hrn hg hpre ⟨rfl, hne, hc⟩ hK
  have hf := HFIN.out true D T' _ hD hrn hg hc hK
  have HF := Lib.hid hf
  have HXS : Hid (truthsL s set ≠ []) := fun h => hne (List.prefix_nil.1 (by rw [← h]; exact hpre))
  clear hf hrn hg hc hpre hne
  gi_wp2
  refine ⟨by simp, .inl ⟨_, _, rfl, run_takeDeferred hK, ?_⟩⟩
  have y0 := HF.out.2
  refine ⟨.bool true, ?_, ?_⟩
  ·simp [results, Tryz.results113, go_sem, y0]
  ·exact ⟨retB (by simp [HXS.out]), HF.out.1⟩
end Go.Proofs.YthedkfiebmnghaaGreat
namespace Go.Proofs.YthedkfiebmnghaaGreat
open Go.RowKit Go.Sh Go.Sh.Stand Go.Shelf
def pop (n : Nat) : Nat := (n.testBit 0).toNat + (n.testBit 1).toNat + (n.testBit 2).toNat + (n.testBit 3).toNat
set_option maxHeartbeats 1000000 in
theorem ones64_any (n : Nat) (w : World) (hn : n < 16) : Calls Tryz.prog 133 #[.int .u64 n] w fun e w' => e = .returned (.int .i64 (pop n)) ∧ w = w' := by
 go_enter Tryz.func133, Tryz.ntmps133
 go_wp2
 go_ret
 refine ⟨retI ?_, rfl⟩
 revert n
 decide +kernel
theorem pop_le (n : Nat) : pop n ≤ 4 := by
 unfold pop
 have := fun b : Bool => (show b.toNat ≤ 1 from by cases b <;> decide)
 have h0 := this (n.testBit 0); have h1 := this (n.testBit 1); have h2 := this (n.testBit 2); have h3 := this (n.testBit 3)
 omega
set_option maxHeartbeats 1000000 in
theorem ones_any (n : Nat) (w : World) (hn : n < 16) : Calls Tryz.prog 118 #[.int .u64 n] w fun e w' => e = .returned (.int .i64 (pop n)) ∧ w = w' := by
 have HO := Lib.hid (ones64_any n w hn)
 go_enter Tryz.func118, Tryz.ntmps118
 go_wp2_with (go_at_call 133; refine HO.out.mono ?_; rintro e w' ⟨rfl, rfl⟩)
 go_ret
 exact ⟨rfl, rfl⟩
set_option maxHeartbeats 1000000 in
theorem cmp_any (x y : Nat) (w : World) (hx : x < 16) (hy : y < 16) : Calls Tryz.prog 117 #[.int .u64 x, .int .u64 y] w fun e w' => e = .returned (.int .i64 ((pop x : Int) - pop y)) ∧ w = w' := by
 have HX := Lib.hid (ones_any x w hx)
 have HY := Lib.hid (ones_any y w hy)
 have px := pop_le x
 have py := pop_le y
 go_enter Tryz.func117, Tryz.ntmps117
 go_wp2_with (first
  | (go_at_call 118; refine HX.out.mono ?_; clear HX; rintro e w' ⟨rfl, rfl⟩)
  | (go_at_call 118; refine HY.out.mono ?_; rintro e w' ⟨rfl, rfl⟩))
 go_ret
 exact ⟨rfl, rfl⟩
def encU (n : Nat) : List Value := [.int .u64 n]
def Uints := RowsAt encU 1
def least (m : Nat) (l : List Nat) : Nat := l.foldl (fun m x => if pop x < pop m then x else m) m
theorem least_mem : ∀ (l : List Nat) (m : Nat), least m l = m ∨ least m l ∈ l
 | [], m => .inl rfl
 | x :: l, m => by
  unfold least
  rw [List.foldl_cons]
  have := least_mem l (if pop x < pop m then x else m)
  unfold least at this
  rcases this with h | h
  ·rw [h]; split
   ·exact .inr (List.mem_cons_self ..)
   ·exact .inl rfl
  ·exact .inr (List.mem_cons_of_mem _ h)
set_option maxHeartbeats 1000000 in
theorem minFunc_any (v : Value) (l : List Nat) (w : World) (h : Uints w w.heap.size v l) (hl : l ≠ []) (h16 : ∀ x ∈ l, x < 16) :
  Calls Tryz.prog 116 #[v, .func (.func 117) #[] #[]] w fun e w' => e = .returned (.int .u64 (least (l.headD 0) l.tail)) ∧ w = w' := by
 obtain ⟨ao, cap, rfl, hlen, hrow⟩ := h
 obtain ⟨b, off, rfl, hbl, hx⟩ := hrow hl
 have hpos : 0 < l.length := List.length_pos_iff.2 hl
 have c0 : w.cell? ⟨b, off, none⟩ = some (.int .u64 (l[0] : Nat)) := by simpa using hx 0 l[0] (by simp [hpos]) 0 _ rfl
 have HX := Lib.hid hx
 have H16 := Lib.hid h16
 have hh : l.headD 0 = l[0] := by cases l with | nil => exact absurd rfl hl | cons a r => rfl
 have ht : l.tail = l.drop 1 := by cases l with | nil => exact absurd rfl hl | cons a r => rfl
 rw [hh, ht]
 obtain ⟨target, htg⟩ : ∃ x, least l[0] (l.drop 1) = x := ⟨_, rfl⟩
 rw [htg]
 have HT := Lib.hid htg
 clear hx h16 htg hh ht hrow
 have cl0 : ¬ ((l.length : Nat) : Int) < 1 := by omega
 go_enter Tryz.func116, Tryz.ntmps116
 go_wp2
 go_loopw [5, 6] (fun m i wr => ∃ (j mm : Nat), 1 ≤ j ∧ j ≤ l.length ∧ i = .int .i64 j ∧ m = .int .u64 mm ∧ mm < 16 ∧ wr = w ∧ Hid (least mm (l.drop j) = target)) (fun _ i _ => l.length - (intOf i).toNat)
 case atStart => exact ⟨1, l[0], by omega, by omega, rfl, rfl, H16.out _ (List.getElem_mem _), rfl, HT⟩
 case round =>
  obtain ⟨j, mm, hj1, hj, rfl, rfl, hm16, rfl, HM⟩ := hrel
  by_cases hlt : j < l.length
  ·have cl : ((j : Nat) : Int) < ((l.length : Nat) : Int) := by omega
   obtain ⟨x, hxe⟩ : ∃ x, l[j] = x := ⟨_, rfl⟩
   have cj : wr.cell? ⟨b, off + j, none⟩ = some (.int .u64 (x : Nat)) := by simpa [hxe] using HX.out j l[j] (by simp [hlt]) 0 _ rfl
   have hx16 : x < 16 := by rw [← hxe]; exact H16.out _ (List.getElem_mem _)
   have HC := Lib.hid (cmp_any x mm wr hx16 hm16)
   have hst : least mm (l.drop j) = least (if pop x < pop mm then x else mm) (l.drop (j + 1)) := by
    rw [List.drop_eq_getElem_cons hlt, hxe]; rfl
   have HST := Lib.hid hst
   clear hst hxe
   by_cases hp : pop x < pop mm
   ·have hp' : (pop x : Int) - pop mm < 0 := by omega
    have HN : Hid (least x (l.drop (j + 1)) = target) := Lib.hid (by rw [← HM.out, HST.out, if_pos hp])
    go_wp2_with (go_at_call 117; refine HC.out.mono ?_; rintro e w' ⟨rfl, rfl⟩)
    go_roundw
    case rel => exact ⟨j + 1, x, by omega, by omega, by go_num, rfl, hx16, trivial, HN⟩
    case measure => simp [intOf]; omega
   ·have hp' : ¬ ((pop x : Int) - pop mm < 0) := by omega
    have HN : Hid (least mm (l.drop (j + 1)) = target) := Lib.hid (by rw [← HM.out, HST.out, if_neg hp])
    go_wp2_with (go_at_call 117; refine HC.out.mono ?_; rintro e w' ⟨rfl, rfl⟩)
    go_roundw
    case rel => exact ⟨j + 1, mm, by omega, by omega, by go_num, rfl, hm16, trivial, HN⟩
    case measure => simp [intOf]; omega
  ·have cl : ¬ ((j : Nat) : Int) < ((l.length : Nat) : Int) := by omega
   have HN : Hid (mm = target) := Lib.hid (by rw [← HM.out, List.drop_eq_nil_of_le (by omega)]; rfl)
   go_wp2
   go_ret
   exact ⟨by rw [HN.out]; rfl, rfl⟩
end Go.Proofs.YthedkfiebmnghaaGreat
