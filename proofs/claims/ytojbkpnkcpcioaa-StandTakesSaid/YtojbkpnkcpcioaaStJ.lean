/- The walk of told. -/
import Derived.Test.YtojbkpnkcpcioaaStI
set_option linter.all false
namespace Go.Proofs.Ytojbkpnkcpcioaa
open Go.RowKit Go.Sh Go.Sh.Stand Go.Shelf

def everyB (s : Stand) : Nat := 2 ^ s.looks.length - 1
def truthsL (s : Stand) (set : Nat) : List Shearer := (allSh s).filter (rightB s · set)

theorem subs_length (s : Stand) (hs : Fit s) : ∀ f k t, k + f ≤ 3 → (subs s f k t).length ≤ 5 ^ f
  | 0, _, _, _ => by simp [subs]
  | f + 1, k, t, h => by
    have h3 := hs.mins
    have hb := hs.minb (s.mins.getD k (0, 0)) (by rw [List.getD, List.getElem?_eq_getElem (by omega)]; exact List.getElem_mem _)
    rw [subs]
    have key : ∀ n : Nat, n ≤ 5 → ∀ g : Nat → List Shearer, (∀ i, (g i).length ≤ 5 ^ f) → ((List.range n).flatMap g).length ≤ n * 5 ^ f := by
      intro n
      induction n with
      | zero => intro _ g _; simp
      | succ n ih =>
        intro hn g hg
        rw [flat_succ, List.length_append]
        have h1 := ih (by omega) g hg
        have h2 := hg n
        rw [Nat.succ_mul]; omega
    have h5 := key ((s.mins.getD k (0, 0)).2 + 1 - (s.mins.getD k (0, 0)).1).toNat (by omega) (fun (i : Nat) => subs s f (k + 1) (setT t k ((s.mins.getD k (0, 0)).1 + (i : Nat)))) (fun i => subs_length s hs f (k + 1) _ (by omega))
    refine Nat.le_trans h5 ?_
    rw [Nat.pow_succ, Nat.mul_comm (5 ^ f)]
    exact Nat.mul_le_mul_right _ (by omega)
theorem truthsL_length (s : Stand) (hs : Fit s) (set : Nat) : (truthsL s set).length ≤ 1000 := by
  have h1 := List.length_filter_le (rightB s · set) (allSh s)
  have h2 := subs_length s hs 3 0 (0, 0, 0) (by omega)
  unfold truthsL allSh at *
  omega

theorem mem_subs {s : Stand} (hs : Fit s) : ∀ f k t x, k + f = 3 → (∀ j, j < k → ∀ a b c, t = (a, b, c) → (j = 0 → 1 ≤ a ∧ a ≤ 40) ∧ (j = 1 → 1 ≤ b ∧ b ≤ 40) ∧ (j = 2 → 1 ≤ c ∧ c ≤ 40)) → x ∈ subs s f k t → Tok x
  | 0, k, (a, b, c), x, h, ht, hx => by
    simp [subs] at hx
    subst hx
    exact ⟨(ht 0 (by omega) a b c rfl).1 rfl, (ht 1 (by omega) a b c rfl).2.1 rfl, (ht 2 (by omega) a b c rfl).2.2 rfl⟩
  | f + 1, k, (a, b, c), x, h, ht, hx => by
    rw [subs] at hx
    obtain ⟨i, hi, hx⟩ := List.mem_flatMap.1 hx
    have h3 := hs.mins
    have hb := hs.minb (s.mins.getD k (0, 0)) (by rw [List.getD, List.getElem?_eq_getElem (by omega)]; exact List.getElem_mem _)
    refine mem_subs hs f (k + 1) _ x (by omega) ?_ hx
    intro j hj a' b' c' he
    have hi' : (i : Int) < (s.mins.getD k (0, 0)).2 + 1 - (s.mins.getD k (0, 0)).1 := by have := List.mem_range.1 hi; omega
    have hn : 1 ≤ (s.mins.getD k (0, 0)).1 + (i : Int) ∧ (s.mins.getD k (0, 0)).1 + (i : Int) ≤ 40 := by omega
    generalize (s.mins.getD k (0, 0)).1 + (i : Int) = n at he hn
    have hh := ht j
    unfold setT setK at he
    have hk : k = 0 ∨ k = 1 ∨ k = 2 := by omega
    rcases hk with rfl | rfl | rfl
    · simp at he; obtain ⟨rfl, rfl, rfl⟩ := he
      have : j = 0 := by omega
      subst this; simp; exact hn
    · simp at he; obtain ⟨rfl, rfl, rfl⟩ := he
      have : j = 0 ∨ j = 1 := by omega
      rcases this with rfl | rfl
      · have := (ht 0 (by omega) a b c rfl).1 rfl
        simp; exact this
      · simp; exact hn
    · simp at he; obtain ⟨rfl, rfl, rfl⟩ := he
      have : j = 0 ∨ j = 1 ∨ j = 2 := by omega
      rcases this with rfl | rfl | rfl
      · have := (ht 0 (by omega) a b c rfl).1 rfl
        simp; exact this
      · have := (ht 1 (by omega) a b c rfl).2.1 rfl
        simp; exact this
      · simp; exact hn
theorem tok_all {s : Stand} (hs : Fit s) : ∀ t ∈ allSh s, Tok t := fun t ht => mem_subs hs 3 0 (0, 0, 0) t (by omega) (fun j hj => by omega) ht

def toldE (l : List Int) (e : Ending) : Prop := if l = [] then e = .panicked (refusal 10) else e = .returned (.agg #[.int .i64 (joinedL (l.map fun n => (n, n))).1, .int .i64 (joinedL (l.map fun n => (n, n))).2])

set_option maxRecDepth 100000 in
set_option maxHeartbeats 1000000 in
theorem told_any (b m : Nat) (s : Stand) (X : Nat → Prop) (gq : Nat) (lbq : Array Value) (f : Shearer → Int) (w : World) (Cl : World → Prop) (hs : Fit s)
    (eq : ∀ args w, (callFunc gq args).run Try.prog w = .ok (.enter gq args) w)
    (hg : Board w b m s X) (hcl : Cl w) (hcf : ∀ A B, Cl A → Frm (fun k => k = m ∨ w.heap.size ≤ k) A B → Cl B)
    (hf : ∀ x ∈ truthsL s (everyB s), ∀ A Y, Board A b m s Y → Cl A → Calls Try.prog gq (#[keyV x] ++ lbq) A fun e B => e = .returned (.int .i64 (f x)) ∧ OnBoard b m s Y A B) :
    Calls Try.prog 54 #[.pointer (some ⟨b, 0, none⟩), .func (.func gq) #[] lbq] w fun e w' => toldE ((truthsL s (everyB s)).map f) e ∧ OnBoard b m s X w w' := by
  have hml := hg.mlt
  have hll := hs.looks
  have hset : everyB s < 16 := by
    unfold everyB
    have : s.looks.length = 0 ∨ s.looks.length = 1 ∨ s.looks.length = 2 ∨ s.looks.length = 3 ∨ s.looks.length = 4 := by omega
    rcases this with h | h | h | h | h <;> rw [h] <;> decide
  obtain ⟨w1, hw1⟩ : ∃ x, w.alloc (.cells #[.int .i64 0, .int .i64 0] 23) = x := ⟨_, rfl⟩
  have hb1 : Below w.heap.size w w1 := by rw [← hw1]; exact box_below _ _
  have hsz1 : w1.heap.size = w.heap.size + 1 := by rw [← hw1]; simp
  have hg1 : Board w1 b m s (fun k => X k ∨ k = w.heap.size) := hg.grow hb1 (fun k hk => hk.elim .inl fun h => .inr (by omega)) (fun k hk => hk.elim (fun h => by have := hg.xlt k h; omega) fun h => by omega)
  obtain ⟨w2, hw2⟩ : ∃ x, (w1.alloc (.cells #[.pointer (some ⟨b, 0, none⟩)] 70)).alloc (.cells #[.int .u64 (everyB s)] 98) = x := ⟨_, rfl⟩
  have hb2 : Below w1.heap.size w1 w2 := by rw [← hw2]; exact below_two _ _ _
  have hsz2 : w2.heap.size = w1.heap.size + 2 := by rw [← hw2]; simp
  have p1 : w2.cell? ⟨w1.heap.size, 0, none⟩ = some (.pointer (some ⟨b, 0, none⟩)) := by rw [← hw2]; simp [go_sem]
  have p2 : w2.cell? ⟨w1.heap.size + 1, 0, none⟩ = some (.int .u64 (everyB s)) := by rw [← hw2]; simp [go_sem]
  have hb12 := below_trans' hb1 hb2
  have hsp := spanned_any b m s 84 #[.pointer (some ⟨w1.heap.size, 0, none⟩), .pointer (some ⟨w1.heap.size + 1, 0, none⟩)] (fun k => k = w1.heap.size ∨ k = w1.heap.size + 1) (truthsL s (everyB s)) (fun k => X k ∨ k = w.heap.size) gq lbq f w2 Cl (enters_of Try.func84 (by kernel_rfl) rfl) eq (hg1.later hb2)
    (fun w' hw' => truths1_seq b m w1.heap.size (w1.heap.size + 1) (everyB s) s w' hs hset (cell_old hw' p1) (cell_old hw' p2) (by omega) (by omega) (tok_all hs))
    (fun k hk => ⟨by omega, fun h => h.elim (fun h => by have := hg.xlt k h; omega) fun h => by omega⟩) (truthsL_length s hs _) (hcf _ _ hcl (.of_below hb12)) (fun A B ha hab => hcf A B ha (hab.mono fun k _ hk => hk.elim .inl fun h => .inr (by have := hb12.size; omega))) hf
  obtain ⟨lv, h8, ⟨lao, lcap, rfl, _⟩, _⟩ := hg1.looks
  have hev := every_any b lao s.looks.length lcap w1 h8 hll
  have hcast : ((2 : Int) ^ s.looks.length - 1) = ((everyB s : Nat) : Int) := by
    unfold everyB
    have : s.looks.length = 0 ∨ s.looks.length = 1 ∨ s.looks.length = 2 ∨ s.looks.length = 3 ∨ s.looks.length = 4 := by omega
    rcases this with h | h | h | h | h <;> rw [h] <;> decide
  rw [hcast] at hev
  have htr := truths_any b (everyB s) w1
  rw [hw2] at htr
  rw [hsz1, show w.heap.size + 1 + 1 = w.heap.size + 2 from rfl] at hsp htr
  have HEV := Lib.hid hev
  have HTR := Lib.hid htr
  have HON12 : Hid (Below w.heap.size w w2) := hb12
  have hw1s : w.heap.size < w2.heap.size := by omega
  have r0 : w2.cell? ⟨w.heap.size, 0, none⟩ = some (.int .i64 0) := cell_old hb2 (by rw [← hw1]; simp [go_sem])
  have r1 : w2.cell? ⟨w.heap.size, 1, none⟩ = some (.int .i64 0) := cell_old hb2 (by rw [← hw1]; simp [go_sem])
  have fr0 : w2.frozen? ⟨w.heap.size, 0, none⟩ = false := ((bcell hb2).2 _ 0 (by omega)).trans (by rw [← hw1]; simp [go_sem])
  have fr1 : w2.frozen? ⟨w.heap.size, 1, none⟩ = false := ((bcell hb2).2 _ 1 (by omega)).trans (by rw [← hw1]; simp [go_sem])
  obtain ⟨L, hL⟩ : ∃ L, (truthsL s (everyB s)).map f = L := ⟨_, rfl⟩
  rw [hL] at hsp ⊢
  have hw12 : w1 = w.alloc (.cells #[.int .i64 0, .int .i64 0] 23) := hw1.symm
  have HG := Lib.hid hg
  have HB12 := Lib.hid hb12
  clear hL hev htr hf hcf hcl hg hg1 hb1 hb2 p1 p2 hw2 hcast hset h8 hb12
  by_cases hl : L = []
  · subst hl
    simp only [spanOut, if_pos] at hsp
    have HSP := Lib.hid hsp
    clear hsp
    subst hw12
    go_enter Try.func54, Try.ntmps54
    go_wp2_with (first
      | (go_at_call 68; refine HEV.out.mono ?_; rintro e w' ⟨rfl, rfl⟩)
      | (go_at_call 66; refine HTR.out.mono ?_; rintro e w' ⟨rfl, rfl⟩)
      | (go_at_call 83; refine HSP.out.mono ?_; rintro e w3 ⟨rfl, hon⟩; have HON := Lib.hid hon; clear hon)
      | (go_at_call 67; refine (ask_no 10 _).mono ?_; rintro e w' ⟨rfl, rfl⟩))
    refine ⟨rfl, by simp [toldE], ?_⟩
    exact ⟨((Frm.of_below HON12.out).trans HON.out.frm).trans (.of_below (box_below _ _)), (HON.out.board.later (box_below _ _)).sub fun k hk => .inl hk⟩
  · simp only [spanOut, if_neg hl] at hsp
    have HSP := Lib.hid hsp
    clear hsp
    obtain ⟨jl, hjl⟩ : ∃ x, joinedL (L.map fun n => (n, n)) = x := ⟨_, rfl⟩
    rw [hjl] at HSP
    have hte : toldE L (.returned (.agg #[.int .i64 jl.1, .int .i64 jl.2])) := by unfold toldE; rw [if_neg hl, hjl]
    have HTE := Lib.hid hte
    clear hte hjl
    subst hw12
    have hnm : w.heap.size ≠ m := by omega
    go_enter Try.func54, Try.ntmps54
    go_wp2_with (first
      | (go_at_call 68; refine HEV.out.mono ?_; rintro e w' ⟨rfl, rfl⟩)
      | (go_at_call 66; refine HTR.out.mono ?_; rintro e w' ⟨rfl, rfl⟩)
      | (go_at_call 83; refine HSP.out.mono ?_; rintro e w3 ⟨rfl, hon⟩
         have r0 := hon.cell r0 hnm
         have r1 := hon.cell r1 hnm
         have fr0 := (hon.frm.frozen hw1s hnm).trans fr0
         have fr1 := (hon.frm.frozen hw1s hnm).trans fr1
         have hw3s : w.heap.size < w3.heap.size := Nat.lt_of_lt_of_le hw1s hon.size
         have HON := Lib.hid hon
         clear hon)
      | (go_at_call 67; refine (ask_ok 10 _).mono ?_; rintro e w' ⟨rfl, rfl⟩))
    refine bodyPost_ret (by simp [results, Try.results54, go_sem, r0, r1, fr0, fr1, hw3s]) rfl ⟨HTE.out, ?_⟩
    have hz : Frm (fun k => k = w.heap.size) w3 (((w3.setCell ⟨w.heap.size, 0, none⟩ (.int .i64 jl.1)).setCell ⟨w.heap.size, 1, none⟩ (.int .i64 jl.2)).alloc (.cells #[.int .i64 jl.1, .int .i64 jl.2] 23)) :=
      Frm.alloc (Frm.setCell (S := fun k => k = w.heap.size) (Frm.setCell (S := fun k => k = w.heap.size) (Frm.refl _ _) (.inl rfl) _) (.inl rfl) _) _
    have hw3 : Frm (fun k => k = m) w w3 := (Frm.of_below HON12.out).trans HON.out.frm
    refine ⟨⟨hz.os.trans hw3.os, hz.tape.trans hw3.tape, hz.output.trans hw3.output, Nat.le_trans hw3.size hz.size, fun k hk hs => (hz.block k (Nat.lt_of_lt_of_le hk hw3.size) (by omega)).trans (hw3.block k hk hs)⟩, (HON.out.board.turn hz fun k hk => .inr hk).sub fun k hk => .inl hk⟩
end Go.Proofs.Ytojbkpnkcpcioaa
