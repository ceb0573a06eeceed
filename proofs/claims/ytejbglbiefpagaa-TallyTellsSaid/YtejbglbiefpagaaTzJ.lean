/- tally: the answers are the document's (Shorn, Pen, Stray, Together, Fits). -/
import Derived.Test.YtejbglbiefpagaaTzI
set_option linter.all false
namespace Go.Proofs.Ytejbglbiefpagaa
open Go Go.RowKit Go.Sh Go.Pv
set_option maxHeartbeats 4000000
set_option maxRecDepth 8000
section
variable {n most : Int} {strays : List (Int × Int)} {calls : List (Int × Int × Int × Int)}
attribute [local go_sem] row4
theorem ex_Shearer53 (n most : Int) (strays : List (Int × Int)) (calls : List (Int × Int × Int × Int)) (i : Int) : ∃ b, FunOK Try.prog 53 [tyR n most strays calls, .one (iP i)] (.one (.one (.v (.bool b)))) := by
  obtain ⟨w, hw⟩ : ∃ w, IntKind.i64.wrap (n - 1) = w := ⟨_, rfl⟩
  refine ⟨inB i 0 w, ?_⟩
  have h := ok_in73 i 0 w
  refine fun_ok (nt := 10) (rs := [.tmp 4]) Try.func53 rfl rfl rfl (by simp) fun Z w0 => ?_; simp only [initFr, avR, List.map_cons, List.map_nil]
  simp only [tyR, List.map_cons, List.map_nil]
  (repeat (first | apply aw_seq | apply aw_block | apply aw_skip | apply aw_label | apply aw_exit | ((first | refine aw_region (hideO fun QQ hQQ => ?_) | refine aw_draw mixed (hideD fun QQ hQQ => ?_)); simp (maxSteps := 400000) (disch := first | decide | omega) only [hw, go_sem, ↓reduceIte]; try (first | with_reducible refine unhide hQQ ?_ | refine ⟨by kernel_rfl, unhide hQQ ?_⟩); clear hQQ QQ) | with_reducible first | apply then_n | apply block_n | apply then_x | apply then_r | apply nog_n | apply nog_r | apply block_r | apply block_e (by decide) | apply block_x (by decide)))
  ((refine callO_ok rfl rfl 73 true rfl (by simp (disch := first | decide | omega) only [hw, go_sem, ↓reduceIte]; try rfl) (fun _ => rfl) (h) Try.func73 rfl (by decide) ?_); simp (maxSteps := 400000) (disch := first | decide | omega) only [hw, go_sem, ↓reduceIte]; try (with_reducible refine unhide hQQ ?_; clear hQQ QQ)); (repeat (first | apply aw_seq | apply aw_block | apply aw_skip | apply aw_label | apply aw_exit | ((first | refine aw_region (hideO fun QQ hQQ => ?_) | refine aw_draw mixed (hideD fun QQ hQQ => ?_)); simp (maxSteps := 400000) (disch := first | decide | omega) only [hw, go_sem, ↓reduceIte]; try (first | with_reducible refine unhide hQQ ?_ | refine ⟨by kernel_rfl, unhide hQQ ?_⟩); clear hQQ QQ) | with_reducible first | apply then_n | apply block_n | apply then_x | apply then_r | apply nog_n | apply nog_r | apply block_r | apply block_e (by decide) | apply block_x (by decide)))
  refine aw_ret ?_; refine ⟨.inr rfl, ?_⟩; simp only [resA, res1, go_sem, ↓reduceIte]
theorem ex_Strays64 (n most : Int) (strays : List (Int × Int)) (calls : List (Int × Int × Int × Int)) (i : Int) : ∃ b, FunOK Try.prog 64 [tyR n most strays calls, .one (iP i)] (.one (.one (.v (.bool b)))) := by
  obtain ⟨w, hw⟩ : ∃ w, IntKind.i64.wrap (n - 2) = w := ⟨_, rfl⟩
  refine ⟨inB i 0 w, ?_⟩
  have h := ok_in73 i 0 w
  refine fun_ok (nt := 10) (rs := [.tmp 4]) Try.func64 rfl rfl rfl (by simp) fun Z w0 => ?_; simp only [initFr, avR, List.map_cons, List.map_nil]
  simp only [tyR, List.map_cons, List.map_nil]
  (repeat (first | apply aw_seq | apply aw_block | apply aw_skip | apply aw_label | apply aw_exit | ((first | refine aw_region (hideO fun QQ hQQ => ?_) | refine aw_draw mixed (hideD fun QQ hQQ => ?_)); simp (maxSteps := 400000) (disch := first | decide | omega) only [hw, go_sem, ↓reduceIte]; try (first | with_reducible refine unhide hQQ ?_ | refine ⟨by kernel_rfl, unhide hQQ ?_⟩); clear hQQ QQ) | with_reducible first | apply then_n | apply block_n | apply then_x | apply then_r | apply nog_n | apply nog_r | apply block_r | apply block_e (by decide) | apply block_x (by decide)))
  ((refine callO_ok rfl rfl 73 true rfl (by simp (disch := first | decide | omega) only [hw, go_sem, ↓reduceIte]; try rfl) (fun _ => rfl) (h) Try.func73 rfl (by decide) ?_); simp (maxSteps := 400000) (disch := first | decide | omega) only [hw, go_sem, ↓reduceIte]; try (with_reducible refine unhide hQQ ?_; clear hQQ QQ)); (repeat (first | apply aw_seq | apply aw_block | apply aw_skip | apply aw_label | apply aw_exit | ((first | refine aw_region (hideO fun QQ hQQ => ?_) | refine aw_draw mixed (hideD fun QQ hQQ => ?_)); simp (maxSteps := 400000) (disch := first | decide | omega) only [hw, go_sem, ↓reduceIte]; try (first | with_reducible refine unhide hQQ ?_ | refine ⟨by kernel_rfl, unhide hQQ ?_⟩); clear hQQ QQ) | with_reducible first | apply then_n | apply block_n | apply then_x | apply then_r | apply nog_n | apply nog_r | apply block_r | apply block_e (by decide) | apply block_x (by decide)))
  refine aw_ret ?_; refine ⟨.inr rfl, ?_⟩; simp only [resA, res1, go_sem, ↓reduceIte]
theorem ex_Call72 (n most : Int) (strays : List (Int × Int)) (calls : List (Int × Int × Int × Int)) (c : Int × Int × Int × Int) : ∃ b, FunOK Try.prog 72 [tyR n most strays calls, .agg (row4 c)] (.one (.one (.v (.bool b)))) := by
  obtain ⟨ck, cat, clo, chi⟩ := c
  have hs := ok_span94 clo chi 0 300
  obtain ⟨b53, h53⟩ := ex_Shearer53 n most strays calls cat
  simp only [tyR] at h53
  cases hb : spanB clo chi 0 300
  · refine ⟨false, ?_⟩
    rw [hb] at hs
    refine fun_ok (nt := 20) (rs := [.tmp 4]) Try.func72 rfl rfl rfl (by simp) fun Z w0 => ?_; simp only [initFr, avR, List.map_cons, List.map_nil]
    simp only [tyR, List.map_cons, List.map_nil, row4]
    refine tw ?_; try with_reducible intro QQ hQQ
    ((refine cO 94 rfl rfl rfl (hs) Try.func94 rfl ?_); refine tu ?_; try clear hQQ QQ); refine tw ?_; try with_reducible intro QQ hQQ
    refine ti ?_; try clear hQQ QQ
    refine tw ?_; try with_reducible intro QQ hQQ
    refine aw_ret ?_; refine ⟨.inr rfl, ?_⟩; simp only [resA, res1, go_sem, ↓reduceIte]
  · rw [hb] at hs
    by_cases k0 : ck = 0
    · refine ⟨b53, ?_⟩
      refine fun_ok (nt := 20) (rs := [.tmp 4]) Try.func72 rfl rfl rfl (by simp) fun Z w0 => ?_; simp only [initFr, avR, List.map_cons, List.map_nil]
      simp only [tyR, List.map_cons, List.map_nil, row4]
      refine tw ?_; try with_reducible intro QQ hQQ
      ((refine cO 94 rfl rfl rfl (hs) Try.func94 rfl ?_); refine tu ?_; try clear hQQ QQ); refine tw ?_; try with_reducible intro QQ hQQ
      refine ti ?_; try clear hQQ QQ
      refine tw ?_; try with_reducible intro QQ hQQ
      refine ti ?_; try clear hQQ QQ
      refine tw ?_; try with_reducible intro QQ hQQ
      refine ti ?_; try clear hQQ QQ
      refine tw ?_; try with_reducible intro QQ hQQ
      ((refine cO 53 rfl rfl rfl (h53) Try.func53 rfl ?_); refine tu ?_; try clear hQQ QQ); refine tw ?_; try with_reducible intro QQ hQQ
      refine aw_ret ?_; refine ⟨.inr rfl, ?_⟩; simp only [resA, res1, go_sem, ↓reduceIte]
    · by_cases k1 : ck = 1
      · refine ⟨b53, ?_⟩
        refine fun_ok (nt := 20) (rs := [.tmp 4]) Try.func72 rfl rfl rfl (by simp) fun Z w0 => ?_; simp only [initFr, avR, List.map_cons, List.map_nil]
        simp only [tyR, List.map_cons, List.map_nil, row4]
        refine tw ?_; try with_reducible intro QQ hQQ
        ((refine cO 94 rfl rfl rfl (hs) Try.func94 rfl ?_); refine tu ?_; try clear hQQ QQ); refine tw ?_; try with_reducible intro QQ hQQ
        refine ti ?_; try clear hQQ QQ
        refine tw ?_; try with_reducible intro QQ hQQ
        refine ti ?_; try clear hQQ QQ
        refine tw ?_; try with_reducible intro QQ hQQ
        refine ti ?_; try clear hQQ QQ
        refine tw ?_; try with_reducible intro QQ hQQ
        ((refine cO 53 rfl rfl rfl (h53) Try.func53 rfl ?_); refine tu ?_; try clear hQQ QQ); refine tw ?_; try with_reducible intro QQ hQQ
        refine aw_ret ?_; refine ⟨.inr rfl, ?_⟩; simp only [resA, res1, go_sem, ↓reduceIte]
      · by_cases k2 : ck = 2
        · refine ⟨true, ?_⟩
          refine fun_ok (nt := 20) (rs := [.tmp 4]) Try.func72 rfl rfl rfl (by simp) fun Z w0 => ?_; simp only [initFr, avR, List.map_cons, List.map_nil]
          simp only [tyR, List.map_cons, List.map_nil, row4]
          refine tw ?_; try with_reducible intro QQ hQQ
          ((refine cO 94 rfl rfl rfl (hs) Try.func94 rfl ?_); refine tu ?_; try clear hQQ QQ); refine tw ?_; try with_reducible intro QQ hQQ
          refine ti ?_; try clear hQQ QQ
          refine tw ?_; try with_reducible intro QQ hQQ
          refine ti ?_; try clear hQQ QQ
          refine tw ?_; try with_reducible intro QQ hQQ
          refine ti ?_; try clear hQQ QQ
          refine tw ?_; try with_reducible intro QQ hQQ
          refine ti ?_; try clear hQQ QQ
          refine tw ?_; try with_reducible intro QQ hQQ
          refine aw_ret ?_; refine ⟨.inr rfl, ?_⟩; simp only [resA, res1, go_sem, ↓reduceIte]
        · refine ⟨false, ?_⟩
          refine fun_ok (nt := 20) (rs := [.tmp 4]) Try.func72 rfl rfl rfl (by simp) fun Z w0 => ?_; simp only [initFr, avR, List.map_cons, List.map_nil]
          simp only [tyR, List.map_cons, List.map_nil, row4]
          refine tw ?_; try with_reducible intro QQ hQQ
          ((refine cO 94 rfl rfl rfl (hs) Try.func94 rfl ?_); refine tu ?_; try clear hQQ QQ); refine tw ?_; try with_reducible intro QQ hQQ
          refine ti ?_; try clear hQQ QQ
          refine tw ?_; try with_reducible intro QQ hQQ
          refine ti ?_; try clear hQQ QQ
          refine tw ?_; try with_reducible intro QQ hQQ
          refine ti ?_; try clear hQQ QQ
          refine tw ?_; try with_reducible intro QQ hQQ
          refine ti ?_; try clear hQQ QQ
          refine tw ?_; try with_reducible intro QQ hQQ
          refine aw_ret ?_; refine ⟨.inr rfl, ?_⟩; simp only [resA, res1, go_sem, ↓reduceIte]
end
section
variable {N : Nat} {most : Int} {strays : List (Int × Int)} {calls : List (Int × Int × Int × Int)}
theorem truths_nil (h : TOK N most strays calls) {S : Nat} : truthsG N most strays calls S = [] ↔ ¬ Feas N most strays calls S := by
  constructor
  · rintro he ⟨x, y, t⟩
    obtain ⟨u, hu, _⟩ := isT_truths h t
    rw [he] at hu; cases hu
  · intro hn
    cases hL : truthsG N most strays calls S with
    | nil => rfl
    | cons u r => exact absurd ⟨_, _, truths_isT h (t := u) (by rw [hL]; exact List.mem_cons_self)⟩ hn
theorem spans_hull (h : TOK N most strays calls) (hf : Whole N most strays calls) {g : (Nat → Int) → (Nat → Int) → Int} (hg : ∀ (u : List Int × List Int) x y, (∀ i, i < N → fX u.1 i = x i) → (∀ i, i + 1 < N → fX u.2 i = y i) → g (fX u.1) (fX u.2) = g x y) {r : Int × Int} (s : Spans N most strays calls g r) :
    hullF ((numsG g (truthsG N most strays calls (2 ^ calls.length - 1))).getD 0 0) (numsG g (truthsG N most strays calls (2 ^ calls.length - 1))) = r := by
  have hne : truthsG N most strays calls (2 ^ calls.length - 1) ≠ [] := fun he => (truths_nil h).1 he hf
  obtain ⟨h1, h2, h3⟩ := hull_of (l := numsG g (truthsG N most strays calls (2 ^ calls.length - 1))) (by intro hn; exact hne (by simpa [numsG] using hn))
  obtain ⟨x, y, t, e⟩ := spans_lo hf s
  obtain ⟨x2, y2, t2, e2⟩ := spans_hi hf s
  obtain ⟨u, hu, ux, uy⟩ := isT_truths h t
  obtain ⟨u2, hu2, ux2, uy2⟩ := isT_truths h t2
  have g1 := h1 (g (fX u.1) (fX u.2)) (List.mem_map.2 ⟨u, hu, rfl⟩)
  have g2 := h1 (g (fX u2.1) (fX u2.2)) (List.mem_map.2 ⟨u2, hu2, rfl⟩)
  rw [hg u x y ux uy, e] at g1
  rw [hg u2 x2 y2 ux2 uy2, e2] at g2
  obtain ⟨v, hv, hve⟩ := List.mem_map.1 h2
  obtain ⟨v2, hv2, hve2⟩ := List.mem_map.1 h3
  have k1 := spans_in s (truths_isT h hv)
  have k2 := spans_in s (truths_isT h hv2)
  rw [hve] at k1
  rw [hve2] at k2
  generalize hullF ((numsG g (truthsG N most strays calls (2 ^ calls.length - 1))).getD 0 0) (numsG g (truthsG N most strays calls (2 ^ calls.length - 1))) = R at *
  obtain ⟨r1, r2⟩ := R
  obtain ⟨r3, r4⟩ := r
  dsimp only at *
  rw [show r1 = r3 by omega, show r2 = r4 by omega]
theorem told_clash (h : TOK N most strays calls) (w : Ways N most strays) (hf : ¬ Whole N most strays calls) : FunOK Try.prog 52 [tyR N most strays calls, .one (.v (.bool true))] (.tup [.one (.sl []), .one (iP 10)]) := by
  have := told_ok h w
  rw [(truths_nil h).2 hf] at this
  exact this
theorem told_whole (h : TOK N most strays calls) (w : Ways N most strays) (hf : Whole N most strays calls) : FunOK Try.prog 52 [tyR N most strays calls, .one (.v (.bool true))] (.tup [.one (.sl ((truthsG N most strays calls (2 ^ calls.length - 1)).map rowT)), .one (iP 0)]) := by
  have := told_ok h w
  rw [if_neg fun he => (truths_nil h).1 he hf] at this
  exact this
theorem truths_len (w : Ways N most strays) (S : Nat) : (truthsG N most strays calls S).length ≤ 100000 := Nat.le_trans (List.length_filter_le _ _) (all_len w)
theorem truths_good (h : TOK N most strays calls) (S : Nat) : ∀ t ∈ truthsG N most strays calls S, GoodT N t := fun t ht => allG_good h (List.mem_filter.1 ht).1
theorem bool_t {p : Prop} {b : Bool} (hb : b = true ↔ p) (hp : ¬ p) : b = false := by cases b with
  | false => rfl
  | true => exact absurd (hb.1 rfl) hp
/-- What both answer. -/
theorem same_Shorn (h : TOK N most strays calls) (w : Ways N most strays) (i : Int) : ∃ r1 r2 e, FunOK Try.prog 14 [tyR N most strays calls, .one (iP i)] (.tup [.agg [iP r1, iP r2], .one (iP e)]) ∧ FunOK Try.prog 15 [tyR N most strays calls, .one (iP i)] (.tup [.agg [iP r1, iP r2], .one (iP e)]) := by
  have n5 := h.n5
  have hV := ok_Shearer53 (n := N) (most := most) (strays := strays) (calls := calls) i (by omega)
  cases hb : inB i 0 ((N : Int) - 1)
  · rw [hb] at hV
    exact ⟨0, 0, 2, r_Shorn h hb, r15_err hV (told_ran h) (by decide)⟩
  · rw [hb] at hV
    have hi := inB_iff.1 hb
    obtain ⟨k, rfl⟩ : ∃ k : Nat, i = k := ⟨i.toNat, by omega⟩
    have hk : k < N := by omega
    by_cases hf : Whole N most strays calls
    · obtain ⟨r, q, s⟩ := c_Shorn h hf hk
      have := r15_ok hk n5 hV (told_whole h w hf) (fun he => (truths_nil h).1 he hf) (truths_len w _) (truths_good h _)
      rw [spans_hull h hf (fun u x y hx hy => hx k hk) s] at this
      exact ⟨_, _, _, q, this⟩
    · exact ⟨0, 0, 10, x_Shorn h hf hk, r15_err hV (told_clash h w hf) (by decide)⟩
theorem pen_congr {u : List Int × List Int} {x y : Nat → Int} (hx : ∀ i, i < N → fX u.1 i = x i) (hy : ∀ i, i + 1 < N → fX u.2 i = y i) {p : Nat} (hp : p < N) : penT N (fX u.1) (fX u.2) p = penT N x y p := by
  unfold penT
  rw [hx p hp]
  by_cases h0 : p = 0
  · rw [if_pos h0, if_pos h0]
    by_cases h1 : p + 1 = N
    · rw [if_pos h1, if_pos h1]
    · rw [if_neg h1, if_neg h1, hy p (by omega)]
  · rw [if_neg h0, if_neg h0, hy (p - 1) (by omega)]
    by_cases h1 : p + 1 = N
    · rw [if_pos h1, if_pos h1]
    · rw [if_neg h1, if_neg h1, hy p (by omega)]
theorem sum_congrG {f g : Nat → Int} : ∀ {k}, (∀ i, i < k → f i = g i) → sumT f k = sumT g k
  | 0, _ => rfl
  | k + 1, h => by rw [sum_step, sum_step, sum_congrG (k := k) fun i hi => h i (by omega), h k (by omega)]
theorem cnt_congr {u : List Int × List Int} {x y : Nat → Int} (hx : ∀ i, i < N → fX u.1 i = x i) (hy : ∀ i, i + 1 < N → fX u.2 i = y i) {c : Int × Int × Int × Int} (hc : isCallB N c = true) : cntT N (fX u.1) (fX u.2) c = cntT N x y c := by
  have hcc := (call_of hc).1
  unfold cntT
  rcases hcc with k2 | ⟨k0 | k1, h3⟩
  · rw [if_neg (by omega), if_neg (by omega), if_neg (by omega), if_neg (by omega), sum_congrG hx]
  · rw [if_pos k0, if_pos k0, hx _ (by omega)]
  · rw [if_neg (by omega), if_pos k1, if_neg (by omega), if_pos k1, pen_congr hx hy (by omega)]
theorem same_Pen (h : TOK N most strays calls) (w : Ways N most strays) (i : Int) : ∃ r1 r2 e, FunOK Try.prog 16 [tyR N most strays calls, .one (iP i)] (.tup [.agg [iP r1, iP r2], .one (iP e)]) ∧ FunOK Try.prog 17 [tyR N most strays calls, .one (iP i)] (.tup [.agg [iP r1, iP r2], .one (iP e)]) := by
  have n5 := h.n5
  have hV := ok_Shearer53 (n := N) (most := most) (strays := strays) (calls := calls) i (by omega)
  cases hb : inB i 0 ((N : Int) - 1)
  · rw [hb] at hV
    exact ⟨0, 0, 2, r_Pen h hb, r17_err hV (told_ran h) (by decide)⟩
  · rw [hb] at hV
    have hi := inB_iff.1 hb
    obtain ⟨k, rfl⟩ : ∃ k : Nat, i = k := ⟨i.toNat, by omega⟩
    have hk : k < N := by omega
    by_cases hf : Whole N most strays calls
    · obtain ⟨r, q, s⟩ := c_Pen h hf hk
      have := r17_ok hk n5 hV (told_whole h w hf) (fun he => (truths_nil h).1 he hf) (truths_len w _) (truths_good h _)
      rw [spans_hull h hf (fun u x y hx hy => pen_congr hx hy hk) s] at this
      exact ⟨_, _, _, q, this⟩
    · exact ⟨0, 0, 10, x_Pen h hf hk, r17_err hV (told_clash h w hf) (by decide)⟩
theorem same_Stray (h : TOK N most strays calls) (w : Ways N most strays) (i : Int) : ∃ r1 r2 e, FunOK Try.prog 18 [tyR N most strays calls, .one (iP i)] (.tup [.agg [iP r1, iP r2], .one (iP e)]) ∧ FunOK Try.prog 19 [tyR N most strays calls, .one (iP i)] (.tup [.agg [iP r1, iP r2], .one (iP e)]) := by
  have n5 := h.n5
  have hV := ok_Strays64 (n := N) (most := most) (strays := strays) (calls := calls) i (by omega)
  cases hb : inB i 0 ((N : Int) - 2)
  · rw [hb] at hV
    exact ⟨0, 0, 2, r_Stray h hb, r19_err hV (told_ran h) (by decide)⟩
  · rw [hb] at hV
    have hi := inB_iff.1 hb
    obtain ⟨k, rfl⟩ : ∃ k : Nat, i = k := ⟨i.toNat, by omega⟩
    have hk : k + 1 < N := by omega
    by_cases hf : Whole N most strays calls
    · obtain ⟨r, q, s⟩ := c_Stray h hf hk
      have := r19_ok hk n5 hV (told_whole h w hf) (fun he => (truths_nil h).1 he hf) (truths_len w _) (truths_good h _)
      rw [spans_hull h hf (fun u x y hx hy => hy k hk) s] at this
      exact ⟨_, _, _, q, this⟩
    · exact ⟨0, 0, 10, x_Stray h hf hk, r19_err hV (told_clash h w hf) (by decide)⟩
theorem same_Together (h : TOK N most strays calls) (w : Ways N most strays) (i j : Int) : ∃ r1 r2 e, FunOK Try.prog 20 [tyR N most strays calls, .one (iP i), .one (iP j)] (.tup [.agg [iP r1, iP r2], .one (iP e)]) ∧ FunOK Try.prog 21 [tyR N most strays calls, .one (iP i), .one (iP j)] (.tup [.agg [iP r1, iP r2], .one (iP e)]) := by
  have n5 := h.n5
  have hV1 := ok_Shearer53 (n := N) (most := most) (strays := strays) (calls := calls) i (by omega)
  have hV2 := ok_Shearer53 (n := N) (most := most) (strays := strays) (calls := calls) j (by omega)
  have ht : togB (N : Int) i j = orderB (inB i 0 ((N : Int) - 1)) (inB j 0 ((N : Int) - 1)) i j := rfl
  cases hb : togB (N : Int) i j
  · have hT := told_ran h
    rw [show false = orderB (inB i 0 ((N : Int) - 1)) (inB j 0 ((N : Int) - 1)) i j by rw [← ht, hb]] at hT
    exact ⟨0, 0, 2, r_Together h hb, r21d_err hV1 hV2 hT (by decide)⟩
  · rw [ht] at hb
    have hb0 := hb
    unfold orderB at hb
    simp only [Bool.and_eq_true, decide_eq_true_eq] at hb
    obtain ⟨⟨b1, b2⟩, b3⟩ := hb
    have hi := inB_iff.1 b1
    have hj := inB_iff.1 b2
    obtain ⟨a, rfl⟩ : ∃ k : Nat, i = k := ⟨i.toNat, by omega⟩
    obtain ⟨b, rfl⟩ : ∃ k : Nat, j = k := ⟨j.toNat, by omega⟩
    by_cases hf : Whole N most strays calls
    · rw [b1] at hV1
      rw [b2] at hV2
      obtain ⟨r, q, s⟩ := c_Together h hf (i := a) (j := b) (by omega) (by omega)
      have := r21d_ok (N := N) (i := a) (j := b) (by omega) (by omega) n5 hV1 hV2 (told_whole h w hf) (fun he => (truths_nil h).1 he hf) (truths_len w _) (truths_good h _)
      rw [spans_hull h hf (fun u x y hx hy => by
        rw [sum_congrG (f := fX u.1) (g := x) fun k hk => hx k (by omega), sum_congrG (f := fX u.1) (g := x) (k := a) fun k hk => hx k (by omega)]) s] at this
      exact ⟨_, _, _, q, this⟩
    · have hT := told_clash h w hf
      rw [show true = orderB (inB (a : Int) 0 ((N : Int) - 1)) (inB (b : Int) 0 ((N : Int) - 1)) a b from hb0.symm] at hT
      exact ⟨0, 0, 10, x_Together h hf (by omega) (by omega), r21d_err hV1 hV2 hT (by decide)⟩
theorem same_Fits (h : TOK N most strays calls) (w : Ways N most strays) (c : Int × Int × Int × Int) : ∃ r e, FunOK Try.prog 22 [tyR N most strays calls, .agg (row4 c)] (.tup [.one (iP r), .one (iP e)]) ∧ FunOK Try.prog 23 [tyR N most strays calls, .agg (row4 c)] (.tup [.one (iP r), .one (iP e)]) := by
  have n1 := h.n1
  have n5 := h.n5
  have hV := ok_Call72 (n := N) (most := most) (strays := strays) (calls := calls) c (by omega)
  cases hb : isCallB N c
  · rw [hb] at hV
    exact ⟨0, 2, r_Fits h hb, r23d_err hV (told_ran h) (by decide)⟩
  · rw [hb] at hV
    by_cases hf : Whole N most strays calls
    · obtain ⟨r, q, s⟩ := c_Fits h hf hb
      have hne : truthsG N most strays calls (2 ^ calls.length - 1) ≠ [] := fun he => (truths_nil h).1 he hf
      have h23 := r23d_ok n1 n5 hb hV (told_whole h w hf) hne (truths_len w _) (truths_good h _)
      have hcl : c.2.2.1 ≤ c.2.2.2 := (call_of hb).2.2.1
      have key : (if cntP (fun t => inB (cntG N t c) c.2.2.1 c.2.2.2) (truthsG N most strays calls (2 ^ calls.length - 1)) = (truthsG N most strays calls (2 ^ calls.length - 1)).length then (2 : Int) else if cntP (fun t => inB (cntG N t c) c.2.2.1 c.2.2.2) (truthsG N most strays calls (2 ^ calls.length - 1)) = 0 then 0 else 1) = fitsV c r.1 r.2 := by
        have rl := spans_le hf s
        have hall : cntP (fun t => inB (cntG N t c) c.2.2.1 c.2.2.2) (truthsG N most strays calls (2 ^ calls.length - 1)) = (truthsG N most strays calls (2 ^ calls.length - 1)).length ↔ (c.2.2.1 ≤ r.1 ∧ r.2 ≤ c.2.2.2) := by
          unfold cntP
          rw [List.length_filter_eq_length_iff]
          constructor
          · intro ha
            obtain ⟨x, y, t, e⟩ := spans_lo hf s
            obtain ⟨x2, y2, t2, e2⟩ := spans_hi hf s
            obtain ⟨u, hu, ux, uy⟩ := isT_truths h t
            obtain ⟨u2, hu2, ux2, uy2⟩ := isT_truths h t2
            have a1 := inB_iff.1 (ha u hu)
            have a2 := inB_iff.1 (ha u2 hu2)
            unfold cntG at a1 a2
            rw [cnt_congr ux uy hb] at a1
            rw [cnt_congr ux2 uy2 hb] at a2
            try dsimp only at e e2
            omega
          · intro ha u hu
            have := spans_in s (truths_isT h hu)
            exact inB_iff.2 ⟨Int.le_trans ha.1 this.1, Int.le_trans this.2 ha.2⟩
        have hzero : cntP (fun t => inB (cntG N t c) c.2.2.1 c.2.2.2) (truthsG N most strays calls (2 ^ calls.length - 1)) = 0 ↔ (r.2 < c.2.2.1 ∨ r.1 > c.2.2.2) := by
          unfold cntP
          rw [List.length_eq_zero_iff, List.filter_eq_nil_iff]
          constructor
          · intro ha
            apply Classical.byContradiction
            intro hn
            obtain ⟨d, hd1, hd2, hd3, hd4⟩ : ∃ d, r.1 ≤ d ∧ d ≤ r.2 ∧ c.2.2.1 ≤ d ∧ d ≤ c.2.2.2 := ⟨max r.1 c.2.2.1, by omega, by omega, by omega, by omega⟩
            obtain ⟨x, y, t, e⟩ := (s d).1 ⟨hd1, hd2⟩
            obtain ⟨u, hu, ux, uy⟩ := isT_truths h t
            refine ha u hu (inB_iff.2 ?_)
            unfold cntG
            rw [cnt_congr ux uy hb]
            try dsimp only at e
            rw [e]; exact ⟨hd3, hd4⟩
          · intro ha u hu hc
            have h1 := spans_in s (truths_isT h hu)
            have h2 := inB_iff.1 hc
            unfold cntG at h2
            try dsimp only at h1
            omega
        unfold fitsV
        by_cases h1 : c.2.2.1 ≤ r.1 ∧ r.2 ≤ c.2.2.2
        · rw [if_pos (hall.2 h1), if_pos h1]
        · rw [if_neg fun hh => h1 (hall.1 hh), if_neg h1]
          by_cases h2 : r.2 < c.2.2.1 ∨ r.1 > c.2.2.2
          · rw [if_pos (hzero.2 h2), if_pos h2]
          · rw [if_neg fun hh => h2 (hzero.1 hh), if_neg h2]
      rw [key] at h23
      exact ⟨_, _, q, h23⟩
    · exact ⟨0, 10, x_Fits h hf hb, r23d_err hV (told_clash h w hf) (by decide)⟩
end
end Go.Proofs.Ytejbglbiefpagaa
