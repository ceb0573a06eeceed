/- tally, the law: the document's examples. -/
import Derived.Test.YtejbglbiefpagaaTvX
set_option linter.all false
namespace Go.Proofs.Ytejbglbiefpagaa
open Go Go.RowKit Go.Sh Go.Pv
set_option maxHeartbeats 4000000
set_option maxRecDepth 8000
theorem ok_span31 (a b : Int) : FunOK Try.prog 31 [.one (iP a), .one (iP b)] (.one (.agg [iP a, iP b])) := by
  refine fun_ok (nt := 8) (rs := [.cell 4 27]) Try.func31 rfl rfl rfl (by simp) fun Z w0 => ?_; simp only [initFr, avR, List.map_cons, List.map_nil]
  refine tw ?_; try with_reducible intro QQ hQQ
  refine aw_ret ?_; refine ⟨.inr rfl, ?_⟩; simp only [resA, res1, go_sem, ↓reduceIte]
theorem ok_call33 (a b c d : Int) : FunOK Try.prog 33 [.one (iP a), .one (iP b), .one (iP c), .one (iP d)] (.one (.agg [iP a, iP b, iP c, iP d])) := by
  refine fun_ok (nt := 15) (rs := [.cell 8 29]) Try.func33 rfl rfl rfl (by simp) fun Z w0 => ?_; simp only [initFr, avR, List.map_cons, List.map_nil]
  have h := ok_span31 c d
  refine tw ?_; try with_reducible intro QQ hQQ
  ((refine cO 31 rfl rfl rfl (h) Try.func31 rfl ?_); refine tu ?_; try clear hQQ QQ); refine tw ?_; try with_reducible intro QQ hQQ
  refine aw_ret ?_; refine ⟨.inr rfl, ?_⟩; simp only [resA, res1, go_sem, ↓reduceIte]
theorem rowsK_4 (l : List (Int × Int × Int × Int)) : rowsK 4 (l.map row4) := by
  intro i row h
  rw [List.getElem?_map] at h
  obtain ⟨x, _, rfl⟩ := Option.map_eq_some_iff.1 h
  rfl
theorem ok_sample (l : List (Int × Int × Int × Int)) (hl : l.length ≤ 40) : FunOK Try.prog 30 [.one (.sl (l.map row4))] (.one (tyR 3 10 strS (clA ++ l))) := by
  refine fun_ok (nt := 14) (rs := [.cell 2 25]) Try.func30 rfl rfl rfl (by simp) fun Z w0 => ?_; simp only [initFr, avR, List.map_cons, List.map_nil]
  have hr := rowsK_4 l
  have hb : (4 + l.length) * 32 ≤ 140737488355328 := by omega
  simp only [tyR]
  have h1 := ok_span31 0 1
  have h2 := ok_span31 (-1) 0
  have h3 := ok_call33 0 0 6 6
  have h4 := ok_call33 1 0 5 5
  have h5 := ok_call33 0 2 4 5
  have h6 := ok_call33 2 0 15 16
  (repeat (first | apply aw_seq | apply aw_block | apply aw_skip | apply aw_label | apply aw_exit | ((first | refine aw_region (hideO fun QQ hQQ => ?_) | refine aw_draw mixed (hideD fun QQ hQQ => ?_)); simp (maxSteps := 400000) (disch := first | decide | omega) only [hr, hb, if_pos, go_sem, ↓reduceIte]; try (first | with_reducible refine unhide hQQ ?_ | refine ⟨by kernel_rfl, unhide hQQ ?_⟩); clear hQQ QQ) | with_reducible first | apply then_n | apply block_n | apply then_x | apply then_r | apply nog_n | apply nog_r | apply block_r | apply block_e (by decide) | apply block_x (by decide)))
  (refine callO_ok rfl rfl 31 true rfl (by simp (disch := first | decide | omega) only [hr, hb, if_pos, go_sem, ↓reduceIte]; try rfl) (fun _ => rfl) (h1) Try.func31 rfl (by decide) ?_); simp (maxSteps := 400000) (disch := first | decide | omega) only [hr, hb, if_pos, go_sem, ↓reduceIte]; (try (with_reducible refine unhide hQQ ?_; clear hQQ QQ; (repeat with_reducible first | apply then_n | apply block_n | apply then_x | apply then_r | apply nog_n | apply nog_r | apply block_r | apply block_e (by decide) | apply block_x (by decide))))
  (refine callO_ok rfl rfl 31 true rfl (by simp (disch := first | decide | omega) only [hr, hb, if_pos, go_sem, ↓reduceIte]; try rfl) (fun _ => rfl) (h2) Try.func31 rfl (by decide) ?_); simp (maxSteps := 400000) (disch := first | decide | omega) only [hr, hb, if_pos, go_sem, ↓reduceIte]; (try (with_reducible refine unhide hQQ ?_; clear hQQ QQ; (repeat with_reducible first | apply then_n | apply block_n | apply then_x | apply then_r | apply nog_n | apply nog_r | apply block_r | apply block_e (by decide) | apply block_x (by decide))))
  (refine callO_ok rfl rfl 33 true rfl (by simp (disch := first | decide | omega) only [hr, hb, if_pos, go_sem, ↓reduceIte]; try rfl) (fun _ => rfl) (h3) Try.func33 rfl (by decide) ?_); simp (maxSteps := 400000) (disch := first | decide | omega) only [hr, hb, if_pos, go_sem, ↓reduceIte]; (try (with_reducible refine unhide hQQ ?_; clear hQQ QQ; (repeat with_reducible first | apply then_n | apply block_n | apply then_x | apply then_r | apply nog_n | apply nog_r | apply block_r | apply block_e (by decide) | apply block_x (by decide))))
  (refine callO_ok rfl rfl 33 true rfl (by simp (disch := first | decide | omega) only [hr, hb, if_pos, go_sem, ↓reduceIte]; try rfl) (fun _ => rfl) (h4) Try.func33 rfl (by decide) ?_); simp (maxSteps := 400000) (disch := first | decide | omega) only [hr, hb, if_pos, go_sem, ↓reduceIte]; (try (with_reducible refine unhide hQQ ?_; clear hQQ QQ; (repeat with_reducible first | apply then_n | apply block_n | apply then_x | apply then_r | apply nog_n | apply nog_r | apply block_r | apply block_e (by decide) | apply block_x (by decide))))
  (refine callO_ok rfl rfl 33 true rfl (by simp (disch := first | decide | omega) only [hr, hb, if_pos, go_sem, ↓reduceIte]; try rfl) (fun _ => rfl) (h5) Try.func33 rfl (by decide) ?_); simp (maxSteps := 400000) (disch := first | decide | omega) only [hr, hb, if_pos, go_sem, ↓reduceIte]; (try (with_reducible refine unhide hQQ ?_; clear hQQ QQ; (repeat with_reducible first | apply then_n | apply block_n | apply then_x | apply then_r | apply nog_n | apply nog_r | apply block_r | apply block_e (by decide) | apply block_x (by decide))))
  ((refine callO_ok rfl rfl 33 true rfl (by simp (disch := first | decide | omega) only [hr, hb, if_pos, go_sem, ↓reduceIte]; try rfl) (fun _ => rfl) (h6) Try.func33 rfl (by decide) ?_); simp (maxSteps := 400000) (disch := first | decide | omega) only [hr, hb, if_pos, go_sem, ↓reduceIte]; try (with_reducible refine unhide hQQ ?_; clear hQQ QQ)); (repeat (first | apply aw_seq | apply aw_block | apply aw_skip | apply aw_label | apply aw_exit | ((first | refine aw_region (hideO fun QQ hQQ => ?_) | refine aw_draw mixed (hideD fun QQ hQQ => ?_)); simp (maxSteps := 400000) (disch := first | decide | omega) only [hr, hb, if_pos, go_sem, ↓reduceIte]; try (first | with_reducible refine unhide hQQ ?_ | refine ⟨by kernel_rfl, unhide hQQ ?_⟩); clear hQQ QQ) | with_reducible first | apply then_n | apply block_n | apply then_x | apply then_r | apply nog_n | apply nog_r | apply block_r | apply block_e (by decide) | apply block_x (by decide)))
  refine aw_ret ?_; refine ⟨.inr rfl, ?_⟩; simp only [resA, res1, go_sem, ↓reduceIte]
  simp only [or_self, if_true, Option.map_some]
  rw [List.take_of_length_le (by simp; omega)]
  simp only [clA, List.cons_append, List.nil_append, List.map_cons, row4, strS, List.map_nil, row2]
theorem ok_second : FunOK Try.prog 32 [] (.one (tyR 3 10 strS clB)) := by
  refine fun_ok (nt := 4) (rs := [.cell 0 25]) Try.func32 rfl rfl rfl (by simp) fun Z w0 => ?_; simp only [initFr, avR, List.map_cons, List.map_nil]
  have h1 := ok_call33 1 2 3 3
  have h2 := ok_sample [(1, 2, 3, 3)] (by decide)
  simp only [tyR, clA, List.cons_append, List.nil_append, List.map_cons, List.map_nil, row4, row2] at h2
  refine tw ?_; try with_reducible intro QQ hQQ
  (refine cO 33 rfl rfl rfl (h1) Try.func33 rfl ?_); refine ts ?_; try clear hQQ QQ
  ((refine cB 30 rfl rfl rfl (h2) Try.func30 rfl ?_); refine tu ?_; try clear hQQ QQ); refine tw ?_; try with_reducible intro QQ hQQ
  refine aw_ret ?_; refine ⟨.inr rfl, ?_⟩; simp only [resA, res1, go_sem, ↓reduceIte]
  rfl
theorem ok_clash34 : FunOK Try.prog 34 [] (.one (tyR 3 10 strS clD)) := by
  refine fun_ok (nt := 5) (rs := [.cell 0 25]) Try.func34 rfl rfl rfl (by simp) fun Z w0 => ?_; simp only [initFr, avR, List.map_cons, List.map_nil]
  have h1 := ok_call33 1 2 3 3
  have h3 := ok_call33 0 1 8 8
  have h2 := ok_sample [(1, 2, 3, 3), (0, 1, 8, 8)] (by decide)
  simp only [tyR, clA, List.cons_append, List.nil_append, List.map_cons, List.map_nil, row4, row2] at h2
  refine tw ?_; try with_reducible intro QQ hQQ
  (refine cO 33 rfl rfl rfl (h1) Try.func33 rfl ?_); refine ts ?_; try clear hQQ QQ
  (refine cO 33 rfl rfl rfl (h3) Try.func33 rfl ?_); refine ts ?_; try clear hQQ QQ
  ((refine cB 30 rfl rfl rfl (h2) Try.func30 rfl ?_); refine tu ?_; try clear hQQ QQ); refine tw ?_; try with_reducible intro QQ hQQ
  refine aw_ret ?_; refine ⟨.inr rfl, ?_⟩; simp only [resA, res1, go_sem, ↓reduceIte]
  rfl
end Go.Proofs.Ytejbglbiefpagaa
