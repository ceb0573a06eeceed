/- tally: without which calls there is a truth; which are suspected; which clash. -/
import Derived.Test.YtejbglbiefpagaaTvS
import Derived.Test.YtejbglbiefpagaaTvI
set_option linter.all false
namespace Go.Proofs.Ytejbglbiefpagaa
open Go Go.RowKit Go.Sh Go.Pv
set_option maxHeartbeats 8000000
set_option maxRecDepth 8000
attribute [local go_sem] conv104_3 uP
theorem sets_lt {k x : Nat} (h : x ∈ setsL k) : x < 2 ^ k := by
  unfold setsL at h
  obtain ⟨c, _, hx⟩ := List.mem_flatMap.1 h
  exact List.mem_range.1 (List.mem_filter.1 hx).1
theorem sets_len (k : Nat) (h : k ≤ 8) : (setsL k).length ≤ 1000 := by
  rcases (show k = 0 ∨ k = 1 ∨ k = 2 ∨ k = 3 ∨ k = 4 ∨ k = 5 ∨ k = 6 ∨ k = 7 ∨ k = 8 by omega) with rfl | rfl | rfl | rfl | rfl | rfl | rfl | rfl | rfl <;> decide +kernel
theorem getD_mem {L : List Nat} {i : Nat} (h : i < L.length) : L.getD i 0 ∈ L := by
  rw [List.getD_eq_getElem?_getD, List.getElem?_eq_getElem h]
  exact List.getElem_mem h
theorem sets_at {k i : Nat} (hk : k ≤ 8) (h : i < (setsL k).length) : (setsL k).getD i 0 < 256 :=
  Nat.lt_of_lt_of_le (sets_lt (getD_mem h)) (show 2 ^ k ≤ 2 ^ 8 from Nat.pow_le_pow_right (by decide) hk)
section
variable {N : Nat} {most : Int} {strays : List (Int × Int)} {calls : List (Int × Int × Int × Int)}
/-- Is there a truth without a set of calls? By the calls of a set alone? -/
def pW (N : Nat) (most : Int) (strays : List (Int × Int)) (calls : List (Int × Int × Int × Int)) (set : Nat) : Bool := canB (tabF N most strays calls (diffN (2 ^ calls.length - 1) set)) 11
def pC (N : Nat) (most : Int) (strays : List (Int × Int)) (calls : List (Int × Int × Int × Int)) (set : Nat) : Bool := !canB (tabF N most strays calls set) 11
theorem every8 (h : TOK N most strays calls) : 2 ^ calls.length - 1 < 256 := by
  have hp2 : 2 ^ calls.length ≤ 2 ^ 8 := Nat.pow_le_pow_right (by decide) h.cl
  have := Nat.one_le_two_pow (n := calls.length)
  omega
theorem s_is99 (h : TOK N most strays calls) (set : Nat) (hs : set < 256) : FunS Try.prog 99 [.one (.p (uP set)), .one (.box 2 0)] (ydH2 N most strays calls (keepI (tabF N most strays calls)) Try.prog) 3 (.one (.one (.v (.bool (pW N most strays calls set))))) := by
  have hev := ok_every N most strays calls h.cl
  have he8 := every8 h
  have hd8 := diffN_le (2 ^ calls.length - 1) set
  have hst := s_table h (diffN (2 ^ calls.length - 1) set) (by omega)
  have hcan := ok_can (tabF N most strays calls (diffN (2 ^ calls.length - 1) set))
  simp only [ydP, uP] at hev hst
  unfold pW
  generalize (2 ^ calls.length - 1) = E at *
  have hand : ∀ (P : Program) (T : TypeId) (x y : Operand), binA P .andNot T x y (.int .u64 (E : Int)) (.int .u64 (set : Int)) = some (.int .u64 ((diffN E set : Nat) : Int)) := fun P T x y => binu_andNot T x y (by omega) (by omega)
  unfold ydH2 ydC
  refine funS_ok (nt := 11) (rs := [.tmp 3]) Try.func99 rfl rfl rfl (by simp) fun Z w0 cap pan dk tm => ?_; simp only [initV, pins, pinOf, List.map_cons, List.map_nil]
  (repeat (first | apply aw_seq | apply aw_block | apply aw_skip | apply aw_label | apply aw_exit | ((first | refine aw_region (hideO fun QQ hQQ => ?_) | refine aw_draw mixed (hideD fun QQ hQQ => ?_)); simp (maxSteps := 400000) (disch := first | decide | omega) only [hand, go_sem, ↓reduceIte]; try (first | with_reducible refine unhide hQQ ?_ | refine ⟨by kernel_rfl, unhide hQQ ?_⟩); clear hQQ QQ) | with_reducible first | apply then_n | apply block_n | apply then_x | apply then_r | apply nog_n | apply nog_r | apply block_r | apply block_e (by decide) | apply block_x (by decide)))
  (refine callD_ok rfl rfl 84 true rfl (by simp (disch := first | decide | omega) only [hand, go_sem, ↓reduceIte]; try rfl) (fun _ => rfl) (hev) Try.func84 rfl (by decide) ?_); simp (maxSteps := 400000) (disch := first | decide | omega) only [hand, go_sem, ↓reduceIte]; (try (refine ⟨by kernel_rfl, unhide hQQ ?_⟩; clear hQQ QQ; (repeat with_reducible first | apply then_n | apply block_n | apply then_x | apply then_r | apply nog_n | apply nog_r | apply block_r | apply block_e (by decide) | apply block_x (by decide))))
  (refine callD_S [0, 1] (hst) rfl rfl (by simp (disch := first | decide | omega) only [hand, go_sem, ↓reduceIte]; try rfl) (by simp (disch := first | decide | omega) only [hand, go_sem, ↓reduceIte]; try rfl) Try.func83 rfl (by decide) (by rfl) (by repeat' (first | trivial | apply And.intro | (simp (disch := first | decide | omega) only [hand, go_sem, ↓reduceIte]; first | done | rfl))) (by decide) (by decide) (by first | rfl | (simp (disch := first | decide | omega) only [hand, go_sem, ↓reduceIte]; try rfl)) ?_); simp (maxSteps := 400000) (disch := first | decide | omega) only [hand, go_sem, ↓reduceIte]; (try (refine ⟨by kernel_rfl, unhide hQQ ?_⟩; clear hQQ QQ; (repeat with_reducible first | apply then_n | apply block_n | apply then_x | apply then_r | apply nog_n | apply nog_r | apply block_r | apply block_e (by decide) | apply block_x (by decide))))
  (refine callD_ok rfl rfl 85 true rfl (by simp (disch := first | decide | omega) only [hand, go_sem, ↓reduceIte]; try rfl) (fun _ => rfl) (hcan) Try.func85 rfl (by decide) ?_); simp (maxSteps := 400000) (disch := first | decide | omega) only [hand, go_sem, ↓reduceIte]; (try (refine ⟨by kernel_rfl, unhide hQQ ?_⟩; clear hQQ QQ; (repeat with_reducible first | apply then_n | apply block_n | apply then_x | apply then_r | apply nog_n | apply nog_r | apply block_r | apply block_e (by decide) | apply block_x (by decide))))
  (repeat (first | apply aw_seq | apply aw_block | apply aw_skip | apply aw_label | apply aw_exit | ((first | refine aw_region (hideO fun QQ hQQ => ?_) | refine aw_draw mixed (hideD fun QQ hQQ => ?_)); simp (maxSteps := 400000) (disch := first | decide | omega) only [hand, go_sem, ↓reduceIte]; try (first | with_reducible refine unhide hQQ ?_ | refine ⟨by kernel_rfl, unhide hQQ ?_⟩); clear hQQ QQ) | with_reducible first | apply then_n | apply block_n | apply then_x | apply then_r | apply nog_n | apply nog_r | apply block_r | apply block_e (by decide) | apply block_x (by decide)))
  (refine aw_ret ⟨.inr rfl, (by simp (maxSteps := 400000) (disch := first | decide | omega) only [hand, go_sem, ↓reduceIte]; try rfl), (by simp (maxSteps := 400000) (disch := first | decide | omega) only [hand, go_sem, ↓reduceIte]; try rfl), (by simp only [List.mem_cons, List.mem_nil_iff, forall_eq_or_imp, forall_eq, false_imp_iff, implies_true, or_false, and_true]; simp (maxSteps := 400000) (disch := first | decide | omega) only [hand, go_sem, ↓reduceIte]; try exact ⟨rfl, rfl⟩)⟩)
theorem s_is90 (h : TOK N most strays calls) (set : Nat) (hs : set < 256) : FunS Try.prog 90 [.one (.p (uP set)), .one (.box 2 0)] (ydH2 N most strays calls (keepI (tabF N most strays calls)) Try.prog) 3 (.one (.one (.v (.bool (pC N most strays calls set))))) := by
  have hst := s_table h set (by omega)
  have hcan := ok_can (tabF N most strays calls set)
  simp only [uP] at hst
  unfold pC
  unfold ydH2 ydC
  refine funS_ok (nt := 9) (rs := [.tmp 3]) Try.func90 rfl rfl rfl (by simp) fun Z w0 cap pan dk tm => ?_; simp only [initV, pins, pinOf, List.map_cons, List.map_nil]
  refine tw ?_; try with_reducible intro QQ hQQ
  (refine callO_S [0, 1] (hst) rfl rfl (by simp (disch := first | decide | omega) only [go_sem, ↓reduceIte]; try rfl) (by simp (disch := first | decide | omega) only [go_sem, ↓reduceIte]; try rfl) Try.func83 rfl (by decide) (by rfl) (by repeat' (first | trivial | apply And.intro | (simp (disch := first | decide | omega) only [go_sem, ↓reduceIte]; first | done | rfl))) (by decide) (by decide) (by first | rfl | (simp (disch := first | decide | omega) only [go_sem, ↓reduceIte]; try rfl)) ?_); refine ts ?_; try clear hQQ QQ
  ((refine cO 85 rfl rfl rfl (hcan) Try.func85 rfl ?_); refine tu ?_; try clear hQQ QQ); refine tw ?_; try with_reducible intro QQ hQQ
  (refine aw_ret ⟨.inr rfl, (by simp (maxSteps := 400000) (disch := first | decide | omega) only [go_sem, ↓reduceIte]; try rfl), (by simp (maxSteps := 400000) (disch := first | decide | omega) only [go_sem, ↓reduceIte]; try rfl), (by simp only [List.mem_cons, List.mem_nil_iff, forall_eq_or_imp, forall_eq, false_imp_iff, implies_true, or_false, and_true]; simp (maxSteps := 400000) (disch := first | decide | omega) only [go_sem, ↓reduceIte]; try exact ⟨rfl, rfl⟩)⟩)
theorem s_first {n : Int} {F : Nat → Nat → Nat → Int} {g : FuncId} {gn : Func} (hg : Try.prog.funcs[g]? = some gn) (hgb : gn.body.isSome = true) (hgn : gn.name ≠ "runtime.NumGoroutine") {L : List Nat} {p : Nat → Bool} (hL : L.length ≤ 1000) (hS : AskS g n most strays calls F L p) (e : Int)
    {i : Nat} (hi : i < L.length) (hidx : idxB p L = i) : FunS Try.prog 89 [.one (.p (.sl (L.map rowU))), .agg [.fn g [.box 2]], .one (.p (iP e))] (ydH2 n most strays calls (keepI F) Try.prog) 3 (.one (.one (uP (L.getD i 0)))) := by
  have hin := s_index hg hgb hgn hL hS
  rw [hidx] at hin
  unfold ydH2 ydC
  refine funS_ok (nt := 20) (rs := [.tmp 6]) Try.func89 rfl rfl rfl (by simp) fun Z w0 cap pan dk tm => ?_; simp only [initV, pins, pinOf, List.map_cons, List.map_nil]
  (repeat (first | apply aw_seq | apply aw_block | apply aw_skip | apply aw_label | apply aw_exit | ((first | refine aw_region (hideO fun QQ hQQ => ?_) | refine aw_draw mixed (hideD fun QQ hQQ => ?_)); simp (maxSteps := 400000) (disch := first | decide | omega) only [get_someU, rowU, go_sem, ↓reduceIte]; try (first | with_reducible refine unhide hQQ ?_ | refine ⟨by kernel_rfl, unhide hQQ ?_⟩); clear hQQ QQ) | with_reducible first | apply then_n | apply block_n | apply then_x | apply then_r | apply nog_n | apply nog_r | apply block_r | apply block_e (by decide) | apply block_x (by decide)))
  (refine callO_S [0, 1, 2] (hin) rfl rfl (by simp (disch := first | decide | omega) only [get_someU, rowU, go_sem, ↓reduceIte]; try rfl) (by simp (disch := first | decide | omega) only [get_someU, rowU, go_sem, ↓reduceIte]; try rfl) Try.func107 rfl (by decide) (by rfl) (by repeat' (first | trivial | apply And.intro | (simp (disch := first | decide | omega) only [get_someU, rowU, go_sem, ↓reduceIte]; first | done | rfl))) (by decide) (by decide) (by first | rfl | (simp (disch := first | decide | omega) only [get_someU, rowU, go_sem, ↓reduceIte]; try rfl)) ?_); simp (maxSteps := 400000) (disch := first | decide | omega) only [get_someU, rowU, go_sem, ↓reduceIte]; (try (with_reducible refine unhide hQQ ?_; clear hQQ QQ; (repeat with_reducible first | apply then_n | apply block_n | apply then_x | apply then_r | apply nog_n | apply nog_r | apply block_r | apply block_e (by decide) | apply block_x (by decide))))
  (repeat (first | apply aw_seq | apply aw_block | apply aw_skip | apply aw_label | apply aw_exit | ((first | refine aw_region (hideO fun QQ hQQ => ?_) | refine aw_draw mixed (hideD fun QQ hQQ => ?_)); simp (maxSteps := 400000) (disch := first | decide | omega) only [get_someU, rowU, go_sem, ↓reduceIte]; try (first | with_reducible refine unhide hQQ ?_ | refine ⟨by kernel_rfl, unhide hQQ ?_⟩); clear hQQ QQ) | with_reducible first | apply then_n | apply block_n | apply then_x | apply then_r | apply nog_n | apply nog_r | apply block_r | apply block_e (by decide) | apply block_x (by decide)))
  ((refine callO_ok rfl rfl 96 true rfl (by simp (disch := first | decide | omega) only [get_someU, rowU, go_sem, ↓reduceIte]; try rfl) (fun _ => rfl) (ok_must e) Try.func96 rfl (by decide) ?_); simp (maxSteps := 400000) (disch := first | decide | omega) only [get_someU, rowU, go_sem, ↓reduceIte]; try (with_reducible refine unhide hQQ ?_; clear hQQ QQ)); (repeat (first | apply aw_seq | apply aw_block | apply aw_skip | apply aw_label | apply aw_exit | ((first | refine aw_region (hideO fun QQ hQQ => ?_) | refine aw_draw mixed (hideD fun QQ hQQ => ?_)); simp (maxSteps := 400000) (disch := first | decide | omega) only [get_someU, rowU, go_sem, ↓reduceIte]; try (first | with_reducible refine unhide hQQ ?_ | refine ⟨by kernel_rfl, unhide hQQ ?_⟩); clear hQQ QQ) | with_reducible first | apply then_n | apply block_n | apply then_x | apply then_r | apply nog_n | apply nog_r | apply block_r | apply block_e (by decide) | apply block_x (by decide)))
  (refine aw_ret ⟨.inr rfl, (by simp (maxSteps := 400000) (disch := first | decide | omega) only [get_someU, rowU, go_sem, ↓reduceIte]; try rfl), (by simp (maxSteps := 400000) (disch := first | decide | omega) only [get_someU, rowU, go_sem, ↓reduceIte]; try rfl), (by simp only [List.mem_cons, List.mem_nil_iff, forall_eq_or_imp, forall_eq, false_imp_iff, implies_true, or_false, and_true]; simp (maxSteps := 400000) (disch := first | decide | omega) only [get_someU, rowU, go_sem, ↓reduceIte]; try exact ⟨rfl, rfl⟩)⟩)
theorem sx_first {n : Int} {F : Nat → Nat → Nat → Int} {g : FuncId} {gn : Func} (hg : Try.prog.funcs[g]? = some gn) (hgb : gn.body.isSome = true) (hgn : gn.name ≠ "runtime.NumGoroutine") {L : List Nat} {p : Nat → Bool} (hL : L.length ≤ 1000) (hS : AskS g n most strays calls F L p) (e : Int)
    (hidx : idxB p L = -1) : FunSX Try.prog 89 [.one (.p (.sl (L.map rowU))), .agg [.fn g [.box 2]], .one (.p (iP e))] (ydH2 n most strays calls (keepI F) Try.prog) 3 (stopV e) := by
  have hin := s_index hg hgb hgn hL hS
  rw [hidx] at hin
  unfold ydH2 ydC
  refine funSX_ok (nt := 20) Try.func89 rfl rfl (by simp) fun Z w0 cap dk tm => ?_; simp only [initV, pins, pinOf, List.map_cons, List.map_nil]
  refine tw ?_; try with_reducible intro QQ hQQ
  (refine callO_S [0, 1, 2] (hin) rfl rfl (by simp (disch := first | decide | omega) only [go_sem, ↓reduceIte]; try rfl) (by simp (disch := first | decide | omega) only [go_sem, ↓reduceIte]; try rfl) Try.func107 rfl (by decide) (by rfl) (by repeat' (first | trivial | apply And.intro | (simp (disch := first | decide | omega) only [go_sem, ↓reduceIte]; first | done | rfl))) (by decide) (by decide) (by first | rfl | (simp (disch := first | decide | omega) only [go_sem, ↓reduceIte]; try rfl)) ?_); refine ts ?_; try clear hQQ QQ
  refine tw ?_; try with_reducible intro QQ hQQ
  (refine ⟨rfl, .inr ⟨rfl, callS_x rfl 96 ⟨by simp (disch := first | decide | omega) only [go_sem, ↓reduceIte]; try rfl, by simp (disch := first | decide | omega) only [go_sem, ↓reduceIte]; try rfl⟩ Try.func96 rfl (by decide) (x_must e) ?_⟩⟩)
  refine ⟨rfl, by simp (disch := first | decide | omega) only [go_sem, ↓reduceIte], ?_⟩
  simp only [List.mem_cons, List.mem_nil_iff, forall_eq_or_imp, forall_eq, false_imp_iff, implies_true, or_false, and_true]
  simp (disch := first | decide | omega) only [go_sem, ↓reduceIte]
theorem ask99 (h : TOK N most strays calls) : AskS 99 N most strays calls (tabF N most strays calls) (setsL calls.length) (pW N most strays calls) := fun k hk => s_is99 h _ (sets_at h.cl hk)
theorem ask90 (h : TOK N most strays calls) : AskS 90 N most strays calls (tabF N most strays calls) (setsL calls.length) (pC N most strays calls) := fun k hk => s_is90 h _ (sets_at h.cl hk)
theorem s_without (h : TOK N most strays calls) {i : Nat} (hi : i < (setsL calls.length).length) (hidx : idxB (pW N most strays calls) (setsL calls.length) = i) :
    FunS Try.prog 77 [.one (.box 0 0)] (ydH N most strays calls (keepI (tabF N most strays calls)) Try.prog) 2 (.one (.one (uP ((setsL calls.length).getD i 0)))) := by
  have hse := s_sets (n := N) (most := most) (strays := strays) (F := tabF N most strays calls) h.cl
  have hfi := s_first Try.func99 rfl (by decide) (sets_len _ h.cl) (ask99 h) 10 hi hidx
  generalize hL : setsL calls.length = L at hse hfi
  unfold ydH ydC
  refine funS_ok (nt := 8) (rs := [.tmp 2]) Try.func77 rfl rfl rfl (by simp) fun Z w0 cap pan dk tm => ?_; simp only [initV, pins, pinOf, List.map_cons, List.map_nil]
  refine tw ?_; try with_reducible intro QQ hQQ
  (refine callO_S [0, 1] (hse) rfl rfl (by simp (disch := first | decide | omega) only [go_sem, ↓reduceIte]; try rfl) (by simp (disch := first | decide | omega) only [go_sem, ↓reduceIte]; try rfl) Try.func82 rfl (by decide) (by rfl) (by repeat' (first | trivial | apply And.intro | (simp (disch := first | decide | omega) only [go_sem, ↓reduceIte]; first | done | rfl))) (by decide) (by decide) (by first | rfl | (simp (disch := first | decide | omega) only [go_sem, ↓reduceIte]; try rfl)) ?_); refine ts ?_; try clear hQQ QQ
  (refine callO_S [0, 1, 3] (hfi) rfl rfl (by simp (disch := first | decide | omega) only [go_sem, ↓reduceIte]; try rfl) (by simp (disch := first | decide | omega) only [go_sem, ↓reduceIte]; try rfl) Try.func89 rfl (by decide) (by rfl) (by repeat' (first | trivial | apply And.intro | (simp (disch := first | decide | omega) only [go_sem, ↓reduceIte]; first | done | rfl))) (by decide) (by decide) (by first | rfl | (simp (disch := first | decide | omega) only [go_sem, ↓reduceIte]; try rfl)) ?_); refine ts ?_; try clear hQQ QQ
  refine tw ?_; try with_reducible intro QQ hQQ
  (refine aw_ret ⟨.inr rfl, (by simp (maxSteps := 400000) (disch := first | decide | omega) only [go_sem, ↓reduceIte]; try rfl), (by simp (maxSteps := 400000) (disch := first | decide | omega) only [go_sem, ↓reduceIte]; try rfl), (by simp only [List.mem_cons, List.mem_nil_iff, forall_eq_or_imp, forall_eq, false_imp_iff, implies_true, or_false, and_true]; simp (maxSteps := 400000) (disch := first | decide | omega) only [go_sem, ↓reduceIte]; try exact ⟨rfl, rfl⟩)⟩)
theorem sx_without (h : TOK N most strays calls) (hidx : idxB (pW N most strays calls) (setsL calls.length) = -1) :
    FunSX Try.prog 77 [.one (.box 0 0)] (ydH N most strays calls (keepI (tabF N most strays calls)) Try.prog) 2 (stopV 10) := by
  have hse := s_sets (n := N) (most := most) (strays := strays) (F := tabF N most strays calls) h.cl
  have hfi := sx_first Try.func99 rfl (by decide) (sets_len _ h.cl) (ask99 h) 10 hidx
  generalize hL : setsL calls.length = L at hse hfi
  unfold ydH ydC
  refine funSX_ok (nt := 8) Try.func77 rfl rfl (by simp) fun Z w0 cap dk tm => ?_; simp only [initV, pins, pinOf, List.map_cons, List.map_nil]
  refine tw ?_; try with_reducible intro QQ hQQ
  (refine callO_S [0, 1] (hse) rfl rfl (by simp (disch := first | decide | omega) only [go_sem, ↓reduceIte]; try rfl) (by simp (disch := first | decide | omega) only [go_sem, ↓reduceIte]; try rfl) Try.func82 rfl (by decide) (by rfl) (by repeat' (first | trivial | apply And.intro | (simp (disch := first | decide | omega) only [go_sem, ↓reduceIte]; first | done | rfl))) (by decide) (by decide) (by first | rfl | (simp (disch := first | decide | omega) only [go_sem, ↓reduceIte]; try rfl)) ?_); refine ts ?_; try clear hQQ QQ
  refine callO_SX [0, 1, 3] (hfi) rfl rfl (by simp (disch := first | decide | omega) only [go_sem, ↓reduceIte]; try rfl) (by simp (disch := first | decide | omega) only [go_sem, ↓reduceIte]; try rfl) Try.func89 rfl (by decide) (by rfl) (by repeat' (first | trivial | apply And.intro | (simp (disch := first | decide | omega) only [go_sem, ↓reduceIte]; first | done | rfl))) (by decide) (by decide) (by first | rfl | (simp (disch := first | decide | omega) only [go_sem, ↓reduceIte]; try rfl)) ?_
  refine ⟨rfl, by simp (disch := first | decide | omega) only [go_sem, ↓reduceIte], ?_⟩
  simp only [List.mem_cons, List.mem_nil_iff, forall_eq_or_imp, forall_eq, false_imp_iff, implies_true, or_false, and_true]
  simp (disch := first | decide | omega) only [go_sem, ↓reduceIte]
end
end Go.Proofs.Ytejbglbiefpagaa
