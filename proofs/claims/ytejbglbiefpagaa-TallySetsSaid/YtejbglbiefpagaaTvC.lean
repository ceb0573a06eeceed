/- tally: the table of a set of calls. -/
import Derived.Test.YtejbglbiefpagaaTvB
import Derived.Test.YtejbglbiefpagaaKe
set_option linter.all false
namespace Go.Proofs.Ytejbglbiefpagaa
open Go Go.RowKit Go.Sh Go.Pv
set_option maxHeartbeats 4000000
set_option maxRecDepth 8000
/-- A set of calls, as a value. -/
def uP (n : Nat) : PV := .v (.int .u64 n)
section
variable (n most : Int) (strays : List (Int × Int)) (calls : List (Int × Int × Int × Int))
theorem shl_one {k : Nat} (hk : k ≤ 8) (x y : Operand) : binA Try.prog .shl 104 x y (.int .u64 1) (.int .i64 (k : Int)) = some (.int .u64 ((2 ^ k : Nat) : Int)) := by
  rw [bin_shl .u64 .i64 104 x y 1 k (by omega)]
  congr 2
  rcases (show k = 0 ∨ k = 1 ∨ k = 2 ∨ k = 3 ∨ k = 4 ∨ k = 5 ∨ k = 6 ∨ k = 7 ∨ k = 8 by omega) with rfl | rfl | rfl | rfl | rfl | rfl | rfl | rfl | rfl <;> decide
attribute [local go_sem] shl_one
theorem ok_every (hc : calls.length ≤ 8) : FunOK Try.prog 84 [.one (ydP n most strays calls)] (.one (.one (uP (2 ^ calls.length - 1)))) := by
  have hp1 := Nat.one_le_two_pow (n := calls.length)
  have hp2 : 2 ^ calls.length ≤ 2 ^ 8 := Nat.pow_le_pow_right (by decide) hc
  refine fun_ok (nt := 11) (rs := [.tmp 2]) Try.func84 rfl rfl rfl (by simp) fun Z w0 => ?_; simp only [initFr, avR, List.map_cons, List.map_nil]
  simp only [ydP]
  refine tw ?_; try with_reducible intro QQ hQQ
  have hw : IntKind.u64.wrap (((2 ^ calls.length : Nat) : Int) - 1) = ((2 ^ calls.length - 1 : Nat) : Int) := by
    rw [wrap_u64 (by omega) (by omega)]
    omega
  simp only [hw]
  refine aw_ret ?_; refine ⟨.inr rfl, ?_⟩; simp only [resA, res1, go_sem, ↓reduceIte]
  rfl
/-- What is recovered is turned into an error. -/
theorem stopped_idle (p : Addr) (w : World) : Calls Try.prog 47 #[.nilIface, .pointer (some p)] w fun e w' => (∃ v, e = .returned v) ∧ Below w.heap.size w w' := by
  go_enter Try.func47, Try.ntmps47
  go_wp2
  exact ⟨rfl, _, results_none rfl _ _ _, ⟨_, rfl⟩, Below.refl _ _⟩
theorem stopped_stop (p : Addr) (x c : Int) (w : World) (hc : w.cell? p = some (.int .i64 x)) (hz : w.frozen? p = false) : Calls Try.prog 47 #[stopV c, .pointer (some p)] w fun e w' => (∃ v, e = .returned v) ∧ ∃ w1, Below w.heap.size w w1 ∧ w' = w1.setCell p (.int .i64 c) := by
  have hta : ∀ w, (Instr.typeAssert (.iface 123 (.agg #[.int .i64 c])) 20 123 true).run Try.prog w = .ok (.tuple #[.agg #[.int .i64 c], .bool true]) w := fun _ => by kernel_rfl
  have hlt := World.block_lt_of_cell? _ _ hc
  have hb : ∀ ob, Below w.heap.size w (w.alloc ob) := fun ob => (Below.refl _ w).alloc (Nat.le_refl _) _
  have hc1 : (w.alloc (.cells #[.int .i64 c] 123)).cell? p = some (.int .i64 x) := ((hb _).cell hlt).trans hc
  have hz1 : (w.alloc (.cells #[.int .i64 c] 123)).frozen? p = false := ((hb _).frozen hlt).trans hz
  go_enter Try.func47, Try.ntmps47
  unfold stopV
  go_wp2
  exact ⟨rfl, _, results_none rfl _ _ _, ⟨_, rfl⟩, _, hb _, rfl⟩
theorem ans46 : AnswersOK Try.prog 46 stopV := answers_of Try.func46 rfl rfl rfl rfl rfl rfl rfl rfl rfl Try.func47 rfl (by decide) stopped_idle stopped_stop
end
theorem ans55 : AnswersOK Try.prog 55 stopV := answers_of Try.func55 rfl rfl rfl rfl rfl rfl rfl rfl rfl Try.func47 rfl (by decide) stopped_idle stopped_stop
theorem ans58 : AnswersOK Try.prog 58 stopV := answers_of Try.func58 rfl rfl rfl rfl rfl rfl rfl rfl rfl Try.func47 rfl (by decide) stopped_idle stopped_stop
theorem ans65 : AnswersOK Try.prog 65 stopV := answers_of Try.func65 rfl rfl rfl rfl rfl rfl rfl rfl rfl Try.func47 rfl (by decide) stopped_idle stopped_stop
theorem ans68 : AnswersOK Try.prog 68 stopV := answers_of Try.func68 rfl rfl rfl rfl rfl rfl rfl rfl rfl Try.func47 rfl (by decide) stopped_idle stopped_stop
theorem ans75 : AnswersOK Try.prog 75 stopV := answers_of Try.func75 rfl rfl rfl rfl rfl rfl rfl rfl rfl Try.func47 rfl (by decide) stopped_idle stopped_stop
theorem ans81 : AnswersOK Try.prog 81 stopV := answers_of Try.func81 rfl rfl rfl rfl rfl rfl rfl rfl rfl Try.func47 rfl (by decide) stopped_idle stopped_stop
theorem ans88 : AnswersOK Try.prog 88 stopV := answers_of Try.func88 rfl rfl rfl rfl rfl rfl rfl rfl rfl Try.func47 rfl (by decide) stopped_idle stopped_stop
end Go.Proofs.Ytejbglbiefpagaa
