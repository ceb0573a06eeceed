/- Kwa6: texts joined (WaA WaB WaC WaD WaE). -/
import Derived.Test.YtgdhdikeicgndaaPvL
import Derived.Test.YtgdhdikeicgndaaKpv3
import Derived.Test.YtgdhdikeicgndaaCwA
import Derived.Test.YtgdhdikeicgndaaKcx5
import Derived.Test.YtgdhdikeicgndaaKpv1
import Derived.Test.YtgdhdikeicgndaaKpv2
set_option linter.all false
/- classer: plain functions, and costs, walked. -/
namespace Go.Proofs.Ytgdhdikeicgndaa
open Go Go.RowKit Go.Sh Go.Pv
attribute [go_sem] beq_t_d beq_f_d bne_t_d bne_f_d
set_option maxHeartbeats 2000000
set_option maxRecDepth 4000
theorem boxOf_box (b : Nat) : boxOf (.one (.box b 0)) = some b := rfl
theorem boxOf_p (x : PV) : boxOf (.one (.p x)) = none := rfl
theorem boxOf_agg (cs : List AC) : boxOf (.agg cs) = none := rfl
attribute [go_sem] boxOf_box boxOf_p boxOf_agg bfxOf
theorem mixed : Try.prog.follows .mixedOrders = true := by kernel_rfl
/-! The steps of a walk. -/
theorem tg {G G' : Prop} (k : G') (h : G' → G := by intro hk0; (refine aw_region (hideO fun Qz hQz => ?_); simp (maxSteps := 400000) (disch := first | decide | omega) only [go_sem, ↓reduceIte]; (try (with_reducible refine unhide hQz ?_; clear hQz Qz; (repeat with_reducible first | apply then_n | apply block_n | apply then_x | apply then_r | apply nog_n | apply nog_r | apply block_r | apply block_e (by decide) | apply block_x (by decide))))); (try revert hQz); (try revert Qz); exact hk0) : G := h k
theorem tw {G G' : Prop} (k : G') (h : G' → G := by intro hk0; ((repeat (first | apply aw_seq | apply aw_block | apply aw_skip | apply aw_label | apply aw_exit | ((first | refine aw_region (hideO fun Qz hQz => ?_) | refine aw_draw mixed (hideD fun Qz hQz => ?_)); simp (maxSteps := 400000) (disch := first | decide | omega) only [go_sem, ↓reduceIte]; try (first | with_reducible refine unhide hQz ?_ | refine ⟨by kernel_rfl, unhide hQz ?_⟩); clear hQz Qz) | with_reducible first | apply then_n | apply block_n | apply then_x | apply then_r | apply nog_n | apply nog_r | apply block_r | apply block_e (by decide) | apply block_x (by decide)))); (try revert hQz); (try revert Qz); exact hk0) : G := h k
theorem ts {G G' : Prop} (k : G') (h : G' → G := by intro hk0; (simp (maxSteps := 400000) (disch := first | decide | omega) only [go_sem, ↓reduceIte]; (try (with_reducible refine unhide hQQ ?_; (repeat with_reducible first | apply then_n | apply block_n | apply then_x | apply then_r | apply nog_n | apply nog_r | apply block_r | apply block_e (by decide) | apply block_x (by decide))))); exact hk0) : G := h k
theorem td {G G' : Prop} (k : G') (h : G' → G := by intro hk0; (simp (maxSteps := 400000) (disch := first | decide | omega) only [go_sem, ↓reduceIte]; (try (refine ⟨by kernel_rfl, unhide hQQ ?_⟩; (repeat with_reducible first | apply then_n | apply block_n | apply then_x | apply then_r | apply nog_n | apply nog_r | apply block_r | apply block_e (by decide) | apply block_x (by decide))))); exact hk0) : G := h k
theorem tu {G G' : Prop} (k : G') (h : G' → G := by intro hk0; (simp (maxSteps := 400000) (disch := first | decide | omega) only [go_sem, ↓reduceIte]; try (with_reducible refine unhide hQQ ?_)); exact hk0) : G := h k
theorem tv {G G' : Prop} (k : G') (h : G' → G := by intro hk0; (simp (maxSteps := 400000) (disch := first | decide | omega) only [go_sem, ↓reduceIte]; try (refine ⟨by kernel_rfl, unhide hQQ ?_⟩)); exact hk0) : G := h k
theorem ti {G G' : Prop} (k : G') (h : G' → G := by intro hk0; (refine aw_cond2 (by simp (disch := first | decide | omega) only [go_sem, ↓reduceIte]; rfl) ?_; first | refine .inl ⟨by first | rfl | exact decide_eq_true (by omega) | exact decide_eq_true (by assumption) | (simp (disch := first | decide | omega) only [if_pos_d, if_neg_d, decide_eq_true_eq, Bool.not_eq_true', decide_eq_false_iff_not]; omega), ?_⟩ | refine .inr ⟨by first | rfl | exact decide_eq_false (by omega) | exact decide_eq_false (by assumption) | (simp (disch := first | decide | omega) only [if_pos_d, if_neg_d, decide_eq_true_eq, Bool.not_eq_true', decide_eq_false_iff_not]; omega), ?_⟩); exact hk0) : G := h k
theorem cO {K : Kx} {ops : Array Oper} {o : Oper} {r : List Oper} {st : St} {Q : St → Prop} {f : Operand} {args : Array Operand} {argTypes : Array TypeId} (fid : FuncId) (hd : dstOK K o.dst = true) (ho : o.op = .call { callee := .value f, args := args, argTypes := argTypes }) {rvs : List RV} {res : RR} (h1 : (evalA (AL.get st.fr) f).bind fnA = some (fid, [])) (h4 : FunOK K.P fid rvs res) {fn : Func} (h5 : K.P.funcs[fid]? = some fn) (h6 : fn.body.isSome = true) (h : evOps K ops r (st.put o.dst (avRR res)) Q) (h2 : (args.toList.mapM (arg1 (AL.get st.fr) (AL.get st.hp) true)) = some rvs := by simp (disch := first | decide | omega) only [go_sem, ↓reduceIte]; try rfl) (h3 : true = true → flatRR res = true := by intro _; rfl) (h7 : fn.name ≠ "runtime.NumGoroutine" := by decide) : CallO K ops o r st Q :=
  callO_ok hd ho fid true h1 h2 h3 h4 h5 h6 h7 h
theorem cB {K : Kx} {ops : Array Oper} {o : Oper} {r : List Oper} {st : St} {Q : St → Prop} {f : Operand} {args : Array Operand} {argTypes : Array TypeId} (fid : FuncId) (hd : dstOK K o.dst = true) (ho : o.op = .call { callee := .value f, args := args, argTypes := argTypes }) {rvs : List RV} {res : RR} (h1 : (evalA (AL.get st.fr) f).bind fnA = some (fid, [])) (h4 : FunOK K.P fid rvs res) {fn : Func} (h5 : K.P.funcs[fid]? = some fn) (h6 : fn.body.isSome = true) (h : evOps K ops r (st.put o.dst (avRR res)) Q) (h2 : (args.toList.mapM (arg1 (AL.get st.fr) (AL.get st.hp) false)) = some rvs := by simp (disch := first | decide | omega) only [go_sem, ↓reduceIte]; try rfl) (h3 : false = true → flatRR res = true := (by intro h; cases h)) (h7 : fn.name ≠ "runtime.NumGoroutine" := by decide) : CallO K ops o r st Q :=
  callO_ok hd ho fid false h1 h2 h3 h4 h5 h6 h7 h
theorem cD {K : Kx} {l : List Oper} {o : Oper} {r : List Oper} {st : St} {recs : List Rec} {Q : St → Prop} {f : Operand} {args : Array Operand} {argTypes : Array TypeId} (fid : FuncId) (hd : dstOK K o.dst = true) (ho : o.op = .call { callee := .value f, args := args, argTypes := argTypes }) {rvs : List RV} {res : RR} (h1 : (evalA (AL.get st.fr) f).bind fnA = some (fid, [])) (h4 : FunOK K.P fid rvs res) {fn : Func} (h5 : K.P.funcs[fid]? = some fn) (h6 : fn.body.isSome = true) (h : evDraw K l r (st.put o.dst (avRR res)) (recs ++ [(some (idsA st o), [])]) Q) (h2 : (args.toList.mapM (arg1 (AL.get st.fr) (AL.get st.hp) true)) = some rvs := by simp (disch := first | decide | omega) only [go_sem, ↓reduceIte]; try rfl) (h3 : true = true → flatRR res = true := by intro _; rfl) (h7 : fn.name ≠ "runtime.NumGoroutine" := by decide) : CallD K l o r st recs Q :=
  callD_ok hd ho fid true h1 h2 h3 h4 h5 h6 h7 h
theorem cG {K : Kx} {l : List Oper} {o : Oper} {r : List Oper} {st : St} {recs : List Rec} {Q : St → Prop} {f : Operand} {args : Array Operand} {argTypes : Array TypeId} (fid : FuncId) (hd : dstOK K o.dst = true) (ho : o.op = .call { callee := .value f, args := args, argTypes := argTypes }) {rvs : List RV} {res : RR} (h1 : (evalA (AL.get st.fr) f).bind fnA = some (fid, [])) (h4 : FunOK K.P fid rvs res) {fn : Func} (h5 : K.P.funcs[fid]? = some fn) (h6 : fn.body.isSome = true) (h : evDraw K l r (st.put o.dst (avRR res)) (recs ++ [(some (idsA st o), [])]) Q) (h2 : (args.toList.mapM (arg1 (AL.get st.fr) (AL.get st.hp) false)) = some rvs := by simp (disch := first | decide | omega) only [go_sem, ↓reduceIte]; try rfl) (h3 : false = true → flatRR res = true := (by intro h; cases h)) (h7 : fn.name ≠ "runtime.NumGoroutine" := by decide) : CallD K l o r st recs Q :=
  callD_ok hd ho fid false h1 h2 h3 h4 h5 h6 h7 h
/-! The steps of a walk. -/
theorem tgF {G G' : Prop} (k : G') (h : G' → G := by intro hk0; (refine aw_region (hideO fun Qz hQz => ?_); simp (maxSteps := 400000) (disch := first | decide | omega) only [hF, go_sem, ↓reduceIte]; (try (with_reducible refine unhide hQz ?_; clear hQz Qz; (repeat with_reducible first | apply then_n | apply block_n | apply then_x | apply then_r | apply nog_n | apply nog_r | apply block_r | apply block_e (by decide) | apply block_x (by decide))))); (try revert hQz); (try revert Qz); exact hk0) : G := h k
theorem twF {G G' : Prop} (k : G') (h : G' → G := by intro hk0; ((repeat (first | apply aw_seq | apply aw_block | apply aw_skip | apply aw_label | apply aw_exit | ((first | refine aw_region (hideO fun Qz hQz => ?_) | refine aw_draw mixed (hideD fun Qz hQz => ?_)); simp (maxSteps := 400000) (disch := first | decide | omega) only [hF, go_sem, ↓reduceIte]; try (first | with_reducible refine unhide hQz ?_ | refine ⟨by kernel_rfl, unhide hQz ?_⟩); clear hQz Qz) | with_reducible first | apply then_n | apply block_n | apply then_x | apply then_r | apply nog_n | apply nog_r | apply block_r | apply block_e (by decide) | apply block_x (by decide)))); (try revert hQz); (try revert Qz); exact hk0) : G := h k
theorem tsF {G G' : Prop} (k : G') (h : G' → G := by intro hk0; (simp (maxSteps := 400000) (disch := first | decide | omega) only [hF, go_sem, ↓reduceIte]; (try (with_reducible refine unhide hQQ ?_; (repeat with_reducible first | apply then_n | apply block_n | apply then_x | apply then_r | apply nog_n | apply nog_r | apply block_r | apply block_e (by decide) | apply block_x (by decide))))); exact hk0) : G := h k
theorem tdF {G G' : Prop} (k : G') (h : G' → G := by intro hk0; (simp (maxSteps := 400000) (disch := first | decide | omega) only [hF, go_sem, ↓reduceIte]; (try (refine ⟨by kernel_rfl, unhide hQQ ?_⟩; (repeat with_reducible first | apply then_n | apply block_n | apply then_x | apply then_r | apply nog_n | apply nog_r | apply block_r | apply block_e (by decide) | apply block_x (by decide))))); exact hk0) : G := h k
theorem tuF {G G' : Prop} (k : G') (h : G' → G := by intro hk0; (simp (maxSteps := 400000) (disch := first | decide | omega) only [hF, go_sem, ↓reduceIte]; try (with_reducible refine unhide hQQ ?_)); exact hk0) : G := h k
theorem tvF {G G' : Prop} (k : G') (h : G' → G := by intro hk0; (simp (maxSteps := 400000) (disch := first | decide | omega) only [hF, go_sem, ↓reduceIte]; try (refine ⟨by kernel_rfl, unhide hQQ ?_⟩)); exact hk0) : G := h k
theorem tiF {G G' : Prop} (k : G') (h : G' → G := by intro hk0; (refine aw_cond2 (by simp (disch := first | decide | omega) only [hF, go_sem, ↓reduceIte]; rfl) ?_; first | refine .inl ⟨by first | rfl | exact decide_eq_true (by omega) | exact decide_eq_true (by assumption) | (simp (disch := first | decide | omega) only [if_pos_d, if_neg_d, decide_eq_true_eq, Bool.not_eq_true', decide_eq_false_iff_not]; omega), ?_⟩ | refine .inr ⟨by first | rfl | exact decide_eq_false (by omega) | exact decide_eq_false (by assumption) | (simp (disch := first | decide | omega) only [if_pos_d, if_neg_d, decide_eq_true_eq, Bool.not_eq_true', decide_eq_false_iff_not]; omega), ?_⟩); exact hk0) : G := h k
theorem cOF {K : Kx} {ops : Array Oper} {o : Oper} {r : List Oper} {st : St} {Q : St → Prop} {f : Operand} {args : Array Operand} {argTypes : Array TypeId} (fid : FuncId) (hd : dstOK K o.dst = true) (ho : o.op = .call { callee := .value f, args := args, argTypes := argTypes }) {rvs : List RV} {res : RR} (h1 : (evalA (AL.get st.fr) f).bind fnA = some (fid, [])) (h4 : FunOK K.P fid rvs res) {fn : Func} (h5 : K.P.funcs[fid]? = some fn) (h6 : fn.body.isSome = true) (h : evOps K ops r (st.put o.dst (avRR res)) Q) (h2 : (args.toList.mapM (arg1 (AL.get st.fr) (AL.get st.hp) true)) = some rvs := by simp (disch := first | decide | omega) only [hF, go_sem, ↓reduceIte]; try rfl) (h3 : true = true → flatRR res = true := by intro _; rfl) (h7 : fn.name ≠ "runtime.NumGoroutine" := by decide) : CallO K ops o r st Q :=
  callO_ok hd ho fid true h1 h2 h3 h4 h5 h6 h7 h
theorem cBF {K : Kx} {ops : Array Oper} {o : Oper} {r : List Oper} {st : St} {Q : St → Prop} {f : Operand} {args : Array Operand} {argTypes : Array TypeId} (fid : FuncId) (hd : dstOK K o.dst = true) (ho : o.op = .call { callee := .value f, args := args, argTypes := argTypes }) {rvs : List RV} {res : RR} (h1 : (evalA (AL.get st.fr) f).bind fnA = some (fid, [])) (h4 : FunOK K.P fid rvs res) {fn : Func} (h5 : K.P.funcs[fid]? = some fn) (h6 : fn.body.isSome = true) (h : evOps K ops r (st.put o.dst (avRR res)) Q) (h2 : (args.toList.mapM (arg1 (AL.get st.fr) (AL.get st.hp) false)) = some rvs := by simp (disch := first | decide | omega) only [hF, go_sem, ↓reduceIte]; try rfl) (h3 : false = true → flatRR res = true := (by intro h; cases h)) (h7 : fn.name ≠ "runtime.NumGoroutine" := by decide) : CallO K ops o r st Q :=
  callO_ok hd ho fid false h1 h2 h3 h4 h5 h6 h7 h
theorem cDF {K : Kx} {l : List Oper} {o : Oper} {r : List Oper} {st : St} {recs : List Rec} {Q : St → Prop} {f : Operand} {args : Array Operand} {argTypes : Array TypeId} (fid : FuncId) (hd : dstOK K o.dst = true) (ho : o.op = .call { callee := .value f, args := args, argTypes := argTypes }) {rvs : List RV} {res : RR} (h1 : (evalA (AL.get st.fr) f).bind fnA = some (fid, [])) (h4 : FunOK K.P fid rvs res) {fn : Func} (h5 : K.P.funcs[fid]? = some fn) (h6 : fn.body.isSome = true) (h : evDraw K l r (st.put o.dst (avRR res)) (recs ++ [(some (idsA st o), [])]) Q) (h2 : (args.toList.mapM (arg1 (AL.get st.fr) (AL.get st.hp) true)) = some rvs := by simp (disch := first | decide | omega) only [hF, go_sem, ↓reduceIte]; try rfl) (h3 : true = true → flatRR res = true := by intro _; rfl) (h7 : fn.name ≠ "runtime.NumGoroutine" := by decide) : CallD K l o r st recs Q :=
  callD_ok hd ho fid true h1 h2 h3 h4 h5 h6 h7 h
theorem cGF {K : Kx} {l : List Oper} {o : Oper} {r : List Oper} {st : St} {recs : List Rec} {Q : St → Prop} {f : Operand} {args : Array Operand} {argTypes : Array TypeId} (fid : FuncId) (hd : dstOK K o.dst = true) (ho : o.op = .call { callee := .value f, args := args, argTypes := argTypes }) {rvs : List RV} {res : RR} (h1 : (evalA (AL.get st.fr) f).bind fnA = some (fid, [])) (h4 : FunOK K.P fid rvs res) {fn : Func} (h5 : K.P.funcs[fid]? = some fn) (h6 : fn.body.isSome = true) (h : evDraw K l r (st.put o.dst (avRR res)) (recs ++ [(some (idsA st o), [])]) Q) (h2 : (args.toList.mapM (arg1 (AL.get st.fr) (AL.get st.hp) false)) = some rvs := by simp (disch := first | decide | omega) only [hF, go_sem, ↓reduceIte]; try rfl) (h3 : false = true → flatRR res = true := (by intro h; cases h)) (h7 : fn.name ≠ "runtime.NumGoroutine" := by decide) : CallD K l o r st recs Q :=
  callD_ok hd ho fid false h1 h2 h3 h4 h5 h6 h7 h
-- end of the prelude
theorem ty_zero88 : tyZero Try.prog 88 = some (arrA 31 fun _ => 0) := by kernel_rfl
theorem ty_zero105 : tyZero Try.prog 105 = some (totA 31 7 fun _ _ => (0, 0)) := by kernel_rfl
theorem arrA_pvO (n : Nat) (c : Nat → Int) (any : Bool) (h : Nat → Option Obj') : mapO (pvA any h) (arrA n c) = some (arrP n c) := by rw [← mapM_eq]; exact arrA_pv n c any h
theorem arrA_toPVO (n : Nat) (c : Nat → Int) (h : Nat → Option Obj') : mapO (toPV h) (arrA n c) = some (arrP n c) := by rw [← mapM_eq]; exact arrA_toPV n c h
theorem arrA_plainO (n : Nat) (c : Nat → Int) : mapO plainC (arrA n c) = some ((List.range n).map fun i => Value.int .i64 (c i)) := by rw [← mapM_eq]; exact arrA_plain n c
attribute [go_sem] arrA_pvO arrA_toPVO arrA_plainO
attribute [go_sem] ty_zero88 ty_zero105 arrA_map arrA_cellPV arrA_get arrA_drop arrA_drop0 arrA_take arrA_len arrP_len arrA_pv arrA_toPV arrA_refs arrA_put arrA_dropn Nat.mul_one
/-- Costs, as data and as cells. -/
abbrev cP (c : Nat → Nat) : List PV := arrP 31 fun i => ((c i : Nat) : Int)
abbrev cA (c : Nat → Nat) : List AC := arrA 31 fun i => ((c i : Nat) : Int)
abbrev uP (n : Nat) : PV := .v (.int .u64 n)
def inB (a b c : Int) : Bool := decide (b ≤ a) && decide (a ≤ c)
theorem ok_within (a b c : Int) : FunOK Try.prog 76 [.one (iP a), .one (iP b), .one (iP c)] (.one (.one (.v (.bool (inB a b c))))) := by
  refine fun_ok (nt := 15) (rs := [.tmp 6]) Try.func76 rfl rfl rfl (by simp) fun Z w0 => ?_; simp only [initFr, avR, List.map_cons, List.map_nil]
  by_cases h : b ≤ a
  · refine tw ?_; try with_reducible intro QQ hQQ
    refine aw_ret ?_; refine ⟨.inr rfl, ?_⟩; simp only [resA, res1, go_sem, ↓reduceIte]
    simp [inB, h]
  · refine tw ?_; try with_reducible intro QQ hQQ
    refine aw_ret ?_; refine ⟨.inr rfl, ?_⟩; simp only [resA, res1, go_sem, ↓reduceIte]
    simp [inB, h]
theorem ifcA_of {P : Program} {T : TypeId} {fs : Array Field} {v : Value} (h : P.underlying T = some (.struct fs)) : ifcA P T v = some (.iface T v) := by
  unfold ifcA Instr.makeInterface
  rw [peek_bind, peek_und h]
  rfl
theorem ifcA_int {P : Program} {T : TypeId} {k : IntKind} {v : Value} (h : P.underlying T = some (.int k)) : ifcA P T v = some (.iface T v) := by
  unfold ifcA Instr.makeInterface
  rw [peek_bind, peek_und h]
  rfl
theorem ifc100 (v : Value) : ifcA Try.prog 100 v = some (.iface 100 v) := ifcA_int (k := .i64) (by kernel_rfl)
attribute [go_sem] ifc100
/-- The panic of an error. -/
def stopV (c : Int) : Value := .iface 100 (.int .i64 c)
theorem ok_ask (c : Int) : FunOK Try.prog 52 [.one (.v (.bool true)), .one (iP c)] (.tup []) := by
  refine fun_ok (nt := 8) (rs := []) Try.func52 rfl rfl rfl (by simp) fun Z w0 => ?_; simp only [initFr, avR, List.map_cons, List.map_nil]
  refine tw ?_; try with_reducible intro QQ hQQ
  refine ti ?_; try clear hQQ QQ
  refine tw ?_; try with_reducible intro QQ hQQ
  (refine ⟨.inl rfl, ?_⟩); simp only [resA, res1, go_sem, ↓reduceIte]
theorem x_ask (c : Int) : FunX Try.prog 52 [.one (.v (.bool false)), .one (iP c)] (stopV c) := by
  refine fun_x (nt := 8) Try.func52 rfl rfl (by simp) fun Z w0 => ?_; simp only [initFr, avR, List.map_cons, List.map_nil]
  refine tw ?_; try with_reducible intro QQ hQQ
  refine ti ?_; try clear hQQ QQ
  refine tw ?_; try with_reducible intro QQ hQQ
  refine ⟨rfl, .inr ⟨rfl, callS_panic rfl (by (simp (disch := first | decide | omega) only [go_sem, ↓reduceIte]); try rfl) ?_⟩⟩
  rfl
/-- Numbers, up to far. -/
def sumF (l : List Nat) : Nat := l.foldl (fun n x => min 65536 (n + x)) 0
theorem sumF_le (l : List Nat) : ∀ a, a ≤ 65536 → l.foldl (fun n x => min 65536 (n + x)) a ≤ 65536 := by
  induction l with
  | nil => intro a h; exact h
  | cons x r ih => intro a _; exact ih _ (Nat.min_le_left _ _)
def rowN (x : Nat) : List PV := [iP (x : Int)]
theorem rowsK_rN (l : List Nat) : rowsK 1 (l.map rowN) = True := eq_true fun i r h => by rw [List.getElem?_map] at h; obtain ⟨x, _, rfl⟩ := Option.map_eq_some_iff.1 h; rfl
theorem get_someN {l : List Nat} {k : Nat} (h : k < l.length) : l[k]? = some (l.getD k 0) := by simp [List.getD, h]
theorem mem_of_getD {α : Type} {l : List α} {i : Nat} {d : α} (h : i < l.length) : l.getD i d ∈ l := by rw [List.getD_eq_getElem?_getD, List.getElem?_eq_getElem h]; exact List.getElem_mem h
section
attribute [local go_sem] rowN rowsK_rN get_someN
theorem ok_sum (l : List Nat) (hl : l.length ≤ 100) (h : ∀ x ∈ l, x ≤ 1000000) : FunOK Try.prog 103 [.one (.sl (l.map rowN))] (.one (.one (iP ((sumF l : Nat) : Int)))) := by
  refine fun_ok (nt := 17) (rs := [.tmp 2]) Try.func103 rfl rfl rfl (by simp) fun Z w0 => ?_; simp only [initFr, avR, List.map_cons, List.map_nil]
  refine tw ?_; try with_reducible intro QQ hQQ
  refine aw_weak (weak_keep [2, 5, 6, 7] (by simp only [go_sem, ↓reduceIte]; rfl)) ?_
  refine aw_loop_ov (ι := { i : Nat // i ≤ l.length }) (fun i => [(7, iA i.1), (2, iA (sumF (l.take i.1) : Nat))]) (fun _ => []) (fun i => l.length - i.1) ⟨0, by omega⟩ (by first | rfl | (simp only [go_sem, ↓reduceIte]; first | done | rfl | (simp; try rfl))) ?_
  rintro ⟨i, hi⟩
  simp (disch := decide) only [ov, ovL, AL.get_nil, AL.get_eq, AL.get_ne, Option.getD_some, Option.getD_none]
  by_cases hil : i < l.length
  · have hx := h _ (mem_of_getD (d := 0) hil)
    have e1 : l.take (i + 1) = l.take i ++ [l.getD i 0] := by
      rw [List.take_succ, List.getElem?_eq_getElem hil, List.getD_eq_getElem?_getD, List.getElem?_eq_getElem hil]; rfl
    have e2 : ((sumF (l.take (i + 1)) : Nat) : Int) = if ((sumF (l.take i) : Nat) + (l.getD i 0 : Nat) : Int) < 65536 then ((sumF (l.take i) : Nat) + (l.getD i 0 : Nat) : Int) else 65536 := by unfold sumF; rw [e1, List.foldl_append]; simp only [List.foldl_cons, List.foldl_nil]; split <;> omega
    have ha : sumF (l.take i) ≤ 65536 := sumF_le _ 0 (by decide)
    obtain ⟨x, hxx⟩ : ∃ x, l.getD i 0 = x := ⟨_, rfl⟩
    rw [hxx] at hx e2
    generalize sumF (l.take i) = a at *
    (repeat (first | apply aw_seq | apply aw_block | apply aw_skip | apply aw_label | apply aw_exit | ((first | refine aw_region (hideO fun QQ hQQ => ?_) | refine aw_draw mixed (hideD fun QQ hQQ => ?_)); simp (maxSteps := 400000) (disch := first | decide | omega) only [hxx, go_sem, ↓reduceIte]; try (first | with_reducible refine unhide hQQ ?_ | refine ⟨by kernel_rfl, unhide hQQ ?_⟩); clear hQQ QQ) | with_reducible first | apply then_n | apply block_n | apply then_x | apply then_r | apply nog_n | apply nog_r | apply block_r | apply block_e (by decide) | apply block_x (by decide)))
    refine aw_cond2 (by simp (disch := first | decide | omega) only [hxx, go_sem, ↓reduceIte]; rfl) ?_; first | refine .inl ⟨by first | rfl | exact decide_eq_true (by omega) | exact decide_eq_true (by assumption) | (simp (disch := first | decide | omega) only [if_pos_d, if_neg_d, decide_eq_true_eq, Bool.not_eq_true', decide_eq_false_iff_not]; omega), ?_⟩ | refine .inr ⟨by first | rfl | exact decide_eq_false (by omega) | exact decide_eq_false (by assumption) | (simp (disch := first | decide | omega) only [if_pos_d, if_neg_d, decide_eq_true_eq, Bool.not_eq_true', decide_eq_false_iff_not]; omega), ?_⟩
    (repeat (first | apply aw_seq | apply aw_block | apply aw_skip | apply aw_label | apply aw_exit | ((first | refine aw_region (hideO fun QQ hQQ => ?_) | refine aw_draw mixed (hideD fun QQ hQQ => ?_)); simp (maxSteps := 400000) (disch := first | decide | omega) only [hxx, go_sem, ↓reduceIte]; try (first | with_reducible refine unhide hQQ ?_ | refine ⟨by kernel_rfl, unhide hQQ ?_⟩); clear hQQ QQ) | with_reducible first | apply then_n | apply block_n | apply then_x | apply then_r | apply nog_n | apply nog_r | apply block_r | apply block_e (by decide) | apply block_x (by decide)))
    refine ⟨⟨i + 1, by omega⟩, ?_, weak_round ?_ (by first | rfl | (simp only [hxx, go_sem, ↓reduceIte]))⟩
    rotate_left
    · simp only [e2]
      (simp only [hxx, go_sem, ↓reduceIte]; try rfl)
    · simp only; omega
  · have : i = l.length := by omega
    subst this
    rw [List.take_length]
    refine tw ?_; try with_reducible intro QQ hQQ
    refine ti ?_; try clear hQQ QQ
    refine tw ?_; try with_reducible intro QQ hQQ
    refine aw_ret ?_; refine ⟨.inr rfl, ?_⟩; simp only [resA, res1, go_sem, ↓reduceIte]
end
theorem ok_sum2 {a b : Nat} (ha : a ≤ 1000000) (hb : b ≤ 1000000) : FunOK Try.prog 103 [.one (.sl [[iP (a : Int)], [iP (b : Int)]])] (.one (.one (iP ((Go.Cl.cap (Go.Cl.cap a + b) : Nat) : Int)))) := by
  have := ok_sum [a, b] (by simp) (fun x hx => by simp at hx; rcases hx with rfl | rfl <;> assumption)
  have e : sumF [a, b] = Go.Cl.cap (Go.Cl.cap a + b) := by
    show min 65536 (min 65536 (0 + a) + b) = _
    rw [Nat.zero_add]; rfl
  rw [e] at this
  simpa [rowN] using this
end Go.Proofs.Ytgdhdikeicgndaa
/- classer: costs: least, plus, after, walked. -/
namespace Go.Proofs.Ytgdhdikeicgndaa
open Go Go.RowKit Go.Sh Go.Pv Go.Cl
set_option maxHeartbeats 2000000
set_option maxRecDepth 8000
/-- Some numbers of costs, as rows. -/
def rngP (c : Nat → Nat) (a n : Nat) : List (List PV) := (List.range n).map fun j => [iP (c (a + j) : Int)]
theorem rngP_len (c : Nat → Nat) (a n : Nat) : (rngP c a n).length = n := by unfold rngP; simp
theorem rngP_get {c : Nat → Nat} {a n i : Nat} (h : i < n) : (rngP c a n)[i]? = some [iP (c (a + i) : Int)] := by unfold rngP; simp [h]
theorem rngP_rowsK (c : Nat → Nat) (a n : Nat) : rowsK 1 (rngP c a n) = True := eq_true fun i r h => by unfold rngP at h; rw [List.getElem?_map] at h; obtain ⟨x, _, rfl⟩ := Option.map_eq_some_iff.1 h; rfl
theorem rngP_of {c : Nat → Nat} {l h : Nat} (hh : h ≤ 31) : ((((cP c).map fun v => [v]).take h).drop l) = rngP c l (h - l) := by
  apply List.ext_getElem?
  intro i
  by_cases hi : i < h - l
  · rw [rngP_get hi, List.getElem?_drop, List.getElem?_take, if_pos (by omega), List.getElem?_map]
    unfold cP
    rw [arrP_get (by omega)]; rfl
  · rw [List.getElem?_eq_none (by rw [List.length_drop, List.length_take, List.length_map]; unfold cP; rw [arrP_len]; omega), List.getElem?_eq_none (by rw [rngP_len]; omega)]
section
attribute [local go_sem] rngP_len rngP_get rngP_rowsK
theorem ok_min (c : Nat → Nat) (hc : ∀ i, c i ≤ 1000000) (a k : Nat) (hk : k ≤ 30) : FunOK Try.prog 97 [.one (.sl (rngP c a (k + 1)))] (.one (.one (iP ((minR c a k : Nat) : Int)))) := by
  have hm : ∀ i, minR c a i ≤ 1000000 := fun i => by obtain ⟨j, _, hj⟩ := minR_mem (c := c) (a := a) i; rw [hj]; exact hc _
  refine fun_ok (nt := 25) (rs := [.tmp 2]) Try.func97 rfl rfl rfl (by simp) fun Z w0 => ?_; simp only [initFr, avR, List.map_cons, List.map_nil]
  refine tw ?_; try with_reducible intro QQ hQQ
  refine ti ?_; try clear hQQ QQ
  refine tw ?_; try with_reducible intro QQ hQQ
  refine aw_weak (weak_keep [0, 3, 4] (by simp only [go_sem, ↓reduceIte]; rfl)) ?_
  refine aw_loop_ov (ι := { i : Nat // i ≤ k }) (fun i => [(3, iA (minR c a i.1 : Nat)), (4, iA ((i.1 + 1 : Nat) : Int))]) (fun _ => []) (fun i => k - i.1) ⟨0, by omega⟩ (by first | rfl | (simp only [go_sem, ↓reduceIte]; first | done | rfl | (simp; try rfl))) ?_
  rintro ⟨i, hi⟩
  simp (disch := decide) only [ov, ovL, AL.get_nil, AL.get_eq, AL.get_ne, Option.getD_some, Option.getD_none]
  have hmi := hm i
  have hci := hc (a + (i + 1))
  have e2 : ((minR c a (i + 1) : Nat) : Int) = if (c (a + (i + 1)) : Int) < (minR c a i : Nat) then (c (a + (i + 1)) : Int) else (minR c a i : Nat) := by
    show ((min (minR c a i) (c (a + (i + 1))) : Nat) : Int) = _
    split <;> omega
  by_cases hik : i < k
  · refine tw ?_; try with_reducible intro QQ hQQ
    refine ti ?_; try clear hQQ QQ
    refine tw ?_; try with_reducible intro QQ hQQ
    refine ⟨⟨i + 1, by omega⟩, ?_, weak_round ?_ (by first | rfl | (simp only [go_sem, ↓reduceIte]))⟩
    rotate_left
    · simp only [e2]
      (simp only [go_sem, ↓reduceIte]; try rfl)
    · simp only; omega
  · have : i = k := by omega
    subst this
    refine tw ?_; try with_reducible intro QQ hQQ
    refine ti ?_; try clear hQQ QQ
    refine tw ?_; try with_reducible intro QQ hQQ
    refine aw_ret ?_; refine ⟨.inr rfl, ?_⟩; simp only [resA, res1, go_sem, ↓reduceIte]
end
theorem ok_least (c : Nat → Nat) (hc : ∀ i, c i ≤ 1000000) : FunOK Try.prog 83 [.agg (cP c)] (.one (.one (iP ((minR c 0 30 : Nat) : Int)))) := by
  have hm := ok_min c hc 0 30 (by omega)
  refine fun_ok (nt := 5) (rs := [.tmp 2]) Try.func83 rfl rfl rfl (by simp) fun Z w0 => ?_; simp only [initFr, avR, List.map_cons, List.map_nil]
  simp only [cP]
  apply aw_seq
  refine tg ?_; try with_reducible intro QQ hQQ
  refine aw_weak (weak_give 1 0 (cP c) [2] [] 1 (by simp only [go_sem, ↓reduceIte]; rfl) (by rw [cP, arrA_map]; rfl) (by rfl) (by decide) (fun _ h => h)) ?_
  dsimp only [AL.set]
  refine tw ?_; try with_reducible intro QQ hQQ
  refine ⟨rfl, .inr ⟨rfl, callS_sliceA rfl rfl ty_arr88 ty_size3 (row := cP c) (off := 0) (.inr ⟨by simp (disch := first | decide | omega) only [go_sem, ↓reduceIte]; try rfl, rfl⟩) ((cP c).map fun v => [v]) (fun i r j x h1 h2 => arr_rows i r j x h1 h2) (arr_rowsK _ _) (by simp [cP, arrP_len]) (by decide) (l := 0) (h := 31) rfl rfl (by decide) (by decide) ?_⟩⟩
  rw [rngP_of (by decide)]
  ((refine cO 97 rfl rfl rfl (hm) Try.func97 rfl ?_); refine tu ?_; try clear hQQ QQ); refine tw ?_; try with_reducible intro QQ hQQ
  refine aw_ret ?_; refine ⟨.inr rfl, ?_⟩; simp only [resA, res1, go_sem, ↓reduceIte]
theorem ok_at (c : Nat → Nat) (n : Nat) (hn : n < 31) : FunOK Try.prog 80 [.agg (cP c), .one (iP n)] (.one (.one (iP ((c n : Nat) : Int)))) := by
  refine fun_ok (nt := 8) (rs := [.tmp 4]) Try.func80 rfl rfl rfl (by simp) fun Z w0 => ?_; simp only [initFr, avR, List.map_cons, List.map_nil]
  simp only [cP]
  refine tw ?_; try with_reducible intro QQ hQQ
  refine aw_ret ?_; refine ⟨.inr rfl, ?_⟩; simp only [resA, res1, go_sem, ↓reduceIte]
/-- The first ones turned. -/
def mixF (f g : Nat → Nat) (i j : Nat) : Nat := if j < i then f j else g j
theorem mix_zero (f g : Nat → Nat) : mixF f g 0 = g := by funext j; unfold mixF; rw [if_neg (by omega)]
theorem mix_all (f g : Nat → Nat) : cA (mixF f g 31) = cA f := arrA_congr fun i hi => by unfold mixF; rw [if_pos hi]
theorem mix_at {f g : Nat → Nat} {i : Nat} : mixF f g i i = g i := by unfold mixF; rw [if_neg (by omega)]
theorem mix_step (f g : Nat → Nat) (i : Nat) : updF (fun j => ((mixF f g i j : Nat) : Int)) i (f i : Nat) = fun j => ((mixF f g (i + 1) j : Nat) : Int) := by
  funext j
  unfold updF mixF
  by_cases h : j = i
  · subst h; rw [if_pos rfl, if_pos (by omega)]
  · rw [if_neg h]
    show ((if j < i then f j else g j : Nat) : Int) = _
    by_cases h2 : j < i
    · rw [if_pos h2, if_pos (by omega)]
    · rw [if_neg h2, if_neg (by omega)]
attribute [go_sem] mix_at mix_step
theorem ok_plus (c o : Nat → Nat) (hc : ∀ i, c i ≤ 1000000) (ho : ∀ i, o i ≤ 1000000) : FunOK Try.prog 95 [.agg (cP c), .agg (cP o)] (.one (.agg (cP (plusF c o)))) := by
  have hs : ∀ i, FunOK Try.prog 103 [.one (.sl [[iP (c i : Int)], [iP (o i : Int)]])] (.one (.one (iP ((plusF c o i : Nat) : Int)))) := fun i => ok_sum2 (hc i) (ho i)
  refine fun_ok (nt := 21) (rs := [.cell 4 88]) Try.func95 rfl rfl rfl (by simp) fun Z w0 => ?_; simp only [initFr, avR, List.map_cons, List.map_nil]
  simp only [cP]
  refine tw ?_; try with_reducible intro QQ hQQ
  refine aw_weak (weak_keep [2, 3, 4, 6] (by simp only [go_sem, ↓reduceIte]; rfl)) ?_
  refine aw_loop_ov (ι := { i : Nat // i ≤ 31 }) (fun i => [(6, iA i.1)]) (fun i => [(0, .box (cA (mixF (plusF c o) c i.1)))]) (fun i => 31 - i.1) ⟨0, by omega⟩ (by first | rfl | (simp only [go_sem, ↓reduceIte]; first | done | rfl | (simp; try rfl))) ?_
  rintro ⟨i, hi⟩
  simp (disch := decide) only [ov, ovL, AL.get_nil, AL.get_eq, AL.get_ne, Option.getD_some, Option.getD_none]
  simp only [cA]
  by_cases hil : i < 31
  · have hsi := hs i
    refine tw ?_; try with_reducible intro QQ hQQ
    refine ti ?_; try clear hQQ QQ
    refine tw ?_; try with_reducible intro QQ hQQ
    (refine cD 103 rfl rfl rfl (hsi) Try.func103 rfl ?_); refine td ?_; try clear hQQ QQ
    refine tw ?_; try with_reducible intro QQ hQQ
    (refine ⟨⟨i + 1, by omega⟩, ?_, weak_round (by simp only [go_sem, ↓reduceIte]; first | done | rfl) (by first | rfl | (simp only [go_sem, ↓reduceIte]))⟩; (simp only; omega))
  · have : i = 31 := by omega
    subst this
    have e := mix_all (plusF c o) c
    simp only [cA] at e
    rw [e]
    refine tw ?_; try with_reducible intro QQ hQQ
    refine ti ?_; try clear hQQ QQ
    refine tw ?_; try with_reducible intro QQ hQQ
    refine aw_ret ?_; refine ⟨.inr rfl, ?_⟩; simp only [resA, res1, go_sem, ↓reduceIte]
end Go.Proofs.Ytgdhdikeicgndaa
/- classer: what leads from bale to bale, walked. -/
namespace Go.Proofs.Ytgdhdikeicgndaa
open Go Go.RowKit Go.Sh Go.Pv Go.Cl
set_option maxHeartbeats 4000000
set_option maxRecDepth 8000
theorem aft_bd {D : Nat} {c : Nat → Nat} {m : Nat} (hc : ∀ i, c i ≤ m) (w : Nat) : aft D c w ≤ m := by
  unfold aft
  obtain ⟨j, _, hj⟩ := minR_mem (c := c) (a := w - D) (min 30 (w + D) - (w - D))
  rw [hj]; exact hc _
theorem ok_aft (D : Nat) (c : Nat → Nat) (hD : D ≤ 30) (hc : ∀ i, c i ≤ 1000000) : FunOK Try.prog 96 [.agg [iP (D : Int)], .agg (cP c)] (.one (.agg (cP (aft D c)))) := by
  have hm : ∀ i, i < 31 → FunOK Try.prog 97 [.one (.sl (rngP c (i - D) (min 30 (i + D) + 1 - (i - D))))] (.one (.one (iP ((aft D c i : Nat) : Int)))) := fun i hi => by
    have := ok_min c hc (i - D) (min 30 (i + D) - (i - D)) (by omega)
    rw [show min 30 (i + D) + 1 - (i - D) = min 30 (i + D) - (i - D) + 1 by omega]
    exact this
  refine fun_ok (nt := 26) (rs := [.cell 4 88]) Try.func96 rfl rfl rfl (by simp) fun Z w0 => ?_; simp only [initFr, avR, List.map_cons, List.map_nil]
  simp only [cP]
  apply aw_seq
  refine tg ?_; try with_reducible intro QQ hQQ
  refine aw_weak (weak_give 3 1 (cP c) [2, 4] [0, 2] 3 (by simp only [go_sem, ↓reduceIte]; rfl) (by rw [cP, arrA_map]; rfl) (by rfl) (by decide) (fun _ h => h)) ?_
  dsimp only [AL.set]
  refine tw ?_; try with_reducible intro QQ hQQ
  refine aw_weak (weak_keep [2, 3, 4, 6] (by simp only [go_sem, ↓reduceIte]; rfl)) ?_
  refine aw_loop_ov (ι := { i : Nat // i ≤ 31 }) (fun i => [(6, iA i.1)]) (fun i => [(2, .box (cA (mixF (aft D c) (fun _ => 0) i.1)))]) (fun i => 31 - i.1) ⟨0, by omega⟩ (by first | rfl | (simp only [go_sem, ↓reduceIte]; first | done | rfl | (simp; try rfl))) ?_
  rintro ⟨i, hi⟩
  simp (disch := decide) only [ov, ovL, AL.get_nil, AL.get_eq, AL.get_ne, Option.getD_some, Option.getD_none]
  simp only [cA]
  by_cases hil : i < 31
  · have hmi := hm i hil
    have hlo : (if (i : Int) - (D : Int) > 0 then (i : Int) - (D : Int) else 0) = ((i - D : Nat) : Int) := by split <;> omega
    have hhi : (if (i : Int) + (D : Int) + 1 < 31 then (i : Int) + (D : Int) + 1 else 31) = ((min 30 (i + D) + 1 : Nat) : Int) := by split <;> omega
    try clear hF
    have hF := And.intro hlo (hhi)
    refine twF ?_; try with_reducible intro QQ hQQ
    refine tiF ?_; try clear hQQ QQ
    refine twF ?_; try with_reducible intro QQ hQQ
    refine ⟨rfl, .inr ⟨rfl, callS_sliceA rfl rfl ty_arr88 ty_size3 (row := cP c) (off := 0) (.inr ⟨by simp (disch := first | decide | omega) only [hF, go_sem, ↓reduceIte]; try rfl, rfl⟩) ((cP c).map fun v => [v]) (fun i r j x h1 h2 => arr_rows i r j x h1 h2) (arr_rowsK _ _) (by simp [cP, arrP_len]) (by decide) (l := i - D) (h := min 30 (i + D) + 1) ⟨.i64, by simp (disch := first | decide | omega) only [hF, go_sem, ↓reduceIte]; try rfl⟩ ⟨.i64, by simp (disch := first | decide | omega) only [hF, go_sem, ↓reduceIte]; try rfl⟩ (by omega) (by omega) ?_⟩⟩
    rw [rngP_of (by omega)]
    ((refine cOF 97 rfl rfl rfl (hmi) Try.func97 rfl ?_); refine tuF ?_; try clear hQQ QQ); refine twF ?_; try with_reducible intro QQ hQQ
    (refine ⟨⟨i + 1, by omega⟩, ?_, weak_round (by simp only [hF, go_sem, ↓reduceIte]; first | done | rfl) (by first | rfl | (simp only [hF, go_sem, ↓reduceIte]))⟩; (simp only; omega))
  · have : i = 31 := by omega
    subst this
    have e := mix_all (aft D c) (fun _ => 0)
    simp only [cA] at e
    rw [e]
    refine tw ?_; try with_reducible intro QQ hQQ
    refine ti ?_; try clear hQQ QQ
    refine tw ?_; try with_reducible intro QQ hQQ
    refine aw_ret ?_; refine ⟨.inr rfl, ?_⟩; simp only [resA, res1, go_sem, ↓reduceIte]
/-- A bale, by itself, as a row. -/
def baleP (b : Nat × Nat × Nat) : List PV := [iP (b.1 : Int), iP (b.2.1 : Int), iP (b.2.2 : Int)]
def stepP (D : Nat) (b : Nat × Nat × Nat) (tk : Bool) : List PV := [iP (D : Int), iP (b.1 : Int), iP (b.2.1 : Int), iP (b.2.2 : Int), .v (.bool tk)]
theorem ok_own (D : Nat) (b : Nat × Nat × Nat) (tk : Bool) (h1 : b.1 ≤ 30) (h2 : b.2.1 ≤ b.1) (h3 : b.2.2 ≤ b.2.1) : FunOK Try.prog 79 [.agg (stepP D b tk)] (.one (.agg (cP (ownF b tk)))) := by
  obtain ⟨F, L, W⟩ := b
  dsimp only at h1 h2 h3
  refine fun_ok (nt := 50) (rs := [.cell 2 88]) Try.func79 rfl rfl rfl (by simp) fun Z w0 => ?_; simp only [initFr, avR, List.map_cons, List.map_nil]
  simp only [cP, stepP]
  refine tw ?_; try with_reducible intro QQ hQQ
  refine aw_weak (weak_keep [1, 2, 6] (by simp only [go_sem, ↓reduceIte]; rfl)) ?_
  refine aw_loop_ov (ι := { i : Nat // i ≤ 31 }) (fun i => [(6, iA i.1)]) (fun i => [(1, .box (cA (mixF (ownF (F, L, W) tk) (fun _ => 0) i.1)))]) (fun i => 31 - i.1) ⟨0, by omega⟩ (by first | rfl | (simp only [go_sem, ↓reduceIte]; first | done | rfl | (simp; try rfl))) ?_
  rintro ⟨i, hi⟩
  simp (disch := decide) only [ov, ovL, AL.get_nil, AL.get_eq, AL.get_ne, Option.getD_some, Option.getD_none]
  simp only [cA]
  by_cases hil : i < 31
  · by_cases hSF : i > F
    · have e : (65536 : Int) = ((ownF (F, L, W) tk i : Nat) : Int) := by unfold ownF FAR; rw [if_pos hSF]; rfl
      have e2 : ∀ c, updF c i 65536 = updF c i ((ownF (F, L, W) tk i : Nat) : Int) := fun c => by rw [← e]
      refine tw ?_; try with_reducible intro QQ hQQ
      refine ti ?_; try clear hQQ QQ
      refine tw ?_; try with_reducible intro QQ hQQ
      refine ti ?_; try clear hQQ QQ
      try clear hF
      have hF := e2
      refine twF ?_; try with_reducible intro QQ hQQ
      (refine ⟨⟨i + 1, by omega⟩, ?_, weak_round (by simp only [hF, go_sem, ↓reduceIte]; first | done | rfl) (by first | rfl | (simp only [hF, go_sem, ↓reduceIte]))⟩; (simp only; omega))
    · cases tk
      · refine tw ?_; try with_reducible intro QQ hQQ
        refine ti ?_; try clear hQQ QQ
        refine tw ?_; try with_reducible intro QQ hQQ
        refine ti ?_; try clear hQQ QQ
        refine tw ?_; try with_reducible intro QQ hQQ
        refine ti ?_; try clear hQQ QQ
        refine tw ?_; try with_reducible intro QQ hQQ
        have e2 : mixF (ownF (F, L, W) false) (fun _ => 0) (i + 1) = mixF (ownF (F, L, W) false) (fun _ => 0) i := by
          funext j
          unfold mixF
          by_cases h : j = i
          · subst h
            rw [if_pos (by omega), if_neg (by omega)]
            unfold ownF
            rw [if_neg (by omega), if_neg (by decide)]
          · by_cases h4 : j < i
            · rw [if_pos (by omega), if_pos h4]
            · rw [if_neg (by omega), if_neg h4]
        refine ⟨⟨i + 1, by omega⟩, ?_, weak_round ?_ (by first | rfl | (simp only [go_sem, ↓reduceIte]))⟩
        rotate_left
        · simp only [e2]
          (simp only [go_sem, ↓reduceIte]; try rfl)
        · simp only; omega
      · have hlo : (if (i : Int) - ((F : Int) - (L : Int)) > 0 then (i : Int) - ((F : Int) - (L : Int)) else 0) = ((i - (F - L) : Nat) : Int) := by split <;> omega
        have hhi : (if (L : Int) < (i : Int) then (L : Int) else (i : Int)) = ((min i L : Nat) : Int) := by split <;> omega
        have e1 : ownF (F, L, W) true i = max ((i - (F - L)) - W) (W - min i L) := by unfold ownF costB; rw [if_neg hSF, if_pos rfl]
        have e : (if (W : Int) - ((min i L : Nat) : Int) > (if ((i - (F - L) : Nat) : Int) - (W : Int) > 0 then ((i - (F - L) : Nat) : Int) - (W : Int) else 0) then (W : Int) - ((min i L : Nat) : Int) else (if ((i - (F - L) : Nat) : Int) - (W : Int) > 0 then ((i - (F - L) : Nat) : Int) - (W : Int) else 0)) = ((ownF (F, L, W) true i : Nat) : Int) := by
          rw [e1]
          split <;> split <;> omega
        have hX : (i - (F - L)) ≤ 30 := by omega
        have hY : min i L ≤ 30 := by omega
        generalize (i - (F - L)) = X at *
        generalize min i L = Y at *
        try clear hF
        have hF := And.intro hlo (And.intro hhi (e))
        refine twF ?_; try with_reducible intro QQ hQQ
        refine tiF ?_; try clear hQQ QQ
        refine twF ?_; try with_reducible intro QQ hQQ
        refine tiF ?_; try clear hQQ QQ
        refine twF ?_; try with_reducible intro QQ hQQ
        refine tiF ?_; try clear hQQ QQ
        refine twF ?_; try with_reducible intro QQ hQQ
        (refine ⟨⟨i + 1, by omega⟩, ?_, weak_round (by simp only [hF, go_sem, ↓reduceIte]; first | done | rfl) (by first | rfl | (simp only [hF, go_sem, ↓reduceIte]))⟩; (simp only; omega))
  · have : i = 31 := by omega
    subst this
    have e := mix_all (ownF (F, L, W) tk) (fun _ => 0)
    simp only [cA] at e
    rw [e]
    refine tw ?_; try with_reducible intro QQ hQQ
    refine ti ?_; try clear hQQ QQ
    refine tw ?_; try with_reducible intro QQ hQQ
    refine aw_ret ?_; refine ⟨.inr rfl, ?_⟩; simp only [resA, res1, go_sem, ↓reduceIte]
theorem ok_after (D : Nat) (b : Nat × Nat × Nat) (tk : Bool) (c : Nat → Nat) (hD : D ≤ 30) (h1 : b.1 ≤ 30) (h2 : b.2.1 ≤ b.1) (h3 : b.2.2 ≤ b.2.1) (hc : ∀ i, c i ≤ 1000000) : FunOK Try.prog 82 [.agg (stepP D b tk), .agg (cP c)] (.one (.agg (cP (plusF (aft D c) (ownF b tk))))) := by
  have ha := ok_aft D c hD hc
  have ho := ok_own D b tk h1 h2 h3
  have hp := ok_plus (aft D c) (ownF b tk) (aft_bd hc) (fun i => Nat.le_trans (ownF_le h1 h2 h3) (by decide))
  refine fun_ok (nt := 14) (rs := [.cell 4 88]) Try.func82 rfl rfl rfl (by simp) fun Z w0 => ?_; simp only [initFr, avR, List.map_cons, List.map_nil]
  simp only [stepP, cP] at *
  refine tw ?_; try with_reducible intro QQ hQQ
  (refine cD 96 rfl rfl rfl (ha) Try.func96 rfl ?_); refine td ?_; try clear hQQ QQ
  refine tw ?_; try with_reducible intro QQ hQQ
  (refine cD 79 rfl rfl rfl (ho) Try.func79 rfl ?_); refine td ?_; try clear hQQ QQ
  refine tw ?_; try with_reducible intro QQ hQQ
  (refine cD 95 rfl rfl rfl (hp) Try.func95 rfl ?_); refine td ?_; try clear hQQ QQ
  refine tw ?_; try with_reducible intro QQ hQQ
  refine aw_ret ?_; refine ⟨.inr rfl, ?_⟩; simp only [resA, res1, go_sem, ↓reduceIte]
end Go.Proofs.Ytgdhdikeicgndaa
/- classer: what is kept of a line that is looked at. -/
namespace Go.Proofs.Ytgdhdikeicgndaa
open Go Go.RowKit Go.Sh Go.Pv Go.Cl
set_option maxHeartbeats 4000000
set_option maxRecDepth 8000
/-- Costs as a value. -/
def cV (c : Nat → Nat) : Value := .agg (arrV 31 fun i => ((c i : Nat) : Int))
theorem relR_cV (c : Nat → Nat) : ∀ (Z : Nat → Nat → Prop) (w : World), RelR Z w (.agg (cP c)) (cV c) := by
  intro Z w
  refine ⟨_, rfl, by simp [arrV, cP, arrP], fun j x hj => ?_⟩
  unfold cP arrP at hj
  rw [List.getElem?_map] at hj
  obtain ⟨n, hn, rfl⟩ := Option.map_eq_some_iff.1 hj
  exact ⟨.int .i64 (c n), by simp [arrV, hn], .v _ rfl⟩
theorem arrV_eq (n : Nat) (c : Nat → Int) : ((List.range n).map fun i => Value.int .i64 (c i)).toArray = arrV n c := rfl
attribute [go_sem] arrV_eq
/-- A key. -/
def keyV (tk n : Nat) (b : Bool) : Value := .agg #[.int .u64 (tk : Int), .int .i64 (n : Int), .bool b]
theorem key_inj {tk n tk' n' : Nat} {b b' : Bool} (h : keyV tk n b = keyV tk' n' b') : tk = tk' ∧ n = n' ∧ b = b' := by
  simp only [keyV, Value.agg.injEq, Array.mk.injEq, List.cons.injEq, Value.int.injEq, Value.bool.injEq, and_true, true_and] at h
  exact ⟨by omega, by omega, h.2.2⟩
/-- The costs of the bales from an end to one. -/
def toF (D : Nat) (bs : List (Nat × Nat × Nat)) (tk n : Nat) (b : Bool) : Nat → Nat := if b = true then bwd D bs tk n else fwd D bs tk n
def keepI (D : Nat) (bs : List (Nat × Nat × Nat)) : MI := ⟨fun k v => ∃ tk n b, k = keyV tk n b ∧ n < bs.length ∧ v = cV (toF D bs tk n b), fun _ _ => False⟩
theorem Try.laidOut : laidOutB Try.prog = true := by kernel_rfl
theorem key118 : WideMaps.KeyLaw Try.prog 118 := deep_law_laid Try.laidOut (m := 5) (by omega) (of_decide_eq_true (by kernel_rfl)) (by kernel_rfl) (by kernel_rfl)
theorem und82 : Try.prog.underlying 82 = some (.map 118 88) := by kernel_rfl
theorem cells118 : Try.prog.cellsOf 118 = 3 := by kernel_rfl
theorem cells71 : Try.prog.cellsOf 71 = 1 := by kernel_rfl
theorem cells3 : Try.prog.cellsOf 3 = 1 := by kernel_rfl
theorem cells4 : Try.prog.cellsOf 4 = 1 := by kernel_rfl
theorem types_size : Try.prog.types.size = 153 := by kernel_rfl
theorem keyOf118 (tk n : Nat) (b : Bool) (h1 : tk < 2 ^ 64) (h2 : n < 2 ^ 63) : ∃ l, keyOf Try.prog 118 (keyV tk n b) = some l := by
  have hw : (Lit.int .u64 (tk : Int)).wf = true := by
    have : IntKind.min .u64 = 0 ∧ IntKind.max .u64 = 18446744073709551615 := by decide
    simp only [Lit.wf, Bool.and_eq_true, decide_eq_true_eq]; omega
  have hw2 : (Lit.int .i64 (n : Int)).wf = true := by
    have : IntKind.min .i64 = -9223372036854775808 ∧ IntKind.max .i64 = 9223372036854775807 := by decide
    simp only [Lit.wf, Bool.and_eq_true, decide_eq_true_eq]; omega
  have h1 : Try.prog.keyType 118 = true := by kernel_rfl
  have i0 : ∀ d, Try.prog.keyLits (d + 1) 71 [.int .u64 (tk : Int)] = some [.int .u64 (tk : Int)] := fun d => by
    unfold Program.keyLits; simp [Try.underlying71, hw]
  have i1 : ∀ d, Try.prog.keyLits (d + 1) 3 [.int .i64 (n : Int)] = some [.int .i64 (n : Int)] := fun d => by
    unfold Program.keyLits; simp [Try.underlying3, hw2]
  have i3 : ∀ d, Try.prog.keyLits (d + 1) 4 [.bool b] = some [.bool b] := fun d => by
    unfold Program.keyLits; simp [Try.underlying4]
  have i2 : ∀ d, Try.prog.keyLits (d + 1 + 1) 118 [.int .u64 (tk : Int), .int .i64 (n : Int), .bool b] = some [.int .u64 (tk : Int), .int .i64 (n : Int), .bool b] := fun d => by
    unfold Program.keyLits; simp [Try.underlying118, cells118, cells71, cells3, cells4, i0, i1, i3]
  unfold keyOf keyV
  simp only [Try.underlying118, h1, types_size, Value.formed, Value.cells, cells118]
  exact ⟨_, by rw [show (153 + 1 : Nat) = 152 + 1 + 1 from rfl, i2 152]; rfl⟩
theorem zero88 : ∀ w, (zeroValue 88).run Try.prog w = .ok (cV fun _ => 0) w := fun w => by kernel_rfl
end Go.Proofs.Ytgdhdikeicgndaa
/- classer: a line that is looked at: steps, and what is kept, walked. -/
namespace Go.Proofs.Ytgdhdikeicgndaa
open Go Go.RowKit Go.Sh Go.Pv Go.Cl
set_option maxHeartbeats 4000000
set_option maxRecDepth 8000
section
variable (D M May : Nat) (bs : List (Nat × Nat × Nat))
/-- A line that is looked at: as data, as cells, and with what is kept. -/
def tP : PV := .ptr [.sl (bs.map baleP), iP (May : Int), iP (D : Int), iP (M : Int), .any]
def tC (m : Nat) : List AC := [.p (.sl (bs.map baleP)), .p (iP (May : Int)), .p (iP (D : Int)), .p (iP (M : Int)), .memo m]
def tH (P : Program) : List (Nat × Obj') := [(1, .memo P 118 (keepI D bs)), (0, .box (tC D M May bs 1))]
end
theorem rowsK_bale (l : List (Nat × Nat × Nat)) : rowsK 3 (l.map baleP) = True := eq_true fun i r h => by rw [List.getElem?_map] at h; obtain ⟨x, _, rfl⟩ := Option.map_eq_some_iff.1 h; rfl
theorem get_someBale {l : List (Nat × Nat × Nat)} {k : Nat} (h : k < l.length) : l[k]? = some (bG l k) := by simp [bG, List.getD, h]
section
attribute [local go_sem] baleP rowsK_bale get_someBale
variable {D M May : Nat} {bs : List (Nat × Nat × Nat)}
theorem ok_every (h : LOK bs) : FunOK Try.prog 54 [.one (tP D M May bs)] (.one (.one (uP (2 ^ bs.length - 1)))) := by
  have h6 := h.n6
  have hp1 := Nat.one_le_two_pow (n := bs.length)
  have hp2 : 2 ^ bs.length ≤ 2 ^ 6 := Nat.pow_le_pow_right (by decide) h6
  have hw : IntKind.u64.wrap (((2 ^ bs.length : Nat) : Int) - 1) = ((2 ^ bs.length - 1 : Nat) : Int) := by
    rw [wrap_u64 (by omega) (by omega)]
    omega
  have hsh : ∀ (T : TypeId) (p q : Operand), binA Try.prog .shl T p q (.int .u64 1) (.int .i64 (bs.length : Int)) = some (.int .u64 ((2 ^ bs.length : Nat) : Int)) := fun T p q => binu_shl_one .i64 T p q (by omega)
  refine fun_ok (nt := 11) (rs := [.tmp 2]) Try.func54 rfl rfl rfl (by simp) fun Z w0 => ?_; simp only [initFr, avR, List.map_cons, List.map_nil]
  simp only [tP]
  (repeat (first | apply aw_seq | apply aw_block | apply aw_skip | apply aw_label | apply aw_exit | ((first | refine aw_region (hideO fun QQ hQQ => ?_) | refine aw_draw mixed (hideD fun QQ hQQ => ?_)); simp (maxSteps := 400000) (disch := first | decide | omega) only [hsh, hw, go_sem, ↓reduceIte]; try (first | with_reducible refine unhide hQQ ?_ | refine ⟨by kernel_rfl, unhide hQQ ?_⟩); clear hQQ QQ) | with_reducible first | apply then_n | apply block_n | apply then_x | apply then_r | apply nog_n | apply nog_r | apply block_r | apply block_e (by decide) | apply block_x (by decide)))
  refine aw_ret ?_; refine ⟨.inr rfl, ?_⟩; simp only [resA, res1, go_sem, ↓reduceIte]
theorem ok_isBale (i : Int) (h : LOK bs) : FunOK Try.prog 46 [.one (tP D M May bs), .one (iP i)] (.one (.one (.v (.bool (inB i 0 ((bs.length : Int) - 1)))))) := by
  have h6 := h.n6
  have hw := ok_within i 0 ((bs.length : Int) - 1)
  refine fun_ok (nt := 14) (rs := [.tmp 4]) Try.func46 rfl rfl rfl (by simp) fun Z w0 => ?_; simp only [initFr, avR, List.map_cons, List.map_nil]
  simp only [tP]
  refine tw ?_; try with_reducible intro QQ hQQ
  ((refine cO 76 rfl rfl rfl (hw) Try.func76 rfl ?_); refine tu ?_; try clear hQQ QQ); refine tw ?_; try with_reducible intro QQ hQQ
  refine aw_ret ?_; refine ⟨.inr rfl, ?_⟩; simp only [resA, res1, go_sem, ↓reduceIte]
theorem ok_step (h : LOK bs) (n tk : Nat) (hn : n < bs.length) (htk : tk < 2 ^ 64) : FunOK Try.prog 78 [.one (tP D M May bs), .one (iP (n : Int)), .one (uP tk)] (.one (.agg (stepP D (bG bs n) (tk.testBit n)))) := by
  have h6 := h.n6
  have hsi : tk >>> n < 2 ^ 64 := Nat.lt_of_le_of_lt (Nat.shiftRight_le _ _) htk
  have hb : ((tk >>> n % 2 : Nat) : Int) == 1 ↔ tk.testBit n = true := by
    cases hb : tk.testBit n
    · rw [bit_f hb]; simp
    · rw [bit_t hb]; simp
  have hb2 : (((tk >>> n % 2 : Nat) : Int) == 1) = tk.testBit n := by
    cases hb : tk.testBit n
    · rw [bit_f hb]; rfl
    · rw [bit_t hb]; rfl
  obtain ⟨⟨F, L, W⟩, hg⟩ : ∃ b, bG bs n = b := ⟨_, rfl⟩
  rw [hg]
  unfold stepP
  refine fun_ok (nt := 27) (rs := [.cell 6 109]) Try.func78 rfl rfl rfl (by simp) fun Z w0 => ?_; simp only [initFr, avR, List.map_cons, List.map_nil]
  simp only [tP]
  (repeat (first | apply aw_seq | apply aw_block | apply aw_skip | apply aw_label | apply aw_exit | ((first | refine aw_region (hideO fun QQ hQQ => ?_) | refine aw_draw mixed (hideD fun QQ hQQ => ?_)); simp (maxSteps := 400000) (disch := first | decide | omega) only [binu_shr, binu_and_one, hb2, hg, go_sem, ↓reduceIte]; try (first | with_reducible refine unhide hQQ ?_ | refine ⟨by kernel_rfl, unhide hQQ ?_⟩); clear hQQ QQ) | with_reducible first | apply then_n | apply block_n | apply then_x | apply then_r | apply nog_n | apply nog_r | apply block_r | apply block_e (by decide) | apply block_x (by decide)))
  refine aw_ret ?_; refine ⟨.inr rfl, ?_⟩; simp only [resA, res1, go_sem, ↓reduceIte]
theorem ok_told (s : Nat × Nat) : FunOK Try.prog 57 [.one (tP D M May bs), .agg [iP (s.1 : Int), iP (s.2 : Int)]] (.one (.one (iP ((toldS May s : Nat) : Int)))) := by
  obtain ⟨lo, hi⟩ := s
  unfold toldS
  refine fun_ok (nt := 23) (rs := [.tmp 4]) Try.func57 rfl rfl rfl (by simp) fun Z w0 => ?_; simp only [initFr, avR, List.map_cons, List.map_nil]
  simp only [tP]
  by_cases h1 : hi ≤ May
  · rw [if_pos h1]
    refine tw ?_; try with_reducible intro QQ hQQ
    refine ti ?_; try clear hQQ QQ
    refine tw ?_; try with_reducible intro QQ hQQ
    refine aw_ret ?_; refine ⟨.inr rfl, ?_⟩; simp only [resA, res1, go_sem, ↓reduceIte]
    rfl
  · rw [if_neg h1]
    by_cases h2 : lo ≤ May
    · rw [if_pos h2]
      refine tw ?_; try with_reducible intro QQ hQQ
      refine ti ?_; try clear hQQ QQ
      refine tw ?_; try with_reducible intro QQ hQQ
      refine ti ?_; try clear hQQ QQ
      refine tw ?_; try with_reducible intro QQ hQQ
      refine aw_ret ?_; refine ⟨.inr rfl, ?_⟩; simp only [resA, res1, go_sem, ↓reduceIte]
      rfl
    · rw [if_neg h2]
      refine tw ?_; try with_reducible intro QQ hQQ
      refine ti ?_; try clear hQQ QQ
      refine tw ?_; try with_reducible intro QQ hQQ
      refine ti ?_; try clear hQQ QQ
      refine tw ?_; try with_reducible intro QQ hQQ
      refine aw_ret ?_; refine ⟨.inr rfl, ?_⟩; simp only [resA, res1, go_sem, ↓reduceIte]
      rfl
end
end Go.Proofs.Ytgdhdikeicgndaa
