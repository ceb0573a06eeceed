/- Texts of the proof, joined. -/
import Derived.Test.YthedkfiebmnghaaGreatPvL
import Derived.Test.YthedkfiebmnghaaGreatCwA
import Derived.Test.YthedkfiebmnghaaGreatKdy18
set_option linter.all false
set_option maxHeartbeats 16000000
set_option maxRecDepth 20000
namespace Go.Proofs.YthedkfiebmnghaaGreat
open Go Go.RowKit Go.Sh Go.Pv
attribute [go_sem] beq_t_d beq_f_d bne_t_d bne_f_d
theorem qAF {G : Prop} (h : G := by repeat' (first | trivial | apply And.intro | (simp (disch := first | decide | omega) only [hF, go_sem, ↓reduceIte]; first | done | rfl))) : G := h
theorem qCF {G : Prop} (h : G := by first | rfl | (simp (disch := first | decide | omega) only [hF, go_sem, ↓reduceIte]; try rfl)) : G := h
theorem qMF {G : Prop} (h : G := by simp (maxSteps := 400000) (disch := first | decide | omega) only [hF, go_sem, ↓reduceIte]; try rfl) : G := h
theorem qF {G : Prop} (h : G := by simp (disch := first | decide | omega) only [hF, go_sem, ↓reduceIte]; try rfl) : G := h
theorem qAN {G : Prop} (h : G := by repeat' (first | trivial | apply And.intro | (simp (disch := first | decide | omega) only [go_sem, ↓reduceIte]; first | done | rfl))) : G := h
theorem qCN {G : Prop} (h : G := by first | rfl | (simp (disch := first | decide | omega) only [go_sem, ↓reduceIte]; try rfl)) : G := h
theorem qMN {G : Prop} (h : G := by simp (maxSteps := 400000) (disch := first | decide | omega) only [go_sem, ↓reduceIte]; try rfl) : G := h
theorem qSN {G : Prop} (h : G := by simp (disch := first | decide | omega) only [resA, res1, go_sem, ↓reduceIte]; try rfl) : G := h
theorem qN {G : Prop} (h : G := by simp (disch := first | decide | omega) only [go_sem, ↓reduceIte]; try rfl) : G := h
theorem qHF {G : Prop} (h : G := by (intro i hi; first | exact (List.not_mem_nil hi).elim | (simp only [List.flatMap_cons, List.flatMap_nil, refsCC, List.append_nil, List.mem_singleton] at hi; subst hi; exact ⟨_, qF⟩) | (simp only [List.flatMap_cons, List.flatMap_nil, refsCC, List.append_nil, List.cons_append, List.nil_append, List.mem_cons, List.mem_nil_iff, or_false] at hi; first | (rcases hi with rfl | rfl <;> exact ⟨_, qF⟩) | (rcases hi with rfl | rfl | rfl <;> exact ⟨_, qF⟩)))) : G := h
theorem qVF {G : Prop} (h : G := by simp only [List.mem_cons, List.mem_nil_iff, forall_eq_or_imp, forall_eq, false_imp_iff, implies_true, or_false, and_true]; simp (maxSteps := 400000) (disch := first | decide | omega) only [hF, go_sem, ↓reduceIte]; try exact ⟨rfl, rfl⟩) : G := h
theorem qHN {G : Prop} (h : G := by (intro i hi; first | exact (List.not_mem_nil hi).elim | (simp only [List.flatMap_cons, List.flatMap_nil, refsCC, List.append_nil, List.mem_singleton] at hi; subst hi; exact ⟨_, qN⟩) | (simp only [List.flatMap_cons, List.flatMap_nil, refsCC, List.append_nil, List.cons_append, List.nil_append, List.mem_cons, List.mem_nil_iff, or_false] at hi; first | (rcases hi with rfl | rfl <;> exact ⟨_, qN⟩) | (rcases hi with rfl | rfl | rfl <;> exact ⟨_, qN⟩)))) : G := h
theorem qVN {G : Prop} (h : G := by simp only [List.mem_cons, List.mem_nil_iff, forall_eq_or_imp, forall_eq, false_imp_iff, implies_true, or_false, and_true]; simp (maxSteps := 400000) (disch := first | decide | omega) only [go_sem, ↓reduceIte]; try exact ⟨rfl, rfl⟩) : G := h
theorem qRN {G : Prop} (h : G := by refine aw_ret ?_; refine ⟨.inr rfl, ?_⟩; simp only [resA, res1, go_sem, ↓reduceIte]) : G := h
theorem tRN {G G' : Prop} (k : G') (h : G' → G := by intro hk0; refine aw_ret ?_; refine ⟨.inr rfl, ?_⟩; simp only [resA, res1, go_sem, ↓reduceIte]; exact hk0) : G := h k
theorem tO {G G' : Prop} (k : G') (h : G' → G := by intro hk0; simp (disch := decide) only [ov, ovL, AL.get_nil, AL.get_eq, AL.get_ne, Option.getD_some, Option.getD_none]; exact hk0) : G := h k
theorem tI {G G' : Prop} (k : G') (h : G' → G := by intro hk0; simp only [initFr, avR, List.map_cons, List.map_nil]; exact hk0) : G := h k
theorem tV {G G' : Prop} (k : G') (h : G' → G := by intro hk0; simp only [initV, pins, pinOf, List.map_cons, List.map_nil]; exact hk0) : G := h k
theorem boxOf_box (b : Nat) : boxOf (.one (.box b 0)) = some b := rfl
theorem boxOf_p (x : PV) : boxOf (.one (.p x)) = none := rfl
theorem boxOf_agg (cs : List AC) : boxOf (.agg cs) = none := rfl
attribute [go_sem] boxOf_box boxOf_p boxOf_agg bfxOf
theorem mixed : Tryz.prog.follows .mixedOrders = true := by kernel_rfl
theorem tw {G G' : Prop} (k : G') (h : G' → G := by intro hk0; ((repeat (first | apply aw_seq | apply aw_block | apply aw_skip | apply aw_label | apply aw_exit | ((first | refine aw_region (hideO fun Qz hQz => ?_) | refine aw_draw mixed (hideD fun Qz hQz => ?_)); simp (maxSteps := 400000) (disch := first | decide | omega) only [go_sem, ↓reduceIte]; try (first | with_reducible refine unhide hQz ?_ | refine ⟨by kernel_rfl, unhide hQz ?_⟩); clear hQz Qz) | with_reducible first | apply then_n | apply block_n | apply then_x | apply then_r | apply nog_n | apply nog_r | apply block_r | apply block_e (by decide) | apply block_x (by decide)))); (try revert hQz); (try revert Qz); exact hk0) : G := h k
theorem ts {G G' : Prop} (k : G') (h : G' → G := by intro hk0; (simp (maxSteps := 400000) (disch := first | decide | omega) only [go_sem, ↓reduceIte]; (try (with_reducible refine unhide hQQ ?_; (repeat with_reducible first | apply then_n | apply block_n | apply then_x | apply then_r | apply nog_n | apply nog_r | apply block_r | apply block_e (by decide) | apply block_x (by decide))))); exact hk0) : G := h k
theorem td {G G' : Prop} (k : G') (h : G' → G := by intro hk0; (simp (maxSteps := 400000) (disch := first | decide | omega) only [go_sem, ↓reduceIte]; (try (refine ⟨by kernel_rfl, unhide hQQ ?_⟩; (repeat with_reducible first | apply then_n | apply block_n | apply then_x | apply then_r | apply nog_n | apply nog_r | apply block_r | apply block_e (by decide) | apply block_x (by decide))))); exact hk0) : G := h k
theorem tu {G G' : Prop} (k : G') (h : G' → G := by intro hk0; (simp (maxSteps := 400000) (disch := first | decide | omega) only [go_sem, ↓reduceIte]; try (with_reducible refine unhide hQQ ?_)); exact hk0) : G := h k
theorem tv {G G' : Prop} (k : G') (h : G' → G := by intro hk0; (simp (maxSteps := 400000) (disch := first | decide | omega) only [go_sem, ↓reduceIte]; try (refine ⟨by kernel_rfl, unhide hQQ ?_⟩)); exact hk0) : G := h k
theorem ti {G G' : Prop} (k : G') (h : G' → G := by intro hk0; (refine aw_cond2 (by simp (disch := first | decide | omega) only [go_sem, ↓reduceIte]; rfl) ?_; first | refine .inl ⟨by first | rfl | exact decide_eq_true (by omega) | exact decide_eq_true (by assumption) | (simp (disch := first | decide | omega) only [if_pos_d, if_neg_d, decide_eq_true_eq, Bool.not_eq_true', decide_eq_false_iff_not]; omega), ?_⟩ | refine .inr ⟨by first | rfl | exact decide_eq_false (by omega) | exact decide_eq_false (by assumption) | (simp (disch := first | decide | omega) only [if_pos_d, if_neg_d, decide_eq_true_eq, Bool.not_eq_true', decide_eq_false_iff_not]; omega), ?_⟩); exact hk0) : G := h k
theorem cO {K : Kx} {ops : Array Oper} {o : Oper} {r : List Oper} {st : St} {Q : St → Prop} {f : Operand} {args : Array Operand} {argTypes : Array TypeId} (fid : FuncId) (hd : dstOK K o.dst = true) (ho : o.op = .call { callee := .value f, args := args, argTypes := argTypes }) {rvs : List RV} {res : RR} (h1 : (evalA (AL.get st.fr) f).bind fnA = some (fid, [])) (h4 : FunOK K.P fid rvs res) {fn : Func} (h5 : K.P.funcs[fid]? = some fn) (h6 : fn.body.isSome = true) (h : evOps K ops r (st.put o.dst (avRR res)) Q) (h2 : (args.toList.mapM (arg1 (AL.get st.fr) (AL.get st.hp) true)) = some rvs := by simp (disch := first | decide | omega) only [go_sem, ↓reduceIte]; try rfl) (h3 : true = true → flatRR res = true := by intro _; rfl) (h7 : fn.name ≠ "runtime.NumGoroutine" := by decide) : CallO K ops o r st Q :=
 callO_ok hd ho fid true h1 h2 h3 h4 h5 h6 h7 h
theorem cB {K : Kx} {ops : Array Oper} {o : Oper} {r : List Oper} {st : St} {Q : St → Prop} {f : Operand} {args : Array Operand} {argTypes : Array TypeId} (fid : FuncId) (hd : dstOK K o.dst = true) (ho : o.op = .call { callee := .value f, args := args, argTypes := argTypes }) {rvs : List RV} {res : RR} (h1 : (evalA (AL.get st.fr) f).bind fnA = some (fid, [])) (h4 : FunOK K.P fid rvs res) {fn : Func} (h5 : K.P.funcs[fid]? = some fn) (h6 : fn.body.isSome = true) (h : evOps K ops r (st.put o.dst (avRR res)) Q) (h2 : (args.toList.mapM (arg1 (AL.get st.fr) (AL.get st.hp) false)) = some rvs := by simp (disch := first | decide | omega) only [go_sem, ↓reduceIte]; try rfl) (h3 : false = true → flatRR res = true := (by intro h; cases h)) (h7 : fn.name ≠ "runtime.NumGoroutine" := by decide) : CallO K ops o r st Q :=
 callO_ok hd ho fid false h1 h2 h3 h4 h5 h6 h7 h
theorem cD {K : Kx} {l : List Oper} {o : Oper} {r : List Oper} {st : St} {recs : List Rec} {Q : St → Prop} {f : Operand} {args : Array Operand} {argTypes : Array TypeId} (fid : FuncId) (hd : dstOK K o.dst = true) (ho : o.op = .call { callee := .value f, args := args, argTypes := argTypes }) {rvs : List RV} {res : RR} (h1 : (evalA (AL.get st.fr) f).bind fnA = some (fid, [])) (h4 : FunOK K.P fid rvs res) {fn : Func} (h5 : K.P.funcs[fid]? = some fn) (h6 : fn.body.isSome = true) (h : evDraw K l r (st.put o.dst (avRR res)) (recs ++ [(some (idsA st o), [])]) Q) (h2 : (args.toList.mapM (arg1 (AL.get st.fr) (AL.get st.hp) true)) = some rvs := by simp (disch := first | decide | omega) only [go_sem, ↓reduceIte]; try rfl) (h3 : true = true → flatRR res = true := by intro _; rfl) (h7 : fn.name ≠ "runtime.NumGoroutine" := by decide) : CallD K l o r st recs Q :=
 callD_ok hd ho fid true h1 h2 h3 h4 h5 h6 h7 h
theorem twF {G G' : Prop} (k : G') (h : G' → G := by intro hk0; ((repeat (first | apply aw_seq | apply aw_block | apply aw_skip | apply aw_label | apply aw_exit | ((first | refine aw_region (hideO fun Qz hQz => ?_) | refine aw_draw mixed (hideD fun Qz hQz => ?_)); simp (maxSteps := 400000) (disch := first | decide | omega) only [hF, go_sem, ↓reduceIte]; try (first | with_reducible refine unhide hQz ?_ | refine ⟨by kernel_rfl, unhide hQz ?_⟩); clear hQz Qz) | with_reducible first | apply then_n | apply block_n | apply then_x | apply then_r | apply nog_n | apply nog_r | apply block_r | apply block_e (by decide) | apply block_x (by decide)))); (try revert hQz); (try revert Qz); exact hk0) : G := h k
theorem tsF {G G' : Prop} (k : G') (h : G' → G := by intro hk0; (simp (maxSteps := 400000) (disch := first | decide | omega) only [hF, go_sem, ↓reduceIte]; (try (with_reducible refine unhide hQQ ?_; (repeat with_reducible first | apply then_n | apply block_n | apply then_x | apply then_r | apply nog_n | apply nog_r | apply block_r | apply block_e (by decide) | apply block_x (by decide))))); exact hk0) : G := h k
theorem tdF {G G' : Prop} (k : G') (h : G' → G := by intro hk0; (simp (maxSteps := 400000) (disch := first | decide | omega) only [hF, go_sem, ↓reduceIte]; (try (refine ⟨by kernel_rfl, unhide hQQ ?_⟩; (repeat with_reducible first | apply then_n | apply block_n | apply then_x | apply then_r | apply nog_n | apply nog_r | apply block_r | apply block_e (by decide) | apply block_x (by decide))))); exact hk0) : G := h k
theorem tuF {G G' : Prop} (k : G') (h : G' → G := by intro hk0; (simp (maxSteps := 400000) (disch := first | decide | omega) only [hF, go_sem, ↓reduceIte]; try (with_reducible refine unhide hQQ ?_)); exact hk0) : G := h k
theorem tvF {G G' : Prop} (k : G') (h : G' → G := by intro hk0; (simp (maxSteps := 400000) (disch := first | decide | omega) only [hF, go_sem, ↓reduceIte]; try (refine ⟨by kernel_rfl, unhide hQQ ?_⟩)); exact hk0) : G := h k
theorem tiF {G G' : Prop} (k : G') (h : G' → G := by intro hk0; (refine aw_cond2 (by simp (disch := first | decide | omega) only [hF, go_sem, ↓reduceIte]; rfl) ?_; first | refine .inl ⟨by first | rfl | exact decide_eq_true (by omega) | exact decide_eq_true (by assumption) | (simp (disch := first | decide | omega) only [if_pos_d, if_neg_d, decide_eq_true_eq, Bool.not_eq_true', decide_eq_false_iff_not]; omega), ?_⟩ | refine .inr ⟨by first | rfl | exact decide_eq_false (by omega) | exact decide_eq_false (by assumption) | (simp (disch := first | decide | omega) only [if_pos_d, if_neg_d, decide_eq_true_eq, Bool.not_eq_true', decide_eq_false_iff_not]; omega), ?_⟩); exact hk0) : G := h k
theorem cOF {K : Kx} {ops : Array Oper} {o : Oper} {r : List Oper} {st : St} {Q : St → Prop} {f : Operand} {args : Array Operand} {argTypes : Array TypeId} (fid : FuncId) (hd : dstOK K o.dst = true) (ho : o.op = .call { callee := .value f, args := args, argTypes := argTypes }) {rvs : List RV} {res : RR} (h1 : (evalA (AL.get st.fr) f).bind fnA = some (fid, [])) (h4 : FunOK K.P fid rvs res) {fn : Func} (h5 : K.P.funcs[fid]? = some fn) (h6 : fn.body.isSome = true) (h : evOps K ops r (st.put o.dst (avRR res)) Q) (h2 : (args.toList.mapM (arg1 (AL.get st.fr) (AL.get st.hp) true)) = some rvs := by simp (disch := first | decide | omega) only [hF, go_sem, ↓reduceIte]; try rfl) (h3 : true = true → flatRR res = true := by intro _; rfl) (h7 : fn.name ≠ "runtime.NumGoroutine" := by decide) : CallO K ops o r st Q :=
 callO_ok hd ho fid true h1 h2 h3 h4 h5 h6 h7 h
theorem cBF {K : Kx} {ops : Array Oper} {o : Oper} {r : List Oper} {st : St} {Q : St → Prop} {f : Operand} {args : Array Operand} {argTypes : Array TypeId} (fid : FuncId) (hd : dstOK K o.dst = true) (ho : o.op = .call { callee := .value f, args := args, argTypes := argTypes }) {rvs : List RV} {res : RR} (h1 : (evalA (AL.get st.fr) f).bind fnA = some (fid, [])) (h4 : FunOK K.P fid rvs res) {fn : Func} (h5 : K.P.funcs[fid]? = some fn) (h6 : fn.body.isSome = true) (h : evOps K ops r (st.put o.dst (avRR res)) Q) (h2 : (args.toList.mapM (arg1 (AL.get st.fr) (AL.get st.hp) false)) = some rvs := by simp (disch := first | decide | omega) only [hF, go_sem, ↓reduceIte]; try rfl) (h3 : false = true → flatRR res = true := (by intro h; cases h)) (h7 : fn.name ≠ "runtime.NumGoroutine" := by decide) : CallO K ops o r st Q :=
 callO_ok hd ho fid false h1 h2 h3 h4 h5 h6 h7 h
theorem cDF {K : Kx} {l : List Oper} {o : Oper} {r : List Oper} {st : St} {recs : List Rec} {Q : St → Prop} {f : Operand} {args : Array Operand} {argTypes : Array TypeId} (fid : FuncId) (hd : dstOK K o.dst = true) (ho : o.op = .call { callee := .value f, args := args, argTypes := argTypes }) {rvs : List RV} {res : RR} (h1 : (evalA (AL.get st.fr) f).bind fnA = some (fid, [])) (h4 : FunOK K.P fid rvs res) {fn : Func} (h5 : K.P.funcs[fid]? = some fn) (h6 : fn.body.isSome = true) (h : evDraw K l r (st.put o.dst (avRR res)) (recs ++ [(some (idsA st o), [])]) Q) (h2 : (args.toList.mapM (arg1 (AL.get st.fr) (AL.get st.hp) true)) = some rvs := by simp (disch := first | decide | omega) only [hF, go_sem, ↓reduceIte]; try rfl) (h3 : true = true → flatRR res = true := by intro _; rfl) (h7 : fn.name ≠ "runtime.NumGoroutine" := by decide) : CallD K l o r st recs Q :=
 callD_ok hd ho fid true h1 h2 h3 h4 h5 h6 h7 h
theorem cGF {K : Kx} {l : List Oper} {o : Oper} {r : List Oper} {st : St} {recs : List Rec} {Q : St → Prop} {f : Operand} {args : Array Operand} {argTypes : Array TypeId} (fid : FuncId) (hd : dstOK K o.dst = true) (ho : o.op = .call { callee := .value f, args := args, argTypes := argTypes }) {rvs : List RV} {res : RR} (h1 : (evalA (AL.get st.fr) f).bind fnA = some (fid, [])) (h4 : FunOK K.P fid rvs res) {fn : Func} (h5 : K.P.funcs[fid]? = some fn) (h6 : fn.body.isSome = true) (h : evDraw K l r (st.put o.dst (avRR res)) (recs ++ [(some (idsA st o), [])]) Q) (h2 : (args.toList.mapM (arg1 (AL.get st.fr) (AL.get st.hp) false)) = some rvs := by simp (disch := first | decide | omega) only [hF, go_sem, ↓reduceIte]; try rfl) (h3 : false = true → flatRR res = true := (by intro h; cases h)) (h7 : fn.name ≠ "runtime.NumGoroutine" := by decide) : CallD K l o r st recs Q :=
 callD_ok hd ho fid false h1 h2 h3 h4 h5 h6 h7 h
theorem ifcA_of {P : Program} {T : TypeId} {fs : Array Field} {v : Value} (h : P.underlying T = some (.struct fs)) : ifcA P T v = some (.iface T v) := by
 unfold ifcA Instr.makeInterface
 rw [peek_bind, peek_und h]
 rfl
theorem ifcA_int {P : Program} {T : TypeId} {k : IntKind} {v : Value} (h : P.underlying T = some (.int k)) : ifcA P T v = some (.iface T v) := by
 unfold ifcA Instr.makeInterface
 rw [peek_bind, peek_und h]
 rfl
theorem ifc125 (v : Value) : ifcA Tryz.prog 125 v = some (.iface 125 v) := ifcA_int (k := .i64) (by kernel_rfl)
attribute [go_sem] ifc125
def stopV (c : Int) : Value := .iface 125 (.int .i64 c)
theorem ok_ask (c : Int) : FunOK Tryz.prog 46 [.one (.v (.bool true)), .one (iP c)] (.tup []) := by
 refine fun_ok (nt := 8) (rs := []) Tryz.func46 rfl rfl rfl (by simp) fun Z w0 => ?_; simp only [initFr, avR, List.map_cons, List.map_nil]
 refine tw ?_
 refine ti ?_
 refine tw ?_
 (refine ⟨.inl rfl, ?_⟩); simp only [resA, res1, go_sem, ↓reduceIte]
theorem x_ask (c : Int) : FunX Tryz.prog 46 [.one (.v (.bool false)), .one (iP c)] (stopV c) := by
 refine fun_x (nt := 8) Tryz.func46 rfl rfl (by simp) fun Z w0 => ?_; simp only [initFr, avR, List.map_cons, List.map_nil]
 refine tw ?_
 refine ti ?_
 refine tw fun QQ hQQ => ?_
 refine ⟨rfl, .inr ⟨rfl, callS_panic rfl (by (simp (disch := first | decide | omega) only [go_sem, ↓reduceIte]); try rfl) ?_⟩⟩
 rfl
theorem bin_quo_nat (T : TypeId) (x y : Operand) {s d : Nat} (h : s < 2 ^ 62) (hd : 0 < d) : binA Tryz.prog .quo T x y (.int .i64 (s : Int)) (.int .i64 (d : Int)) = some (.int .i64 ((s / d : Nat) : Int)) := by
 have := Nat.div_le_self s d
 rw [bin_quo _ _ _ _ _ _ (by omega), Int.tdiv_eq_ediv_of_nonneg (by omega), ← Int.natCast_ediv]
 generalize s / d = q at *
 rw [wrap_id (by omega) (by omega)]
theorem rowsK_nil' (k : Nat) : rowsK k [] = True := eq_true fun i r h => by simp at h
theorem rowsK_cons' (k : Nat) (r : List PV) (l : List (List PV)) : rowsK k (r :: l) = (r.length = k ∧ rowsK k l) := propext ⟨fun h => ⟨h 0 r rfl, fun i r' hi => h (i + 1) r' hi⟩, fun h i r' hi => by
 cases i with
 | zero => cases hi; exact h.1
 | succ i => exact h.2 i r' hi⟩
attribute [go_sem] rowsK_nil' rowsK_cons' true_or or_true
end Go.Proofs.YthedkfiebmnghaaGreat
namespace Go.Proofs.YthedkfiebmnghaaGreat
open Go Go.RowKit Go.Sh Go.Sh.Stand Go.Pv
theorem rowsAt_of {α : Type} {enc : α → List Value} {row : α → List PV} {size : Nat} (hrow : ∀ x, row x = (enc x).map .v) (hs : ∀ x, (enc x).length = size) (hpos : 0 < size) {Z : Zn} {w : World} {v : Value} {l : List α} (h : RelP Z w (.sl (l.map row)) v) : RowsAt enc size w w.heap.size v l := by
 obtain ⟨q, hq⟩ : ∃ q, q = l.map row := ⟨_, rfl⟩
 rw [← hq] at h
 cases h with
 | sl _ k ao cap b off us hm hk hao hc hz hr =>
  subst hq
  refine ⟨ao, cap, by simp, by have := hm.2; simpa using this, fun hl => ?_⟩
  have hne : l.map row ≠ [] := by simpa using hl
  obtain ⟨x0, l', rfl⟩ : ∃ x l', l = x :: l' := by cases l with | nil => exact absurd rfl hl | cons x l' => exact ⟨x, l', rfl⟩
  have hk0 : k = size := by
   have := hk 0 (row x0) (by simp)
   rw [← this, hrow, List.length_map, hs]
  subst hk0
  have hcell : ∀ (i : Nat) (x : α), (x0 :: l')[i]? = some x → ∀ (j : Nat) (u : Value), (enc x)[j]? = some u → w.cell? ⟨b, off + i * k + j, none⟩ = some u := by
   intro i x hi j u hu
   have h1 : ((x0 :: l').map row)[i]? = some (row x) := by rw [List.getElem?_map, hi]; rfl
   have h2 : (row x)[j]? = some (.v u) := by rw [hrow, List.getElem?_map, hu]; rfl
   have h3 := hr i _ j _ h1 h2
   have h4 := hc i _ j _ h1 h2
   generalize us i j = q at h3 h4
   cases h3
   exact h4
  cases hz0 : enc x0 with
  | nil =>
   have hs0 : k = 0 := by rw [← hs x0, hz0]; rfl
   omega
  | cons u0 r0 =>
   have := hcell 0 x0 rfl 0 u0 (by rw [hz0]; rfl)
   exact ⟨b, off, hao hne, World.block_lt_of_cell? _ _ this, hcell⟩
theorem ints_of {Z : Zn} {w : World} {v : Value} {l : List Int} (h : RelP Z w (.sl (l.map row1)) v) : Ints w w.heap.size v l := rowsAt_of (enc := enc1) (size := 1) (fun _ => rfl) (fun _ => rfl) (by decide) h
theorem prs_of {Z : Zn} {w : World} {v : Value} {l : List (Int × Int)} (h : RelP Z w (.sl (l.map row2)) v) : Prs w w.heap.size v l := rowsAt_of (enc := enc2) (size := 2) (fun _ => rfl) (fun _ => rfl) (by decide) h
theorem trs_of {Z : Zn} {w : World} {v : Value} {l : List (Int × Int × Int)} (h : RelP Z w (.sl (l.map row3)) v) : Trs w w.heap.size v l := rowsAt_of (enc := enc3) (size := 3) (fun _ => rfl) (fun _ => rfl) (by decide) h
def stR (m0 m1 m2 : Int × Int) (runs : List (Int × Int)) (sheep : List Int) (looks : List (Int × Int × Int)) : RV :=
 .agg [iP m0.1, iP m0.2, iP m1.1, iP m1.2, iP m2.1, iP m2.2, .sl (runs.map row2), .sl (sheep.map row1), .sl (looks.map row3)]
def stM (m0 m1 m2 : Int × Int) (runs : List (Int × Int)) (sheep : List Int) (looks : List (Int × Int × Int)) : Stand := ⟨[m0, m1, m2], runs, sheep, looks⟩
theorem relI {Z : Zn} {w : World} {n : Int} {u : Value} (h : RelP Z w (iP n) u) : u = .int .i64 n := by cases h; rfl
theorem relR_I {Z : Zn} {w : World} {n : Int} {u : Value} (h : RelR Z w (.one (iP n)) u) : u = .int .i64 n := relI h
theorem stR_of {Z : Zn} {w : World} {m0 m1 m2 : Int × Int} {runs : List (Int × Int)} {sheep : List Int} {looks : List (Int × Int × Int)} {u : Value} (h : RelR Z w (stR m0 m1 m2 runs sheep looks) u) :
  ∃ rv sv lv, u = .agg #[.int .i64 m0.1, .int .i64 m0.2, .int .i64 m1.1, .int .i64 m1.2, .int .i64 m2.1, .int .i64 m2.2, rv, sv, lv] ∧ Prs w w.heap.size rv runs ∧ Ints w w.heap.size sv sheep ∧ Trs w w.heap.size lv looks := by
 obtain ⟨us, rfl, hs, h⟩ := h
 have hs' : us.size = 9 := hs
 obtain ⟨x0, h0, r0⟩ := h 0 _ rfl
 obtain ⟨x1, h1, r1⟩ := h 1 _ rfl
 obtain ⟨x2, h2, r2⟩ := h 2 _ rfl
 obtain ⟨x3, h3, r3⟩ := h 3 _ rfl
 obtain ⟨x4, h4, r4⟩ := h 4 _ rfl
 obtain ⟨x5, h5, r5⟩ := h 5 _ rfl
 obtain ⟨x6, h6, r6⟩ := h 6 _ rfl
 obtain ⟨x7, h7, r7⟩ := h 7 _ rfl
 obtain ⟨x8, h8, r8⟩ := h 8 _ rfl
 have e0 := relI r0; have e1 := relI r1; have e2 := relI r2; have e3 := relI r3; have e4 := relI r4; have e5 := relI r5
 subst e0 e1 e2 e3 e4 e5
 refine ⟨x6, x7, x8, ?_, prs_of r6, ints_of r7, trs_of r8⟩
 congr 1
 apply Array.ext
 ·rw [hs']; rfl
 ·intro j hj hj'
  have hj9 : j < 9 := by omega
  have hget : ∀ (k : Nat) (hk : k < us.size) (x : Value), us[k]? = some x → us[k] = x := fun k hk x hx => by rw [Array.getElem?_eq_getElem hk] at hx; exact Option.some.inj hx
  obtain rfl | rfl | rfl | rfl | rfl | rfl | rfl | rfl | rfl : j = 0 ∨ j = 1 ∨ j = 2 ∨ j = 3 ∨ j = 4 ∨ j = 5 ∨ j = 6 ∨ j = 7 ∨ j = 8 := by omega
  ·exact hget 0 hj _ h0
  ·exact hget 1 hj _ h1
  ·exact hget 2 hj _ h2
  ·exact hget 3 hj _ h3
  ·exact hget 4 hj _ h4
  ·exact hget 5 hj _ h5
  ·exact hget 6 hj _ h6
  ·exact hget 7 hj _ h7
  ·exact hget 8 hj _ h8
theorem args1 {Z : Zn} {w : World} {r0 : RV} {us : Array Value} (h : RelRs Z w [r0] us) : ∃ u0, us = #[u0] ∧ RelR Z w r0 u0 := by
 obtain ⟨hs, h⟩ := h
 obtain ⟨x0, h0, e0⟩ := h 0 _ rfl
 refine ⟨x0, ?_, e0⟩
 apply Array.ext_getElem?
 intro j
 rcases j with _ | j
 ·exact h0
 ·rw [Array.getElem?_eq_none (by simp at hs; omega)]; rfl
theorem args2 {Z : Zn} {w : World} {r0 r1 : RV} {us : Array Value} (h : RelRs Z w [r0, r1] us) : ∃ u0 u1, us = #[u0, u1] ∧ RelR Z w r0 u0 ∧ RelR Z w r1 u1 := by
 obtain ⟨hs, h⟩ := h
 obtain ⟨x0, h0, e0⟩ := h 0 _ rfl
 obtain ⟨x1, h1, e1⟩ := h 1 _ rfl
 refine ⟨x0, x1, ?_, e0, e1⟩
 apply Array.ext_getElem?
 intro j
 rcases j with _ | _ | j
 ·exact h0
 ·exact h1
 ·rw [Array.getElem?_eq_none (by simp at hs; omega)]; rfl
theorem res_span {Z : Zn} {w : World} (lo hi e : Int) : RelRR Z w (.tup [.agg [iP lo, iP hi], .one (iP e)]) (.tuple #[.agg #[.int .i64 lo, .int .i64 hi], .int .i64 e]) := by
 refine ⟨_, rfl, rfl, fun j r hj => ?_⟩
 rcases j with _ | _ | j
 ·simp at hj; subst hj
  refine ⟨_, rfl, _, rfl, rfl, fun j c hj => ?_⟩
  rcases j with _ | _ | j
  ·simp at hj; subst hj; exact ⟨_, rfl, .v _ rfl⟩
  ·simp at hj; subst hj; exact ⟨_, rfl, .v _ rfl⟩
  ·simp at hj
 ·simp at hj; subst hj; exact ⟨_, rfl, .v _ rfl⟩
 ·simp at hj
theorem res_two {Z : Zn} {w : World} (n e : Int) : RelRR Z w (.tup [.one (iP n), .one (iP e)]) (.tuple #[.int .i64 n, .int .i64 e]) := by
 refine ⟨_, rfl, rfl, fun j r hj => ?_⟩
 rcases j with _ | _ | j
 ·simp at hj; subst hj; exact ⟨_, rfl, .v _ rfl⟩
 ·simp at hj; subst hj; exact ⟨_, rfl, .v _ rfl⟩
 ·simp at hj
def spanRR (x : (Int × Int) × Int) : RR := .tup [.agg [iP x.1.1, iP x.1.2], .one (iP x.2)]
def twoRR (x : Int × Int) : RR := .tup [.one (iP x.1), .one (iP x.2)]
section
variable (m0 m1 m2 : Int × Int) (runs : List (Int × Int)) (sheep : List Int) (looks : List (Int × Int × Int))
theorem ok_done (k : Int) : FunOK Tryz.prog 33 [stR m0 m1 m2 runs sheep looks, .one (iP k)] (spanRR (ansE (stM m0 m1 m2 runs sheep looks) (inB k 0 (sheep.length - 1)) (doneL (stM m0 m1 m2 runs sheep looks) k))) := by
 intro Z w us h
 obtain ⟨u0, u1, rfl, h0, h1⟩ := args2 h
 obtain ⟨rv, sv, lv, rfl, hr, hs, hl⟩ := stR_of h0
 cases relR_I h1
 exact (done_any _ _ _ _ _ _ rv sv lv runs sheep looks k w hr hs hl _ rfl).mono fun e w' ⟨h1, h2⟩ => ⟨_, h1, res_span _ _ _, h2⟩
theorem ok_clash : FunOK Tryz.prog 87 [stR m0 m1 m2 runs sheep looks] (twoRR (ansC (stM m0 m1 m2 runs sheep looks))) := by
 intro Z w us h
 obtain ⟨u0, rfl, h0⟩ := args1 h
 obtain ⟨rv, sv, lv, rfl, hr, hs, hl⟩ := stR_of h0
 exact (clash_any _ _ _ _ _ _ rv sv lv runs sheep looks w hr hs hl _ rfl).mono fun e w' ⟨h1, h2⟩ => ⟨_, h1, res_two _ _, h2⟩
end
end Go.Proofs.YthedkfiebmnghaaGreat
namespace Go.By
open Go Go.Pv
def SD.row (s : SD) : List PV := [iP s.m0.1, iP s.m0.2, iP s.m1.1, iP s.m1.2, iP s.m2.1, iP s.m2.2, .sl (s.runs.map row2), .sl (s.sheep.map row1), .sl (s.looks.map row3)]
end Go.By
namespace Go.Proofs.YthedkfiebmnghaaGreat
open Go Go.RowKit Go.Sh Go.Sh.Stand Go.Pv Go.By
theorem ok_doneS {s : SD} (h : s.ok = true) {k : Nat} (hk : k < s.sheep.length) : ∃ hi, FunOK Tryz.prog 33 [.agg s.row, .one (iP (k : Int))] (.tup [.agg [iP (s.doneQ k), iP hi], .one (iP 0)]) := by
 obtain ⟨hi, e⟩ := done_quick h hk
 refine ⟨hi, ?_⟩
 have := ok_done s.m0 s.m1 s.m2 s.runs s.sheep s.looks (k : Int)
 rw [show stM s.m0 s.m1 s.m2 s.runs s.sheep s.looks = s.st from rfl, e] at this
 exact this
theorem ok_clashS (s : SD) : FunOK Tryz.prog 87 [.agg s.row] (.tup [.one (iP (ansC s.st).1), .one (iP (ansC s.st).2)]) := ok_clash s.m0 s.m1 s.m2 s.runs s.sheep s.looks
theorem ok_within (a b c : Int) : FunOK Tryz.prog 45 [.one (iP a), .one (iP b), .one (iP c)] (.one (.one (.v (.bool (inB a b c))))) := by
 refine fun_ok (nt := 15) (rs := [.tmp 6]) Tryz.func45 rfl rfl rfl (by simp) fun Z w0 => ?_; refine tI ?_
 by_cases h : b ≤ a
 ·refine tw ?_
  refine tRN ?_
  simp [inB, h]
 ·refine tw ?_
  refine tRN ?_
  simp [inB, h]
end Go.Proofs.YthedkfiebmnghaaGreat
namespace Go.Proofs.YthedkfiebmnghaaGreat
open Go Go.RowKit Go.Sh Go.Pv Go.By Go.Sh.Stand
theorem rowsK_r1 (l : List Int) : rowsK 1 (l.map row1) = True := eq_true fun i r h => by rw [List.getElem?_map] at h; obtain ⟨x, _, rfl⟩ := Option.map_eq_some_iff.1 h; rfl
theorem get_some1' {l : List Int} {k : Nat} (h : k < l.length) : l[k]? = some (l.getD k 0) := by simp [List.getD, h]
theorem take_row {L : List Int} {i : Nat} (h : i < L.length) : (L.take i).map row1 ++ [[iP (L.getD i 0)]] = (L.take (i + 1)).map row1 := by
 rw [List.take_succ_eq_append_getElem h, List.map_append]
 simp [row1, List.getD, h]
attribute [local go_sem] rowsK_r1
theorem ok_needs {s : SD} (h : s.ok = true) : FunOK Tryz.prog 88 [.agg s.row] (.one (.one (.sl (s.needL.map row1)))) := by
 have hn := need_len (s := s)
 have h16 := sheep_16 h
 have hdone := fun (k : Nat) (hk : k < s.sheep.length) => ok_doneS h hk
 have hkind : ∀ k, k < s.sheep.length → 0 ≤ s.sheep.getD k 0 ∧ s.sheep.getD k 0 ≤ 2 := fun k hk => kinds_ok h _ (mem_getD hk)
 have hlt : ∀ k, k < s.needL.length → s.needL.getD k 0 < 600 ∧ 0 ≤ s.needL.getD k 0 := fun k hk => ⟨need_lt h _ (mem_getD hk), need_ge h _ (mem_getD hk)⟩
 have htk : ∀ k : Int, 1 ≤ tk s.quick k ∧ tk s.quick k ≤ 40 := fun k => ⟨(tk_rng h (quick_mem h) k).1, (tk_rng h (quick_mem h) k).2.1⟩
 have hq : ∀ k, s.doneQ k = if k < s.needL.length then s.needL.getD k 0 + tk s.quick (s.sheep.getD k 0) else 1000 := fun k => rfl
 have e0 : tk s.quick 0 = s.m0.1 := rfl
 have e1 : tk s.quick 1 = s.m1.1 := rfl
 have e2 : tk s.quick 2 = s.m2.1 := rfl
 obtain ⟨m0, m1, m2, runs, sheep, looks⟩ := s
 dsimp only [SD.row] at *
 generalize SD.needL ⟨m0, m1, m2, runs, sheep, looks⟩ = L at *
 generalize SD.quick ⟨m0, m1, m2, runs, sheep, looks⟩ = q at *
 generalize SD.doneQ ⟨m0, m1, m2, runs, sheep, looks⟩ = D at *
 clear h
 refine fun_ok (nt := 37) (rs := [.tmp 2]) Tryz.func88 rfl rfl rfl (by simp) fun Z w0 => ?_; refine tI ?_
 refine tw ?_
 refine aw_weak (weak_own 2 3 1 rfl) ?_
 refine aw_weak (weak_keep [1, 2, 8, 9, 10] (by simp only [go_sem, ↓reduceIte]; rfl)) ?_
 refine aw_loop_ov (ι := { i : Nat // i ≤ sheep.length ∧ i ≤ L.length }) (fun i => [(2, .one (.own 1 i.1)), (10, iA i.1)]) (fun i => [(1, .arr 3 1 ((L.take i.1).map row1) true)]) (fun i => sheep.length - i.1) ⟨0, by omega, by omega⟩ (by first | rfl | (simp only [go_sem, ↓reduceIte]; first | done | rfl | (simp; try rfl))) ?_
 rintro ⟨i, hi, hiL⟩
 refine tO ?_
 by_cases hin : i < sheep.length
 ·obtain ⟨x, hd⟩ := hdone i hin
  have hD := hq i
  have hk := hkind i hin
  have hg : sheep[i]? = some (sheep.getD i 0) := get_some1' hin
  obtain ⟨kd, hkd⟩ : ∃ kd, sheep.getD i 0 = kd := ⟨_, rfl⟩
  rw [hkd] at hD hk hg
  by_cases hiL2 : i < L.length
  ·rw [if_pos hiL2] at hD
   have hb := hlt i hiL2
   have hr := take_row hiL2
   have ht := htk kd
   obtain ⟨a, ha⟩ : ∃ a, L.getD i 0 = a := ⟨_, rfl⟩
   rw [ha] at hD hb hr
   rw [hD] at hd
   have hlb : (i + 1) * 8 ≤ 140737488355328 := by omega
   have hll : ((L.take i).map row1).length = i := by simp; omega
   have hsub : ∀ m : Int, tk q kd = m → (a + tk q kd) - m = a := fun m hm => by omega
   clear hdone hq hkind hlt htk
   rcases (show kd = 0 ∨ kd = 1 ∨ kd = 2 by omega) with rfl | rfl | rfl
   ·rw [e0] at hd ht hD
    have hs1 : a + m0.1 - m0.1 = a := by omega
    clear e0 e1 e2 hsub
    try clear hF
    have hF := And.intro hg (And.intro hlb (And.intro hll (hs1)))
    refine twF ?_
    refine tiF ?_
    refine twF fun QQ hQQ => ?_
    ((refine cOF 33 rfl rfl rfl (hd) Tryz.func33 rfl ?_); refine tuF ?_; clear hQQ QQ); refine twF ?_
    refine tiF ?_
    refine twF ?_
    refine ⟨⟨i + 1, by omega, by omega⟩, ?_, weak_round ?_ (by first | rfl | (simp only [hF, go_sem, ↓reduceIte]))⟩
    rotate_left
    ·simp only [← hr]
     (simp only [hF, go_sem, ↓reduceIte]; try rfl)
    ·simp only; omega
   ·rw [e1] at hd ht hD
    have hs1 : a + m1.1 - m1.1 = a := by omega
    clear e0 e1 e2 hsub
    try clear hF
    have hF := And.intro hg (And.intro hlb (And.intro hll (hs1)))
    refine twF ?_
    refine tiF ?_
    refine twF fun QQ hQQ => ?_
    ((refine cOF 33 rfl rfl rfl (hd) Tryz.func33 rfl ?_); refine tuF ?_; clear hQQ QQ); refine twF ?_
    refine tiF ?_
    refine twF ?_
    refine ⟨⟨i + 1, by omega, by omega⟩, ?_, weak_round ?_ (by first | rfl | (simp only [hF, go_sem, ↓reduceIte]))⟩
    rotate_left
    ·simp only [← hr]
     (simp only [hF, go_sem, ↓reduceIte]; try rfl)
    ·simp only; omega
   ·rw [e2] at hd ht hD
    have hs1 : a + m2.1 - m2.1 = a := by omega
    clear e0 e1 e2 hsub
    try clear hF
    have hF := And.intro hg (And.intro hlb (And.intro hll (hs1)))
    refine twF ?_
    refine tiF ?_
    refine twF fun QQ hQQ => ?_
    ((refine cOF 33 rfl rfl rfl (hd) Tryz.func33 rfl ?_); refine tuF ?_; clear hQQ QQ); refine twF ?_
    refine tiF ?_
    refine twF ?_
    refine ⟨⟨i + 1, by omega, by omega⟩, ?_, weak_round ?_ (by first | rfl | (simp only [hF, go_sem, ↓reduceIte]))⟩
    rotate_left
    ·simp only [← hr]
     (simp only [hF, go_sem, ↓reduceIte]; try rfl)
    ·simp only; omega
  ·rw [if_neg hiL2] at hD
   rw [hD] at hd
   have hie : i = L.length := by omega
   subst hie
   rw [List.take_length]
   clear hdone hq hkind hlt htk
   have hta : List.take L.length (L.map row1) = L.map row1 := List.take_of_length_le (by simp)
   try clear hF
   have hF := And.intro hg (hta)
   refine twF ?_
   refine tiF ?_
   refine twF fun QQ hQQ => ?_
   ((refine cOF 33 rfl rfl rfl (hd) Tryz.func33 rfl ?_); refine tuF ?_; clear hQQ QQ); refine twF ?_
   refine tiF ?_
   refine twF ?_
   refine tRN ?_
   rw [hta]
 ·have hie : i = L.length := by omega
  subst hie
  rw [List.take_length]
  have hta : List.take L.length (L.map row1) = L.map row1 := List.take_of_length_le (by simp)
  try clear hF
  have hF := hta
  refine twF ?_
  refine tiF ?_
  refine twF ?_
  refine tRN ?_
  rw [hta]
end Go.Proofs.YthedkfiebmnghaaGreat
