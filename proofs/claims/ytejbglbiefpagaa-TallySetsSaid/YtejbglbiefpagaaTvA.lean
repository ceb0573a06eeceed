/- tally: plain functions, walked. -/
import Derived.Test.YtejbglbiefpagaaPvL
set_option linter.all false
namespace Go.Proofs.Ytejbglbiefpagaa
open Go Go.RowKit Go.Sh Go.Pv
attribute [go_sem] beq_t_d beq_f_d bne_t_d bne_f_d
set_option maxHeartbeats 2000000
set_option maxRecDepth 4000
theorem mixed : Try.prog.follows .mixedOrders = true := by kernel_rfl
/-! The steps of a walk. -/
theorem tg {G G' : Prop} (k : G') (h : G' → G := by intro hk0; (refine aw_region (hideO fun Qz hQz => ?_); simp (maxSteps := 400000) (disch := first | decide | omega) only [go_sem, ↓reduceIte]; (try (with_reducible refine unhide hQz ?_; clear hQz Qz; (repeat with_reducible first | apply then_n | apply block_n | apply then_x | apply then_r | apply nog_n | apply nog_r | apply block_r | apply block_e (by decide) | apply block_x (by decide))))); (try revert hQz); (try revert Qz); exact hk0) : G := h k
theorem tw {G G' : Prop} (k : G') (h : G' → G := by intro hk0; ((repeat (first | apply aw_seq | apply aw_block | apply aw_skip | apply aw_label | apply aw_exit | ((first | refine aw_region (hideO fun Qz hQz => ?_) | refine aw_draw mixed (hideD fun Qz hQz => ?_)); simp (maxSteps := 400000) (disch := first | decide | omega) only [go_sem, ↓reduceIte]; try (first | with_reducible refine unhide hQz ?_ | refine ⟨by kernel_rfl, unhide hQz ?_⟩); clear hQz Qz) | with_reducible first | apply then_n | apply block_n | apply then_x | apply then_r | apply nog_n | apply nog_r | apply block_r | apply block_e (by decide) | apply block_x (by decide)))); (try revert hQz); (try revert Qz); exact hk0) : G := h k
theorem ts {G G' : Prop} (k : G') (h : G' → G := by intro hk0; (simp (maxSteps := 400000) (disch := first | decide | omega) only [go_sem, ↓reduceIte]; (try (with_reducible refine unhide hQQ ?_; (repeat with_reducible first | apply then_n | apply block_n | apply then_x | apply then_r | apply nog_n | apply nog_r | apply block_r | apply block_e (by decide) | apply block_x (by decide))))); exact hk0) : G := h k
theorem td {G G' : Prop} (k : G') (h : G' → G := by intro hk0; (simp (maxSteps := 400000) (disch := first | decide | omega) only [go_sem, ↓reduceIte]; (try (refine ⟨by kernel_rfl, unhide hQQ ?_⟩; (repeat with_reducible first | apply then_n | apply block_n | apply then_x | apply then_r | apply nog_n | apply nog_r | apply block_r | apply block_e (by decide) | apply block_x (by decide))))); exact hk0) : G := h k
theorem tu {G G' : Prop} (k : G') (h : G' → G := by intro hk0; (simp (maxSteps := 400000) (disch := first | decide | omega) only [go_sem, ↓reduceIte]; try (with_reducible refine unhide hQQ ?_)); exact hk0) : G := h k
theorem tv {G G' : Prop} (k : G') (h : G' → G := by intro hk0; (simp (maxSteps := 400000) (disch := first | decide | omega) only [go_sem, ↓reduceIte]; try (refine ⟨by kernel_rfl, unhide hQQ ?_⟩)); exact hk0) : G := h k
theorem ti {G G' : Prop} (k : G') (h : G' → G := by intro hk0; (refine aw_cond2 (by simp (disch := first | decide | omega) only [go_sem, ↓reduceIte]; rfl) ?_; first | refine .inl ⟨by first | rfl | exact decide_eq_true (by omega) | exact decide_eq_true (by assumption) | (simp (disch := first | decide | omega) only [if_pos_d, if_neg_d, decide_eq_true_eq, Bool.not_eq_true', decide_eq_false_iff_not]; omega), ?_⟩ | refine .inr ⟨by first | rfl | exact decide_eq_false (by omega) | exact decide_eq_false (by assumption) | (simp (disch := first | decide | omega) only [if_pos_d, if_neg_d, decide_eq_true_eq, Bool.not_eq_true', decide_eq_false_iff_not]; omega), ?_⟩); exact hk0) : G := h k
theorem cO {K : Kx} {ops : Array Oper} {o : Oper} {r : List Oper} {st : St} {Q : St → Prop} {f : Operand} {args : Array Operand} {argTypes : Array TypeId} (fid : FuncId) (hd : dstOK K o.dst = true) (ho : o.op = .call { callee := .value f, args := args, argTypes := argTypes }) {rvs : List RV} {res : RR} (h1 : (evalA (AL.get st.fr) f).bind fnA = some (fid, [])) (h4 : FunOK K.P fid rvs res) {fn : Func} (h5 : K.P.funcs[fid]? = some fn) (h6 : fn.body.isSome = true) (h : evOps K ops r (st.put o.dst (avRR res)) Q) (h2 : (args.toList.mapM (arg1 (AL.get st.fr) (AL.get st.hp) true)) = some rvs := by simp (disch := first | decide | omega) only [go_sem, ↓reduceIte]; try rfl) (h3 : true = true → flatRR res = true := by intro _; rfl) (h7 : fn.name ≠ "runtime.NumGoroutine" := by decide) : CallO K ops o r st Q :=
  callO_ok hd ho fid true h1 h2 h3 h4 h5 h6 h7 h
theorem cB {K : Kx} {ops : Array Oper} {o : Oper} {r : List Oper} {st : St} {Q : St → Prop} {f : Operand} {args : Array Operand} {argTypes : Array TypeId} (fid : FuncId) (hd : dstOK K o.dst = true) (ho : o.op = .call { callee := .value f, args := args, argTypes := argTypes }) {rvs : List RV} {res : RR} (h1 : (evalA (AL.get st.fr) f).bind fnA = some (fid, [])) (h4 : FunOK K.P fid rvs res) {fn : Func} (h5 : K.P.funcs[fid]? = some fn) (h6 : fn.body.isSome = true) (h : evOps K ops r (st.put o.dst (avRR res)) Q) (h2 : (args.toList.mapM (arg1 (AL.get st.fr) (AL.get st.hp) false)) = some rvs := by simp (disch := first | decide | omega) only [go_sem, ↓reduceIte]; try rfl) (h3 : false = true → flatRR res = true := (by intro h; cases h)) (h7 : fn.name ≠ "runtime.NumGoroutine" := by decide) : CallO K ops o r st Q :=
  callO_ok hd ho fid false h1 h2 h3 h4 h5 h6 h7 h
theorem cD {K : Kx} {l : List Oper} {o : Oper} {r : List Oper} {st : St} {recs : List Rec} {Q : St → Prop} {f : Operand} {args : Array Operand} {argTypes : Array TypeId} (fid : FuncId) (hd : dstOK K o.dst = true) (ho : o.op = .call { callee := .value f, args := args, argTypes := argTypes }) {rvs : List RV} {res : RR} (h1 : (evalA (AL.get st.fr) f).bind fnA = some (fid, [])) (h4 : FunOK K.P fid rvs res) {fn : Func} (h5 : K.P.funcs[fid]? = some fn) (h6 : fn.body.isSome = true) (h : evDraw K l r (st.put o.dst (avRR res)) (recs ++ [(some (idsA st o), [])]) Q) (h2 : (args.toList.mapM (arg1 (AL.get st.fr) (AL.get st.hp) true)) = some rvs := by simp (disch := first | decide | omega) only [go_sem, ↓reduceIte]; try rfl) (h3 : true = true → flatRR res = true := by intro _; rfl) (h7 : fn.name ≠ "runtime.NumGoroutine" := by decide) : CallD K l o r st recs Q :=
  callD_ok hd ho fid true h1 h2 h3 h4 h5 h6 h7 h
theorem cG {K : Kx} {l : List Oper} {o : Oper} {r : List Oper} {st : St} {recs : List Rec} {Q : St → Prop} {f : Operand} {args : Array Operand} {argTypes : Array TypeId} (fid : FuncId) (hd : dstOK K o.dst = true) (ho : o.op = .call { callee := .value f, args := args, argTypes := argTypes }) {rvs : List RV} {res : RR} (h1 : (evalA (AL.get st.fr) f).bind fnA = some (fid, [])) (h4 : FunOK K.P fid rvs res) {fn : Func} (h5 : K.P.funcs[fid]? = some fn) (h6 : fn.body.isSome = true) (h : evDraw K l r (st.put o.dst (avRR res)) (recs ++ [(some (idsA st o), [])]) Q) (h2 : (args.toList.mapM (arg1 (AL.get st.fr) (AL.get st.hp) false)) = some rvs := by simp (disch := first | decide | omega) only [go_sem, ↓reduceIte]; try rfl) (h3 : false = true → flatRR res = true := (by intro h; cases h)) (h7 : fn.name ≠ "runtime.NumGoroutine" := by decide) : CallD K l o r st recs Q :=
  callD_ok hd ho fid false h1 h2 h3 h4 h5 h6 h7 h
-- end of the prelude
def inB (a b c : Int) : Bool := decide (b ≤ a) && decide (a ≤ c)
def spanB (lo hi low high : Int) : Bool := (decide (low ≤ lo) && decide (lo ≤ hi)) && decide (hi ≤ high)
theorem ok_within (a b c : Int) : FunOK Try.prog 60 [.one (iP a), .one (iP b), .one (iP c)] (.one (.one (.v (.bool (inB a b c))))) := by
  refine fun_ok (nt := 15) (rs := [.tmp 6]) Try.func60 rfl rfl rfl (by simp) fun Z w0 => ?_; simp only [initFr, avR, List.map_cons, List.map_nil]
  by_cases h : b ≤ a
  · refine tw ?_; try with_reducible intro QQ hQQ
    refine aw_ret ?_; refine ⟨.inr rfl, ?_⟩; simp only [resA, res1, go_sem, ↓reduceIte]
    simp [inB, h]
  · refine tw ?_; try with_reducible intro QQ hQQ
    refine aw_ret ?_; refine ⟨.inr rfl, ?_⟩; simp only [resA, res1, go_sem, ↓reduceIte]
    simp [inB, h]
theorem ifcA_of {P : Program} {T : TypeId} {fs : Array Field} {v : Value} (h : P.underlying T = some (.struct fs)) : ifcA P T v = some (.iface T v) := by
  unfold ifcA Instr.makeInterface
  rw [peek_bind, peek_und h]
  rfl
theorem ifc123 (v : Value) : ifcA Try.prog 123 v = some (.iface 123 v) := ifcA_of (fs := match Try.prog.underlying 123 with | some (.struct fs) => fs | _ => #[]) (by kernel_rfl)
theorem ifc76 (v : Value) : ifcA Try.prog 76 v = some (.iface 76 v) := ifcA_of (fs := match Try.prog.underlying 76 with | some (.struct fs) => fs | _ => #[]) (by kernel_rfl)
theorem ifc84 (v : Value) : ifcA Try.prog 84 v = some (.iface 84 v) := ifcA_of (fs := match Try.prog.underlying 84 with | some (.struct fs) => fs | _ => #[]) (by kernel_rfl)
attribute [go_sem] ifc123 ifc76 ifc84
/-- The panic of an error. -/
def stopV (c : Int) : Value := .iface 123 (.agg #[.int .i64 c])
theorem ok_must (c : Int) : FunOK Try.prog 96 [.one (.v (.bool true)), .one (iP c)] (.tup []) := by
  refine fun_ok (nt := 9) (rs := []) Try.func96 rfl rfl rfl (by simp) fun Z w0 => ?_; simp only [initFr, avR, List.map_cons, List.map_nil]
  refine tw ?_; try with_reducible intro QQ hQQ
  refine ti ?_; try clear hQQ QQ
  refine tw ?_; try with_reducible intro QQ hQQ
  (refine ⟨.inl rfl, ?_⟩); simp only [resA, res1, go_sem, ↓reduceIte]
theorem x_must (c : Int) : FunX Try.prog 96 [.one (.v (.bool false)), .one (iP c)] (stopV c) := by
  refine fun_x (nt := 9) Try.func96 rfl rfl (by simp) fun Z w0 => ?_; simp only [initFr, avR, List.map_cons, List.map_nil]
  refine tw ?_; try with_reducible intro QQ hQQ
  refine ti ?_; try clear hQQ QQ
  refine tw ?_; try with_reducible intro QQ hQQ
  refine ⟨rfl, .inr ⟨rfl, callS_panic rfl (by (simp (disch := first | decide | omega) only [go_sem, ↓reduceIte]); try rfl) ?_⟩⟩
  rfl
theorem ok_isSpan (lo hi low high : Int) : FunOK Try.prog 97 [.agg [iP lo, iP hi], .one (iP low), .one (iP high)] (.one (.one (.v (.bool (spanB lo hi low high))))) := by
  refine fun_ok (nt := 24) (rs := [.tmp 6]) Try.func97 rfl rfl rfl (by simp) fun Z w0 => ?_; simp only [initFr, avR, List.map_cons, List.map_nil]
  by_cases h1 : low ≤ lo
  · by_cases h2 : lo ≤ hi
    · refine tw ?_; try with_reducible intro QQ hQQ
      refine aw_ret ?_; refine ⟨.inr rfl, ?_⟩; simp only [resA, res1, go_sem, ↓reduceIte]
      simp [spanB, h1, h2]
    · refine tw ?_; try with_reducible intro QQ hQQ
      refine aw_ret ?_; refine ⟨.inr rfl, ?_⟩; simp only [resA, res1, go_sem, ↓reduceIte]
      simp [spanB, h1, h2]
  · refine tw ?_; try with_reducible intro QQ hQQ
    refine aw_ret ?_; refine ⟨.inr rfl, ?_⟩; simp only [resA, res1, go_sem, ↓reduceIte]
    simp [spanB, h1]
def row4 (p : Int × Int × Int × Int) : List PV := [iP p.1, iP p.2.1, iP p.2.2.1, iP p.2.2.2]
section
variable (n most : Int) (strays : List (Int × Int)) (calls : List (Int × Int × Int × Int))
/-- A tally, and one that is looked at. -/
def tyR : RV := .agg [iP n, iP most, .sl (strays.map row2), .sl (calls.map row4)]
def ydP : PV := .ptr [iP n, iP most, .sl (strays.map row2), .sl (calls.map row4), .any]
theorem ok_isShearer (i : Int) (h : -1000 ≤ n ∧ n ≤ 1000) : FunOK Try.prog 50 [.one (ydP n most strays calls), .one (iP i)] (.one (.one (.v (.bool (inB i 0 (n - 1)))))) := by
  refine fun_ok (nt := 13) (rs := [.tmp 4]) Try.func50 rfl rfl rfl (by simp) fun Z w0 => ?_; simp only [initFr, avR, List.map_cons, List.map_nil]
  simp only [ydP]
  refine tw ?_; try with_reducible intro QQ hQQ
  ((refine cO 60 rfl rfl rfl ((ok_within i 0 (n - 1))) Try.func60 rfl ?_); refine tu ?_; try clear hQQ QQ); refine tw ?_; try with_reducible intro QQ hQQ
  refine aw_ret ?_; refine ⟨.inr rfl, ?_⟩; simp only [resA, res1, go_sem, ↓reduceIte]
theorem ok_pens (i : Int) (h : -1000 ≤ i ∧ i ≤ 1000) : FunOK Try.prog 63 [.one (ydP n most strays calls), .one (iP i)] (.one (.one (iP (if i = 0 ∨ i = n then i else 5 + i)))) := by
  refine fun_ok (nt := 20) (rs := [.tmp 4]) Try.func63 rfl rfl rfl (by simp) fun Z w0 => ?_; simp only [initFr, avR, List.map_cons, List.map_nil]
  simp only [ydP]
  by_cases h0 : i = 0
  · refine tw ?_; try with_reducible intro QQ hQQ
    refine ti ?_; try clear hQQ QQ
    refine tw ?_; try with_reducible intro QQ hQQ
    refine aw_ret ?_; refine ⟨.inr rfl, ?_⟩; simp only [resA, res1, go_sem, ↓reduceIte]
    simp [h0]
  · by_cases h1 : i = n
    · refine tw ?_; try with_reducible intro QQ hQQ
      refine ti ?_; try clear hQQ QQ
      refine tw ?_; try with_reducible intro QQ hQQ
      refine aw_ret ?_; refine ⟨.inr rfl, ?_⟩; simp only [resA, res1, go_sem, ↓reduceIte]
      simp [h1]
    · refine tw ?_; try with_reducible intro QQ hQQ
      refine ti ?_; try clear hQQ QQ
      refine tw ?_; try with_reducible intro QQ hQQ
      refine aw_ret ?_; refine ⟨.inr rfl, ?_⟩; simp only [resA, res1, go_sem, ↓reduceIte]
      simp [h0, h1]
      omega
def isCallB (c : Int × Int × Int × Int) : Bool := (decide (c.1 = 2) || (inB c.1 0 1 && inB c.2.1 0 (n - 1))) && spanB c.2.2.1 c.2.2.2 0 300
theorem ok_isCall (c : Int × Int × Int × Int) (h : -1000 ≤ n ∧ n ≤ 1000) : FunOK Try.prog 70 [.one (ydP n most strays calls), .agg (row4 c)] (.one (.one (.v (.bool (isCallB n c))))) := by
  have hs := ok_isSpan c.2.2.1 c.2.2.2 0 300
  have hsh := ok_isShearer n most strays calls c.2.1 h
  have hw := ok_within c.1 0 1
  refine fun_ok (nt := 26) (rs := [.tmp 4]) Try.func70 rfl rfl rfl (by simp) fun Z w0 => ?_; simp only [initFr, avR, List.map_cons, List.map_nil]
  simp only [ydP, row4]
  by_cases h2 : c.1 = 2
  · refine tw ?_; try with_reducible intro QQ hQQ
    ((refine cO 97 rfl rfl rfl (hs) Try.func97 rfl ?_); refine tu ?_; try clear hQQ QQ); refine tw ?_; try with_reducible intro QQ hQQ
    refine aw_ret ?_; refine ⟨.inr rfl, ?_⟩; simp only [resA, res1, go_sem, ↓reduceIte]
    simp [isCallB, h2]
  · cases hb : inB c.1 0 1
    · rw [hb] at hw
      refine tw ?_; try with_reducible intro QQ hQQ
      ((refine cO 60 rfl rfl rfl (hw) Try.func60 rfl ?_); refine tu ?_; try clear hQQ QQ); refine tw ?_; try with_reducible intro QQ hQQ
      refine aw_ret ?_; refine ⟨.inr rfl, ?_⟩; simp only [resA, res1, go_sem, ↓reduceIte]
      simp [isCallB, h2, hb]
    · rw [hb] at hw
      simp only [ydP] at hsh
      cases hb2 : inB c.2.1 0 (n - 1)
      · rw [hb2] at hsh
        refine tw ?_; try with_reducible intro QQ hQQ
        (refine cO 60 rfl rfl rfl (hw) Try.func60 rfl ?_); refine ts ?_; try clear hQQ QQ
        ((refine cO 50 rfl rfl rfl (hsh) Try.func50 rfl ?_); refine tu ?_; try clear hQQ QQ); refine tw ?_; try with_reducible intro QQ hQQ
        refine aw_ret ?_; refine ⟨.inr rfl, ?_⟩; simp only [resA, res1, go_sem, ↓reduceIte]
        simp [isCallB, h2, hb2]
      · rw [hb2] at hsh
        refine tw ?_; try with_reducible intro QQ hQQ
        (refine cO 60 rfl rfl rfl (hw) Try.func60 rfl ?_); refine ts ?_; try clear hQQ QQ
        ((refine cO 50 rfl rfl rfl (hsh) Try.func50 rfl ?_); refine tu ?_; try clear hQQ QQ); refine tw ?_; try with_reducible intro QQ hQQ
        ((refine cO 97 rfl rfl rfl (hs) Try.func97 rfl ?_); refine tu ?_; try clear hQQ QQ); refine tw ?_; try with_reducible intro QQ hQQ
        refine aw_ret ?_; refine ⟨.inr rfl, ?_⟩; simp only [resA, res1, go_sem, ↓reduceIte]
        simp [isCallB, h2, hb, hb2]
/-- What a call counts, as an interface value. -/
def cntV (kind a b : Int) : Value := if kind = 1 then .iface 84 (.agg #[.int .i64 a, .int .i64 b]) else .iface 76 (.agg #[.int .i64 a, .int .i64 b])
theorem ok_counts (c : Int × Int × Int × Int) (h : -1000 ≤ c.2.1 ∧ c.2.1 ≤ 1000) : FunOK Try.prog 71 [.one (ydP n most strays calls), .agg (row4 c)]
    (.one (.one (.v (if c.1 = 0 ∨ c.1 = 1 then cntV c.1 c.2.1 (c.2.1 + 1) else cntV 2 0 n)))) := by
  refine fun_ok (nt := 33) (rs := [.tmp 4]) Try.func71 rfl rfl rfl (by simp) fun Z w0 => ?_; simp only [initFr, avR, List.map_cons, List.map_nil]
  simp only [ydP, row4]
  by_cases h0 : c.1 = 0
  · refine tw ?_; try with_reducible intro QQ hQQ
    refine ti ?_; try clear hQQ QQ
    refine tw ?_; try with_reducible intro QQ hQQ
    refine aw_ret ?_; refine ⟨.inr rfl, ?_⟩; simp only [resA, res1, go_sem, ↓reduceIte]
    simp [cntV, h0]
  · by_cases h1 : c.1 = 1
    · refine tw ?_; try with_reducible intro QQ hQQ
      refine ti ?_; try clear hQQ QQ
      refine tw ?_; try with_reducible intro QQ hQQ
      refine ti ?_; try clear hQQ QQ
      refine tw ?_; try with_reducible intro QQ hQQ
      refine aw_ret ?_; refine ⟨.inr rfl, ?_⟩; simp only [resA, res1, go_sem, ↓reduceIte]
      simp [cntV, h1]
    · refine tw ?_; try with_reducible intro QQ hQQ
      refine ti ?_; try clear hQQ QQ
      refine tw ?_; try with_reducible intro QQ hQQ
      refine ti ?_; try clear hQQ QQ
      refine tw ?_; try with_reducible intro QQ hQQ
      refine aw_ret ?_; refine ⟨.inr rfl, ?_⟩; simp only [resA, res1, go_sem, ↓reduceIte]
      simp [cntV, h0, h1]
theorem ok_endsS (p : PV) (a b : Int) : FunOK Try.prog 132 [.agg [iP a, iP b], .one p] (.one (.agg [iP b, iP a, iP 0, iP 0])) := by
  refine fun_ok (nt := 10) (rs := [.cell 4 96]) Try.func132 rfl rfl rfl (by simp) fun Z w0 => ?_; simp only [initFr, avR, List.map_cons, List.map_nil]
  refine tw ?_; try with_reducible intro QQ hQQ
  refine aw_ret ?_; refine ⟨.inr rfl, ?_⟩; simp only [resA, res1, go_sem, ↓reduceIte]
def posN (i : Int) : Int := if i = 0 ∨ i = n then i else 5 + i
theorem ok_endsI (a b : Int) (ha : -1000 ≤ a ∧ a ≤ 1000) (hb : -1000 ≤ b ∧ b ≤ 1000) : FunOK Try.prog 133 [.agg [iP a, iP b], .one (ydP n most strays calls)] (.one (.agg [iP (posN n b), iP (posN n a), iP 0, iP 0])) := by
  have h1 := ok_pens n most strays calls b hb
  have h2 := ok_pens n most strays calls a ha
  simp only [ydP] at h1 h2
  refine fun_ok (nt := 19) (rs := [.cell 4 96]) Try.func133 rfl rfl rfl (by simp) fun Z w0 => ?_; simp only [initFr, avR, List.map_cons, List.map_nil]
  simp only [ydP]
  refine tw ?_; try with_reducible intro QQ hQQ
  ((refine cO 132 rfl rfl rfl ((ok_endsS _ a b)) Try.func132 rfl ?_); refine tu ?_; try clear hQQ QQ); refine tw ?_; try with_reducible intro QQ hQQ
  (refine cD 63 rfl rfl rfl (h1) Try.func63 rfl ?_); refine td ?_; try clear hQQ QQ
  (refine cD 63 rfl rfl rfl (h2) Try.func63 rfl ?_); refine td ?_; try clear hQQ QQ
  refine tw ?_; try with_reducible intro QQ hQQ
  refine aw_ret ?_; refine ⟨.inr rfl, ?_⟩; simp only [resA, res1, go_sem, ↓reduceIte]
  rfl
end
end Go.Proofs.Ytejbglbiefpagaa
