/- Kg: texts joined (BvA BvM BvN BvB). -/
import Derived.Test.YtknikcpeacmpmaaPvL
import Derived.KernelRfl
import Derived.Tactics
import Derived.Test.YtknikcpeacmpmaaKf
set_option linter.all false
/- burr: plain functions, walked. -/
namespace Go.Proofs.Ytknikcpeacmpmaa
open Go Go.RowKit Go.Sh Go.Pv
attribute [go_sem] beq_t_d beq_f_d bne_t_d bne_f_d
set_option maxHeartbeats 2000000
set_option maxRecDepth 4000
theorem boxOf_box (b : Nat) : boxOf (.one (.box b 0)) = some b := rfl
theorem boxOf_p (x : PV) : boxOf (.one (.p x)) = none := rfl
theorem boxOf_agg (cs : List AC) : boxOf (.agg cs) = none := rfl
theorem conc63 : concT Try.prog 63 = true := by kernel_rfl
attribute [go_sem] boxOf_box boxOf_p boxOf_agg conc63
theorem mixed : Try.prog.follows .mixedOrders = true := by kernel_rfl
/-! The steps of a walk. -/
theorem tw {G G' : Prop} (k : G') (h : G' → G := by intro hk0; ((repeat (first | apply aw_seq | apply aw_block | apply aw_skip | apply aw_label | apply aw_exit | ((first | refine aw_region (hideO fun Qz hQz => ?_) | refine aw_draw mixed (hideD fun Qz hQz => ?_)); simp (maxSteps := 400000) (disch := first | decide | omega) only [go_sem, ↓reduceIte]; try (first | with_reducible refine unhide hQz ?_ | refine ⟨by kernel_rfl, unhide hQz ?_⟩); clear hQz Qz) | with_reducible first | apply then_n | apply block_n | apply then_x | apply then_r | apply nog_n | apply nog_r | apply block_r | apply block_e (by decide) | apply block_x (by decide)))); (try revert hQz); (try revert Qz); exact hk0) : G := h k
theorem ts {G G' : Prop} (k : G') (h : G' → G := by intro hk0; (simp (maxSteps := 400000) (disch := first | decide | omega) only [go_sem, ↓reduceIte]; (try (with_reducible refine unhide hQQ ?_; (repeat with_reducible first | apply then_n | apply block_n | apply then_x | apply then_r | apply nog_n | apply nog_r | apply block_r | apply block_e (by decide) | apply block_x (by decide))))); exact hk0) : G := h k
theorem td {G G' : Prop} (k : G') (h : G' → G := by intro hk0; (simp (maxSteps := 400000) (disch := first | decide | omega) only [go_sem, ↓reduceIte]; (try (refine ⟨by kernel_rfl, unhide hQQ ?_⟩; (repeat with_reducible first | apply then_n | apply block_n | apply then_x | apply then_r | apply nog_n | apply nog_r | apply block_r | apply block_e (by decide) | apply block_x (by decide))))); exact hk0) : G := h k
theorem tu {G G' : Prop} (k : G') (h : G' → G := by intro hk0; (simp (maxSteps := 400000) (disch := first | decide | omega) only [go_sem, ↓reduceIte]; try (with_reducible refine unhide hQQ ?_)); exact hk0) : G := h k
theorem tv {G G' : Prop} (k : G') (h : G' → G := by intro hk0; (simp (maxSteps := 400000) (disch := first | decide | omega) only [go_sem, ↓reduceIte]; try (refine ⟨by kernel_rfl, unhide hQQ ?_⟩)); exact hk0) : G := h k
theorem ti {G G' : Prop} (k : G') (h : G' → G := by intro hk0; (refine aw_cond2 (by simp (disch := first | decide | omega) only [go_sem, ↓reduceIte]; rfl) ?_; first | refine .inl ⟨by first | rfl | exact decide_eq_true (by omega) | exact decide_eq_true (by assumption) | (simp (disch := first | decide | omega) only [if_pos_d, if_neg_d, decide_eq_true_eq, Bool.not_eq_true', decide_eq_false_iff_not]; omega), ?_⟩ | refine .inr ⟨by first | rfl | exact decide_eq_false (by omega) | exact decide_eq_false (by assumption) | (simp (disch := first | decide | omega) only [if_pos_d, if_neg_d, decide_eq_true_eq, Bool.not_eq_true', decide_eq_false_iff_not]; omega), ?_⟩); exact hk0) : G := h k
theorem cO {K : Kx} {ops : Array Oper} {o : Oper} {r : List Oper} {st : St} {Q : St → Prop} {f : Operand} {args : Array Operand} {argTypes : Array TypeId} (fid : FuncId) (hd : dstOK K o.dst = true) (ho : o.op = .call { callee := .value f, args := args, argTypes := argTypes }) {rvs : List RV} {res : RR} (h1 : (evalA (AL.get st.fr) f).bind fnA = some (fid, [])) (h4 : FunOK K.P fid rvs res) {fn : Func} (h5 : K.P.funcs[fid]? = some fn) (h6 : fn.body.isSome = true) (h : evOps K ops r (st.put o.dst (avRR res)) Q) (h2 : (args.toList.mapM (arg1 (AL.get st.fr) (AL.get st.hp) true)) = some rvs := by simp (disch := first | decide | omega) only [go_sem, ↓reduceIte]; try rfl) (h3 : true = true → flatRR res = true := by intro _; rfl) (h7 : fn.name ≠ "runtime.NumGoroutine" := by decide) : CallO K ops o r st Q :=
  callO_ok hd ho fid true h1 h2 h3 h4 h5 h6 h7 h
theorem cB {K : Kx} {ops : Array Oper} {o : Oper} {r : List Oper} {st : St} {Q : St → Prop} {f : Operand} {args : Array Operand} {argTypes : Array TypeId} (fid : FuncId) (hd : dstOK K o.dst = true) (ho : o.op = .call { callee := .value f, args := args, argTypes := argTypes }) {rvs : List RV} {res : RR} (h1 : (evalA (AL.get st.fr) f).bind fnA = some (fid, [])) (h4 : FunOK K.P fid rvs res) {fn : Func} (h5 : K.P.funcs[fid]? = some fn) (h6 : fn.body.isSome = true) (h : evOps K ops r (st.put o.dst (avRR res)) Q) (h2 : (args.toList.mapM (arg1 (AL.get st.fr) (AL.get st.hp) false)) = some rvs := by simp (disch := first | decide | omega) only [go_sem, ↓reduceIte]; try rfl) (h3 : false = true → flatRR res = true := (by intro h; cases h)) (h7 : fn.name ≠ "runtime.NumGoroutine" := by decide) : CallO K ops o r st Q :=
  callO_ok hd ho fid false h1 h2 h3 h4 h5 h6 h7 h
theorem cD {K : Kx} {l : List Oper} {o : Oper} {r : List Oper} {st : St} {recs : List Rec} {Q : St → Prop} {f : Operand} {args : Array Operand} {argTypes : Array TypeId} (fid : FuncId) (hd : dstOK K o.dst = true) (ho : o.op = .call { callee := .value f, args := args, argTypes := argTypes }) {rvs : List RV} {res : RR} (h1 : (evalA (AL.get st.fr) f).bind fnA = some (fid, [])) (h4 : FunOK K.P fid rvs res) {fn : Func} (h5 : K.P.funcs[fid]? = some fn) (h6 : fn.body.isSome = true) (h : evDraw K l r (st.put o.dst (avRR res)) (recs ++ [(some (idsA st o), [])]) Q) (h2 : (args.toList.mapM (arg1 (AL.get st.fr) (AL.get st.hp) true)) = some rvs := by simp (disch := first | decide | omega) only [go_sem, ↓reduceIte]; try rfl) (h3 : true = true → flatRR res = true := by intro _; rfl) (h7 : fn.name ≠ "runtime.NumGoroutine" := by decide) : CallD K l o r st recs Q :=
  callD_ok hd ho fid true h1 h2 h3 h4 h5 h6 h7 h
def inB (a b c : Int) : Bool := decide (b ≤ a) && decide (a ≤ c)
def spanB (lo hi low high : Int) : Bool := (decide (low ≤ lo) && decide (lo ≤ hi)) && decide (hi ≤ high)
theorem ok_within (a b c : Int) : FunOK Try.prog 86 [.one (iP a), .one (iP b), .one (iP c)] (.one (.one (.v (.bool (inB a b c))))) := by
  refine fun_ok (nt := 15) (rs := [.tmp 6]) Try.func86 rfl rfl rfl (by simp) fun Z w0 => ?_; simp only [initFr, avR, List.map_cons, List.map_nil]
  by_cases h : b ≤ a
  · refine tw ?_; try with_reducible intro QQ hQQ
    refine aw_ret ?_; refine ⟨.inr rfl, ?_⟩; simp only [resA, res1, go_sem, ↓reduceIte]
    simp [inB, h]
  · refine tw ?_; try with_reducible intro QQ hQQ
    refine aw_ret ?_; refine ⟨.inr rfl, ?_⟩; simp only [resA, res1, go_sem, ↓reduceIte]
    simp [inB, h]
theorem mem_of_getD {α : Type} {l : List α} {i : Nat} {d : α} (h : i < l.length) : l.getD i d ∈ l := by rw [List.getD_eq_getElem?_getD, List.getElem?_eq_getElem h]; exact List.getElem_mem h
def uP (n : Nat) : PV := .v (.int .u64 n)
end Go.Proofs.Ytknikcpeacmpmaa
/- tally: the library's stable sort, as a function on words. Plain. -/
namespace Go.Proofs.Ytknikcpeacmpmaa
/-- The i-th byte of a word, and two of them exchanged. -/
def gt (s i : Nat) : Nat := s >>> (8 * i) % 256
def swp (s i j : Nat) : Nat := s ^^^ ((gt s i ^^^ gt s j) <<< (8 * i)) ^^^ ((gt s i ^^^ gt s j) <<< (8 * j))
theorem gt_lt (s i : Nat) : gt s i < 256 := Nat.mod_lt _ (by decide)
theorem gt_bit (s i b : Nat) : (gt s i).testBit b = (decide (b < 8) && s.testBit (8 * i + b)) := by
  unfold gt
  rw [show (256 : Nat) = 2 ^ 8 from rfl, Nat.testBit_mod_two_pow, Nat.testBit_shiftRight]
theorem gt_swp (s i j k : Nat) : gt (swp s i j) k = if k = i then gt s j else if k = j then gt s i else gt s k := by
  apply Nat.eq_of_testBit_eq
  intro b
  have hd : ∀ c, 8 ≤ c → (gt s i ^^^ gt s j).testBit c = false := by
    intro c hc
    rw [Nat.testBit_xor, gt_bit, gt_bit]
    simp [show ¬ c < 8 by omega]
  by_cases hb : b < 8
  · have e : (gt (swp s i j) k).testBit b = ((s.testBit (8 * k + b) ^^ (decide (8 * i ≤ 8 * k + b) && (gt s i ^^^ gt s j).testBit (8 * k + b - 8 * i))) ^^ (decide (8 * j ≤ 8 * k + b) && (gt s i ^^^ gt s j).testBit (8 * k + b - 8 * j))) := by
      rw [gt_bit, swp, Nat.testBit_xor, Nat.testBit_xor, Nat.testBit_shiftLeft, Nat.testBit_shiftLeft]
      simp [hb]
    have part : ∀ i', k ≠ i' → (decide (8 * i' ≤ 8 * k + b) && (gt s i ^^^ gt s j).testBit (8 * k + b - 8 * i')) = false := by
      intro i' hne
      rcases Nat.lt_or_gt_of_ne hne with h | h
      · simp [show ¬ 8 * i' ≤ 8 * k + b by omega]
      · rw [hd _ (by omega)]; simp
    have same : ∀ i', k = i' → (decide (8 * i' ≤ 8 * k + b) && (gt s i ^^^ gt s j).testBit (8 * k + b - 8 * i')) = ((gt s i).testBit b ^^ (gt s j).testBit b) := by
      intro i' he
      subst he
      rw [show 8 * k + b - 8 * k = b by omega, Nat.testBit_xor]
      simp
    have hk : s.testBit (8 * k + b) = (gt s k).testBit b := by rw [gt_bit]; simp [hb]
    rw [e, hk]
    by_cases h1 : k = i
    · rw [if_pos h1, same i h1]
      by_cases h2 : k = j
      · rw [same j h2]
        have : gt s i = gt s j := by rw [← h1, ← h2]
        rw [← this, h1]
        cases (gt s i).testBit b <;> rfl
      · rw [part j h2, h1]
        cases (gt s i).testBit b <;> cases (gt s j).testBit b <;> rfl
    · rw [if_neg h1, part i h1]
      by_cases h2 : k = j
      · rw [if_pos h2, same j h2, h2]
        cases (gt s i).testBit b <;> cases (gt s j).testBit b <;> rfl
      · rw [if_neg h2, part j h2]
        cases (gt s k).testBit b <;> rfl
  · have : ∀ x, x < 256 → x.testBit b = false := fun x hx => Nat.testBit_lt_two_pow (Nat.lt_of_lt_of_le hx (show 2 ^ 8 ≤ 2 ^ b from Nat.pow_le_pow_right (by decide) (by omega)))
    rw [this _ (gt_lt _ _)]
    split
    · rw [this _ (gt_lt _ _)]
    · split <;> rw [this _ (gt_lt _ _)]
/-- How many bits a byte has. -/
def popc (x : Nat) : Nat := 95125173855764218123276304889944061997689682402263585766959741291920687686033329201817409157123347502415384089435969498586180241031507595463600295898153685276653211633572815512294064538494957912327413386667662218713394765509704508661031522276467630197481635010039778342554499416459730172574551513689147646224 >>> (4 * x) % 16
def force {α : Type} (s : Nat) (f : Nat → α) : α := match s with
  | 0 => f 0
  | k + 1 => f (k + 1)
theorem force_eq {α : Type} (s : Nat) (f : Nat → α) : force s f = f s := by cases s <;> rfl
def insIn (a : Nat) : Nat → Nat → Nat
  | 0, s => s
  | j + 1, s => cond (Nat.blt a (j + 1) && Nat.blt (popc (gt s (j + 1))) (popc (gt s j))) (force (swp s (j + 1) j) (insIn a j)) s
def insOut (a : Nat) : Nat → Nat → Nat → Nat
  | 0, _, s => s
  | c + 1, i, s => force (insIn a i s) (insOut a c (i + 1))
def insS (a b s : Nat) : Nat := insOut a (b - (a + 1)) (a + 1) s
def bsr (p : Nat → Bool) : Nat → Nat → Nat → Nat
  | 0, i, _ => i
  | f + 1, i, j => cond (Nat.blt i j) (cond (p ((i + j) / 2)) (bsr p f ((i + j) / 2 + 1) j) (bsr p f i ((i + j) / 2))) i
def shUp : Nat → Nat → Nat → Nat
  | 0, _, s => s
  | c + 1, k, s => force (swp s k (k + 1)) (shUp c (k + 1))
def shDn : Nat → Nat → Nat → Nat
  | 0, _, s => s
  | c + 1, k, s => force (swp s k (k - 1)) (shDn c (k - 1))
def swr (a b : Nat) : Nat → Nat → Nat → Nat
  | 0, _, s => s
  | c + 1, k, s => force (swp s (a + k) (b + k)) (swr a b c (k + 1))
def rotL (m : Nat) : Nat → Nat → Nat → Nat → Nat
  | 0, _, _, s => s
  | f + 1, i, j, s => cond (Nat.beq i j) (swr (m - i) m i 0 s) (cond (Nat.blt j i) (force (swr (m - i) m j 0 s) (rotL m f (i - j) j)) (force (swr (m - i) (m + j - i) i 0 s) (rotL m f i (j - i))))
/-- Where the search of a merge begins, and where it ends. -/
def symS (a m b : Nat) : Nat := cond (Nat.blt ((a + b) / 2) m) ((a + b) / 2 + m - b) a
def symR (a m b : Nat) : Nat := cond (Nat.blt ((a + b) / 2) m) ((a + b) / 2) m
def symC (a m b s : Nat) : Nat := bsr (fun c => !Nat.blt (popc (gt s ((a + b) / 2 + m - 1 - c))) (popc (gt s c))) (b - a) (symS a m b) (symR a m b)
def symN : Nat → Nat → Nat → Nat → Nat → Nat
  | 0, _, _, _, s => s
  | f + 1, a, m, b, s =>
    cond (Nat.beq (m - a) 1) (force (bsr (fun h => Nat.blt (popc (gt s h)) (popc (gt s a))) (b - a) m b) fun i => shUp (i - 1 - a) a s)
    (cond (Nat.beq (b - m) 1) (force (bsr (fun h => !Nat.blt (popc (gt s m)) (popc (gt s h))) (b - a) a m) fun i => shDn (m - i) m s)
    (force (symC a m b s) fun st =>
      force (cond (Nat.blt st m && Nat.blt m ((a + b) / 2 + m - st)) (rotL m (b - a) (m - st) ((a + b) / 2 + m - st - m) s) s) fun s1 =>
      force (cond (Nat.blt a st && Nat.blt st ((a + b) / 2)) (symN f a st ((a + b) / 2) s1) s1) fun s2 =>
      cond (Nat.blt ((a + b) / 2) ((a + b) / 2 + m - st) && Nat.blt ((a + b) / 2 + m - st) b) (symN f ((a + b) / 2) ((a + b) / 2 + m - st) b s2) s2))
def blkL (n : Nat) : Nat → Nat → Nat → Nat
  | 0, _, s => s
  | f + 1, a, s => cond (Nat.ble (a + 20) n) (force (insS a (a + 20) s) (blkL n f (a + 20))) (insS a n s)
def mrgL (n bs : Nat) : Nat → Nat → Nat → Nat
  | 0, _, s => s
  | f + 1, a, s => cond (Nat.ble (a + 2 * bs) n) (force (symN (2 * bs) a (a + bs) (a + 2 * bs) s) (mrgL n bs f (a + 2 * bs))) (cond (Nat.blt (a + bs) n) (symN (2 * bs) a (a + bs) n s) s)
def mrgO (n : Nat) : Nat → Nat → Nat → Nat
  | 0, _, s => s
  | f + 1, bs, s => cond (Nat.blt bs n) (force (mrgL n bs n 0 s) (mrgO n f (2 * bs))) s
def stabN (n s : Nat) : Nat := force (blkL n n 0 s) (mrgO n n 20)
def codeOf : List Nat → Nat
  | [] => 0
  | x :: r => x + 256 * codeOf r
/-- All sets of so many calls, the smaller ones first. -/
def setsL (k : Nat) : List Nat := (List.range (k + 1)).flatMap fun c => (List.range (2 ^ k)).filter fun x => Nat.beq (popc x) c
theorem stab0 : stabN 1 0 = 0 := by kernel_rfl
theorem stab1 : stabN 2 256 = 256 := by kernel_rfl
theorem stab2 : stabN 4 50462976 = 50462976 := by kernel_rfl
theorem stab3 : stabN 8 506097522914230528 = 506097518636040448 := by kernel_rfl
theorem stab4 : stabN 16 20011376718272490338853433276725592320 = 20011376637808810377683830359145447680 := by kernel_rfl
theorem stab5 : stabN 32 14074904626401341155369551180448584754667373453244490859944217516317499064576 = 14074904599015625017429425425935709368051073956976243310874405652160481198336 := by kernel_rfl
theorem stab6 : stabN 64 3312311058617422219262701077603671083303783660776566047208785713678530063500214665672361533652489606496157966473013639691114223352419987691188160517243136 = 3312311055446367537796388604233583539486875787384301529597862216686624155034964141738586758264852128772078493571206734690264137337607262426598626283356416 := by kernel_rfl
end Go.Proofs.Ytknikcpeacmpmaa
/- tally: bits, counted. -/
namespace Go.Proofs.Ytknikcpeacmpmaa
open Go Go.RowKit Go.Sh Go.Pv
set_option maxHeartbeats 4000000
set_option maxRecDepth 8000
attribute [local go_sem] uP
theorem conv126_3 (a : Nat) (h : a < 2 ^ 63) : convA Try.prog 126 3 (.int .u64 (a : Int)) = some (.int .i64 (a : Int)) := by
  rw [conv_int (Try.underlying126) (Try.underlying3)]
  rw [wrap_nat h]
theorem conv120_3 (a : Nat) (h : a < 2 ^ 63) : convA Try.prog 120 3 (.int .u64 (a : Int)) = some (.int .i64 (a : Int)) := by
  rw [conv_int (Try.underlying120) (Try.underlying3)]
  rw [wrap_nat h]
theorem conv3_120 (a : Nat) (h : a < 2 ^ 63) : convA Try.prog 3 120 (.int .i64 (a : Int)) = some (.int .u64 (a : Int)) := by
  rw [conv_int (Try.underlying3) (Try.underlying120)]
  rw [wrapu_nat (by omega)]
theorem nadd (a b : Nat) : (a : Int) + (b : Int) = ((a + b : Nat) : Int) := rfl
theorem binu_add {P : Program} (T : TypeId) (x y : Operand) {a b : Nat} (h : a + b < 2 ^ 64) : binA P .add T x y (.int .u64 (a : Int)) (.int .u64 (b : Int)) = some (.int .u64 ((a + b : Nat) : Int)) := by
  rw [bin_add]
  rw [nadd, wrapu_nat h]
def y1 (x : Nat) : Nat := (x >>> 1 &&& 6148914691236517205) + (x &&& 6148914691236517205)
def y2 (x : Nat) : Nat := (y1 x >>> 2 &&& 3689348814741910323) + (y1 x &&& 3689348814741910323)
def y4 (x : Nat) : Nat := y2 x >>> 4 + y2 x &&& 1085102592571150095
def y8 (x : Nat) : Nat := y4 x + y4 x >>> 8
def y16 (x : Nat) : Nat := y8 x + y8 x >>> 16
def y32 (x : Nat) : Nat := y16 x + y16 x >>> 32
theorem y_all : ∀ x, x < 256 → ((x >>> 1 &&& 6148914691236517205) ≤ 255 ∧ (x &&& 6148914691236517205) ≤ 255 ∧ y1 x ≤ 255) ∧ ((y1 x >>> 2 &&& 3689348814741910323) ≤ 255 ∧ (y1 x &&& 3689348814741910323) ≤ 255 ∧ y2 x ≤ 255) ∧ (y2 x >>> 4 ≤ 255 ∧ y4 x ≤ 255) ∧ (y4 x >>> 8 ≤ 255 ∧ y8 x ≤ 255) ∧ (y8 x >>> 16 ≤ 255 ∧ y16 x ≤ 255) ∧ (y16 x >>> 32 ≤ 255 ∧ y32 x ≤ 255) ∧ y32 x &&& 127 = popc x ∧ popc x ≤ 8 := by
  decide +kernel
theorem shr_1 {P : Program} (T : TypeId) (x y : Operand) (a : Nat) : binA P .shr T x y (.int .u64 (a : Int)) (.int .u64 1) = some (.int .u64 ((a >>> 1 : Nat) : Int)) := binu_shr .u64 T x y (a := a) (n := 1) (by decide)
theorem shr_2 {P : Program} (T : TypeId) (x y : Operand) (a : Nat) : binA P .shr T x y (.int .u64 (a : Int)) (.int .u64 2) = some (.int .u64 ((a >>> 2 : Nat) : Int)) := binu_shr .u64 T x y (a := a) (n := 2) (by decide)
theorem shr_4 {P : Program} (T : TypeId) (x y : Operand) (a : Nat) : binA P .shr T x y (.int .u64 (a : Int)) (.int .u64 4) = some (.int .u64 ((a >>> 4 : Nat) : Int)) := binu_shr .u64 T x y (a := a) (n := 4) (by decide)
theorem shr_8 {P : Program} (T : TypeId) (x y : Operand) (a : Nat) : binA P .shr T x y (.int .u64 (a : Int)) (.int .u64 8) = some (.int .u64 ((a >>> 8 : Nat) : Int)) := binu_shr .u64 T x y (a := a) (n := 8) (by decide)
theorem shr_16 {P : Program} (T : TypeId) (x y : Operand) (a : Nat) : binA P .shr T x y (.int .u64 (a : Int)) (.int .u64 16) = some (.int .u64 ((a >>> 16 : Nat) : Int)) := binu_shr .u64 T x y (a := a) (n := 16) (by decide)
theorem shr_32 {P : Program} (T : TypeId) (x y : Operand) (a : Nat) : binA P .shr T x y (.int .u64 (a : Int)) (.int .u64 32) = some (.int .u64 ((a >>> 32 : Nat) : Int)) := binu_shr .u64 T x y (a := a) (n := 32) (by decide)
theorem and_6148914691236517205 {P : Program} (T : TypeId) (x y : Operand) {a : Nat} (h : a < 2 ^ 64) : binA P .and T x y (.int .u64 (a : Int)) (.int .u64 6148914691236517205) = some (.int .u64 ((a &&& 6148914691236517205 : Nat) : Int)) := binu_and T x y (b := 6148914691236517205) h (by decide)
theorem and_3689348814741910323 {P : Program} (T : TypeId) (x y : Operand) {a : Nat} (h : a < 2 ^ 64) : binA P .and T x y (.int .u64 (a : Int)) (.int .u64 3689348814741910323) = some (.int .u64 ((a &&& 3689348814741910323 : Nat) : Int)) := binu_and T x y (b := 3689348814741910323) h (by decide)
theorem and_1085102592571150095 {P : Program} (T : TypeId) (x y : Operand) {a : Nat} (h : a < 2 ^ 64) : binA P .and T x y (.int .u64 (a : Int)) (.int .u64 1085102592571150095) = some (.int .u64 ((a &&& 1085102592571150095 : Nat) : Int)) := binu_and T x y (b := 1085102592571150095) h (by decide)
theorem and_127 {P : Program} (T : TypeId) (x y : Operand) {a : Nat} (h : a < 2 ^ 63) : binA P .and T x y (.int .i64 (a : Int)) (.int .i64 127) = some (.int .i64 ((a &&& 127 : Nat) : Int)) := bin_and_nat T x y (b := 127) h (by decide)
theorem ok_bits64 (x : Nat) (h : x < 256) : FunOK Try.prog 101 [.one (uP x)] (.one (.one (iP (popc x)))) := by
  obtain ⟨⟨a1, a2, a3⟩, ⟨b1, b2, b3⟩, ⟨c1, c2⟩, ⟨d1, d2⟩, ⟨e1, e2⟩, ⟨f1, f2⟩, g1, g2⟩ := y_all x h
  have h1 : x >>> 1 < 2 ^ 64 := Nat.lt_of_le_of_lt (Nat.shiftRight_le _ _) (by omega)
  have h2 : y1 x >>> 2 < 2 ^ 64 := Nat.lt_of_le_of_lt (Nat.shiftRight_le _ _) (by omega)
  have v0 : ∀ (T : TypeId) (x' y' : Operand), binA Try.prog .shr T x' y' (.int .u64 ((x : Nat) : Int)) (.int .u64 1) = some (.int .u64 ((x >>> 1 : Nat) : Int)) := fun T x' y' => shr_1 T x' y' _
  have v1 : ∀ (T : TypeId) (x' y' : Operand), binA Try.prog .and T x' y' (.int .u64 ((x >>> 1 : Nat) : Int)) (.int .u64 6148914691236517205) = some (.int .u64 ((x >>> 1 &&& 6148914691236517205 : Nat) : Int)) := fun T x' y' => and_6148914691236517205 T x' y' (by omega)
  have v2 : ∀ (T : TypeId) (x' y' : Operand), binA Try.prog .and T x' y' (.int .u64 ((x : Nat) : Int)) (.int .u64 6148914691236517205) = some (.int .u64 ((x &&& 6148914691236517205 : Nat) : Int)) := fun T x' y' => and_6148914691236517205 T x' y' (by omega)
  have v3 : ∀ (T : TypeId) (x' y' : Operand), binA Try.prog .add T x' y' (.int .u64 ((x >>> 1 &&& 6148914691236517205 : Nat) : Int)) (.int .u64 ((x &&& 6148914691236517205 : Nat) : Int)) = some (.int .u64 ((y1 x : Nat) : Int)) := fun T x' y' => binu_add T x' y' (by omega)
  have v4 : ∀ (T : TypeId) (x' y' : Operand), binA Try.prog .shr T x' y' (.int .u64 ((y1 x : Nat) : Int)) (.int .u64 2) = some (.int .u64 ((y1 x >>> 2 : Nat) : Int)) := fun T x' y' => shr_2 T x' y' _
  have v5 : ∀ (T : TypeId) (x' y' : Operand), binA Try.prog .and T x' y' (.int .u64 ((y1 x >>> 2 : Nat) : Int)) (.int .u64 3689348814741910323) = some (.int .u64 ((y1 x >>> 2 &&& 3689348814741910323 : Nat) : Int)) := fun T x' y' => and_3689348814741910323 T x' y' (by omega)
  have v6 : ∀ (T : TypeId) (x' y' : Operand), binA Try.prog .and T x' y' (.int .u64 ((y1 x : Nat) : Int)) (.int .u64 3689348814741910323) = some (.int .u64 ((y1 x &&& 3689348814741910323 : Nat) : Int)) := fun T x' y' => and_3689348814741910323 T x' y' (by omega)
  have v7 : ∀ (T : TypeId) (x' y' : Operand), binA Try.prog .add T x' y' (.int .u64 ((y1 x >>> 2 &&& 3689348814741910323 : Nat) : Int)) (.int .u64 ((y1 x &&& 3689348814741910323 : Nat) : Int)) = some (.int .u64 ((y2 x : Nat) : Int)) := fun T x' y' => binu_add T x' y' (by omega)
  have v8 : ∀ (T : TypeId) (x' y' : Operand), binA Try.prog .shr T x' y' (.int .u64 ((y2 x : Nat) : Int)) (.int .u64 4) = some (.int .u64 ((y2 x >>> 4 : Nat) : Int)) := fun T x' y' => shr_4 T x' y' _
  have v9 : ∀ (T : TypeId) (x' y' : Operand), binA Try.prog .add T x' y' (.int .u64 ((y2 x >>> 4 : Nat) : Int)) (.int .u64 ((y2 x : Nat) : Int)) = some (.int .u64 ((y2 x >>> 4 + y2 x : Nat) : Int)) := fun T x' y' => binu_add T x' y' (by omega)
  have v10 : ∀ (T : TypeId) (x' y' : Operand), binA Try.prog .and T x' y' (.int .u64 ((y2 x >>> 4 + y2 x : Nat) : Int)) (.int .u64 1085102592571150095) = some (.int .u64 ((y2 x >>> 4 + y2 x &&& 1085102592571150095 : Nat) : Int)) := fun T x' y' => and_1085102592571150095 T x' y' (by omega)
  have v11 : ∀ (T : TypeId) (x' y' : Operand), binA Try.prog .shr T x' y' (.int .u64 ((y4 x : Nat) : Int)) (.int .u64 8) = some (.int .u64 ((y4 x >>> 8 : Nat) : Int)) := fun T x' y' => shr_8 T x' y' _
  have v12 : ∀ (T : TypeId) (x' y' : Operand), binA Try.prog .add T x' y' (.int .u64 ((y4 x : Nat) : Int)) (.int .u64 ((y4 x >>> 8 : Nat) : Int)) = some (.int .u64 ((y8 x : Nat) : Int)) := fun T x' y' => binu_add T x' y' (by omega)
  have v13 : ∀ (T : TypeId) (x' y' : Operand), binA Try.prog .shr T x' y' (.int .u64 ((y8 x : Nat) : Int)) (.int .u64 16) = some (.int .u64 ((y8 x >>> 16 : Nat) : Int)) := fun T x' y' => shr_16 T x' y' _
  have v14 : ∀ (T : TypeId) (x' y' : Operand), binA Try.prog .add T x' y' (.int .u64 ((y8 x : Nat) : Int)) (.int .u64 ((y8 x >>> 16 : Nat) : Int)) = some (.int .u64 ((y16 x : Nat) : Int)) := fun T x' y' => binu_add T x' y' (by omega)
  have v15 : ∀ (T : TypeId) (x' y' : Operand), binA Try.prog .shr T x' y' (.int .u64 ((y16 x : Nat) : Int)) (.int .u64 32) = some (.int .u64 ((y16 x >>> 32 : Nat) : Int)) := fun T x' y' => shr_32 T x' y' _
  have v16 : ∀ (T : TypeId) (x' y' : Operand), binA Try.prog .add T x' y' (.int .u64 ((y16 x : Nat) : Int)) (.int .u64 ((y16 x >>> 32 : Nat) : Int)) = some (.int .u64 ((y32 x : Nat) : Int)) := fun T x' y' => binu_add T x' y' (by omega)
  have w1 : convA Try.prog 126 3 (.int .u64 ((y32 x : Nat) : Int)) = some (.int .i64 ((y32 x : Nat) : Int)) := conv126_3 _ (by omega)
  have w2 : ∀ (T : TypeId) (x' y' : Operand), binA Try.prog .and T x' y' (.int .i64 ((y32 x : Nat) : Int)) (.int .i64 127) = some (.int .i64 ((popc x : Nat) : Int)) := fun T x' y' => by rw [and_127 T x' y' (by omega), g1]
  clear h1 h2 a1 a2 a3 b1 b2 b3 c1 c2 d1 d2 e1 e2 f1 f2 g1 g2 h
  rw [show y2 x >>> 4 + y2 x &&& 1085102592571150095 = y4 x from rfl] at v10
  refine fun_ok (nt := 35) (rs := [.tmp 2]) Try.func101 rfl rfl rfl (by simp) fun Z w0 => ?_; simp only [initFr, avR, List.map_cons, List.map_nil]
  (repeat (first | apply aw_seq | apply aw_block | apply aw_skip | apply aw_label | apply aw_exit | ((first | refine aw_region (hideO fun QQ hQQ => ?_) | refine aw_draw mixed (hideD fun QQ hQQ => ?_)); simp (maxSteps := 400000) (disch := first | decide | omega) only [v0, v1, v2, v3, v4, v5, v6, v7, v8, v9, v10, v11, v12, v13, v14, v15, v16, w1, w2, go_sem, ↓reduceIte]; try (first | with_reducible refine unhide hQQ ?_ | refine ⟨by kernel_rfl, unhide hQQ ?_⟩); clear hQQ QQ) | with_reducible first | apply then_n | apply block_n | apply then_x | apply then_r | apply nog_n | apply nog_r | apply block_r | apply block_e (by decide) | apply block_x (by decide)))
  refine aw_ret ?_; refine ⟨.inr rfl, ?_⟩; simp only [resA, res1, go_sem, ↓reduceIte]
theorem ok_bits (x : Nat) (h : x < 256) : FunOK Try.prog 96 [.one (uP x)] (.one (.one (iP (popc x)))) := by
  have hb := ok_bits64 x h
  refine fun_ok (nt := 8) (rs := [.tmp 2]) Try.func96 rfl rfl rfl (by simp) fun Z w0 => ?_; simp only [initFr, avR, List.map_cons, List.map_nil]
  refine tw ?_; try with_reducible intro QQ hQQ
  refine ti ?_; try clear hQQ QQ
  refine tw ?_; try with_reducible intro QQ hQQ
  ((refine cO 101 rfl rfl rfl (hb) Try.func101 rfl ?_); refine tu ?_; try clear hQQ QQ); refine tw ?_; try with_reducible intro QQ hQQ
  refine aw_ret ?_; refine ⟨.inr rfl, ?_⟩; simp only [resA, res1, go_sem, ↓reduceIte]
theorem ok_size (x : Nat) (h : x < 256) : FunOK Try.prog 71 [.one (iP x)] (.one (.one (iP (popc x)))) := by
  have hb := ok_bits x h
  have hc := conv3_120 x (by omega)
  refine fun_ok (nt := 6) (rs := [.tmp 2]) Try.func71 rfl rfl rfl (by simp) fun Z w0 => ?_; simp only [initFr, avR, List.map_cons, List.map_nil]
  (repeat (first | apply aw_seq | apply aw_block | apply aw_skip | apply aw_label | apply aw_exit | ((first | refine aw_region (hideO fun QQ hQQ => ?_) | refine aw_draw mixed (hideD fun QQ hQQ => ?_)); simp (maxSteps := 400000) (disch := first | decide | omega) only [hc, go_sem, ↓reduceIte]; try (first | with_reducible refine unhide hQQ ?_ | refine ⟨by kernel_rfl, unhide hQQ ?_⟩); clear hQQ QQ) | with_reducible first | apply then_n | apply block_n | apply then_x | apply then_r | apply nog_n | apply nog_r | apply block_r | apply block_e (by decide) | apply block_x (by decide)))
  ((refine callO_ok rfl rfl 96 true rfl (by simp (disch := first | decide | omega) only [hc, go_sem, ↓reduceIte]; try rfl) (fun _ => rfl) (hb) Try.func96 rfl (by decide) ?_); simp (maxSteps := 400000) (disch := first | decide | omega) only [hc, go_sem, ↓reduceIte]; try (with_reducible refine unhide hQQ ?_; clear hQQ QQ)); (repeat (first | apply aw_seq | apply aw_block | apply aw_skip | apply aw_label | apply aw_exit | ((first | refine aw_region (hideO fun QQ hQQ => ?_) | refine aw_draw mixed (hideD fun QQ hQQ => ?_)); simp (maxSteps := 400000) (disch := first | decide | omega) only [hc, go_sem, ↓reduceIte]; try (first | with_reducible refine unhide hQQ ?_ | refine ⟨by kernel_rfl, unhide hQQ ?_⟩); clear hQQ QQ) | with_reducible first | apply then_n | apply block_n | apply then_x | apply then_r | apply nog_n | apply nog_r | apply block_r | apply block_e (by decide) | apply block_x (by decide)))
  refine aw_ret ?_; refine ⟨.inr rfl, ?_⟩; simp only [resA, res1, go_sem, ↓reduceIte]
theorem ok_cmp (x y : Nat) (hx : x < 256) (hy : y < 256) : FunOK Try.prog 95 [.one (iP x), .one (iP y)] (.one (.one (iP ((popc x : Int) - popc y)))) := by
  obtain ⟨_, _, _, _, _, _, _, g1⟩ := y_all x hx
  obtain ⟨_, _, _, _, _, _, _, g2⟩ := y_all y hy
  have h1 := ok_size x hx
  have h2 := ok_size y hy
  refine fun_ok (nt := 10) (rs := [.tmp 4]) Try.func95 rfl rfl rfl (by simp) fun Z w0 => ?_; simp only [initFr, avR, List.map_cons, List.map_nil]
  refine tw ?_; try with_reducible intro QQ hQQ
  (refine cO 71 rfl rfl rfl (h1) Try.func71 rfl ?_); refine ts ?_; try clear hQQ QQ
  ((refine cO 71 rfl rfl rfl (h2) Try.func71 rfl ?_); refine tu ?_; try clear hQQ QQ); refine tw ?_; try with_reducible intro QQ hQQ
  refine aw_ret ?_; refine ⟨.inr rfl, ?_⟩; simp only [resA, res1, go_sem, ↓reduceIte]
end Go.Proofs.Ytknikcpeacmpmaa
/- burr: unions, and which bales hold a burr for some mobs, walked. -/
namespace Go.Proofs.Ytknikcpeacmpmaa
open Go Go.RowKit Go.Sh Go.Pv
set_option maxHeartbeats 2000000
set_option maxRecDepth 8000
set_option pp.maxSteps 60000
theorem bin_or_nat {P : Program} (T : TypeId) (x y : Operand) {a b : Nat} (ha : a < 2 ^ 63) (hb : b < 2 ^ 63) : binA P .or T x y (.int .i64 (a : Int)) (.int .i64 (b : Int)) = some (.int .i64 ((a ||| b : Nat) : Int)) := by
  have hor : a ||| b < 2 ^ 63 := Nat.or_lt_two_pow ha hb
  rw [bin_or]
  have e : (BitVec.ofInt IntKind.i64.bits (a : Int) ||| BitVec.ofInt IntKind.i64.bits (b : Int)).toNat = a ||| b := by
    show (BitVec.ofInt 64 (a : Int) ||| BitVec.ofInt 64 (b : Int)).toNat = a ||| b
    rw [BitVec.toNat_or, ofInt_nat ha, ofInt_nat hb]
  rw [e, wrap_nat hor]
/-- A row of a set. -/
def rowN (x : Nat) : List PV := [iP (x : Int)]
theorem rowsK_rN (l : List Nat) : rowsK 1 (l.map rowN) = True := eq_true fun i r h => by rw [List.getElem?_map] at h; obtain ⟨x, _, rfl⟩ := Option.map_eq_some_iff.1 h; rfl
theorem get_someN {l : List Nat} {k : Nat} (h : k < l.length) : l[k]? = some (l.getD k 0) := by simp [List.getD, h]
theorem or_fold_lt {l : List Nat} (h : ∀ x ∈ l, x < 256) : ∀ {a : Nat}, a < 256 → l.foldl (· ||| ·) a < 256 := by
  induction l with
  | nil => intro a ha; exact ha
  | cons x r ih => intro a ha; exact ih (fun y hy => h y (List.mem_cons_of_mem _ hy)) (Nat.or_lt_two_pow (n := 8) ha (h x List.mem_cons_self))
attribute [local go_sem] rowN rowsK_rN get_someN
theorem ok_union (l : List Nat) (hl : l.length ≤ 100) (h : ∀ x ∈ l, x < 256) : FunOK Try.prog 88 [.one (.sl (l.map rowN))] (.one (.one (iP ((l.foldl (· ||| ·) 0 : Nat) : Int)))) := by
  refine fun_ok (nt := 16) (rs := [.tmp 2]) Try.func88 rfl rfl rfl (by simp) fun Z w0 => ?_; simp only [initFr, avR, List.map_cons, List.map_nil]
  refine tw ?_; try with_reducible intro QQ hQQ
  refine aw_weak (weak_keep [2, 5, 6, 7] (by simp only [go_sem, ↓reduceIte]; rfl)) ?_
  refine aw_loop_ov (ι := { i : Nat // i ≤ l.length }) (fun i => [(7, iA i.1), (2, iA ((l.take i.1).foldl (· ||| ·) 0 : Nat))]) (fun _ => []) (fun i => l.length - i.1) ⟨0, by omega⟩ (by first | rfl | (simp only [go_sem, ↓reduceIte]; first | done | rfl | (simp; try rfl))) ?_
  rintro ⟨i, hi⟩
  simp (disch := decide) only [ov, ovL, AL.get_nil, AL.get_eq, AL.get_ne, Option.getD_some, Option.getD_none]
  by_cases hil : i < l.length
  · have hx := h _ (mem_of_getD (d := 0) hil)
    have e1 : l.take (i + 1) = l.take i ++ [l.getD i 0] := by
      rw [List.take_succ, List.getElem?_eq_getElem hil, List.getD_eq_getElem?_getD, List.getElem?_eq_getElem hil]; rfl
    have e2 : (l.take (i + 1)).foldl (· ||| ·) 0 = (l.take i).foldl (· ||| ·) 0 ||| l.getD i 0 := by rw [e1, List.foldl_append]; rfl
    have ha : (l.take i).foldl (· ||| ·) 0 < 256 := or_fold_lt (fun x hx => h x (List.mem_of_mem_take hx)) (by decide)
    obtain ⟨x, hxx⟩ : ∃ x, l.getD i 0 = x := ⟨_, rfl⟩
    rw [hxx] at hx e2
    generalize (l.take i).foldl (· ||| ·) 0 = a at *
    have hor : ∀ (T : TypeId) (p q : Operand), binA Try.prog .or T p q (.int .i64 (a : Int)) (.int .i64 (x : Int)) = some (.int .i64 ((a ||| x : Nat) : Int)) := fun T p q => bin_or_nat T p q (by omega) (by omega)
    (repeat (first | apply aw_seq | apply aw_block | apply aw_skip | apply aw_label | apply aw_exit | ((first | refine aw_region (hideO fun QQ hQQ => ?_) | refine aw_draw mixed (hideD fun QQ hQQ => ?_)); simp (maxSteps := 400000) (disch := first | decide | omega) only [hxx, hor, go_sem, ↓reduceIte]; try (first | with_reducible refine unhide hQQ ?_ | refine ⟨by kernel_rfl, unhide hQQ ?_⟩); clear hQQ QQ) | with_reducible first | apply then_n | apply block_n | apply then_x | apply then_r | apply nog_n | apply nog_r | apply block_r | apply block_e (by decide) | apply block_x (by decide)))
    refine aw_cond2 (by simp (disch := first | decide | omega) only [hxx, hor, go_sem, ↓reduceIte]; rfl) ?_; first | refine .inl ⟨by first | rfl | exact decide_eq_true (by omega) | exact decide_eq_true (by assumption) | (simp (disch := first | decide | omega) only [if_pos_d, if_neg_d, decide_eq_true_eq, Bool.not_eq_true', decide_eq_false_iff_not]; omega), ?_⟩ | refine .inr ⟨by first | rfl | exact decide_eq_false (by omega) | exact decide_eq_false (by assumption) | (simp (disch := first | decide | omega) only [if_pos_d, if_neg_d, decide_eq_true_eq, Bool.not_eq_true', decide_eq_false_iff_not]; omega), ?_⟩
    (repeat (first | apply aw_seq | apply aw_block | apply aw_skip | apply aw_label | apply aw_exit | ((first | refine aw_region (hideO fun QQ hQQ => ?_) | refine aw_draw mixed (hideD fun QQ hQQ => ?_)); simp (maxSteps := 400000) (disch := first | decide | omega) only [hxx, hor, go_sem, ↓reduceIte]; try (first | with_reducible refine unhide hQQ ?_ | refine ⟨by kernel_rfl, unhide hQQ ?_⟩); clear hQQ QQ) | with_reducible first | apply then_n | apply block_n | apply then_x | apply then_r | apply nog_n | apply nog_r | apply block_r | apply block_e (by decide) | apply block_x (by decide)))
    refine ⟨⟨i + 1, by omega⟩, ?_, weak_round ?_ (by first | rfl | (simp only [hxx, hor, go_sem, ↓reduceIte]))⟩
    rotate_left
    · simp only [e2]
      (simp only [hxx, hor, go_sem, ↓reduceIte]; try rfl)
    · simp only; omega
  · have : i = l.length := by omega
    subst this
    rw [List.take_length]
    refine tw ?_; try with_reducible intro QQ hQQ
    refine ti ?_; try clear hQQ QQ
    refine tw ?_; try with_reducible intro QQ hQQ
    refine aw_ret ?_; refine ⟨.inr rfl, ?_⟩; simp only [resA, res1, go_sem, ↓reduceIte]
theorem ok_union2 {a b : Nat} (ha : a < 256) (hb : b < 256) : FunOK Try.prog 88 [.one (.sl [[iP (a : Int)], [iP (b : Int)]])] (.one (.one (iP ((a ||| b : Nat) : Int)))) := by
  have := ok_union [a, b] (by simp) (fun x hx => by simp at hx; rcases hx with rfl | rfl <;> assumption)
  simpa [rowN] using this
/-- A row of a test. -/
def rowB (t : Int × Bool) : List PV := [iP t.1, .v (.bool t.2)]
/-- What a test leaves of the bales that hold a burr. -/
def testF (h : Nat × Nat) (t : Int × Bool) : Nat × Nat := if t.2 = true then (h.1 ||| 2 ^ t.1.toNat, h.2) else (h.1, diffN h.2 (2 ^ t.1.toNat))
theorem pow_six {b : Nat} (h : b < 6) : 2 ^ b ≤ 32 := by
  calc 2 ^ b ≤ 2 ^ 5 := Nat.pow_le_pow_right (by decide) (by omega)
    _ = 32 := by decide
theorem or64 {a b : Nat} (ha : a < 64) (hb : b < 64) : a ||| b < 64 := Nat.or_lt_two_pow (n := 6) ha hb
theorem testF_lt {h : Nat × Nat} {t : Int × Bool} (h1 : h.1 < 64) (h2 : h.2 < 64) (ht : 0 ≤ t.1 ∧ t.1 < 6) : (testF h t).1 < 64 ∧ (testF h t).2 < 64 := by
  have hp := pow_six (b := t.1.toNat) (by omega)
  unfold testF
  split
  · exact ⟨or64 h1 (by omega), h2⟩
  · exact ⟨h1, Nat.lt_of_le_of_lt (diffN_le _ _) h2⟩
theorem ok_tested {a b : Nat} (ha : a < 64) (hb : b < 64) {t : Int × Bool} (ht : 0 ≤ t.1 ∧ t.1 < 6) : FunOK Try.prog 89 [.agg [iP (a : Int), iP (b : Int)], .agg (rowB t)] (.one (.agg [iP ((testF (a, b) t).1 : Nat), iP ((testF (a, b) t).2 : Nat)])) := by
  obtain ⟨c, f⟩ := t
  obtain ⟨k, rfl⟩ : ∃ k : Nat, c = k := ⟨c.toNat, by dsimp only at ht; omega⟩
  dsimp only at ht
  have hp := pow_six (b := k) (by omega)
  have hu := ok_union2 (a := a) (b := 2 ^ k) (by omega) (by omega)
  have hsh : ∀ (T : TypeId) (p q : Operand), binA Try.prog .shl T p q (.int .i64 1) (.int .i64 (k : Int)) = some (.int .i64 ((2 ^ k : Nat) : Int)) := fun T p q => bin_shl_one .i64 T p q (by omega)
  have hd : ∀ (T : TypeId) (p q : Operand), binA Try.prog .andNot T p q (.int .i64 (b : Int)) (.int .i64 ((2 ^ k : Nat) : Int)) = some (.int .i64 ((diffN b (2 ^ k) : Nat) : Int)) := fun T p q => bin_andNot_nat T p q (by omega) (by omega)
  unfold testF
  simp only [rowB, Int.toNat_natCast]
  generalize 2 ^ k = x at *
  refine fun_ok (nt := 23) (rs := [.cell 4 74]) Try.func89 rfl rfl rfl (by simp) fun Z w0 => ?_; simp only [initFr, avR, List.map_cons, List.map_nil]
  cases f
  · rw [if_neg (by decide)]
    (repeat (first | apply aw_seq | apply aw_block | apply aw_skip | apply aw_label | apply aw_exit | ((first | refine aw_region (hideO fun QQ hQQ => ?_) | refine aw_draw mixed (hideD fun QQ hQQ => ?_)); simp (maxSteps := 400000) (disch := first | decide | omega) only [hsh, hd, go_sem, ↓reduceIte]; try (first | with_reducible refine unhide hQQ ?_ | refine ⟨by kernel_rfl, unhide hQQ ?_⟩); clear hQQ QQ) | with_reducible first | apply then_n | apply block_n | apply then_x | apply then_r | apply nog_n | apply nog_r | apply block_r | apply block_e (by decide) | apply block_x (by decide)))
    refine aw_cond2 (by simp (disch := first | decide | omega) only [hsh, hd, go_sem, ↓reduceIte]; rfl) ?_; first | refine .inl ⟨by first | rfl | exact decide_eq_true (by omega) | exact decide_eq_true (by assumption) | (simp (disch := first | decide | omega) only [if_pos_d, if_neg_d, decide_eq_true_eq, Bool.not_eq_true', decide_eq_false_iff_not]; omega), ?_⟩ | refine .inr ⟨by first | rfl | exact decide_eq_false (by omega) | exact decide_eq_false (by assumption) | (simp (disch := first | decide | omega) only [if_pos_d, if_neg_d, decide_eq_true_eq, Bool.not_eq_true', decide_eq_false_iff_not]; omega), ?_⟩
    (repeat (first | apply aw_seq | apply aw_block | apply aw_skip | apply aw_label | apply aw_exit | ((first | refine aw_region (hideO fun QQ hQQ => ?_) | refine aw_draw mixed (hideD fun QQ hQQ => ?_)); simp (maxSteps := 400000) (disch := first | decide | omega) only [hsh, hd, go_sem, ↓reduceIte]; try (first | with_reducible refine unhide hQQ ?_ | refine ⟨by kernel_rfl, unhide hQQ ?_⟩); clear hQQ QQ) | with_reducible first | apply then_n | apply block_n | apply then_x | apply then_r | apply nog_n | apply nog_r | apply block_r | apply block_e (by decide) | apply block_x (by decide)))
    refine aw_ret ?_; refine ⟨.inr rfl, ?_⟩; simp only [resA, res1, go_sem, ↓reduceIte]
  · rw [if_pos rfl]
    (repeat (first | apply aw_seq | apply aw_block | apply aw_skip | apply aw_label | apply aw_exit | ((first | refine aw_region (hideO fun QQ hQQ => ?_) | refine aw_draw mixed (hideD fun QQ hQQ => ?_)); simp (maxSteps := 400000) (disch := first | decide | omega) only [hsh, hd, go_sem, ↓reduceIte]; try (first | with_reducible refine unhide hQQ ?_ | refine ⟨by kernel_rfl, unhide hQQ ?_⟩); clear hQQ QQ) | with_reducible first | apply then_n | apply block_n | apply then_x | apply then_r | apply nog_n | apply nog_r | apply block_r | apply block_e (by decide) | apply block_x (by decide)))
    refine aw_cond2 (by simp (disch := first | decide | omega) only [hsh, hd, go_sem, ↓reduceIte]; rfl) ?_; first | refine .inl ⟨by first | rfl | exact decide_eq_true (by omega) | exact decide_eq_true (by assumption) | (simp (disch := first | decide | omega) only [if_pos_d, if_neg_d, decide_eq_true_eq, Bool.not_eq_true', decide_eq_false_iff_not]; omega), ?_⟩ | refine .inr ⟨by first | rfl | exact decide_eq_false (by omega) | exact decide_eq_false (by assumption) | (simp (disch := first | decide | omega) only [if_pos_d, if_neg_d, decide_eq_true_eq, Bool.not_eq_true', decide_eq_false_iff_not]; omega), ?_⟩
    (repeat (first | apply aw_seq | apply aw_block | apply aw_skip | apply aw_label | apply aw_exit | ((first | refine aw_region (hideO fun QQ hQQ => ?_) | refine aw_draw mixed (hideD fun QQ hQQ => ?_)); simp (maxSteps := 400000) (disch := first | decide | omega) only [hsh, hd, go_sem, ↓reduceIte]; try (first | with_reducible refine unhide hQQ ?_ | refine ⟨by kernel_rfl, unhide hQQ ?_⟩); clear hQQ QQ) | with_reducible first | apply then_n | apply block_n | apply then_x | apply then_r | apply nog_n | apply nog_r | apply block_r | apply block_e (by decide) | apply block_x (by decide)))
    (refine callD_ok rfl rfl 88 true rfl (by simp (disch := first | decide | omega) only [hsh, hd, go_sem, ↓reduceIte]; try rfl) (fun _ => rfl) (hu) Try.func88 rfl (by decide) ?_); simp (maxSteps := 400000) (disch := first | decide | omega) only [hsh, hd, go_sem, ↓reduceIte]; (try (refine ⟨by kernel_rfl, unhide hQQ ?_⟩; clear hQQ QQ; (repeat with_reducible first | apply then_n | apply block_n | apply then_x | apply then_r | apply nog_n | apply nog_r | apply block_r | apply block_e (by decide) | apply block_x (by decide))))
    (repeat (first | apply aw_seq | apply aw_block | apply aw_skip | apply aw_label | apply aw_exit | ((first | refine aw_region (hideO fun QQ hQQ => ?_) | refine aw_draw mixed (hideD fun QQ hQQ => ?_)); simp (maxSteps := 400000) (disch := first | decide | omega) only [hsh, hd, go_sem, ↓reduceIte]; try (first | with_reducible refine unhide hQQ ?_ | refine ⟨by kernel_rfl, unhide hQQ ?_⟩); clear hQQ QQ) | with_reducible first | apply then_n | apply block_n | apply then_x | apply then_r | apply nog_n | apply nog_r | apply block_r | apply block_e (by decide) | apply block_x (by decide)))
    refine aw_ret ?_; refine ⟨.inr rfl, ?_⟩; simp only [resA, res1, go_sem, ↓reduceIte]
theorem ok_some {a b : Nat} (ha : a < 64) (hb : b < 64) : FunOK Try.prog 52 [.agg [iP (a : Int), iP (b : Int)]] (.one (.one (.v (.bool (decide (diffN a b = 0)))))) := by
  have hd : ∀ (T : TypeId) (p q : Operand), binA Try.prog .andNot T p q (.int .i64 (a : Int)) (.int .i64 (b : Int)) = some (.int .i64 ((diffN a b : Nat) : Int)) := fun T p q => bin_andNot_nat T p q (by omega) (by omega)
  generalize diffN a b = d at *
  refine fun_ok (nt := 9) (rs := [.tmp 2]) Try.func52 rfl rfl rfl (by simp) fun Z w0 => ?_; simp only [initFr, avR, List.map_cons, List.map_nil]
  (repeat (first | apply aw_seq | apply aw_block | apply aw_skip | apply aw_label | apply aw_exit | ((first | refine aw_region (hideO fun QQ hQQ => ?_) | refine aw_draw mixed (hideD fun QQ hQQ => ?_)); simp (maxSteps := 400000) (disch := first | decide | omega) only [hd, go_sem, ↓reduceIte]; try (first | with_reducible refine unhide hQQ ?_ | refine ⟨by kernel_rfl, unhide hQQ ?_⟩); clear hQQ QQ) | with_reducible first | apply then_n | apply block_n | apply then_x | apply then_r | apply nog_n | apply nog_r | apply block_r | apply block_e (by decide) | apply block_x (by decide)))
  refine aw_ret ?_; refine ⟨.inr rfl, ?_⟩; simp only [resA, res1, go_sem, ↓reduceIte]
  by_cases h : d = 0
  · subst h; rfl
  · rw [decide_eq_false h]
    have : (d : Int) ≠ 0 := by omega
    simp [this]
    try exact h
/-- How many sets of such bales there are. -/
def waysH (h : Nat × Nat) : Nat := if diffN h.1 h.2 = 0 then 2 ^ popc (diffN h.2 h.1) else 0
theorem ok_ways {a b : Nat} (ha : a < 64) (hb : b < 64) (hp6 : popc (diffN b a) ≤ 6) : FunOK Try.prog 93 [.agg [iP (a : Int), iP (b : Int)]] (.one (.one (iP (waysH (a, b) : Nat)))) := by
  have hs := ok_some ha hb
  have hle := diffN_le b a
  have hz := ok_size (diffN b a) (by omega)
  have hd : ∀ (T : TypeId) (p q : Operand), binA Try.prog .andNot T p q (.int .i64 (b : Int)) (.int .i64 (a : Int)) = some (.int .i64 ((diffN b a : Nat) : Int)) := fun T p q => bin_andNot_nat T p q (by omega) (by omega)
  have hsh : ∀ (T : TypeId) (p q : Operand), binA Try.prog .shl T p q (.int .i64 1) (.int .i64 (popc (diffN b a) : Int)) = some (.int .i64 ((2 ^ popc (diffN b a) : Nat) : Int)) := fun T p q => bin_shl_one .i64 T p q (by omega)
  unfold waysH
  dsimp only
  refine fun_ok (nt := 13) (rs := [.tmp 2]) Try.func93 rfl rfl rfl (by simp) fun Z w0 => ?_; simp only [initFr, avR, List.map_cons, List.map_nil]
  by_cases h : diffN a b = 0
  · rw [decide_eq_true h] at hs
    rw [if_pos h]
    (repeat (first | apply aw_seq | apply aw_block | apply aw_skip | apply aw_label | apply aw_exit | ((first | refine aw_region (hideO fun QQ hQQ => ?_) | refine aw_draw mixed (hideD fun QQ hQQ => ?_)); simp (maxSteps := 400000) (disch := first | decide | omega) only [hd, hsh, go_sem, ↓reduceIte]; try (first | with_reducible refine unhide hQQ ?_ | refine ⟨by kernel_rfl, unhide hQQ ?_⟩); clear hQQ QQ) | with_reducible first | apply then_n | apply block_n | apply then_x | apply then_r | apply nog_n | apply nog_r | apply block_r | apply block_e (by decide) | apply block_x (by decide)))
    ((refine callO_ok rfl rfl 52 true rfl (by simp (disch := first | decide | omega) only [hd, hsh, go_sem, ↓reduceIte]; try rfl) (fun _ => rfl) (hs) Try.func52 rfl (by decide) ?_); simp (maxSteps := 400000) (disch := first | decide | omega) only [hd, hsh, go_sem, ↓reduceIte]; try (with_reducible refine unhide hQQ ?_; clear hQQ QQ)); (repeat (first | apply aw_seq | apply aw_block | apply aw_skip | apply aw_label | apply aw_exit | ((first | refine aw_region (hideO fun QQ hQQ => ?_) | refine aw_draw mixed (hideD fun QQ hQQ => ?_)); simp (maxSteps := 400000) (disch := first | decide | omega) only [hd, hsh, go_sem, ↓reduceIte]; try (first | with_reducible refine unhide hQQ ?_ | refine ⟨by kernel_rfl, unhide hQQ ?_⟩); clear hQQ QQ) | with_reducible first | apply then_n | apply block_n | apply then_x | apply then_r | apply nog_n | apply nog_r | apply block_r | apply block_e (by decide) | apply block_x (by decide)))
    refine aw_cond2 (by simp (disch := first | decide | omega) only [hd, hsh, go_sem, ↓reduceIte]; rfl) ?_; first | refine .inl ⟨by first | rfl | exact decide_eq_true (by omega) | exact decide_eq_true (by assumption) | (simp (disch := first | decide | omega) only [if_pos_d, if_neg_d, decide_eq_true_eq, Bool.not_eq_true', decide_eq_false_iff_not]; omega), ?_⟩ | refine .inr ⟨by first | rfl | exact decide_eq_false (by omega) | exact decide_eq_false (by assumption) | (simp (disch := first | decide | omega) only [if_pos_d, if_neg_d, decide_eq_true_eq, Bool.not_eq_true', decide_eq_false_iff_not]; omega), ?_⟩
    (repeat (first | apply aw_seq | apply aw_block | apply aw_skip | apply aw_label | apply aw_exit | ((first | refine aw_region (hideO fun QQ hQQ => ?_) | refine aw_draw mixed (hideD fun QQ hQQ => ?_)); simp (maxSteps := 400000) (disch := first | decide | omega) only [hd, hsh, go_sem, ↓reduceIte]; try (first | with_reducible refine unhide hQQ ?_ | refine ⟨by kernel_rfl, unhide hQQ ?_⟩); clear hQQ QQ) | with_reducible first | apply then_n | apply block_n | apply then_x | apply then_r | apply nog_n | apply nog_r | apply block_r | apply block_e (by decide) | apply block_x (by decide)))
    ((refine callO_ok rfl rfl 71 true rfl (by simp (disch := first | decide | omega) only [hd, hsh, go_sem, ↓reduceIte]; try rfl) (fun _ => rfl) (hz) Try.func71 rfl (by decide) ?_); simp (maxSteps := 400000) (disch := first | decide | omega) only [hd, hsh, go_sem, ↓reduceIte]; try (with_reducible refine unhide hQQ ?_; clear hQQ QQ)); (repeat (first | apply aw_seq | apply aw_block | apply aw_skip | apply aw_label | apply aw_exit | ((first | refine aw_region (hideO fun QQ hQQ => ?_) | refine aw_draw mixed (hideD fun QQ hQQ => ?_)); simp (maxSteps := 400000) (disch := first | decide | omega) only [hd, hsh, go_sem, ↓reduceIte]; try (first | with_reducible refine unhide hQQ ?_ | refine ⟨by kernel_rfl, unhide hQQ ?_⟩); clear hQQ QQ) | with_reducible first | apply then_n | apply block_n | apply then_x | apply then_r | apply nog_n | apply nog_r | apply block_r | apply block_e (by decide) | apply block_x (by decide)))
    refine aw_ret ?_; refine ⟨.inr rfl, ?_⟩; simp only [resA, res1, go_sem, ↓reduceIte]
  · rw [decide_eq_false h] at hs
    rw [if_neg h]
    (repeat (first | apply aw_seq | apply aw_block | apply aw_skip | apply aw_label | apply aw_exit | ((first | refine aw_region (hideO fun QQ hQQ => ?_) | refine aw_draw mixed (hideD fun QQ hQQ => ?_)); simp (maxSteps := 400000) (disch := first | decide | omega) only [hd, hsh, go_sem, ↓reduceIte]; try (first | with_reducible refine unhide hQQ ?_ | refine ⟨by kernel_rfl, unhide hQQ ?_⟩); clear hQQ QQ) | with_reducible first | apply then_n | apply block_n | apply then_x | apply then_r | apply nog_n | apply nog_r | apply block_r | apply block_e (by decide) | apply block_x (by decide)))
    ((refine callO_ok rfl rfl 52 true rfl (by simp (disch := first | decide | omega) only [hd, hsh, go_sem, ↓reduceIte]; try rfl) (fun _ => rfl) (hs) Try.func52 rfl (by decide) ?_); simp (maxSteps := 400000) (disch := first | decide | omega) only [hd, hsh, go_sem, ↓reduceIte]; try (with_reducible refine unhide hQQ ?_; clear hQQ QQ)); (repeat (first | apply aw_seq | apply aw_block | apply aw_skip | apply aw_label | apply aw_exit | ((first | refine aw_region (hideO fun QQ hQQ => ?_) | refine aw_draw mixed (hideD fun QQ hQQ => ?_)); simp (maxSteps := 400000) (disch := first | decide | omega) only [hd, hsh, go_sem, ↓reduceIte]; try (first | with_reducible refine unhide hQQ ?_ | refine ⟨by kernel_rfl, unhide hQQ ?_⟩); clear hQQ QQ) | with_reducible first | apply then_n | apply block_n | apply then_x | apply then_r | apply nog_n | apply nog_r | apply block_r | apply block_e (by decide) | apply block_x (by decide)))
    refine aw_cond2 (by simp (disch := first | decide | omega) only [hd, hsh, go_sem, ↓reduceIte]; rfl) ?_; first | refine .inl ⟨by first | rfl | exact decide_eq_true (by omega) | exact decide_eq_true (by assumption) | (simp (disch := first | decide | omega) only [if_pos_d, if_neg_d, decide_eq_true_eq, Bool.not_eq_true', decide_eq_false_iff_not]; omega), ?_⟩ | refine .inr ⟨by first | rfl | exact decide_eq_false (by omega) | exact decide_eq_false (by assumption) | (simp (disch := first | decide | omega) only [if_pos_d, if_neg_d, decide_eq_true_eq, Bool.not_eq_true', decide_eq_false_iff_not]; omega), ?_⟩
    (repeat (first | apply aw_seq | apply aw_block | apply aw_skip | apply aw_label | apply aw_exit | ((first | refine aw_region (hideO fun QQ hQQ => ?_) | refine aw_draw mixed (hideD fun QQ hQQ => ?_)); simp (maxSteps := 400000) (disch := first | decide | omega) only [hd, hsh, go_sem, ↓reduceIte]; try (first | with_reducible refine unhide hQQ ?_ | refine ⟨by kernel_rfl, unhide hQQ ?_⟩); clear hQQ QQ) | with_reducible first | apply then_n | apply block_n | apply then_x | apply then_r | apply nog_n | apply nog_r | apply block_r | apply block_e (by decide) | apply block_x (by decide)))
    refine aw_ret ?_; refine ⟨.inr rfl, ?_⟩; simp only [resA, res1, go_sem, ↓reduceIte]
    try rfl
end Go.Proofs.Ytknikcpeacmpmaa
