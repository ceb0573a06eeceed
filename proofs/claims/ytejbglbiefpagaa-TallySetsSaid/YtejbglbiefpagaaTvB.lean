/- tally: tables, walked. -/
import Derived.Test.YtejbglbiefpagaaTvA
set_option linter.all false
namespace Go.Proofs.Ytejbglbiefpagaa
open Go Go.RowKit Go.Sh Go.Pv
set_option maxHeartbeats 2000000
set_option maxRecDepth 4000
/-- A table's cells. -/
def tab (T : List Int) : List AC := T.map fun n => .p (iP n)
theorem tab_len (T : List Int) : (tab T).length = T.length := by simp [tab]
theorem map_tab (T : List Int) : (T.map iP).map AC.p = tab T := by simp [tab]
theorem spl_tab (T : List Int) (o : Nat) (v : Int) (h : o < T.length) : spl (tab T) o [.p (.v (.int .i64 v))] = tab (T.set o v) := by
  unfold spl tab
  rw [List.map_set]
  apply List.ext_getElem?
  intro j
  rw [List.append_assoc, List.getElem?_append, List.getElem?_set]
  simp only [List.length_take, List.length_map, List.length_singleton]
  have hm : min o T.length = o := by omega
  rw [hm]
  by_cases h1 : j < o
  · rw [if_pos h1, if_neg (by omega), List.getElem?_take, if_pos h1]
  · rw [if_neg h1]
    by_cases h2 : o = j
    · subst h2
      rw [if_pos rfl, if_pos h]
      simp
    · rw [if_neg h2, List.getElem?_append_right (by simp only [List.length_append, List.length_take, List.length_map, List.length_singleton]; omega), List.getElem?_drop]
      have : o + ([AC.p (PV.v (Value.int .i64 v))] : List AC).length + (j - (List.take o (List.map (fun n => AC.p (iP n)) T) ++ [AC.p (PV.v (Value.int .i64 v))]).length) = j := by
        simp only [List.length_append, List.length_take, List.length_map, List.length_singleton]
        omega
      simp only [List.length_append, List.length_take, List.length_map, List.length_singleton] at this ⊢
      congr 1
      omega
theorem spl_tab0 (T T' : List Int) (h : T'.length = T.length) : spl (tab T) 0 (tab T') = tab T' := by
  unfold spl
  simp [tab_len, tab, h]
theorem tab_get (T : List Int) (o : Nat) (h : o < T.length) : ((tab T).drop o)[0]? = some (.p (iP (T.getD o 0))) := by
  rw [List.getElem?_drop, Nat.add_zero]
  unfold tab
  rw [List.getElem?_map, List.getElem?_eq_getElem h]
  simp [List.getD, h]
theorem tab_take (T : List Int) (h : T.length = 121) : (tab T).take 121 = tab T := List.take_of_length_le (by rw [tab_len, h]; exact Nat.le_refl _)
theorem mapO_tab (any : Bool) (h : Nat → Option Obj') : ∀ (T : List Int), mapO (pvA any h) (tab T) = some (T.map iP)
  | [] => rfl
  | n :: T => by
    show mapO (pvA any h) (.p (iP n) :: tab T) = _
    simp only [mapO, mapO_tab any h T]
    rfl
theorem mapO_tabD (h : Nat → Option Obj') : ∀ (T : List Int), mapO (toPV h) (tab T) = some (T.map iP)
  | [] => rfl
  | n :: T => by
    show mapO (toPV h) (.p (iP n) :: tab T) = _
    simp only [mapO, mapO_tabD h T]
    rfl
/-- A table, by what lies where. -/
def mk (f : Nat → Nat → Int) : List Int := (List.range 121).map fun j => f (j / 11) (j % 11)
theorem mk_len (f : Nat → Nat → Int) : (mk f).length = 121 := by simp [mk]
theorem mk_get (f : Nat → Nat → Int) {i k : Nat} (hi : i < 11) (hk : k < 11) : (mk f).getD (i * 11 + k) 0 = f i k := by
  have h : i * 11 + k < 121 := by omega
  have h1 : (i * 11 + k) / 11 = i := by omega
  have h2 : (i * 11 + k) % 11 = k := by omega
  simp [mk, List.getD, h, h1, h2]
def upd2 (f : Nat → Nat → Int) (i k : Nat) (v : Int) : Nat → Nat → Int := fun a b => if a = i ∧ b = k then v else f a b
theorem mk_set (f : Nat → Nat → Int) {i k : Nat} (hi : i < 11) (hk : k < 11) (v : Int) : (mk f).set (i * 11 + k) v = mk (upd2 f i k v) := by
  apply List.ext_getElem?
  intro j
  rw [List.getElem?_set]
  by_cases hj : j < 121
  · have e : ∀ g : Nat → Nat → Int, (mk g)[j]? = some (g (j / 11) (j % 11)) := fun g => by simp [mk, hj]
    rw [e, e, mk_len]
    by_cases h : i * 11 + k = j
    · rw [if_pos h, if_pos (by omega), upd2, if_pos (by omega)]
    · rw [if_neg h, upd2, if_neg (by omega)]
  · have e : ∀ g : Nat → Nat → Int, (mk g)[j]? = none := fun g => by simp [mk]; omega
    rw [e, e, if_neg (by omega)]
theorem mk_congr {f g : Nat → Nat → Int} (h : ∀ i k, i < 11 → k < 11 → f i k = g i k) : mk f = mk g := by
  unfold mk
  refine List.map_congr_left fun j hj => ?_
  have := List.mem_range.1 hj
  exact h _ _ (by omega) (by omega)
theorem ty_zero92 : tyZero Try.prog 92 = some (tab (mk fun _ _ => 0)) := by kernel_rfl
theorem take1 {α : Type} (l : List α) : l.take 1 = match l with | [] => [] | x :: _ => [x] := by cases l <;> rfl
theorem get_mk (f : Nat → Nat → Int) {i k : Nat} (hi : i < 11) (hk : k < 11) : ((tab (mk f)).drop (i * 11 + k))[0]? = some (.p (iP (f i k))) := by
  rw [tab_get _ _ (by rw [mk_len]; omega), mk_get f hi hk]
theorem set_mk (f : Nat → Nat → Int) (v : Int) {i k : Nat} (hi : i < 11) (hk : k < 11) : List.take (i * 11 + k) (tab (mk f)) ++ [.p (.v (.int .i64 v))] ++ List.drop (i * 11 + k + 1) (tab (mk f)) = tab (mk (upd2 f i k v)) := by
  have := spl_tab (mk f) (i * 11 + k) v (by rw [mk_len]; omega)
  rw [mk_set f hi hk] at this
  exact this
theorem drop_mk (f : Nat → Nat → Int) : List.drop 121 (tab (mk f)) = [] := List.drop_eq_nil_of_le (by rw [tab_len, mk_len]; exact Nat.le_refl _)
theorem take_mk (f : Nat → Nat → Int) : List.take 121 (tab (mk f)) = tab (mk f) := tab_take _ (mk_len f)
theorem refs_tab : ∀ (T : List Int), List.flatMap refsC (tab T) = []
  | [] => rfl
  | n :: T => by
    show refsC (.p (iP n)) ++ List.flatMap refsC (tab T) = []
    rw [refs_tab T]; rfl
theorem mk_upd (f : Nat → Nat → Int) (i k : Nat) (v : Int) (g : Nat → Nat → Int) (h : ∀ a b, a < 11 → b < 11 → upd2 f i k v a b = g a b) : mk (upd2 f i k v) = mk g := mk_congr h
attribute [go_sem] ty_zero92 tab_len map_tab get_mk set_mk drop_mk take_mk refs_tab mapO_tab mapO_tabD mk_len Nat.mul_one
/-- Of which nothing is known. -/
def emptyF : Nat → Nat → Int := fun i k => if i = k then 0 else 65536
def partE (i k : Nat) : Nat → Nat → Int := fun a b => if (a < i ∨ (a = i ∧ b < k)) ∧ a ≠ b then 65536 else 0
theorem ok_empty : FunOK Try.prog 104 [] (.one (.agg ((mk emptyF).map iP))) := by
  refine fun_ok (nt := 19) (rs := [.cell 0 92]) Try.func104 rfl rfl rfl (by simp) fun Z w0 => ?_; simp only [initFr, avR, List.map_cons, List.map_nil]
  refine tw ?_; try with_reducible intro QQ hQQ
  refine aw_weak (weak_keep [0, 3] (by simp only [go_sem, ↓reduceIte]; rfl)) ?_
  refine aw_loop_ov (ι := { i : Nat // i ≤ 11 }) (fun i => [(3, iA i.1)]) (fun i => [(0, .box (tab (mk (partE i.1 0))))]) (fun i => 11 - i.1) ⟨0, by omega⟩ (by first | rfl | (simp only [go_sem, ↓reduceIte]; first | done | rfl | (simp; try rfl))) ?_
  rintro ⟨i, hi⟩
  simp (disch := decide) only [ov, ovL, AL.get_nil, AL.get_eq, AL.get_ne, Option.getD_some, Option.getD_none]
  by_cases hil : i < 11
  · refine tw ?_; try with_reducible intro QQ hQQ
    refine ti ?_; try clear hQQ QQ
    refine tw ?_; try with_reducible intro QQ hQQ
    refine aw_weak (weak_keep [0, 1, 3, 6] (by simp only [go_sem, ↓reduceIte]; rfl)) ?_
    refine aw_loop_ov (ι := { k : Nat // k ≤ 11 }) (fun k => [(6, iA k.1)]) (fun k => [(0, .box (tab (mk (partE i k.1))))]) (fun k => 11 - k.1) ⟨0, by omega⟩ (by first | rfl | (simp only [go_sem, ↓reduceIte]; first | done | rfl | (simp; try rfl))) ?_
    rintro ⟨k, hk⟩
    simp (disch := decide) only [ov, ovL, AL.get_nil, AL.get_eq, AL.get_ne, Option.getD_some, Option.getD_none]
    by_cases hkl : k < 11
    · by_cases hik : i = k
      · refine tw ?_; try with_reducible intro QQ hQQ
        refine ti ?_; try clear hQQ QQ
        refine tw ?_; try with_reducible intro QQ hQQ
        refine ti ?_; try clear hQQ QQ
        refine tw ?_; try with_reducible intro QQ hQQ
        refine ⟨⟨k + 1, by omega⟩, ?_, weak_round ?_ (by first | rfl | (simp only [go_sem, ↓reduceIte]))⟩
        rotate_left
        · rw [show mk (partE i (k + 1)) = mk (partE i k) from mk_congr fun a b ha hb => by unfold partE; split <;> split <;> omega]
          (simp only [go_sem, ↓reduceIte]; try rfl)
        · simp only; omega
      · refine tw ?_; try with_reducible intro QQ hQQ
        refine ti ?_; try clear hQQ QQ
        refine tw ?_; try with_reducible intro QQ hQQ
        refine ti ?_; try clear hQQ QQ
        refine tw ?_; try with_reducible intro QQ hQQ
        refine ⟨⟨k + 1, by omega⟩, ?_, weak_round ?_ (by first | rfl | (simp only [go_sem, ↓reduceIte]))⟩
        rotate_left
        · rw [← mk_upd (partE i k) i k 65536 (partE i (k + 1)) fun a b ha hb => by unfold upd2 partE; split <;> split <;> (try split) <;> omega]
          (simp only [go_sem, ↓reduceIte]; try rfl)
        · simp only; omega
    · have hk11 : k = 11 := by omega
      subst hk11
      refine tw ?_; try with_reducible intro QQ hQQ
      refine ti ?_; try clear hQQ QQ
      refine tw ?_; try with_reducible intro QQ hQQ
      refine ⟨⟨i + 1, by omega⟩, ?_, weak_round ?_ (by first | rfl | (simp only [go_sem, ↓reduceIte]))⟩
      rotate_left
      · rw [show mk (partE (i + 1) 0) = mk (partE i 11) from mk_congr fun a b ha hb => by unfold partE; split <;> split <;> omega]
        (simp only [go_sem, ↓reduceIte]; try rfl)
      · simp only; omega
  · have hi11 : i = 11 := by omega
    subst hi11
    refine tw ?_; try with_reducible intro QQ hQQ
    refine ti ?_; try clear hQQ QQ
    refine tw ?_; try with_reducible intro QQ hQQ
    refine aw_ret ?_; refine ⟨.inr rfl, ?_⟩; simp only [resA, res1, go_sem, ↓reduceIte]
    rw [show mk (partE 11 0) = mk emptyF from mk_congr fun a b ha hb => by unfold partE emptyF; split <;> split <;> omega]
theorem ok_span (f : Nat → Nat → Int) (a b : Nat) (lo hi : Int) (ha : a < 11) (hb : b < 11) (hf : -4611686018427387904 ≤ f b a ∧ f b a ≤ 4611686018427387904) :
    FunOK Try.prog 62 [.agg ((mk f).map iP), .agg [iP a, iP b, iP lo, iP hi]] (.one (.agg [iP (-(f b a)), iP (f a b)])) := by
  refine fun_ok (nt := 21) (rs := [.cell 4 27]) Try.func62 rfl rfl rfl (by simp) fun Z w0 => ?_; simp only [initFr, avR, List.map_cons, List.map_nil]
  refine tw ?_; try with_reducible intro QQ hQQ
  refine aw_ret ?_; refine ⟨.inr rfl, ?_⟩; simp only [resA, res1, go_sem, ↓reduceIte]
  rw [Int.zero_sub]
def canB (f : Nat → Nat → Int) (n : Nat) : Bool := (List.range n).all fun i => decide (0 ≤ f i i)
theorem canB_succ (f : Nat → Nat → Int) (n : Nat) : canB f (n + 1) = (canB f n && decide (0 ≤ f n n)) := by
  unfold canB; rw [List.range_succ, List.all_append]; simp
theorem canB_false (f : Nat → Nat → Int) {i n : Nat} (h : i < n) (hf : f i i < 0) : canB f n = false := by
  unfold canB
  rw [List.all_eq_false]
  exact ⟨i, List.mem_range.2 h, by simpa using hf⟩
theorem ok_can (f : Nat → Nat → Int) : FunOK Try.prog 85 [.agg ((mk f).map iP)] (.one (.one (.v (.bool (canB f 11))))) := by
  refine fun_ok (nt := 14) (rs := [.tmp 2]) Try.func85 rfl rfl rfl (by simp) fun Z w0 => ?_; simp only [initFr, avR, List.map_cons, List.map_nil]
  refine tw ?_; try with_reducible intro QQ hQQ
  refine aw_weak (weak_keep [1, 4] (by simp only [go_sem, ↓reduceIte]; rfl)) ?_
  refine aw_loop_ov (ι := { i : Nat // i ≤ 11 ∧ canB f i = true }) (fun i => [(4, iA i.1)]) (fun _ => []) (fun i => 11 - i.1) ⟨0, by omega, rfl⟩ (by first | rfl | (simp only [go_sem, ↓reduceIte]; first | done | rfl | (simp; try rfl))) ?_
  rintro ⟨i, hi, hc⟩
  simp (disch := decide) only [ov, ovL, AL.get_nil, AL.get_eq, AL.get_ne, Option.getD_some, Option.getD_none]
  by_cases hil : i < 11
  · by_cases hn : f i i < 0
    · refine tw ?_; try with_reducible intro QQ hQQ
      refine ti ?_; try clear hQQ QQ
      refine tw ?_; try with_reducible intro QQ hQQ
      refine ti ?_; try clear hQQ QQ
      refine tw ?_; try with_reducible intro QQ hQQ
      refine aw_ret ?_; refine ⟨.inr rfl, ?_⟩; simp only [resA, res1, go_sem, ↓reduceIte]
      rw [canB_false f hil hn]
    · have hc' : canB f (i + 1) = true := by rw [canB_succ, hc]; simpa using hn
      refine tw ?_; try with_reducible intro QQ hQQ
      refine ti ?_; try clear hQQ QQ
      refine tw ?_; try with_reducible intro QQ hQQ
      refine ti ?_; try clear hQQ QQ
      refine tw ?_; try with_reducible intro QQ hQQ
      (refine ⟨⟨i + 1, by omega, hc'⟩, ?_, weak_round (by simp only [go_sem, ↓reduceIte]; first | done | rfl) (by first | rfl | (simp only [go_sem, ↓reduceIte]))⟩; (simp only; omega))
  · have hi11 : i = 11 := by omega
    subst hi11
    refine tw ?_; try with_reducible intro QQ hQQ
    refine ti ?_; try clear hQQ QQ
    refine tw ?_; try with_reducible intro QQ hQQ
    refine aw_ret ?_; refine ⟨.inr rfl, ?_⟩; simp only [resA, res1, go_sem, ↓reduceIte]
    rw [hc]
def minF (f : Nat → Nat → Int) (a b : Nat) (m : Int) : Nat → Nat → Int := fun i k => if f i a + m + f b k < f i k then f i a + m + f b k else f i k
def put1 (f : Nat → Nat → Int) (a b : Nat) (m : Int) : Nat → Nat → Int := if f a b ≤ m then f else minF f a b m
def part1 (f g : Nat → Nat → Int) (i k : Nat) : Nat → Nat → Int := fun a b => if a < i ∨ (a = i ∧ b < k) then g a b else f a b
theorem part_zero (f g : Nat → Nat → Int) : part1 f g 0 0 = f := by
  funext a b; unfold part1; rw [if_neg (by omega)]
theorem put_le {f : Nat → Nat → Int} {a b : Nat} {m : Int} (h : f a b ≤ m) : put1 f a b m = f := if_pos h
theorem put_gt {f : Nat → Nat → Int} {a b : Nat} {m : Int} (h : ¬ f a b ≤ m) : put1 f a b m = minF f a b m := if_neg h
theorem one_ne_zero2 : (1 = 0) = False := by simp
theorem two_ne_zero2 : (2 = 0) = False := by simp
theorem part_step (f g : Nat → Nat → Int) {i k : Nat} (hi : i < 11) (hk : k < 11) {v : Int} (hv : v = g i k) : mk (upd2 (part1 f g i k) i k v) = mk (part1 f g i (k + 1)) := by
  refine mk_congr fun a b ha hb => ?_
  unfold upd2 part1
  by_cases h : a = i ∧ b = k
  · rw [if_pos h, if_pos (by omega), hv, h.1, h.2]
  · rw [if_neg h]
    by_cases h2 : a < i ∨ (a = i ∧ b < k)
    · rw [if_pos h2, if_pos (by omega)]
    · rw [if_neg h2, if_neg (by omega)]
theorem part_row (f g : Nat → Nat → Int) (i : Nat) : mk (part1 f g (i + 1) 0) = mk (part1 f g i 11) := by
  refine mk_congr fun a b ha hb => ?_
  unfold part1
  by_cases h2 : a < i ∨ (a = i ∧ b < 11)
  · rw [if_pos (by omega), if_pos h2]
  · rw [if_neg (by omega), if_neg h2]
theorem part_all (f g : Nat → Nat → Int) : mk g = mk (part1 f g 11 0) := by
  refine mk_congr fun a b ha hb => ?_
  unfold part1
  rw [if_pos (by omega)]
theorem put_bound {f : Nat → Nat → Int} {a b : Nat} {m : Int} (ha : a < 11) (hb : b < 11) (hm : -65536 ≤ m ∧ m ≤ 65536) (hf : ∀ i k, i < 11 → k < 11 → -1152921504606846976 ≤ f i k ∧ f i k ≤ 1152921504606846976) :
    ∀ i k, i < 11 → k < 11 → -2305843009213759488 ≤ put1 f a b m i k ∧ put1 f a b m i k ≤ 1152921504606846976 := by
  intro i k hi hk
  have g1 := hf i k hi hk
  have g2 := hf i a hi ha
  have g3 := hf b k hb hk
  unfold put1
  split
  · omega
  · unfold minF; split <;> omega
theorem ok_put (f : Nat → Nat → Int) (a b : Nat) (l h : Int) (ha : a < 11) (hb : b < 11) (hlo : -65536 ≤ l ∧ l ≤ 65536) (hhi : -65536 ≤ h ∧ h ≤ 65536) (hf : ∀ i k, i < 11 → k < 11 → -1152921504606846976 ≤ f i k ∧ f i k ≤ 1152921504606846976) :
    FunOK Try.prog 105 [.agg ((mk f).map iP), .one (.sl [[iP a, iP b, iP l, iP h]])] (.one (.agg ((mk (put1 (put1 f a b h) b a (0 - l))).map iP))) := by
  have hB := put_bound ha hb hhi hf
  generalize hF1 : put1 f a b h = F1 at hB
  refine fun_ok (nt := 87) (rs := [.cell 4 92]) Try.func105 rfl rfl rfl (by simp) fun Z w0 => ?_; simp only [initFr, avR, List.map_cons, List.map_nil]
  refine tw ?_; try with_reducible intro QQ hQQ
  refine aw_weak (weak_keep [2, 4, 12, 13, 14] (by simp only [go_sem, ↓reduceIte]; rfl)) ?_
  refine aw_loop_ov (ι := { j : Nat // j ≤ 1 }) (fun j => [(14, iA j.1)]) (fun j => [(0, .box (tab (mk (if j.1 = 0 then f else put1 F1 b a (0 - l)))))]) (fun j => 1 - j.1) ⟨0, by omega⟩ (by first | rfl | (simp only [go_sem, ↓reduceIte]; first | done | rfl | (simp; try rfl))) ?_
  rintro ⟨j, hj⟩
  simp (disch := decide) only [ov, ovL, AL.get_nil, AL.get_eq, AL.get_ne, Option.getD_some, Option.getD_none]
  rcases (show j = 0 ∨ j = 1 by omega) with rfl | rfl
  · simp only [↓reduceIte]
    refine tw ?_; try with_reducible intro QQ hQQ
    refine ti ?_; try clear hQQ QQ
    refine tw ?_; try with_reducible intro QQ hQQ
    refine aw_weak (weak_keep [2, 4, 12, 13, 14, 35, 36] (by simp only [go_sem, ↓reduceIte]; rfl)) ?_
    refine aw_loop_ov (ι := { q : Nat // q ≤ 2 }) (fun q => [(36, iA q.1)]) (fun q => [(0, .box (tab (mk (if q.1 = 0 then f else if q.1 = 1 then F1 else put1 F1 b a (0 - l)))))]) (fun q => 2 - q.1) ⟨0, by omega⟩ (by first | rfl | (simp only [go_sem, ↓reduceIte]; first | done | rfl | (simp; try rfl))) ?_
    rintro ⟨q, hq⟩
    simp (disch := decide) only [ov, ovL, AL.get_nil, AL.get_eq, AL.get_ne, Option.getD_some, Option.getD_none]
    rcases (show q = 0 ∨ q = 1 ∨ q = 2 by omega) with rfl | rfl | rfl
    · simp only [↓reduceIte]
      clear hB
      subst hF1
      by_cases hle : (f) a b ≤ h
      · refine tw ?_; try with_reducible intro QQ hQQ
        refine ti ?_; try clear hQQ QQ
        refine tw ?_; try with_reducible intro QQ hQQ
        refine ti ?_; try clear hQQ QQ
        (refine aw_exit ?_); (repeat with_reducible first | apply then_n | apply block_n | apply then_x | apply then_r | apply nog_n | apply nog_r | apply block_r | apply block_e (by decide) | apply block_x (by decide))
        refine tw ?_; try with_reducible intro QQ hQQ
        refine ⟨⟨1, by omega⟩, ?_, weak_round ?_ (by first | rfl | (simp only [go_sem, ↓reduceIte]))⟩
        rotate_left
        · simp only [Nat.reduceEqDiff, ↓reduceIte, Nat.one_ne_zero, one_ne_zero2, two_ne_zero2, put_le hle]
          (simp only [go_sem, ↓reduceIte]; try rfl)
        · simp only; omega
      · refine tw ?_; try with_reducible intro QQ hQQ
        refine ti ?_; try clear hQQ QQ
        refine tw ?_; try with_reducible intro QQ hQQ
        refine ti ?_; try clear hQQ QQ
        refine tw ?_; try with_reducible intro QQ hQQ
        refine aw_weak (weak_keep [2, 4, 8, 9, 12, 13, 14, 35, 36, 50] (by simp only [go_sem, ↓reduceIte]; rfl)) ?_
        refine aw_loop_ov (ι := { i : Nat // i ≤ 11 }) (fun i => [(50, iA i.1)]) (fun i => [(0, .box (tab (mk (part1 (f) (minF (f) a b h) i.1 0))))]) (fun i => 11 - i.1) ⟨0, by omega⟩ (by first | rfl | (simp only [go_sem, ↓reduceIte]; first | done | rfl | (simp; try rfl))) ?_
        rintro ⟨i, hi⟩
        simp (disch := decide) only [ov, ovL, AL.get_nil, AL.get_eq, AL.get_ne, Option.getD_some, Option.getD_none]
        by_cases hil : i < 11
        · refine tw ?_; try with_reducible intro QQ hQQ
          refine ti ?_; try clear hQQ QQ
          refine tw ?_; try with_reducible intro QQ hQQ
          refine aw_weak (weak_keep [2, 4, 8, 9, 10, 12, 13, 14, 35, 36, 50, 53] (by simp only [go_sem, ↓reduceIte]; rfl)) ?_
          refine aw_loop_ov (ι := { k : Nat // k ≤ 11 }) (fun k => [(53, iA k.1)]) (fun k => [(0, .box (tab (mk (part1 (f) (minF (f) a b h) i k.1))))]) (fun k => 11 - k.1) ⟨0, by omega⟩ (by first | rfl | (simp only [go_sem, ↓reduceIte]; first | done | rfl | (simp; try rfl))) ?_
          rintro ⟨k, hk⟩
          simp (disch := decide) only [ov, ovL, AL.get_nil, AL.get_eq, AL.get_ne, Option.getD_some, Option.getD_none]
          by_cases hkl : k < 11
          · have g1 := hf i k hil hkl
            have g2 := hf i a hil (by omega)
            have g3 := hf b k (by omega) hkl
            refine tw ?_; try with_reducible intro QQ hQQ
            refine ti ?_; try clear hQQ QQ
            refine tw ?_; try with_reducible intro QQ hQQ
            refine ⟨⟨k + 1, by omega⟩, ?_, weak_round ?_ (by first | rfl | (simp only [go_sem, ↓reduceIte]))⟩
            rotate_left
            · rw [← part_step (f) (minF (f) a b h) hil hkl (show (if f i a + h + f b k < f i k then f i a + h + f b k else f i k) = minF f a b h i k from rfl)]
              (simp only [go_sem, ↓reduceIte]; try rfl)
            · simp only; omega
          · have hk11 : k = 11 := by omega
            subst hk11
            refine tw ?_; try with_reducible intro QQ hQQ
            refine ti ?_; try clear hQQ QQ
            refine tw ?_; try with_reducible intro QQ hQQ
            refine ⟨⟨i + 1, by omega⟩, ?_, weak_round ?_ (by first | rfl | (simp only [go_sem, ↓reduceIte]))⟩
            rotate_left
            · rw [part_row (f) (minF (f) a b h) i]
              (simp only [go_sem, ↓reduceIte]; try rfl)
            · simp only; omega
        · have hi11 : i = 11 := by omega
          subst hi11
          refine tw ?_; try with_reducible intro QQ hQQ
          refine ti ?_; try clear hQQ QQ
          refine tw ?_; try with_reducible intro QQ hQQ
          refine ⟨⟨1, by omega⟩, ?_, weak_round ?_ (by first | rfl | (simp only [go_sem, ↓reduceIte]))⟩
          rotate_left
          · simp only [Nat.reduceEqDiff, ↓reduceIte, Nat.one_ne_zero, one_ne_zero2, two_ne_zero2, put_gt hle]
            rw [part_all (f) (minF (f) a b h)]
            (simp only [go_sem, ↓reduceIte]; try rfl)
          · simp only; omega
    · simp only [one_ne_zero2, ↓reduceIte]
      clear hf hF1
      by_cases hle : (F1) b a ≤ (0 - l)
      · refine tw ?_; try with_reducible intro QQ hQQ
        refine ti ?_; try clear hQQ QQ
        refine tw ?_; try with_reducible intro QQ hQQ
        refine ti ?_; try clear hQQ QQ
        (refine aw_exit ?_); (repeat with_reducible first | apply then_n | apply block_n | apply then_x | apply then_r | apply nog_n | apply nog_r | apply block_r | apply block_e (by decide) | apply block_x (by decide))
        refine tw ?_; try with_reducible intro QQ hQQ
        refine ⟨⟨2, by omega⟩, ?_, weak_round ?_ (by first | rfl | (simp only [go_sem, ↓reduceIte]))⟩
        rotate_left
        · simp only [Nat.reduceEqDiff, ↓reduceIte, Nat.one_ne_zero, one_ne_zero2, two_ne_zero2, put_le hle]
          (simp only [go_sem, ↓reduceIte]; try rfl)
        · simp only; omega
      · refine tw ?_; try with_reducible intro QQ hQQ
        refine ti ?_; try clear hQQ QQ
        refine tw ?_; try with_reducible intro QQ hQQ
        refine ti ?_; try clear hQQ QQ
        refine tw ?_; try with_reducible intro QQ hQQ
        refine aw_weak (weak_keep [2, 4, 8, 9, 12, 13, 14, 35, 36, 50] (by simp only [go_sem, ↓reduceIte]; rfl)) ?_
        refine aw_loop_ov (ι := { i : Nat // i ≤ 11 }) (fun i => [(50, iA i.1)]) (fun i => [(0, .box (tab (mk (part1 (F1) (minF (F1) b a (0 - l)) i.1 0))))]) (fun i => 11 - i.1) ⟨0, by omega⟩ (by first | rfl | (simp only [go_sem, ↓reduceIte]; first | done | rfl | (simp; try rfl))) ?_
        rintro ⟨i, hi⟩
        simp (disch := decide) only [ov, ovL, AL.get_nil, AL.get_eq, AL.get_ne, Option.getD_some, Option.getD_none]
        by_cases hil : i < 11
        · refine tw ?_; try with_reducible intro QQ hQQ
          refine ti ?_; try clear hQQ QQ
          refine tw ?_; try with_reducible intro QQ hQQ
          refine aw_weak (weak_keep [2, 4, 8, 9, 10, 12, 13, 14, 35, 36, 50, 53] (by simp only [go_sem, ↓reduceIte]; rfl)) ?_
          refine aw_loop_ov (ι := { k : Nat // k ≤ 11 }) (fun k => [(53, iA k.1)]) (fun k => [(0, .box (tab (mk (part1 (F1) (minF (F1) b a (0 - l)) i k.1))))]) (fun k => 11 - k.1) ⟨0, by omega⟩ (by first | rfl | (simp only [go_sem, ↓reduceIte]; first | done | rfl | (simp; try rfl))) ?_
          rintro ⟨k, hk⟩
          simp (disch := decide) only [ov, ovL, AL.get_nil, AL.get_eq, AL.get_ne, Option.getD_some, Option.getD_none]
          by_cases hkl : k < 11
          · have g1 := hB i k hil hkl
            have g2 := hB i b hil (by omega)
            have g3 := hB a k (by omega) hkl
            refine tw ?_; try with_reducible intro QQ hQQ
            refine ti ?_; try clear hQQ QQ
            refine tw ?_; try with_reducible intro QQ hQQ
            refine ⟨⟨k + 1, by omega⟩, ?_, weak_round ?_ (by first | rfl | (simp only [go_sem, ↓reduceIte]))⟩
            rotate_left
            · rw [← part_step (F1) (minF (F1) b a (0 - l)) hil hkl (show (if F1 i b + (0 - l) + F1 a k < F1 i k then F1 i b + (0 - l) + F1 a k else F1 i k) = minF F1 b a (0 - l) i k from rfl)]
              (simp only [go_sem, ↓reduceIte]; try rfl)
            · simp only; omega
          · have hk11 : k = 11 := by omega
            subst hk11
            refine tw ?_; try with_reducible intro QQ hQQ
            refine ti ?_; try clear hQQ QQ
            refine tw ?_; try with_reducible intro QQ hQQ
            refine ⟨⟨i + 1, by omega⟩, ?_, weak_round ?_ (by first | rfl | (simp only [go_sem, ↓reduceIte]))⟩
            rotate_left
            · rw [part_row (F1) (minF (F1) b a (0 - l)) i]
              (simp only [go_sem, ↓reduceIte]; try rfl)
            · simp only; omega
        · have hi11 : i = 11 := by omega
          subst hi11
          refine tw ?_; try with_reducible intro QQ hQQ
          refine ti ?_; try clear hQQ QQ
          refine tw ?_; try with_reducible intro QQ hQQ
          refine ⟨⟨2, by omega⟩, ?_, weak_round ?_ (by first | rfl | (simp only [go_sem, ↓reduceIte]))⟩
          rotate_left
          · simp only [Nat.reduceEqDiff, ↓reduceIte, Nat.one_ne_zero, one_ne_zero2, two_ne_zero2, put_gt hle]
            rw [part_all (F1) (minF (F1) b a (0 - l))]
            (simp only [go_sem, ↓reduceIte]; try rfl)
          · simp only; omega
    · simp only [two_ne_zero2, ↓reduceIte]
      refine tw ?_; try with_reducible intro QQ hQQ
      refine ti ?_; try clear hQQ QQ
      refine tw ?_; try with_reducible intro QQ hQQ
      refine ⟨⟨1, by omega⟩, ?_, weak_round ?_ (by first | rfl | (simp only [go_sem, ↓reduceIte]))⟩
      rotate_left
      · simp only [one_ne_zero2, ↓reduceIte]
        (simp only [go_sem, ↓reduceIte]; try rfl)
      · simp only; omega
  · simp only [one_ne_zero2, ↓reduceIte]
    refine tw ?_; try with_reducible intro QQ hQQ
    refine ti ?_; try clear hQQ QQ
    refine tw ?_; try with_reducible intro QQ hQQ
    refine aw_ret ?_; refine ⟨.inr rfl, ?_⟩; simp only [resA, res1, go_sem, ↓reduceIte]
end Go.Proofs.Ytejbglbiefpagaa
