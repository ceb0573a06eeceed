/- Texts of the proof, joined. -/
import Derived.StillTail
import Derived.OrdersIn
import Derived.TacticsIn
import Derived.Below
import Derived.KernelRfl
import Derived.WalkKit
import Derived.WalkSpells
import Derived.WalkLawsBesides
import Derived.Lib.Hide
import Derived.Deep.QuietTactic
import Derived.BigQuiet
import Derived.Deep.DeepCutAuto
import Derived.Deep.CutBlock
import Derived.RangeFuncFrom
set_option linter.all false
namespace Go.Sh
open Go
def slot (a : Act) (t : Nat) : Value := a.tmps[t]?.getD undef
def dslot (o : Oper) (a : Act) : Value := match o.dst with | some d => slot a d | none => undef
def dsts (l : List Oper) : List Tmp := l.filterMap (·.dst)
def ascB (l : List Oper) : Bool := l.zipIdx.all fun (o, i) => o.after.all fun e => !Region.binds .any e || decide (e.on < i)
def rgB (l : List Oper) (n sz : Nat) : Bool :=
 ascB l && decide (n ≤ l.length) && decide ((dsts (l.take n)).Nodup) && (dsts (l.take n)).all (fun d => decide (d < sz)) &&
 (decide (n = l.length) || (decide (n < l.length) && Region.sinkB .any l.toArray n && Region.chainB .any l.toArray n)) &&
 Region.seqB .any l.toArray (l.length - n) n ((List.replicate n true ++ List.replicate (l.length - n) false).toArray)
def putAll : Act → List Oper → (Nat → Value) → Nat → Act
 | a, [], _, _ => a
 | a, o :: r, vs, i => putAll (a.put o.dst (vs i)) r vs (i + 1)
theorem slot_put (a : Act) (x : Option Tmp) (v : Value) (t : Nat) : slot (a.put x v) t = if x = some t ∧ t < a.tmps.size then v else slot a t := by
 cases x with
 | none => simp [Act.put, slot]
 | some d =>
  by_cases h : d = t
  ·subst h
   by_cases hd : d < a.tmps.size
   ·simp [Act.put, slot, hd]
   ·simp [Act.put, slot, hd]
  ·simp [Act.put, slot, h, Array.getElem?_setIfInBounds_ne h]
theorem size_put (a : Act) (x : Option Tmp) (v : Value) : (a.put x v).tmps.size = a.tmps.size := by cases x <;> simp [Act.put]
theorem defers_put (a : Act) (x : Option Tmp) (v : Value) : (a.put x v).defers = a.defers := by cases x <;> rfl
theorem putAll_size (l : List Oper) : ∀ (a : Act) (vs : Nat → Value) (i : Nat), (putAll a l vs i).tmps.size = a.tmps.size := by
 induction l with
 | nil => intros; rfl
 | cons o r ih => intro a vs i; simp only [putAll]; rw [ih, size_put]
theorem putAll_defers (l : List Oper) : ∀ (a : Act) (vs : Nat → Value) (i : Nat), (putAll a l vs i).defers = a.defers := by
 induction l with
 | nil => intros; rfl
 | cons o r ih => intro a vs i; simp only [putAll]; rw [ih, defers_put]
theorem putAll_slot_other (l : List Oper) : ∀ (a : Act) (vs : Nat → Value) (i t : Nat), t ∉ dsts l → slot (putAll a l vs i) t = slot a t := by
 induction l with
 | nil => intros; rfl
 | cons o r ih =>
  intro a vs i t ht
  simp only [dsts, List.filterMap_cons] at ht
  simp only [putAll]
  have h1 : t ∉ dsts r := by
   intro hm; apply ht
   cases o.dst with
   | none => exact hm
   | some d => exact List.mem_cons_of_mem _ hm
  rw [ih _ _ _ _ h1, slot_put, if_neg]
  rintro ⟨hd, _⟩
  apply ht; simp [hd]
theorem putAll_slot_in (l : List Oper) : ∀ (a : Act) (vs : Nat → Value) (i k : Nat) (o : Oper) (d : Nat), (dsts l).Nodup → l[k]? = some o → o.dst = some d → d < a.tmps.size →
  slot (putAll a l vs i) d = vs (i + k) := by
 induction l with
 | nil => intro a vs i k o d _ h; simp at h
 | cons o' r ih =>
  intro a vs i k o d hn hk hd hlt
  simp only [putAll]
  cases k with
  | zero =>
   simp at hk; subst hk
   simp only [dsts, List.filterMap_cons, hd, List.nodup_cons] at hn
   rw [putAll_slot_other r _ _ _ _ hn.1, slot_put, hd, if_pos ⟨rfl, hlt⟩]; rfl
  | succ k =>
   have hn' : (dsts r).Nodup := by
    simp only [dsts, List.filterMap_cons] at hn
    cases hx : o'.dst with
    | none => rw [hx] at hn; exact hn
    | some d' => rw [hx] at hn; exact (List.nodup_cons.1 hn).2
   rw [ih _ _ _ k o d hn' (by simpa using hk) hd (by rw [size_put]; exact hlt)]
   congr 1; omega
theorem act_ext {a b : Act} (hs : a.tmps.size = b.tmps.size) (hd : a.defers = b.defers) (h : ∀ t, slot a t = slot b t) : a = b := by
 cases a with
 | mk ta da =>
  cases b with
  | mk tb db =>
   simp only at hd hs
   subst hd
   congr 1
   apply Array.ext hs
   intro i h1 h2
   have := h i
   simpa [slot, h1, h2] using this
section
variable {F : Fence} {N : Nat} {P : Program} {l : List Oper} {n : Nat} {Q : Exit → Act → World → Prop}
def Owes (V : Nat → Value → World → Prop) (I : World → Prop) (i : Nat) (v : Value) (w w' : World) : Prop :=
 V i v w' ∧ I w' ∧ ∀ j u, j ≠ i → V j u w → V j u w'
structure Ahead (l : List Oper) (n : Nat) (V : Nat → Value → World → Prop) (a0 : Act) (o : Oper) (a : Act) (w : World) : Prop where
 base : ∀ t, t ∉ dsts (l.take n) → slot a t = slot a0 t
 defers : a.defers = a0.defers
 pre : ∀ (j : Nat) (oj : Oper), l[j]? = some oj → (o.after.any fun e => Region.binds .any e && e.on == j) = true → V j (dslot oj a) w
structure RgInv (l : List Oper) (n : Nat) (V : Nat → Value → World → Prop) (I : World → Prop) (a0 : Act) (listed : Array Bool) (a : Act) (w : World) : Prop where
 head : HeadInv .any l.toArray n listed
 inv : I w
 size : a.tmps.size = a0.tmps.size
 defers : a.defers = a0.defers
 base : ∀ t, (∀ (i : Nat) (o : Oper), i < n → l[i]? = some o → listed.getD i false = true → o.dst ≠ some t) → slot a t = slot a0 t
 done : ∀ (i : Nat) (o : Oper), i < n → l[i]? = some o → listed.getD i false = true → V i (dslot o a) w
theorem nodup_dst {l : List Oper} {i j : Nat} {oi oj : Oper} {d : Tmp} (hn : (dsts l).Nodup) (hi : l[i]? = some oi) (hj : l[j]? = some oj) (di : oi.dst = some d) (dj : oj.dst = some d) : i = j := by
 induction l generalizing i j with
 | nil => simp at hi
 | cons o r ih =>
  have hmem : ∀ (k : Nat) (ok : Oper), r[k]? = some ok → ok.dst = some d → d ∈ dsts r := fun k ok hk hd => List.mem_filterMap.2 ⟨ok, List.mem_of_getElem? hk, hd⟩
  have hn' : (dsts r).Nodup := by
   simp only [dsts, List.filterMap_cons] at hn
   cases hx : o.dst with
   | none => rw [hx] at hn; exact hn
   | some d' => rw [hx] at hn; exact (List.nodup_cons.1 hn).2
  cases i with
  | zero =>
   cases j with
   | zero => rfl
   | succ j =>
    simp at hi hj; subst hi
    simp only [dsts, List.filterMap_cons, di, List.nodup_cons] at hn
    exact absurd (hmem j oj hj dj) hn.1
  | succ i =>
   cases j with
   | zero =>
    simp at hi hj; subst hj
    simp only [dsts, List.filterMap_cons, dj, List.nodup_cons] at hn
    exact absurd (hmem i oi hi di) hn.1
   | succ j =>
    simp at hi hj
    rw [ih hn' hi hj]
theorem take_get {α : Type} {l : List α} {n i : Nat} {x : α} (hi : i < n) (h : l[i]? = some x) : (l.take n)[i]? = some x := by simp [List.getElem?_take, hi, h]
theorem take_get' {α : Type} {l : List α} {n i : Nat} {x : α} (h : (l.take n)[i]? = some x) : i < n ∧ l[i]? = some x := by
 rw [List.getElem?_take] at h
 split at h
 ·exact ⟨by assumption, h⟩
 ·cases h
theorem mem_dsts {l : List Oper} {d : Tmp} (h : d ∈ dsts l) : ∃ (i : Nat) (o : Oper), l[i]? = some o ∧ o.dst = some d := by
 obtain ⟨o, ho, hd⟩ := List.mem_filterMap.1 h
 obtain ⟨i, hi⟩ := List.mem_iff_getElem?.1 ho
 exact ⟨i, o, hi, hd⟩
theorem rg_step {V : Nat → Value → World → Prop} {I : World → Prop} {a0 : Act} {listed : Array Bool} {a : Act} {w w' : World} {i : Nat} {o : Oper} {v : Value}
  (hnd : (dsts (l.take n)).Nodup) (hsz : ∀ d ∈ dsts (l.take n), d < a0.tmps.size)
  (h : RgInv l n V I a0 listed a w) (hi : i ∈ Region.ready .any l.toArray listed) (hin : i < n) (ho : l[i]? = some o) (hv : o.dst = none → v = undef)
  (hO : Owes V I i v w w') : RgInv l n V I a0 (listed.setIfInBounds i true) (a.put o.dst v) w' := by
 obtain ⟨h1, h2, h3⟩ := hO
 have hli : listed.getD i false = false := by
  have := (mem_ready.1 hi).1
  exact getD_both this
 refine ⟨h.head.set hi hin, h2, by rw [size_put]; exact h.size, by rw [defers_put]; exact h.defers, fun t ht => ?_, fun j oj hj hlj hl => ?_⟩
 ·rw [slot_put]
  by_cases hd : o.dst = some t
  ·exfalso
   refine ht i o hin ho ?_ hd
   have hlt : i < listed.size := by
    rw [h.head.size]; simp
    exact (List.getElem?_eq_some_iff.1 ho).1
   simp [hlt]
  ·rw [if_neg (fun hh => hd hh.1)]
   refine h.base t fun j oj hj hlj hl => ht j oj hj hlj ?_
   exact getD_set_true hl
 ·by_cases hji : j = i
  ·subst hji
   have : oj = o := Option.some.inj (hlj.symm.trans ho)
   subst this
   have : dslot oj (a.put oj.dst v) = v := by
    unfold dslot
    cases hd : oj.dst with
    | none => simp [hv hd]
    | some d =>
     simp only [slot_put]
     rw [if_pos ⟨trivial, by rw [h.size]; exact hsz d (List.mem_filterMap.2 ⟨oj, List.mem_of_getElem? (take_get hin ho), hd⟩)⟩]
   rw [this]; exact h1
  ·have hl' : listed.getD j false = true := by rw [getD_set_ne false (fun e => hji e.symm)] at hl; exact hl
   have hold := h.done j oj hj hlj hl'
   have : dslot oj (a.put o.dst v) = dslot oj a := by
    unfold dslot
    cases hd : oj.dst with
    | none => rfl
    | some d =>
     simp only [slot_put]
     rw [if_neg]
     rintro ⟨hod, _⟩
     exact hji (nodup_dst hnd (take_get hj hlj) (take_get hin ho) hd hod)
   rw [this]
   exact h3 j _ hji hold
theorem ahead_of {V : Nat → Value → World → Prop} {I : World → Prop} {a0 : Act} {listed : Array Bool} {a : Act} {w : World} {i : Nat} {o : Oper} (hasc : ascB l = true)
  (h : RgInv l n V I a0 listed a w) (hi : i ∈ Region.ready .any l.toArray listed) (hin : i < n) (ho : l[i]? = some o) : Ahead l n V a0 o a w := by
 refine ⟨fun t ht => h.base t fun j oj hj hlj _ hd => ht (List.mem_filterMap.2 ⟨oj, List.mem_of_getElem? (take_get hj hlj), hd⟩), h.defers, fun j oj hj hany => ?_⟩
 obtain ⟨e, he, hb⟩ := Array.any_eq_true'.1 hany
 simp only [Bool.and_eq_true, beq_iff_eq] at hb
 obtain ⟨_, o', ho', hall⟩ := mem_ready.1 hi
 have : o' = o := by simpa [ho] using ho'.symm
 subst this
 have hl := hall e he hb.1
 have hlt : e.on < i := by
  have := List.all_eq_true.1 hasc (o', i) (by
   rw [List.mem_zipIdx_iff_getElem?]; exact ho)
  have := Array.all_eq_true'.1 this e he
  simpa [hb.1] using this
 rw [hb.2] at hl hlt
 exact h.done j oj (by omega) hj hl
def unl (listed : Array Bool) (n : Nat) : Nat := ((List.range n).filter fun i => !listed.getD i false).length
theorem unl_zero {listed : Array Bool} (h : unl listed n = 0) : ∀ i, i < n → listed.getD i false = true := by
 intro i hi
 have h0 : ((List.range n).filter fun i => !listed.getD i false) = [] := List.eq_nil_of_length_eq_zero h
 rw [List.filter_eq_nil_iff] at h0
 simpa using h0 i (List.mem_range.2 hi)
theorem filter_length_lt {α : Type} {l : List α} {p q : α → Bool} (h : ∀ x ∈ l, q x = true → p x = true) {x : α} (hx : x ∈ l) (hp : p x = true) (hq : q x = false) : (l.filter q).length < (l.filter p).length := by
 induction l with
 | nil => cases hx
 | cons y r ih =>
  have hle : (r.filter q).length ≤ (r.filter p).length := by
   clear ih hx
   induction r with
   | nil => simp
   | cons z r ih2 =>
    have h2 := ih2 (fun x hx => h x (by rcases List.mem_cons.1 hx with e | e <;> simp [e]))
    have hz := h z (by simp)
    simp only [List.filter_cons]
    cases hqz : q z with
    | false => cases hpz : p z <;> simp <;> omega
    | true => rw [hz hqz]; simp; exact h2
  rcases List.mem_cons.1 hx with e | e
  ·subst e
   simp [List.filter_cons, hp, hq]; omega
  ·have := ih (fun x hx => h x (List.mem_cons_of_mem _ hx)) e
   have hy := h y (by simp)
   simp only [List.filter_cons]
   cases hqy : q y with
   | false => cases hpy : p y <;> simp <;> omega
   | true => rw [hy hqy]; simp; exact this
theorem filter_length_le1 {p q : Nat → Bool} {i : Nat} (r : List Nat) (h : ∀ x, x ≠ i → p x = q x) (hn : r.Nodup) : (r.filter p).length ≤ (r.filter q).length + 1 := by
 induction r with
 | nil => simp
 | cons x r ih =>
  obtain ⟨hx, hr⟩ := List.nodup_cons.1 hn
  simp only [List.filter_cons]
  by_cases e : x = i
  ·subst e
   have hsame : r.filter p = r.filter q := List.filter_congr fun y hy => h y (fun e => hx (e ▸ hy))
   rw [hsame]
   split <;> split <;> simp <;> omega
  ·have ih3 := ih hr
   rw [h x e]
   split <;> simp <;> omega
theorem unl_set {listed : Array Bool} {i : Nat} (hi : i < n) (hs : i < listed.size) (hl : listed.getD i false = false) : unl (listed.setIfInBounds i true) n < unl listed n := by
 refine filter_length_lt (fun x _ hx => ?_) (List.mem_range.2 hi) (by simpa using hl) (by simp [hs])
 by_cases e : i = x
 ·subst e; simp [hs] at hx
 ·rw [getD_set_ne false e] at hx; exact hx
theorem ready_some {listed : Array Bool} (hasc : ascB l = true) (hs : listed.size = l.length) {i : Nat} (hi : i < l.length) (hl : listed.getD i false = false) : ∃ k, k ≤ i ∧ k ∈ Region.ready .any l.toArray listed := by
 induction i using Nat.strongRecOn with
 | _ i ih =>
  by_cases hall : ∃ e ∈ (l[i]).after, Region.binds .any e = true ∧ listed.getD e.on false = false
  ·obtain ⟨e, he, hb, hle⟩ := hall
   have hlt : e.on < i := by
    have := List.all_eq_true.1 hasc (l[i], i) (by rw [List.mem_zipIdx_iff_getElem?]; simp [hi])
    have := Array.all_eq_true'.1 this e he
    simpa [hb] using this
   obtain ⟨k, hk, hr⟩ := ih e.on hlt (by omega) hle
   exact ⟨k, by omega, hr⟩
  ·refine ⟨i, Nat.le_refl _, mem_ready.2 ⟨getD_in (by omega) hl, l[i], by simp [hi], fun e he hb => ?_⟩⟩
   cases hv : listed.getD e.on false with
   | true => rfl
   | false => exact absurd ⟨e, he, hb, hv⟩ hall
theorem wpAnyIn_of_seq : ∀ (l : List Oper) (k : Nat) (ops : Array Oper) (listed : Array Bool) (a : Act) (w : World), (∀ j, l[j]? = ops[k + j]?) →
  Region.seqB .any ops l.length k listed = true → wpListIn F N P ops Q l a w → wpAnyIn F N P .any ops Q l.length listed a w
 | [], _, _, _, _, _, _, hB, h => ⟨by simpa [Region.seqB] using hB, h⟩
 | o :: l, k, ops, listed, a, w, hl, hB, h => by
  have h0 : ops[k]? = some o := by simpa using (hl 0).symm
  simp only [List.length_cons, Region.seqB, Bool.and_eq_true, decide_eq_true_eq] at hB
  refine ⟨fun h1 => (by rw [hB.1] at h1; cases h1), fun i hi => ?_⟩
  rw [hB.1] at hi
  have hik : i = k := by simpa using hi
  subst hik
  have hw : wpOpIn F N P ops Q i (wpListIn F N P ops Q l) a w := by unfold wpOpIn; simp only [h0]; exact h
  exact wpOpIn_mono (fun a' w' h' => wpAnyIn_of_seq l (i + 1) _ _ a' w' (fun j => by have := hl (j + 1); simpa [Nat.add_assoc, Nat.add_comm 1 j] using this) hB.2 h') hw
def RgNext (V : Nat → Value → World → Prop) (I : World → Prop) (i : Nat) (o : Oper) (a : Act) (w : World) : Act → World → Prop := fun a' w' => ∃ v, (o.dst = none → v = undef) ∧ a' = a.put o.dst v ∧ Owes V I i v w w'
def RgOut (a : Act) (Qp : List PanicEntry → World → Prop) : Exit → Act → World → Prop
 | .panic ch, a', w' => a' = a ∧ Qp ch w'
 | _, _, _ => False
theorem wpIn_region_rg {id sz : Nat} {a0 : Act} {w0 : World} (n : Nat) (V : Nat → Value → World → Prop) (I : World → Prop) (Qp : List PanicEntry → World → Prop)
  (hm : P.follows .mixedOrders = true) (hsz : a0.tmps.size = sz) (hB : rgB l n sz = true) (hI : I { w0 with drawn := w0.drawn + 1 })
  (hop : ∀ (i : Nat) (o : Oper), i < n → l[i]? = some o → ∀ a w, I w → Ahead l n V a0 o a w →
   if Region.wanted o (yielded l.toArray a.tmps) then o.wpIn F N P a w (RgNext V I i o a w) (RgOut a Qp)
   else (∀ f, o.about P w a.eval = some f → F.fn f) ∧ V i undef w)
  (hpan : ∀ ch a w, Qp ch w → (∀ t, t ∉ dsts (l.take n) → slot a t = slot a0 t) → a.defers = a0.defers → Q (.panic ch) a w)
  (hend : ∀ (vs : Nat → Value) w, I w → (∀ i, i < n → V i (vs i) w) → wpListIn F N P l.toArray Q (l.drop n) (putAll a0 (l.take n) vs 0) w) :
  (Code.region id l.toArray true).wpIn F N P Q a0 w0 := by
 subst hsz
 simp only [rgB, Bool.and_eq_true, Bool.or_eq_true, decide_eq_true_eq] at hB
 obtain ⟨⟨⟨⟨⟨hasc, hnl⟩, hnd⟩, hds⟩, htail⟩, hseq⟩ := hB
 have hsz' : ∀ d ∈ dsts (l.take n), d < a0.tmps.size := fun d hd => by simpa using List.all_eq_true.1 hds d hd
 refine wpIn_region_any hm ?_
 have key : ∀ (k : Nat) (listed : Array Bool) (a : Act) (w : World), unl listed n = k → RgInv l n V I a0 listed a w → wpAnyIn F N P .any l.toArray Q (k + (l.length - n)) listed a w := by
  intro k
  induction k using Nat.strongRecOn with
  | _ k ih =>
   intro listed a w hk h
   by_cases hk0 : k = 0
   ·-- the head is done
    subst hk0
    have hall := unl_zero hk
    have hlist : listed = (List.replicate n true ++ List.replicate (l.length - n) false).toArray := by
     have hs := h.head.size
     apply Array.ext
     ·rw [hs]; simp; omega
     ·intro i h1 h2
      rw [hs] at h1; simp at h1
      simp only [List.getElem_toArray]
      by_cases hin : i < n
      ·rw [List.getElem_append_left (by simpa using hin)]
       have := hall i hin
       rw [Array.getD_eq_getD_getElem?, Array.getElem?_eq_getElem (by rw [hs]; simpa using h1)] at this
       simpa using this
      ·rw [List.getElem_append_right (by simp; omega)]
       have := h.head.tail i (by omega) (by simpa using h1)
       rw [Array.getD_eq_getD_getElem?, Array.getElem?_eq_getElem (by rw [hs]; simpa using h1)] at this
       simpa using this
    have hact : a = putAll a0 (l.take n) (fun i => match l[i]? with | some o => dslot o a | none => undef) 0 := by
     refine act_ext (by rw [putAll_size, h.size]) (by rw [putAll_defers, h.defers]) fun t => ?_
     by_cases ht : t ∈ dsts (l.take n)
     ·obtain ⟨i, o, hi, hd⟩ := mem_dsts ht
      obtain ⟨hin, hli⟩ := take_get' hi
      rw [putAll_slot_in (l.take n) a0 _ 0 i o t hnd hi hd (hsz' t ht)]
      simp [hli, dslot, hd]
     ·rw [putAll_slot_other _ _ _ _ _ ht]
      exact h.base t fun i o hin hli _ hd => ht (List.mem_filterMap.2 ⟨o, List.mem_of_getElem? (take_get hin hli), hd⟩)
    rw [hact]
    have hlen : (l.drop n).length = l.length - n := by simp
    rw [Nat.zero_add, ← hlen]
    refine wpAnyIn_of_seq (l.drop n) n l.toArray listed _ w (fun j => by simp) (by rw [hlen, hlist]; exact hseq) ?_
    exact hend _ w h.inv fun i hin => by
     have hlt : i < l.length := by omega
     have := h.done i l[i] hin (by simp [hlt]) (hall i hin)
     simpa [hlt] using this
   ·obtain ⟨k', rfl⟩ : ∃ k', k = k' + 1 := ⟨k - 1, by omega⟩
    rw [show k' + 1 + (l.length - n) = (k' + (l.length - n)) + 1 by omega]
    have hex : ∃ i, i < n ∧ listed.getD i false = false := by
     by_cases hh : ∃ i, i < n ∧ listed.getD i false = false
     ·exact hh
     ·exfalso
      have : unl listed n = 0 := by
       unfold unl
       rw [List.length_eq_zero_iff, List.filter_eq_nil_iff]
       intro x hx
       have hx' := List.mem_range.1 hx
       cases hv : listed.getD x false with
       | true => simp
       | false => exact absurd ⟨x, hx', hv⟩ hh
      omega
    obtain ⟨i0, hi0, hl0⟩ := hex
    have hsl : listed.size = l.length := by rw [h.head.size]; simp
    obtain ⟨k1, _, hk1⟩ := ready_some hasc hsl (i := i0) (by omega) hl0
    refine ⟨fun hr => (by rw [hr] at hk1; cases hk1), fun i hi => ?_⟩
    have hin : i < n := by
     by_cases hge : n ≤ i
     ·exfalso
      rcases htail with hn | ⟨⟨hn, hsk⟩, hch⟩
      ·obtain ⟨_, o, ho, _⟩ := mem_ready.1 hi
       have := (Array.getElem?_eq_some_iff.1 ho).1
       simp at this; omega
      ·exact tail_waits hsk hch (by simpa using hn) h.head (n - i0) i0 rfl hi0 (getD_in (by omega) hl0) i hge hi
     ·omega
    have hlt : i < l.length := by omega
    have ho : l[i]? = some l[i] := by simp [hlt]
    have hah := ahead_of hasc h hi hin ho
    have hli : listed.getD i false = false := getD_both (mem_ready.1 hi).1
    have hun : unl (listed.setIfInBounds i true) n < unl listed n := unl_set hin (by omega) hli
    have hnext : ∀ a' w', RgInv l n V I a0 (listed.setIfInBounds i true) a' w' → wpAnyIn F N P .any l.toArray Q (k' + (l.length - n)) (listed.setIfInBounds i true) a' w' := by
     intro a' w' h'
     have hle : unl (listed.setIfInBounds i true) n ≤ k' := by omega
     have := ih (unl (listed.setIfInBounds i true) n) (by omega) _ a' w' rfl h'
     have heq : unl (listed.setIfInBounds i true) n = k' := by
      by_cases hlt2 : unl (listed.setIfInBounds i true) n = k'
      ·exact hlt2
      ·exfalso
       have hcnt : unl listed n ≤ unl (listed.setIfInBounds i true) n + 1 := by
        unfold unl
        refine filter_length_le1 (i := i) (List.range n) (fun x hx => ?_) List.nodup_range
        rw [getD_set_ne false (fun e => hx e.symm)]
       omega
     rw [heq] at this; exact this
    have hop' := hop i l[i] hin ho a w h.inv hah
    unfold wpOpIn
    simp only [List.getElem?_toArray, ho]
    split
    ·rename_i hw
     rw [if_pos hw] at hop'
     have hm1 : l[i].wpIn F N P a w (wpAnyIn F N P .any l.toArray Q (k' + (l.length - n)) (listed.setIfInBounds i true)) (RgOut a Qp) :=
      Oper.wpIn_mono (fun a' w' ⟨v, hv, ha', hO⟩ => hnext a' w' (ha' ▸ rg_step hnd hsz' h hi hin ho hv hO)) hop'
     unfold Oper.wpIn at hm1 ⊢
     refine ⟨hm1.1, ?_⟩
     have h2 := hm1.2
     have hout : ∀ ch w', RgOut a Qp (.panic ch) a w' → Q (.panic ch) a w' := fun ch w' hq => hpan ch a w' hq.2 (fun t ht => hah.base t ht) hah.defers
     generalize (l[i].semAt F.round a.eval).run P w = r at h2 ⊢
     cases r with
     | ok x w' =>
      cases x <;> simp only [Oper.uponIn] at h2 ⊢ <;>
       first
        | exact h2
        | exact ⟨h2.1, CallsIn.mono h2.2 (fun e w'' he => by
          cases e with
          | returned v => exact he
          | panicked ch => exact hout ch w'' he
          | outgrown => obtain ⟨_, _, hf⟩ := he; exact hf.elim)⟩
        | exact ⟨h2.1, RoundIn.mono h2.2 (fun e w'' he => by
          cases e with
          | returned v => exact he
          | panicked ch => exact hout ch w'' he
          | outgrown => obtain ⟨_, _, hf⟩ := he; exact hf.elim)⟩
     | halt x w' =>
      cases x <;> simp only [Oper.uponIn] at h2 ⊢ <;> first | exact h2 | exact hout _ w' h2
    ·rename_i hw
     rw [if_neg hw] at hop'
     refine ⟨hop'.1, hnext _ _ (rg_step hnd hsz' h hi hin ho (fun _ => rfl) ⟨hop'.2, h.inv, fun j u _ hu => hu⟩)⟩
 have hinit : RgInv l n V I a0 (Array.replicate l.toArray.size false) a0 { w0 with drawn := w0.drawn + 1 } :=
  ⟨⟨by simp, fun j oj _ hl => (by rw [getD_replicate_false] at hl; cases hl), fun t _ ht => getD_in (by simpa using ht) (getD_replicate_false _ _)⟩, hI, rfl, rfl, fun _ _ => rfl,
   fun i o _ _ hl => (by rw [getD_replicate_false] at hl; cases hl)⟩
 have h0 : unl (Array.replicate l.toArray.size false) n = n := by
  unfold unl
  rw [List.filter_eq_self.2 (fun x _ => by rw [getD_replicate_false]; rfl)]; simp
 have := key n _ a0 _ h0 hinit
 rw [show n + (l.length - n) = l.toArray.size by simp; omega] at this
 exact this
end
end Go.Sh
namespace Go.Sh
open Go Go.RowKit
theorem Oper.wpIn_of_wp {P : Program} {o : Oper} {a : Act} {w : World} {N : Nat} {K : Act → World → Prop} {Q : Exit → Act → World → Prop} (h : o.wp P a w K Q) : o.wpIn Fence.wide N P a w K Q := by
 refine ⟨fun _ _ => trivial, ?_⟩
 unfold Oper.wp at h
 have e : o.semAt Fence.wide.round a.eval = execOp a.eval o := rfl
 rw [e]
 generalize (execOp a.eval o).run P w = r at h ⊢
 cases r with
 | ok x w' =>
  cases x <;> simp only [Oper.upon] at h <;> simp only [Oper.uponIn] <;>
   first
    | exact h
    | exact ⟨fun hd => (by cases hd), callsIn_wide.2 h⟩
    | exact ⟨fun hd => (by cases hd), fun c cs _ => let ⟨v, w', r, s⟩ := h c cs; ⟨v, w', r, stepsIn_wide.2 s⟩⟩
 | halt x w' => cases x <;> simp only [Oper.upon] at h <;> simp only [Oper.uponIn] <;> exact h
theorem wpListIn_of_wpList {P : Program} {ops : Array Oper} {N : Nat} {Q : Exit → Act → World → Prop} (hout : ¬ LetsOut Q) : ∀ (l : List Oper) (a : Act) (w : World), wpList P ops Q l a w → wpListIn Fence.wide N P ops Q l a w
 | [], _, _, h => h
 | o :: r, a, w, h => by
  unfold wpList at h
  unfold wpListIn
  split at h
  ·rename_i hw
   rw [if_pos hw]
   rcases h with h | h
   ·exact Oper.wpIn_mono (fun a' w' h' => wpListIn_of_wpList hout r a' w' h') (Oper.wpIn_of_wp h)
   ·exact absurd h.2 hout
  ·rename_i hw
   rw [if_neg hw]
   exact ⟨fun _ _ => trivial, wpListIn_of_wpList hout r _ _ h⟩
section
variable {F : Fence} {N : Nat} {P : Program} {l : List Oper} {n : Nat} {Q : Exit → Act → World → Prop}
def RgK (R : World → World → Prop) (V : Value → World → Prop) (o : Oper) (a : Act) (w : World) : Act → World → Prop := fun a' w' => ∃ v, (o.dst = none → v = undef) ∧ a' = a.put o.dst v ∧ V v w' ∧ R w w'
def RgAll (F : Fence) (N : Nat) (P : Program) (l : List Oper) (n : Nat) (R : World → World → Prop) (Vs : List (Value → World → Prop)) (Qp : List PanicEntry → World → Prop) (a0 : Act) (w0 : World) : List Oper → List (Value → World → Prop) → Prop
 | [], _ => True
 | _ :: _, [] => False
 | o :: r, V :: vs => (∀ a w, R w0 w → Ahead l n (fun j u w => (Vs[j]?).elim True fun V => V u w) a0 o a w →
   if Region.wanted o (yielded l.toArray a.tmps) then o.wpIn F N P a w (RgK R V o a w) (RgOut a Qp) else (∀ f, o.about P w a.eval = some f → F.fn f) ∧ V undef w) ∧ RgAll F N P l n R Vs Qp a0 w0 r vs
theorem RgAll.get {R : World → World → Prop} {Vs : List (Value → World → Prop)} {Qp : List PanicEntry → World → Prop} {a0 : Act} {w0 : World} : ∀ (r : List Oper) (vs : List (Value → World → Prop)), RgAll F N P l n R Vs Qp a0 w0 r vs →
  ∀ (i : Nat) (o : Oper), r[i]? = some o → ∃ V, vs[i]? = some V ∧ (∀ a w, R w0 w → Ahead l n (fun j u w => (Vs[j]?).elim True fun V => V u w) a0 o a w →
   if Region.wanted o (yielded l.toArray a.tmps) then o.wpIn F N P a w (RgK R V o a w) (RgOut a Qp) else (∀ f, o.about P w a.eval = some f → F.fn f) ∧ V undef w)
 | [], _, _, i, o, h => by simp at h
 | _ :: _, [], h, _, _, _ => h.elim
 | o' :: r, V :: vs, h, i, o, hi => by
  cases i with
  | zero => simp at hi; subst hi; exact ⟨V, rfl, h.1⟩
  | succ i => exact RgAll.get r vs h.2 i o (by simpa using hi)
def RgEnd (K : Act → World → Prop) : List Oper → List (Value → World → Prop) → Act → (World → Prop) → Prop
 | [], _, a, kn => ∀ w, kn w → K a w
 | o :: r, V :: vs, a, kn => ∀ v, RgEnd K r vs (a.put o.dst v) (fun w => V v w ∧ kn w)
 | o :: r, [], a, kn => ∀ v, RgEnd K r [] (a.put o.dst v) kn
theorem RgEnd.use {K : Act → World → Prop} : ∀ (r : List Oper) (vs : List (Value → World → Prop)) (a : Act) (kn : World → Prop), RgEnd K r vs a kn → ∀ (us : Nat → Value) (i : Nat) (w : World), kn w →
  (∀ k V, vs[k]? = some V → k < r.length → V (us (i + k)) w) → K (putAll a r us i) w
 | [], _, _, _, h, _, _, w, hk, _ => h w hk
 | o :: r, V :: vs, a, kn, h, us, i, w, hk, hv =>
  RgEnd.use r vs _ _ (h (us i)) us (i + 1) w ⟨hv 0 V rfl (by simp), hk⟩ fun k V' hk' hl => by
   have := hv (k + 1) V' hk' (by simp; omega)
   rwa [show i + (k + 1) = i + 1 + k by omega] at this
 | o :: r, [], a, kn, h, us, i, w, hk, hv => RgEnd.use r [] _ _ (h (us i)) us (i + 1) w hk fun k V' hk' _ => by simp at hk'
theorem RgEnd.mono {K K' : Act → World → Prop} (hk : ∀ a w, K a w → K' a w) : ∀ (r : List Oper) (vs : List (Value → World → Prop)) (a : Act) (kn : World → Prop), RgEnd K r vs a kn → RgEnd K' r vs a kn
 | [], _, _, _, h => fun w hw => hk _ _ (h w hw)
 | _ :: r, _ :: vs, _, _, h => fun v => RgEnd.mono hk r vs _ _ (h v)
 | _ :: r, [], _, _, h => fun v => RgEnd.mono hk r [] _ _ (h v)
theorem wpIn_region_rel {id sz : Nat} {a0 : Act} {w0 : World} (n : Nat) (R : World → World → Prop) (Vs : List (Value → World → Prop)) (Qp : List PanicEntry → World → Prop)
  (hm : P.follows .mixedOrders = true) (hsz : a0.tmps.size = sz) (hB : rgB l n sz = true)
  (hR0 : R w0 { w0 with drawn := w0.drawn + 1 }) (hRt : ∀ {a b c}, R a b → R b c → R a c) (hst : ∀ V ∈ Vs, ∀ u w w', R w w' → V u w → V u w')
  (hop : RgAll F N P l n R Vs Qp a0 w0 (l.take n) Vs)
  (hpan : ∀ ch a w, Qp ch w → (∀ t, t ∉ dsts (l.take n) → slot a t = slot a0 t) → a.defers = a0.defers → Q (.panic ch) a w)
  (hend : RgEnd (wpListIn F N P l.toArray Q (l.drop n)) (l.take n) Vs a0 (R w0)) :
  (Code.region id l.toArray true).wpIn F N P Q a0 w0 := by
 refine wpIn_region_rg n (fun j u w => (Vs[j]?).elim True fun V => V u w) (R w0) Qp hm hsz hB hR0 ?_ hpan ?_
 ·intro i o hin hi a w hI hA
  obtain ⟨V, hV, h⟩ := RgAll.get (l.take n) Vs hop i o (take_get hin hi)
  have h := h a w hI hA
  split
  ·rename_i hw
   rw [if_pos hw] at h
   refine Oper.wpIn_mono (fun a' w' hh => ?_) h
   obtain ⟨v, hn, ha, hv, hr⟩ := hh
   refine ⟨v, hn, ha, by simpa [hV] using hv, hRt hI hr, fun j u _ hu => ?_⟩
   have hu' : (Vs[j]?).elim True (fun V => V u w) := hu
   show (Vs[j]?).elim True (fun V => V u w')
   generalize hj : Vs[j]? = x at hu' ⊢
   cases x with
   | none => trivial
   | some V' => exact hst V' (List.mem_of_getElem? hj) u w w' hr hu'
  ·rename_i hw
   rw [if_neg hw] at h
   exact ⟨h.1, by simpa [hV] using h.2⟩
 ·intro us w hI hv
  refine RgEnd.use (l.take n) Vs a0 (R w0) hend us 0 w hI fun k V hk hl => ?_
  have hkn : k < n := by simp at hl; omega
  have := hv k hkn
  rw [Nat.zero_add]
  simpa [hk] using this
end
section
variable {P : Program} {l : List Oper} {Q : Exit → Act → World → Prop}
theorem wp_region_rel {id sz : Nat} {a0 : Act} {w0 : World} (n : Nat) (R : World → World → Prop) (Vs : List (Value → World → Prop)) (Qp : List PanicEntry → World → Prop)
  (hm : P.follows .mixedOrders = true) (hsz : a0.tmps.size = sz) (hB : rgB l n sz = true)
  (hR0 : R w0 { w0 with drawn := w0.drawn + 1 }) (hRt : ∀ {a b c}, R a b → R b c → R a c) (hst : ∀ V ∈ Vs, ∀ u w w', R w w' → V u w → V u w')
  (hop : RgAll Fence.wide 0 P l n R Vs Qp a0 w0 (l.take n) Vs)
  (hpan : ∀ ch a w, Qp ch w → (∀ t, t ∉ dsts (l.take n) → slot a t = slot a0 t) → a.defers = a0.defers → Q (.panic ch) a w)
  (hout : ¬ LetsOut Q)
  (hend : RgEnd (wpList P l.toArray Q (l.drop n)) (l.take n) Vs a0 (R w0)) :
  (Code.region id l.toArray true).wp P Q a0 w0 :=
 wpIn_wide.1 (wpIn_region_rel (F := Fence.wide) (N := 0) n R Vs Qp hm hsz hB hR0 hRt hst hop hpan
  (RgEnd.mono (fun a w h => wpListIn_of_wpList hout _ a w h) _ _ _ _ hend))
theorem rg_val_wide {R : World → World → Prop} {V : Value → World → Prop} {o : Oper} {a : Act} {w : World} {N : Nat} {Qx : Exit → Act → World → Prop} (v : Value)
  (hrun : (execOp a.eval o).run P w = .ok (.value v) w) (hdst : o.dst = none → v = undef) (hV : V v w) (hR : R w w) : o.wpIn Fence.wide N P a w (RgK R V o a w) Qx :=
 Oper.wpIn_of_wp (by unfold Oper.wp; rw [hrun]; exact ⟨v, hdst, rfl, hV, hR⟩)
theorem rg_call_wide {R : World → World → Prop} {V : Value → World → Prop} {o : Oper} {a : Act} {w : World} {N : Nat} {Qp : List PanicEntry → World → Prop} {f : FuncId} {args : Array Value} {d : Tmp} (hd : o.dst = some d)
  (hrun : (execOp a.eval o).run P w = .ok (.enter f args) w)
  (hc : Calls P f args w fun e w' => match e with | .returned v => V v w' ∧ R w w' | .panicked ch => Qp ch w' | .outgrown => False) : o.wpIn Fence.wide N P a w (RgK R V o a w) (RgOut a Qp) :=
 Oper.wpIn_of_wp (by
  unfold Oper.wp
  rw [hrun]
  refine hc.mono fun e w' h => ?_
  cases e with
  | returned v => exact ⟨v, (fun h0 => by rw [hd] at h0; cases h0), rfl, h.1, h.2⟩
  | panicked ch => exact ⟨rfl, h⟩
  | outgrown => exact h.elim)
end
structure Frm (S : Nat → Prop) (w w' : World) : Prop where
 os : w'.os = w.os
 tape : w'.tape = w.tape
 output : w'.output = w.output
 size : w.heap.size ≤ w'.heap.size
 block : ∀ k, k < w.heap.size → ¬ S k → w'.heap[k]? = w.heap[k]?
theorem Frm.refl (S : Nat → Prop) (w : World) : Frm S w w := ⟨rfl, rfl, rfl, Nat.le_refl _, fun _ _ _ => rfl⟩
theorem Frm.trans {S : Nat → Prop} {a b c : World} (h : Frm S a b) (k : Frm S b c) : Frm S a c :=
 ⟨k.os.trans h.os, k.tape.trans h.tape, k.output.trans h.output, Nat.le_trans h.size k.size, fun i hi hs => (k.block i (Nat.lt_of_lt_of_le hi h.size) hs).trans (h.block i hi hs)⟩
theorem Frm.mono {S S' : Nat → Prop} {w w' : World} (h : Frm S w w') (hs : ∀ k, k < w.heap.size → S k → S' k) : Frm S' w w' :=
 ⟨h.os, h.tape, h.output, h.size, fun k hk hn => h.block k hk fun h' => hn (hs k hk h')⟩
theorem Frm.of_below {S : Nat → Prop} {w w' : World} (h : Below w.heap.size w w') : Frm S w w' := ⟨h.os, h.tape, h.output, h.size, fun k hk _ => h.block k hk⟩
theorem Frm.below {S : Nat → Prop} {B : Nat} {w w' : World} (h : Frm S w w') (hs : ∀ k, S k → B ≤ k) (hB : B ≤ w.heap.size) : Below B w w' :=
 ⟨h.os, h.tape, h.output, h.size, fun k hk => h.block k (by omega) fun h' => by have := hs k h'; omega⟩
theorem Frm.cell {S : Nat → Prop} {w w' : World} (h : Frm S w w') {a : Addr} {v : Value} (hc : w.cell? a = some v) (hs : ¬ S a.block) : w'.cell? a = some v :=
 (World.cell?_of_block (h.block a.block (World.block_lt_of_cell? w a hc) hs)).trans hc
theorem Frm.frozen {S : Nat → Prop} {w w' : World} (h : Frm S w w') {a : Addr} (ha : a.block < w.heap.size) (hs : ¬ S a.block) : w'.frozen? a = w.frozen? a :=
 World.frozen?_of_block (h.block a.block ha hs)
theorem Frm.alloc {S : Nat → Prop} {a w : World} (h : Frm S a w) (o : Obj) : Frm S a (w.alloc o) :=
 h.trans (Frm.of_below ((Below.refl _ _).alloc (Nat.le_refl _) o))
theorem Frm.drew {S : Nat → Prop} {a w : World} (h : Frm S a w) : Frm S a w.drew := ⟨h.os, h.tape, h.output, h.size, h.block⟩
theorem Frm.setCell {S : Nat → Prop} {a w : World} (h : Frm S a w) {p : Addr} (hp : S p.block ∨ a.heap.size ≤ p.block) (u : Value) : Frm S a (w.setCell p u) :=
 ⟨h.os, h.tape, h.output, by simp [World.setCell]; exact h.size, fun k hk hs => (Below.heap_setCell w p u k (by rintro rfl; rcases hp with hp | hp; exact hs hp; omega)).trans (h.block k hk hs)⟩
theorem Frm.grown {S : Nat → Prop} {a w w' : World} {row : Option Nat} (h : Frm S a w) (hg : w.grownBy w' row) (hr : ∀ k, row = some k → S k ∨ a.heap.size ≤ k) : Frm S a w' :=
 ⟨hg.os.trans h.os, hg.tape.trans h.tape, hg.output.trans h.output, Nat.le_trans h.size hg.size, fun k hk hs => (hg.block k (Nat.lt_of_lt_of_le hk h.size) (fun e => by
  rcases hr k e.symm with h' | h'
  ·exact hs h'
  ·omega)).trans (h.block k hk hs)⟩
theorem below_trans {B : Nat} {a b c : World} (h : Below B a b) (k : Below b.heap.size b c) (hB : B ≤ b.heap.size) : Below B a c := h.trans (k.mono hB)
theorem below_trans' {a b c : World} (h : Below a.heap.size a b) (k : Below b.heap.size b c) : Below a.heap.size a c := h.trans (k.mono h.size)
theorem cell_old {w w' : World} (h : Below w.heap.size w w') {a : Addr} {v : Value} (hc : w.cell? a = some v) : w'.cell? a = some v :=
 (h.cell (World.block_lt_of_cell? w a hc)).trans hc
theorem bcell {W w1 : World} (hb : Below W.heap.size W w1) : (∀ b o, b < W.heap.size → w1.cell? ⟨b, o, none⟩ = W.cell? ⟨b, o, none⟩) ∧ (∀ b o, b < W.heap.size → w1.frozen? ⟨b, o, none⟩ = W.frozen? ⟨b, o, none⟩) :=
 ⟨fun b o h => hb.cell (p := ⟨b, o, none⟩) h, fun b o h => hb.frozen (p := ⟨b, o, none⟩) h⟩
def RowsAt {α : Type} (enc : α → List Value) (size : Nat) (w : World) (B : Nat) (v : Value) (l : List α) : Prop :=
 ∃ ao cap, v = .slice ao l.length cap ∧ l.length ≤ 9223372036854775807 ∧
  (l ≠ [] → ∃ b off, ao = some ⟨b, off, none⟩ ∧ b < B ∧ ∀ (i : Nat) (x : α), l[i]? = some x → ∀ (j : Nat) (u : Value), (enc x)[j]? = some u → w.cell? ⟨b, off + i * size + j, none⟩ = some u)
theorem RowsAt.of_cells {α : Type} {enc : α → List Value} {size : Nat} {w w' : World} {B B' : Nat} {v : Value} {l : List α} (h : RowsAt enc size w B v l) (hB : B ≤ B')
  (hc : ∀ (b o : Nat) (u : Value), b < B → w.cell? ⟨b, o, none⟩ = some u → w'.cell? ⟨b, o, none⟩ = some u) : RowsAt enc size w' B' v l := by
 obtain ⟨ao, cap, rfl, hm, h⟩ := h
 refine ⟨ao, cap, rfl, hm, fun hl => ?_⟩
 obtain ⟨b, off, ha, hb, hx⟩ := h hl
 exact ⟨b, off, ha, by omega, fun i x hi j u hu => hc b _ u hb (hx i x hi j u hu)⟩
theorem RowsAt.below {α : Type} {enc : α → List Value} {size : Nat} {w w' : World} {B : Nat} {v : Value} {l : List α} (h : RowsAt enc size w B v l) (hb : Below B w w') : RowsAt enc size w' B v l :=
 h.of_cells (Nat.le_refl _) fun b o u hlt hc => (hb.cell (p := ⟨b, o, none⟩) hlt).trans hc
theorem RowsAt.frm {α : Type} {enc : α → List Value} {size : Nat} {w w' : World} {B : Nat} {v : Value} {l : List α} {S : Nat → Prop} (h : RowsAt enc size w B v l) (hf : Frm S w w') (hs : ∀ k, S k → B ≤ k) : RowsAt enc size w' B v l :=
 h.of_cells (Nat.le_refl _) fun b o u hlt hc => hf.cell hc (fun h' => by have := hs _ h'; simp at this; omega)
theorem RowsAt.mono {α : Type} {enc : α → List Value} {size : Nat} {w : World} {B B' : Nat} {v : Value} {l : List α} (h : RowsAt enc size w B v l) (hB : B ≤ B') : RowsAt enc size w B' v l :=
 h.of_cells hB fun _ _ _ _ hc => hc
abbrev iv (n : Int) : Value := .int .i64 n
def enc1 (n : Int) : List Value := [.int .i64 n]
def enc2 (p : Int × Int) : List Value := [.int .i64 p.1, .int .i64 p.2]
def enc3 (p : Int × Int × Int) : List Value := [.int .i64 p.1, .int .i64 p.2.1, .int .i64 p.2.2]
def Ints := RowsAt enc1 1
def Prs := RowsAt enc2 2
def Trs := RowsAt enc3 3
theorem Ints.cell {w : World} {B : Nat} {v : Value} {l : List Int} {ao : Option Addr} {n cap : Nat} (h : Ints w B v l) (hv : v = .slice ao n cap) {i : Nat} (hi : i < l.length) : ∃ b off, ao = some ⟨b, off, none⟩ ∧ b < B ∧ w.cell? ⟨b, off + i, none⟩ = some (.int .i64 (l.getD i 0)) := by
 obtain ⟨ao', cap', rfl, _, h⟩ := h
 cases hv
 obtain ⟨b, off, ha, hb, hx⟩ := h (by intro e; rw [e] at hi; simp at hi)
 have := hx i l[i] (by simp [hi]) 0 _ rfl
 exact ⟨b, off, ha, hb, by simpa [hi] using this⟩
theorem ownsRow_below {w w' : World} {base : Nat} {e : TypeId} {size : Nat} {v : Value} {n : Nat} {xs : List Value} (h : w.ownsRow base e size v n xs) (hb : Below w.heap.size w w') : w'.ownsRow base e size v n xs := by
 obtain ⟨h1, h2⟩ := h
 refine ⟨h1, ?_⟩
 rcases h2 with h2 | ⟨g, cap, cur, hv, hg, hh, r⟩
 ·exact .inl h2
 ·exact .inr ⟨g, cap, cur, hv, hg, (hb.block g (Array.getElem?_eq_some_iff.1 hh).1).trans hh, r⟩
theorem ownsRow_setCell {w : World} {base : Nat} {e : TypeId} {size : Nat} {v : Value} {n : Nat} {xs : List Value} (h : w.ownsRow base e size v n xs) {a : Addr} (ha : v.ownBlock ≠ some a.block) (u : Value) : (w.setCell a u).ownsRow base e size v n xs := by
 obtain ⟨h1, h2⟩ := h
 refine ⟨h1, ?_⟩
 rcases h2 with h2 | ⟨g, cap, cur, hv, hg, hh, r⟩
 ·exact .inl h2
 ·refine .inr ⟨g, cap, cur, hv, hg, ?_, r⟩
  rw [Below.heap_setCell _ _ _ _ (by rintro rfl; apply ha; rw [hv]; rfl)]; exact hh
theorem flatten_get {α : Type} (enc : α → List Value) (size : Nat) (hs : ∀ x, (enc x).length = size) : ∀ (l : List α) (i : Nat) (x : α), l[i]? = some x → ∀ (j : Nat) (u : Value), (enc x)[j]? = some u → ((l.map enc).flatten)[i * size + j]? = some u
 | [], i, x, h, _, _, _ => by simp at h
 | y :: r, 0, x, h, j, u, hu => by
  simp at h; subst h
  have : j < (enc y).length := (List.getElem?_eq_some_iff.1 hu).1
  simp only [List.map_cons, List.flatten_cons, Nat.zero_mul, Nat.zero_add]
  rw [List.getElem?_append_left this]; exact hu
 | y :: r, i + 1, x, h, j, u, hu => by
  simp only [List.map_cons, List.flatten_cons]
  rw [List.getElem?_append_right (by rw [hs, Nat.succ_mul]; omega), hs, show (i + 1) * size + j - size = i * size + j by rw [Nat.succ_mul]; omega]
  exact flatten_get enc size hs r i x (by simpa using h) j u hu
theorem flatten_length {α : Type} (enc : α → List Value) (size : Nat) (hs : ∀ x, (enc x).length = size) (l : List α) : ((l.map enc).flatten).length = l.length * size := by
 induction l with
 | nil => simp
 | cons y r ih => simp only [List.map_cons, List.flatten_cons, List.length_append, ih, hs, List.length_cons, Nat.succ_mul]; omega
theorem RowsAt.of_owns {α : Type} {enc : α → List Value} {size : Nat} (hs : ∀ x, (enc x).length = size) (hpos : 0 < size) {w : World} {base : Nat} {e : TypeId} {v : Value} {l : List α} (h : w.ownsRow base e size v l.length ((l.map enc).flatten)) : RowsAt enc size w w.heap.size v l := by
 obtain ⟨h1, h2⟩ := h
 rcases h2 with ⟨rfl, h0⟩ | ⟨g, cap, cur, rfl, hg, hh, hn, hc, hsz, htake⟩
 ·exact ⟨none, 0, by rw [h0], by omega, fun hl => absurd (List.eq_nil_of_length_eq_zero h0) hl⟩
 ·refine ⟨some ⟨g, 0, none⟩, cap, rfl, by simp only [maxLen] at hc; omega, fun _ => ⟨g, 0, rfl, (Array.getElem?_eq_some_iff.1 hh).1, fun i x hi j u hu => ?_⟩⟩
  rw [cell_of_row w g _ cur e (0, 0) hh]
  have hget := flatten_get enc size hs l i x hi j u hu
  have hlt : i * size + j < l.length * size := by
   have := (List.getElem?_eq_some_iff.1 hget).1
   rwa [flatten_length enc size hs] at this
  rw [← htake, List.getElem?_take, if_pos hlt] at hget
  simpa using hget
theorem retB {a b : Bool} (h : a = b) : Ending.returned (.bool a) = .returned (.bool b) := by rw [h]
theorem retI {k : IntKind} {a b : Int} (h : a = b) : Ending.returned (.int k a) = .returned (.int k b) := by rw [h]
end Go.Sh
