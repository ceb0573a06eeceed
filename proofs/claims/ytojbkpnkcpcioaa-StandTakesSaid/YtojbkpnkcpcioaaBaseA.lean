/- A law for a region that draws its order, by rely and guarantee: each operation of the head is shown once, in whatever state its own predecessors leave; a forced tail is walked in the order of the text. Seat-independent. -/
import Derived.StillTail
import Derived.OrdersIn
import Derived.TacticsIn
set_option linter.all false
namespace Go.Sh
open Go

/-- The value of a slot. -/
def slot (a : Act) (t : Nat) : Value := a.tmps[t]?.getD undef
/-- The slot that an operation writes, as a value. -/
def dslot (o : Oper) (a : Act) : Value := match o.dst with | some d => slot a d | none => undef

def dsts (l : List Oper) : List Tmp := l.filterMap (·.dst)

def ascB (l : List Oper) : Bool := l.zipIdx.all fun (o, i) => o.after.all fun e => !Region.binds .any e || decide (e.on < i)
def rgB (l : List Oper) (n sz : Nat) : Bool :=
  ascB l && decide (n ≤ l.length) && decide ((dsts (l.take n)).Nodup) && (dsts (l.take n)).all (fun d => decide (d < sz)) &&
  (decide (n = l.length) || (decide (n < l.length) && Region.sinkB .any l.toArray n && Region.chainB .any l.toArray n)) &&
  Region.seqB .any l.toArray (l.length - n) n ((List.replicate n true ++ List.replicate (l.length - n) false).toArray)

/-- The values put into the slots, in the order of the text. -/
def putAll : Act → List Oper → (Nat → Value) → Nat → Act
  | a, [], _, _ => a
  | a, o :: r, vs, i => putAll (a.put o.dst (vs i)) r vs (i + 1)

theorem slot_put (a : Act) (x : Option Tmp) (v : Value) (t : Nat) : slot (a.put x v) t = if x = some t ∧ t < a.tmps.size then v else slot a t := by
  cases x with
  | none => simp [Act.put, slot]
  | some d =>
    by_cases h : d = t
    · subst h
      by_cases hd : d < a.tmps.size
      · simp [Act.put, slot, hd]
      · simp [Act.put, slot, hd]
    · simp [Act.put, slot, h, Array.getElem?_setIfInBounds_ne h]

theorem size_put (a : Act) (x : Option Tmp) (v : Value) : (a.put x v).tmps.size = a.tmps.size := by cases x <;> simp [Act.put]
theorem defers_put (a : Act) (x : Option Tmp) (v : Value) : (a.put x v).defers = a.defers := by cases x <;> rfl

theorem putAll_size (l : List Oper) : ∀ (a : Act) (vs : Nat → Value) (i : Nat), (putAll a l vs i).tmps.size = a.tmps.size := by
  induction l with
  | nil => intros; rfl
  | cons o r ih => intro a vs i; simp only [putAll]; rw [ih, size_put]
theorem putAll_defers (l : List Oper) : ∀ (a : Act) (vs : Nat → Value) (i : Nat), (putAll a l vs i).defers = a.defers := by
  induction l with
  | nil => intros; rfl
  | cons o r ih => intro a vs i; simp only [putAll]; rw [ih, defers_put]

theorem putAll_slot_other (l : List Oper) : ∀ (a : Act) (vs : Nat → Value) (i t : Nat), t ∉ dsts l → slot (putAll a l vs i) t = slot a t := by
  induction l with
  | nil => intros; rfl
  | cons o r ih =>
    intro a vs i t ht
    simp only [dsts, List.filterMap_cons] at ht
    simp only [putAll]
    have h1 : t ∉ dsts r := by
      intro hm; apply ht
      cases o.dst with
      | none => exact hm
      | some d => exact List.mem_cons_of_mem _ hm
    rw [ih _ _ _ _ h1, slot_put, if_neg]
    rintro ⟨hd, _⟩
    apply ht; simp [hd]

theorem putAll_slot_in (l : List Oper) : ∀ (a : Act) (vs : Nat → Value) (i k : Nat) (o : Oper) (d : Nat), (dsts l).Nodup → l[k]? = some o → o.dst = some d → d < a.tmps.size →
    slot (putAll a l vs i) d = vs (i + k) := by
  induction l with
  | nil => intro a vs i k o d _ h; simp at h
  | cons o' r ih =>
    intro a vs i k o d hn hk hd hlt
    simp only [putAll]
    cases k with
    | zero =>
      simp at hk; subst hk
      simp only [dsts, List.filterMap_cons, hd, List.nodup_cons] at hn
      rw [putAll_slot_other r _ _ _ _ hn.1, slot_put, hd, if_pos ⟨rfl, hlt⟩]; rfl
    | succ k =>
      have hn' : (dsts r).Nodup := by
        simp only [dsts, List.filterMap_cons] at hn
        cases hx : o'.dst with
        | none => rw [hx] at hn; exact hn
        | some d' => rw [hx] at hn; exact (List.nodup_cons.1 hn).2
      rw [ih _ _ _ k o d hn' (by simpa using hk) hd (by rw [size_put]; exact hlt)]
      congr 1; omega

theorem act_ext {a b : Act} (hs : a.tmps.size = b.tmps.size) (hd : a.defers = b.defers) (h : ∀ t, slot a t = slot b t) : a = b := by
  cases a with
  | mk ta da =>
    cases b with
    | mk tb db =>
      simp only at hd hs
      subst hd
      congr 1
      apply Array.ext hs
      intro i h1 h2
      have := h i
      simpa [slot, h1, h2] using this

section
variable {F : Fence} {N : Nat} {P : Program} {l : List Oper} {n : Nat} {Q : Exit → Act → World → Prop}

/-- What an operation of the head owes: its value meets V, the invariant stands, and nothing that was known of another operation's value is lost. -/
def Owes (V : Nat → Value → World → Prop) (I : World → Prop) (i : Nat) (v : Value) (w w' : World) : Prop :=
  V i v w' ∧ I w' ∧ ∀ j u, j ≠ i → V j u w → V j u w'

/-- Known ahead of operation i: the slots that the region does not write hold what they held; each operation that it waits for has its value. -/
structure Ahead (l : List Oper) (n : Nat) (V : Nat → Value → World → Prop) (a0 : Act) (o : Oper) (a : Act) (w : World) : Prop where
  base : ∀ t, t ∉ dsts (l.take n) → slot a t = slot a0 t
  defers : a.defers = a0.defers
  pre : ∀ (j : Nat) (oj : Oper), l[j]? = some oj → (o.after.any fun e => Region.binds .any e && e.on == j) = true → V j (dslot oj a) w

structure RgInv (l : List Oper) (n : Nat) (V : Nat → Value → World → Prop) (I : World → Prop) (a0 : Act) (listed : Array Bool) (a : Act) (w : World) : Prop where
  head : HeadInv .any l.toArray n listed
  inv : I w
  size : a.tmps.size = a0.tmps.size
  defers : a.defers = a0.defers
  base : ∀ t, (∀ (i : Nat) (o : Oper), i < n → l[i]? = some o → listed.getD i false = true → o.dst ≠ some t) → slot a t = slot a0 t
  done : ∀ (i : Nat) (o : Oper), i < n → l[i]? = some o → listed.getD i false = true → V i (dslot o a) w

theorem nodup_dst {l : List Oper} {i j : Nat} {oi oj : Oper} {d : Tmp} (hn : (dsts l).Nodup) (hi : l[i]? = some oi) (hj : l[j]? = some oj) (di : oi.dst = some d) (dj : oj.dst = some d) : i = j := by
  induction l generalizing i j with
  | nil => simp at hi
  | cons o r ih =>
    have hmem : ∀ (k : Nat) (ok : Oper), r[k]? = some ok → ok.dst = some d → d ∈ dsts r := fun k ok hk hd => List.mem_filterMap.2 ⟨ok, List.mem_of_getElem? hk, hd⟩
    have hn' : (dsts r).Nodup := by
      simp only [dsts, List.filterMap_cons] at hn
      cases hx : o.dst with
      | none => rw [hx] at hn; exact hn
      | some d' => rw [hx] at hn; exact (List.nodup_cons.1 hn).2
    cases i with
    | zero =>
      cases j with
      | zero => rfl
      | succ j =>
        simp at hi hj; subst hi
        simp only [dsts, List.filterMap_cons, di, List.nodup_cons] at hn
        exact absurd (hmem j oj hj dj) hn.1
    | succ i =>
      cases j with
      | zero =>
        simp at hi hj; subst hj
        simp only [dsts, List.filterMap_cons, dj, List.nodup_cons] at hn
        exact absurd (hmem i oi hi di) hn.1
      | succ j =>
        simp at hi hj
        rw [ih hn' hi hj]

theorem take_get {α : Type} {l : List α} {n i : Nat} {x : α} (hi : i < n) (h : l[i]? = some x) : (l.take n)[i]? = some x := by simp [List.getElem?_take, hi, h]
theorem take_get' {α : Type} {l : List α} {n i : Nat} {x : α} (h : (l.take n)[i]? = some x) : i < n ∧ l[i]? = some x := by
  rw [List.getElem?_take] at h
  split at h
  · exact ⟨by assumption, h⟩
  · cases h
theorem mem_dsts {l : List Oper} {d : Tmp} (h : d ∈ dsts l) : ∃ (i : Nat) (o : Oper), l[i]? = some o ∧ o.dst = some d := by
  obtain ⟨o, ho, hd⟩ := List.mem_filterMap.1 h
  obtain ⟨i, hi⟩ := List.mem_iff_getElem?.1 ho
  exact ⟨i, o, hi, hd⟩

theorem rg_step {V : Nat → Value → World → Prop} {I : World → Prop} {a0 : Act} {listed : Array Bool} {a : Act} {w w' : World} {i : Nat} {o : Oper} {v : Value}
    (hnd : (dsts (l.take n)).Nodup) (hsz : ∀ d ∈ dsts (l.take n), d < a0.tmps.size)
    (h : RgInv l n V I a0 listed a w) (hi : i ∈ Region.ready .any l.toArray listed) (hin : i < n) (ho : l[i]? = some o) (hv : o.dst = none → v = undef)
    (hO : Owes V I i v w w') : RgInv l n V I a0 (listed.setIfInBounds i true) (a.put o.dst v) w' := by
  obtain ⟨h1, h2, h3⟩ := hO
  have hli : listed.getD i false = false := by
    have := (mem_ready.1 hi).1
    exact getD_both this
  refine ⟨h.head.set hi hin, h2, by rw [size_put]; exact h.size, by rw [defers_put]; exact h.defers, fun t ht => ?_, fun j oj hj hlj hl => ?_⟩
  · rw [slot_put]
    by_cases hd : o.dst = some t
    · exfalso
      refine ht i o hin ho ?_ hd
      have hlt : i < listed.size := by
        rw [h.head.size]; simp
        exact (List.getElem?_eq_some_iff.1 ho).1
      simp [hlt]
    · rw [if_neg (fun hh => hd hh.1)]
      refine h.base t fun j oj hj hlj hl => ht j oj hj hlj ?_
      exact getD_set_true hl
  · by_cases hji : j = i
    · subst hji
      have : oj = o := Option.some.inj (hlj.symm.trans ho)
      subst this
      have : dslot oj (a.put oj.dst v) = v := by
        unfold dslot
        cases hd : oj.dst with
        | none => simp [hv hd]
        | some d =>
          simp only [slot_put]
          rw [if_pos ⟨trivial, by rw [h.size]; exact hsz d (List.mem_filterMap.2 ⟨oj, List.mem_of_getElem? (take_get hin ho), hd⟩)⟩]
      rw [this]; exact h1
    · have hl' : listed.getD j false = true := by rw [getD_set_ne false (fun e => hji e.symm)] at hl; exact hl
      have hold := h.done j oj hj hlj hl'
      have : dslot oj (a.put o.dst v) = dslot oj a := by
        unfold dslot
        cases hd : oj.dst with
        | none => rfl
        | some d =>
          simp only [slot_put]
          rw [if_neg]
          rintro ⟨hod, _⟩
          exact hji (nodup_dst hnd (take_get hj hlj) (take_get hin ho) hd hod)
      rw [this]
      exact h3 j _ hji hold

theorem ahead_of {V : Nat → Value → World → Prop} {I : World → Prop} {a0 : Act} {listed : Array Bool} {a : Act} {w : World} {i : Nat} {o : Oper} (hasc : ascB l = true)
    (h : RgInv l n V I a0 listed a w) (hi : i ∈ Region.ready .any l.toArray listed) (hin : i < n) (ho : l[i]? = some o) : Ahead l n V a0 o a w := by
  refine ⟨fun t ht => h.base t fun j oj hj hlj _ hd => ht (List.mem_filterMap.2 ⟨oj, List.mem_of_getElem? (take_get hj hlj), hd⟩), h.defers, fun j oj hj hany => ?_⟩
  obtain ⟨e, he, hb⟩ := Array.any_eq_true'.1 hany
  simp only [Bool.and_eq_true, beq_iff_eq] at hb
  obtain ⟨_, o', ho', hall⟩ := mem_ready.1 hi
  have : o' = o := by simpa [ho] using ho'.symm
  subst this
  have hl := hall e he hb.1
  have hlt : e.on < i := by
    have := List.all_eq_true.1 hasc (o', i) (by
      rw [List.mem_zipIdx_iff_getElem?]; exact ho)
    have := Array.all_eq_true'.1 this e he
    simpa [hb.1] using this
  rw [hb.2] at hl hlt
  exact h.done j oj (by omega) hj hl

/-- How many of the head are not listed. -/
def unl (listed : Array Bool) (n : Nat) : Nat := ((List.range n).filter fun i => !listed.getD i false).length

theorem unl_zero {listed : Array Bool} (h : unl listed n = 0) : ∀ i, i < n → listed.getD i false = true := by
  intro i hi
  have h0 : ((List.range n).filter fun i => !listed.getD i false) = [] := List.eq_nil_of_length_eq_zero h
  rw [List.filter_eq_nil_iff] at h0
  simpa using h0 i (List.mem_range.2 hi)

theorem filter_length_lt {α : Type} {l : List α} {p q : α → Bool} (h : ∀ x ∈ l, q x = true → p x = true) {x : α} (hx : x ∈ l) (hp : p x = true) (hq : q x = false) : (l.filter q).length < (l.filter p).length := by
  induction l with
  | nil => cases hx
  | cons y r ih =>
    have hle : (r.filter q).length ≤ (r.filter p).length := by
      clear ih hx
      induction r with
      | nil => simp
      | cons z r ih2 =>
        have h2 := ih2 (fun x hx => h x (by rcases List.mem_cons.1 hx with e | e <;> simp [e]))
        have hz := h z (by simp)
        simp only [List.filter_cons]
        cases hqz : q z with
        | false => cases hpz : p z <;> simp <;> omega
        | true => rw [hz hqz]; simp; exact h2
    rcases List.mem_cons.1 hx with e | e
    · subst e
      simp [List.filter_cons, hp, hq]; omega
    · have := ih (fun x hx => h x (List.mem_cons_of_mem _ hx)) e
      have hy := h y (by simp)
      simp only [List.filter_cons]
      cases hqy : q y with
      | false => cases hpy : p y <;> simp <;> omega
      | true => rw [hy hqy]; simp; exact this

theorem filter_length_le1 {p q : Nat → Bool} {i : Nat} (r : List Nat) (h : ∀ x, x ≠ i → p x = q x) (hn : r.Nodup) : (r.filter p).length ≤ (r.filter q).length + 1 := by
  induction r with
  | nil => simp
  | cons x r ih =>
    obtain ⟨hx, hr⟩ := List.nodup_cons.1 hn
    simp only [List.filter_cons]
    by_cases e : x = i
    · subst e
      have hsame : r.filter p = r.filter q := List.filter_congr fun y hy => h y (fun e => hx (e ▸ hy))
      rw [hsame]
      split <;> split <;> simp <;> omega
    · have ih3 := ih hr
      rw [h x e]
      split <;> simp <;> omega

theorem unl_set {listed : Array Bool} {i : Nat} (hi : i < n) (hs : i < listed.size) (hl : listed.getD i false = false) : unl (listed.setIfInBounds i true) n < unl listed n := by
  refine filter_length_lt (fun x _ hx => ?_) (List.mem_range.2 hi) (by simpa using hl) (by simp [hs])
  by_cases e : i = x
  · subst e; simp [hs] at hx
  · rw [getD_set_ne false e] at hx; exact hx

theorem ready_some {listed : Array Bool} (hasc : ascB l = true) (hs : listed.size = l.length) {i : Nat} (hi : i < l.length) (hl : listed.getD i false = false) : ∃ k, k ≤ i ∧ k ∈ Region.ready .any l.toArray listed := by
  induction i using Nat.strongRecOn with
  | _ i ih =>
    by_cases hall : ∃ e ∈ (l[i]).after, Region.binds .any e = true ∧ listed.getD e.on false = false
    · obtain ⟨e, he, hb, hle⟩ := hall
      have hlt : e.on < i := by
        have := List.all_eq_true.1 hasc (l[i], i) (by rw [List.mem_zipIdx_iff_getElem?]; simp [hi])
        have := Array.all_eq_true'.1 this e he
        simpa [hb] using this
      obtain ⟨k, hk, hr⟩ := ih e.on hlt (by omega) hle
      exact ⟨k, by omega, hr⟩
    · refine ⟨i, Nat.le_refl _, mem_ready.2 ⟨getD_in (by omega) hl, l[i], by simp [hi], fun e he hb => ?_⟩⟩
      cases hv : listed.getD e.on false with
      | true => rfl
      | false => exact absurd ⟨e, he, hb, hv⟩ hall

theorem wpAnyIn_of_seq : ∀ (l : List Oper) (k : Nat) (ops : Array Oper) (listed : Array Bool) (a : Act) (w : World), (∀ j, l[j]? = ops[k + j]?) →
    Region.seqB .any ops l.length k listed = true → wpListIn F N P ops Q l a w → wpAnyIn F N P .any ops Q l.length listed a w
  | [], _, _, _, _, _, _, hB, h => ⟨by simpa [Region.seqB] using hB, h⟩
  | o :: l, k, ops, listed, a, w, hl, hB, h => by
    have h0 : ops[k]? = some o := by simpa using (hl 0).symm
    simp only [List.length_cons, Region.seqB, Bool.and_eq_true, decide_eq_true_eq] at hB
    refine ⟨fun h1 => (by rw [hB.1] at h1; cases h1), fun i hi => ?_⟩
    rw [hB.1] at hi
    have hik : i = k := by simpa using hi
    subst hik
    have hw : wpOpIn F N P ops Q i (wpListIn F N P ops Q l) a w := by unfold wpOpIn; simp only [h0]; exact h
    exact wpOpIn_mono (fun a' w' h' => wpAnyIn_of_seq l (i + 1) _ _ a' w' (fun j => by have := hl (j + 1); simpa [Nat.add_assoc, Nat.add_comm 1 j] using this) hB.2 h') hw

/-- The ends of a head's operation. -/
def RgNext (V : Nat → Value → World → Prop) (I : World → Prop) (i : Nat) (o : Oper) (a : Act) (w : World) : Act → World → Prop := fun a' w' => ∃ v, (o.dst = none → v = undef) ∧ a' = a.put o.dst v ∧ Owes V I i v w w'
def RgOut (a : Act) (Qp : List PanicEntry → World → Prop) : Exit → Act → World → Prop
  | .panic ch, a', w' => a' = a ∧ Qp ch w'
  | _, _, _ => False

/-- **A region that draws its order.** -/
theorem wpIn_region_rg {id sz : Nat} {a0 : Act} {w0 : World} (n : Nat) (V : Nat → Value → World → Prop) (I : World → Prop) (Qp : List PanicEntry → World → Prop)
    (hm : P.follows .mixedOrders = true) (hsz : a0.tmps.size = sz) (hB : rgB l n sz = true) (hI : I { w0 with drawn := w0.drawn + 1 })
    (hop : ∀ (i : Nat) (o : Oper), i < n → l[i]? = some o → ∀ a w, I w → Ahead l n V a0 o a w →
      if Region.wanted o (yielded l.toArray a.tmps) then o.wpIn F N P a w (RgNext V I i o a w) (RgOut a Qp)
      else (∀ f, o.about P w a.eval = some f → F.fn f) ∧ V i undef w)
    (hpan : ∀ ch a w, Qp ch w → (∀ t, t ∉ dsts (l.take n) → slot a t = slot a0 t) → a.defers = a0.defers → Q (.panic ch) a w)
    (hend : ∀ (vs : Nat → Value) w, I w → (∀ i, i < n → V i (vs i) w) → wpListIn F N P l.toArray Q (l.drop n) (putAll a0 (l.take n) vs 0) w) :
    (Code.region id l.toArray true).wpIn F N P Q a0 w0 := by
  subst hsz
  simp only [rgB, Bool.and_eq_true, Bool.or_eq_true, decide_eq_true_eq] at hB
  obtain ⟨⟨⟨⟨⟨hasc, hnl⟩, hnd⟩, hds⟩, htail⟩, hseq⟩ := hB
  have hsz' : ∀ d ∈ dsts (l.take n), d < a0.tmps.size := fun d hd => by simpa using List.all_eq_true.1 hds d hd
  refine wpIn_region_any hm ?_
  have key : ∀ (k : Nat) (listed : Array Bool) (a : Act) (w : World), unl listed n = k → RgInv l n V I a0 listed a w → wpAnyIn F N P .any l.toArray Q (k + (l.length - n)) listed a w := by
    intro k
    induction k using Nat.strongRecOn with
    | _ k ih =>
      intro listed a w hk h
      by_cases hk0 : k = 0
      · -- the head is done
        subst hk0
        have hall := unl_zero hk
        have hlist : listed = (List.replicate n true ++ List.replicate (l.length - n) false).toArray := by
          have hs := h.head.size
          apply Array.ext
          · rw [hs]; simp; omega
          · intro i h1 h2
            rw [hs] at h1; simp at h1
            simp only [List.getElem_toArray]
            by_cases hin : i < n
            · rw [List.getElem_append_left (by simpa using hin)]
              have := hall i hin
              rw [Array.getD_eq_getD_getElem?, Array.getElem?_eq_getElem (by rw [hs]; simpa using h1)] at this
              simpa using this
            · rw [List.getElem_append_right (by simp; omega)]
              have := h.head.tail i (by omega) (by simpa using h1)
              rw [Array.getD_eq_getD_getElem?, Array.getElem?_eq_getElem (by rw [hs]; simpa using h1)] at this
              simpa using this
        have hact : a = putAll a0 (l.take n) (fun i => match l[i]? with | some o => dslot o a | none => undef) 0 := by
          refine act_ext (by rw [putAll_size, h.size]) (by rw [putAll_defers, h.defers]) fun t => ?_
          by_cases ht : t ∈ dsts (l.take n)
          · obtain ⟨i, o, hi, hd⟩ := mem_dsts ht
            obtain ⟨hin, hli⟩ := take_get' hi
            rw [putAll_slot_in (l.take n) a0 _ 0 i o t hnd hi hd (hsz' t ht)]
            simp [hli, dslot, hd]
          · rw [putAll_slot_other _ _ _ _ _ ht]
            exact h.base t fun i o hin hli _ hd => ht (List.mem_filterMap.2 ⟨o, List.mem_of_getElem? (take_get hin hli), hd⟩)
        rw [hact]
        have hlen : (l.drop n).length = l.length - n := by simp
        rw [Nat.zero_add, ← hlen]
        refine wpAnyIn_of_seq (l.drop n) n l.toArray listed _ w (fun j => by simp) (by rw [hlen, hlist]; exact hseq) ?_
        exact hend _ w h.inv fun i hin => by
          have hlt : i < l.length := by omega
          have := h.done i l[i] hin (by simp [hlt]) (hall i hin)
          simpa [hlt] using this
      · obtain ⟨k', rfl⟩ : ∃ k', k = k' + 1 := ⟨k - 1, by omega⟩
        rw [show k' + 1 + (l.length - n) = (k' + (l.length - n)) + 1 by omega]
        -- some operation of the head is not listed
        have hex : ∃ i, i < n ∧ listed.getD i false = false := by
          by_cases hh : ∃ i, i < n ∧ listed.getD i false = false
          · exact hh
          · exfalso
            have : unl listed n = 0 := by
              unfold unl
              rw [List.length_eq_zero_iff, List.filter_eq_nil_iff]
              intro x hx
              have hx' := List.mem_range.1 hx
              cases hv : listed.getD x false with
              | true => simp
              | false => exact absurd ⟨x, hx', hv⟩ hh
            omega
        obtain ⟨i0, hi0, hl0⟩ := hex
        have hsl : listed.size = l.length := by rw [h.head.size]; simp
        obtain ⟨k1, _, hk1⟩ := ready_some hasc hsl (i := i0) (by omega) hl0
        refine ⟨fun hr => (by rw [hr] at hk1; cases hk1), fun i hi => ?_⟩
        have hin : i < n := by
          by_cases hge : n ≤ i
          · exfalso
            rcases htail with hn | ⟨⟨hn, hsk⟩, hch⟩
            · obtain ⟨_, o, ho, _⟩ := mem_ready.1 hi
              have := (Array.getElem?_eq_some_iff.1 ho).1
              simp at this; omega
            · exact tail_waits hsk hch (by simpa using hn) h.head (n - i0) i0 rfl hi0 (getD_in (by omega) hl0) i hge hi
          · omega
        have hlt : i < l.length := by omega
        have ho : l[i]? = some l[i] := by simp [hlt]
        have hah := ahead_of hasc h hi hin ho
        have hli : listed.getD i false = false := getD_both (mem_ready.1 hi).1
        have hun : unl (listed.setIfInBounds i true) n < unl listed n := unl_set hin (by omega) hli
        have hnext : ∀ a' w', RgInv l n V I a0 (listed.setIfInBounds i true) a' w' → wpAnyIn F N P .any l.toArray Q (k' + (l.length - n)) (listed.setIfInBounds i true) a' w' := by
          intro a' w' h'
          have hle : unl (listed.setIfInBounds i true) n ≤ k' := by omega
          have := ih (unl (listed.setIfInBounds i true) n) (by omega) _ a' w' rfl h'
          -- exactly one fewer
          have heq : unl (listed.setIfInBounds i true) n = k' := by
            by_cases hlt2 : unl (listed.setIfInBounds i true) n = k'
            · exact hlt2
            · exfalso
              have hcnt : unl listed n ≤ unl (listed.setIfInBounds i true) n + 1 := by
                unfold unl
                refine filter_length_le1 (i := i) (List.range n) (fun x hx => ?_) List.nodup_range
                rw [getD_set_ne false (fun e => hx e.symm)]
              omega
          rw [heq] at this; exact this
        have hop' := hop i l[i] hin ho a w h.inv hah
        unfold wpOpIn
        simp only [List.getElem?_toArray, ho]
        split
        · rename_i hw
          rw [if_pos hw] at hop'
          have hm1 : l[i].wpIn F N P a w (wpAnyIn F N P .any l.toArray Q (k' + (l.length - n)) (listed.setIfInBounds i true)) (RgOut a Qp) :=
            Oper.wpIn_mono (fun a' w' ⟨v, hv, ha', hO⟩ => hnext a' w' (ha' ▸ rg_step hnd hsz' h hi hin ho hv hO)) hop'
          -- the way out
          unfold Oper.wpIn at hm1 ⊢
          refine ⟨hm1.1, ?_⟩
          have h2 := hm1.2
          have hout : ∀ ch w', RgOut a Qp (.panic ch) a w' → Q (.panic ch) a w' := fun ch w' hq => hpan ch a w' hq.2 (fun t ht => hah.base t ht) hah.defers
          generalize (l[i].semAt F.round a.eval).run P w = r at h2 ⊢
          cases r with
          | ok x w' =>
            cases x <;> simp only [Oper.uponIn] at h2 ⊢ <;>
              first
                | exact h2
                | exact ⟨h2.1, CallsIn.mono h2.2 (fun e w'' he => by
                    cases e with
                    | returned v => exact he
                    | panicked ch => exact hout ch w'' he
                    | outgrown => obtain ⟨_, _, hf⟩ := he; exact hf.elim)⟩
                | exact ⟨h2.1, RoundIn.mono h2.2 (fun e w'' he => by
                    cases e with
                    | returned v => exact he
                    | panicked ch => exact hout ch w'' he
                    | outgrown => obtain ⟨_, _, hf⟩ := he; exact hf.elim)⟩
          | halt x w' =>
            cases x <;> simp only [Oper.uponIn] at h2 ⊢ <;> first | exact h2 | exact hout _ w' h2
        · rename_i hw
          rw [if_neg hw] at hop'
          refine ⟨hop'.1, hnext _ _ (rg_step hnd hsz' h hi hin ho (fun _ => rfl) ⟨hop'.2, h.inv, fun j u _ hu => hu⟩)⟩
  have hinit : RgInv l n V I a0 (Array.replicate l.toArray.size false) a0 { w0 with drawn := w0.drawn + 1 } :=
    ⟨⟨by simp, fun j oj _ hl => (by rw [getD_replicate_false] at hl; cases hl), fun t _ ht => getD_in (by simpa using ht) (getD_replicate_false _ _)⟩, hI, rfl, rfl, fun _ _ => rfl,
      fun i o _ _ hl => (by rw [getD_replicate_false] at hl; cases hl)⟩
  have h0 : unl (Array.replicate l.toArray.size false) n = n := by
    unfold unl
    rw [List.filter_eq_self.2 (fun x _ => by rw [getD_replicate_false]; rfl)]; simp
  have := key n _ a0 _ h0 hinit
  rw [show n + (l.length - n) = l.toArray.size by simp; omega] at this
  exact this
end
end Go.Sh
