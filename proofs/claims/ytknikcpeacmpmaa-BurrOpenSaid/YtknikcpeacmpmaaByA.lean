/- burr, the law BurrOpen: whether a set of bales tells of the top line, walked. -/
import Derived.Test.YtknikcpeacmpmaaBwY
import Derived.Test.YtknikcpeacmpmaaBxJ
import Derived.Test.YtknikcpeacmpmaaBvX
import Derived.Test.YtknikcpeacmpmaaPvM
set_option linter.all false
namespace Go.Proofs.Ytknikcpeacmpmaa
open Go Go.RowKit Go.Sh Go.Pv
set_option maxHeartbeats 8000000
set_option maxRecDepth 8000
set_option pp.maxSteps 60000
/-- What the last one that has so much of a set has of the top line. -/
def lastV (S T k : Nat) : List Nat → Option Nat
  | [] => none
  | h :: P => match lastV S T k P with
    | some v => some v
    | none => if h &&& S = k then some (h &&& T) else none
theorem lastV_snoc (S T k : Nat) (P : List Nat) (h : Nat) : lastV S T k (P ++ [h]) = if h &&& S = k then some (h &&& T) else lastV S T k P := by
  induction P with
  | nil => simp only [List.nil_append, lastV]
  | cons a P ih =>
    simp only [List.cons_append, lastV, ih]
    by_cases e : h &&& S = k
    · rw [if_pos e, if_pos e]
    · rw [if_neg e, if_neg e]
def lastI (S T : Nat) (P : List Nat) : MI := ⟨fun a b => ∃ k v, lastV S T k P = some v ∧ a = .int .i64 ((k : Nat) : Int) ∧ b = .int .i64 ((v : Nat) : Int), fun a b => ∃ k v, lastV S T k P = some v ∧ a = .int .i64 ((k : Nat) : Int) ∧ b = .int .i64 ((v : Nat) : Int)⟩
def okV (o : Option Nat) (x : Nat) : Bool := match o with | none => true | some v => Nat.beq v x
/-- Do all that have been seen agree? -/
def okL (S T : Nat) (P : List Nat) : Bool := P.foldl (fun (q : Bool × List Nat) h => (q.1 && okV (lastV S T (h &&& S) q.2) (h &&& T), q.2 ++ [h])) (true, []) |>.1
theorem fold_snd (S T : Nat) (P : List Nat) : (P.foldl (fun (q : Bool × List Nat) h => (q.1 && okV (lastV S T (h &&& S) q.2) (h &&& T), q.2 ++ [h])) (true, [])).2 = P := by
  have : ∀ (P : List Nat) (q : Bool × List Nat), (P.foldl (fun (q : Bool × List Nat) h => (q.1 && okV (lastV S T (h &&& S) q.2) (h &&& T), q.2 ++ [h])) q).2 = q.2 ++ P := by
    intro P
    induction P with
    | nil => intro q; simp
    | cons a P ih => intro q; rw [List.foldl_cons, ih]; simp
  rw [this]; rfl
theorem okL_snoc (S T : Nat) (P : List Nat) (h : Nat) : okL S T (P ++ [h]) = (okL S T P && okV (lastV S T (h &&& S) P) (h &&& T)) := by
  unfold okL
  rw [List.foldl_append, List.foldl_cons, List.foldl_nil, fold_snd]
theorem lastV_mem {S T k v : Nat} {P : List Nat} (h : lastV S T k P = some v) : ∃ x ∈ P, x &&& S = k ∧ x &&& T = v := by
  induction P with
  | nil => cases h
  | cons a P ih =>
    simp only [lastV] at h
    cases e : lastV S T k P with
    | some v' =>
      rw [e] at h
      dsimp only at h
      cases h
      obtain ⟨x, hx, h1⟩ := ih e
      exact ⟨x, List.mem_cons_of_mem _ hx, h1⟩
    | none =>
      rw [e] at h
      dsimp only at h
      split at h
      · rename_i e
        cases h
        exact ⟨a, List.mem_cons_self .., e, rfl⟩
      · cases h
theorem lastV_some {S T : Nat} {P : List Nat} {x : Nat} (h : x ∈ P) : ∃ v, lastV S T (x &&& S) P = some v := by
  induction P with
  | nil => cases h
  | cons a P ih =>
    simp only [lastV]
    cases e : lastV S T (x &&& S) P with
    | some v => exact ⟨v, rfl⟩
    | none =>
      rcases List.mem_cons.1 h with rfl | h
      · exact ⟨_, by rw [if_pos rfl]⟩
      · obtain ⟨v, hv⟩ := ih h; rw [e] at hv; cases hv
theorem okL_iff {S T : Nat} {P : List Nat} : okL S T P = decide (Tells S T P) := by
  suffices h : ∀ (R : List Nat), okL S T R.reverse = decide (Tells S T R.reverse) by
    have := h P.reverse; rwa [List.reverse_reverse] at this
  intro R
  induction R with
  | nil => symm; exact decide_eq_true (fun h hh => by cases hh)
  | cons x R ih =>
    rw [List.reverse_cons, okL_snoc, ih]
    generalize R.reverse = P
    by_cases hP : Tells S T P
    · rw [decide_eq_true hP, Bool.true_and]
      cases e : lastV S T (x &&& S) P with
      | none =>
        symm
        refine decide_eq_true (tells_add hP fun h hh hk => ?_)
        obtain ⟨v, hv⟩ := lastV_some (S := S) (T := T) hh
        rw [hk, e] at hv; cases hv
      | some v =>
        obtain ⟨y, hy, h1, h2⟩ := lastV_mem e
        by_cases hv : v = x &&& T
        · have hb : okV (some v) (x &&& T) = true := by show Nat.beq _ _ = true; rw [hv]; exact Nat.beq_refl _
          rw [hb]; symm
          exact decide_eq_true (tells_add hP fun h hh hk => (hP h hh y hy (hk.trans h1.symm)).trans (h2.trans hv))
        · have hb : okV (some v) (x &&& T) = false := by
            cases hq : okV (some v) (x &&& T) with
            | false => rfl
            | true => exact absurd (Nat.eq_of_beq_eq_true hq) hv
          rw [hb]; symm
          refine decide_eq_false fun ht => hv ?_
          rw [← h2]
          exact ht y (by simp [hy]) x (by simp) h1
    · rw [decide_eq_false hP, Bool.false_and]
      symm
      exact decide_eq_false fun ht => hP fun a ha b hb e => ht a (by simp [ha]) b (by simp [hb]) e
theorem und3 : Try.prog.underlying 3 = some (.int .i64) := by kernel_rfl
theorem key3 : KLaw Try.prog 3 := int_klaw und3
theorem und48 : Try.prog.underlying 48 = some (.map 3 3) := by kernel_rfl
theorem keyOf3 (s : Int) (hs : 0 ≤ s ∧ s < 256) : ∃ l, keyOf Try.prog 3 (.int .i64 s) = some l := by
  have hw : (Lit.int .i64 s).wf = true := by
    have : IntKind.min .i64 = -9223372036854775808 ∧ IntKind.max .i64 = 9223372036854775807 := by decide
    simp only [Lit.wf, Bool.and_eq_true, decide_eq_true_eq]; omega
  exact ⟨_, keyOf_int_mk und3 hw⟩
section
variable {N L U T : Nat} {bales : List (Int × Int)} {tests : List (Int × Bool)}
theorem c_open42 {Z : Zn} {w0 : World} {cap : Nat → Prop} {nt : Nat} {rd : Option Nat} {pan : List PanicEntry → St → Prop} {df : Option Nat} {dk : List Nat} {rg : Bool} {fr : List (Nat × AV)} {hp : List (Nat × Obj')} {nx a b c d e : Nat} {m h S : Nat} {r : Bool} {P : List Nat}
    (hh : h < 64) (hT : T < 64) (hS : S < 64)
    (ha : AL.get hp a = some (.box [.memo e])) (hb : AL.get hp b = some (.box [.p (iP S)])) (hcB : AL.get hp c = some (.box [.p (.v (.bool r))])) (hd : AL.get hp d = some (.box (buC N L U T bales tests))) (he : AL.get hp e = some (.memo Try.prog 3 (lastI S T P)))
    (hne : a ≠ b ∧ a ≠ c ∧ a ≠ d ∧ a ≠ e ∧ b ≠ c ∧ b ≠ d ∧ b ≠ e ∧ c ≠ d ∧ c ≠ e ∧ d ≠ e) :
    CallF ⟨Try.prog, Z, w0, cap, nt, rd, pan, df, dk, rg⟩ 42 [.one (.p (iP m)), .one (.p (iP h)), .one (.box a 0), .one (.box b 0), .one (.box c 0), .one (.box d 0)] ⟨fr, hp, nx⟩ fun st' av => st' = ⟨fr, [(e, .memo Try.prog 3 (lastI S T (P ++ [h]))), (c, .box [.p (.v (.bool (r && okV (lastV S T (h &&& S) P) (h &&& T))))])] ++ hp, nx⟩ ∧ av = .tup [] := by
  obtain ⟨n1, n2, n3, n4, n5, n6, n7, n8, n9, n10⟩ := hne
  have haT : ∀ (T' : TypeId) (x y : Operand), binA Try.prog .and T' x y (.int .i64 (h : Int)) (.int .i64 (T : Int)) = some (.int .i64 ((h &&& T : Nat) : Int)) := fun T' x y => bin_and_nat T' x y (by omega) (by omega)
  have haS : ∀ (T' : TypeId) (x y : Operand), binA Try.prog .and T' x y (.int .i64 (h : Int)) (.int .i64 (S : Int)) = some (.int .i64 ((h &&& S : Nat) : Int)) := fun T' x y => bin_and_nat T' x y (by omega) (by omega)
  have hle : h &&& S ≤ h := Nat.and_le_left
  obtain ⟨lk, hkey⟩ := keyOf3 ((h &&& S : Nat) : Int) (by omega)
  have hI1 : (lastI S T (P ++ [h])).yes (.int .i64 ((h &&& S : Nat) : Int)) (.int .i64 ((h &&& T : Nat) : Int)) := ⟨h &&& S, h &&& T, by rw [lastV_snoc, if_pos rfl], rfl, rfl⟩
  have hI2 : ∀ x y, x ≠ .int .i64 ((h &&& S : Nat) : Int) → (lastI S T P).yes x y → (lastI S T (P ++ [h])).yes x y := by
    rintro x y hx ⟨k, v, h1, rfl, rfl⟩
    exact ⟨k, v, by rw [lastV_snoc, if_neg (fun e => hx (by rw [e]))]; exact h1, rfl, rfl⟩
  have hI3 : ∀ x y, (lastI S T (P ++ [h])).all x y → (x = .int .i64 ((h &&& S : Nat) : Int) ∧ y = .int .i64 ((h &&& T : Nat) : Int)) ∨ (x ≠ .int .i64 ((h &&& S : Nat) : Int) ∧ (lastI S T P).all x y) := by
    rintro x y ⟨k, v, h1, rfl, rfl⟩
    rw [lastV_snoc] at h1
    split at h1
    · rename_i e; cases h1; exact .inl ⟨by rw [e], rfl⟩
    · rename_i e; exact .inr ⟨fun e2 => e (val_inj e2).symm, k, v, h1, rfl, rfl⟩
  have hnew : ∀ (x : Nat) (o : Obj') (r' : Bool), AL.get [(e, Obj'.memo Try.prog 3 (lastI S T (P ++ [h]))), (c, .box [.p (.v (.bool r'))])] x = some o → (∃ o', AL.get hp x = some o') ∧ refsO o = [] ∧ ∀ fr tm, o ≠ .kept fr tm := by
    intro x o r' hx
    rcases get_cons_cases hx with ⟨rfl, rfl⟩ | hx
    · exact ⟨⟨_, he⟩, rfl, fun _ _ h => by cases h⟩
    rcases get_cons_cases hx with ⟨rfl, rfl⟩ | hx
    · exact ⟨⟨_, hcB⟩, rfl, fun _ _ h => by cases h⟩
    · cases hx
  (refine callF_to (nt := 39) (rs := []) Try.func42 rfl rfl rfl (by simp) fun hcl tm Ds => ?_); simp only [initV]
  have hlt := hcl.lt
  dsimp only [Kx.calleeT] at hlt ⊢
  have la := hlt a _ ha
  have lb := hlt b _ hb
  have lc := hlt c _ hcB
  have ld := hlt d _ hd
  have le := hlt e _ he
  unfold buC at hd
  generalize h &&& S = hs at *
  generalize h &&& T = ht at *
  cases r <;> cases hlv : lastV S T hs P <;> simp only [Bool.true_and, Bool.false_and, show okV none ht = true from rfl]
  · have hno0 : ∀ v, ¬ (lastI S T P).yes (.int .i64 (hs : Int)) v := by
      rintro v ⟨k, v1, h1, hk, rfl⟩
      have hk := (val_inj hk).symm
      subst hk
      rw [hlv] at h1; cases h1
    (repeat (first | apply aw_seq | apply aw_block | apply aw_skip | apply aw_label | apply aw_exit | ((first | refine aw_region (hideO fun QQ hQQ => ?_) | refine aw_draw mixed (hideD fun QQ hQQ => ?_)); simp (maxSteps := 400000) (disch := first | decide | omega) only [ha, hb, hcB, hd, he, haT, haS, go_sem, ↓reduceIte]; try (first | with_reducible refine unhide hQQ ?_ | refine ⟨by kernel_rfl, unhide hQQ ?_⟩); clear hQQ QQ) | with_reducible first | apply then_n | apply block_n | apply then_x | apply then_r | apply nog_n | apply nog_r | apply block_r | apply block_e (by decide) | apply block_x (by decide)))
    refine ⟨rfl, .inr ⟨rfl, callS_lookupK (kv := .int .i64 (hs : Int)) rfl rfl key3 und48 zero3 (by simp (disch := first | decide | omega) only [ha, hb, hcB, hd, he, haT, haS, go_sem, ↓reduceIte]; try rfl) (by simp (disch := first | decide | omega) only [ha, hb, hcB, hd, he, haT, haS, go_sem, ↓reduceIte]; try rfl) (by simp (disch := first | decide | omega) only [ha, hb, hcB, hd, he, haT, haS, go_sem, ↓reduceIte]; try rfl) hkey (fun v hv => absurd hv (hno0 v)) ?_⟩⟩
    intro hno
    refine ⟨_, relR_int _, ?_⟩
    (simp (maxSteps := 400000) (disch := first | decide | omega) only [ha, hb, hcB, hd, he, haT, haS, go_sem, ↓reduceIte]; (try (with_reducible refine unhide hQQ ?_; clear hQQ QQ; (repeat with_reducible first | apply then_n | apply block_n | apply then_x | apply then_r | apply nog_n | apply nog_r | apply block_r | apply block_e (by decide) | apply block_x (by decide)))))
    (repeat (first | apply aw_seq | apply aw_block | apply aw_skip | apply aw_label | apply aw_exit | ((first | refine aw_region (hideO fun QQ hQQ => ?_) | refine aw_draw mixed (hideD fun QQ hQQ => ?_)); simp (maxSteps := 400000) (disch := first | decide | omega) only [ha, hb, hcB, hd, he, haT, haS, go_sem, ↓reduceIte]; try (first | with_reducible refine unhide hQQ ?_ | refine ⟨by kernel_rfl, unhide hQQ ?_⟩); clear hQQ QQ) | with_reducible first | apply then_n | apply block_n | apply then_x | apply then_r | apply nog_n | apply nog_r | apply block_r | apply block_e (by decide) | apply block_x (by decide)))
    refine ⟨rfl, .inr ⟨rfl, callS_updateK (kv := .int .i64 (hs : Int)) (vv := .int .i64 (ht : Int)) rfl rfl key3 und48 (lastI S T (P ++ [h])) (by simp (disch := first | decide | omega) only [ha, hb, hcB, hd, he, haT, haS, go_sem, ↓reduceIte]; try rfl) (by simp (disch := first | decide | omega) only [ha, hb, hcB, hd, he, haT, haS, go_sem, ↓reduceIte]; try rfl) (by simp (disch := first | decide | omega) only [ha, hb, hcB, hd, he, haT, haS, go_sem, ↓reduceIte]; try rfl) (by simp (disch := first | decide | omega) only [ha, hb, hcB, hd, he, haT, haS, go_sem, ↓reduceIte]; try rfl) hkey hI1 hI2 hI3 ?_⟩⟩
    (simp (maxSteps := 400000) (disch := first | decide | omega) only [ha, hb, hcB, hd, he, haT, haS, go_sem, ↓reduceIte]; (try (with_reducible refine unhide hQQ ?_; clear hQQ QQ; (repeat with_reducible first | apply then_n | apply block_n | apply then_x | apply then_r | apply nog_n | apply nog_r | apply block_r | apply block_e (by decide) | apply block_x (by decide)))))
    (repeat (first | apply aw_seq | apply aw_block | apply aw_skip | apply aw_label | apply aw_exit | ((first | refine aw_region (hideO fun QQ hQQ => ?_) | refine aw_draw mixed (hideD fun QQ hQQ => ?_)); simp (maxSteps := 400000) (disch := first | decide | omega) only [ha, hb, hcB, hd, he, haT, haS, go_sem, ↓reduceIte]; try (first | with_reducible refine unhide hQQ ?_ | refine ⟨by kernel_rfl, unhide hQQ ?_⟩); clear hQQ QQ) | with_reducible first | apply then_n | apply block_n | apply then_x | apply then_r | apply nog_n | apply nog_r | apply block_r | apply block_e (by decide) | apply block_x (by decide)))
    refine ⟨.inl rfl, left_app [(e, .memo Try.prog 3 (lastI S T (P ++ [h]))), (c, .box [.p (.v (.bool false))])] hcl (fun x o hx => hnew x o _ hx) ?_ ?_ ?_ ⟨rfl, rfl⟩⟩
    · simp (disch := first | decide | omega) only [go_sem, ↓reduceIte]; try rfl
    · intro id o ho
      rcases get_cons_cases ho with ⟨rfl, rfl⟩ | ho
      · simp (disch := first | decide | omega) only [go_sem, ↓reduceIte]; try rfl
      rcases get_cons_cases ho with ⟨rfl, rfl⟩ | ho
      · simp (disch := first | decide | omega) only [go_sem, ↓reduceIte]; first | done | rfl | exact hcB
      · cases ho
    · intro id o hid hno ho
      have e1 : id ≠ e := by rintro rfl; rw [AL.get_eq] at hno; cases hno
      rw [AL.get_ne _ _ e1] at hno
      have e2 : id ≠ c := by rintro rfl; rw [AL.get_eq] at hno; cases hno
      simp (disch := first | decide | omega) only [go_sem, ↓reduceIte]
      exact ho
  · rename_i v0
    have eok : okV (some v0) ht = ((v0 : Int) == (ht : Int)) := by
      show Nat.beq v0 ht = _
      by_cases e : v0 = ht
      · subst e; rw [beq_self_eq_true]; exact Nat.beq_refl _
      · have e2 : ((v0 : Int) == (ht : Int)) = false := by rw [beq_eq_false_iff_ne]; omega
        rw [e2]
        cases hq : Nat.beq v0 ht with
        | false => rfl
        | true => exact absurd (Nat.eq_of_beq_eq_true hq) e
    try rw [eok]
    have hv0 : ∀ v, (lastI S T P).yes (.int .i64 (hs : Int)) v → v = .int .i64 (v0 : Int) := by
      rintro v ⟨k, v1, h1, hk, rfl⟩
      have hk := (val_inj hk).symm
      subst hk
      rw [hlv] at h1; cases h1; rfl
    have hno0 : ¬ ∀ b, ¬ (lastI S T P).all (.int .i64 (hs : Int)) b := fun hno => hno _ ⟨hs, v0, hlv, rfl, rfl⟩
    (repeat (first | apply aw_seq | apply aw_block | apply aw_skip | apply aw_label | apply aw_exit | ((first | refine aw_region (hideO fun QQ hQQ => ?_) | refine aw_draw mixed (hideD fun QQ hQQ => ?_)); simp (maxSteps := 400000) (disch := first | decide | omega) only [ha, hb, hcB, hd, he, haT, haS, go_sem, ↓reduceIte]; try (first | with_reducible refine unhide hQQ ?_ | refine ⟨by kernel_rfl, unhide hQQ ?_⟩); clear hQQ QQ) | with_reducible first | apply then_n | apply block_n | apply then_x | apply then_r | apply nog_n | apply nog_r | apply block_r | apply block_e (by decide) | apply block_x (by decide)))
    refine ⟨rfl, .inr ⟨rfl, callS_lookupK (kv := .int .i64 (hs : Int)) rfl rfl key3 und48 zero3 (by simp (disch := first | decide | omega) only [ha, hb, hcB, hd, he, haT, haS, go_sem, ↓reduceIte]; try rfl) (by simp (disch := first | decide | omega) only [ha, hb, hcB, hd, he, haT, haS, go_sem, ↓reduceIte]; try rfl) (by simp (disch := first | decide | omega) only [ha, hb, hcB, hd, he, haT, haS, go_sem, ↓reduceIte]; try rfl) hkey ?_ (fun hno => absurd hno hno0)⟩⟩
    intro v hv
    obtain rfl := hv0 v hv
    refine ⟨_, relR_int _, ?_⟩
    (simp (maxSteps := 400000) (disch := first | decide | omega) only [ha, hb, hcB, hd, he, haT, haS, go_sem, ↓reduceIte]; (try (with_reducible refine unhide hQQ ?_; clear hQQ QQ; (repeat with_reducible first | apply then_n | apply block_n | apply then_x | apply then_r | apply nog_n | apply nog_r | apply block_r | apply block_e (by decide) | apply block_x (by decide)))))
    (repeat (first | apply aw_seq | apply aw_block | apply aw_skip | apply aw_label | apply aw_exit | ((first | refine aw_region (hideO fun QQ hQQ => ?_) | refine aw_draw mixed (hideD fun QQ hQQ => ?_)); simp (maxSteps := 400000) (disch := first | decide | omega) only [ha, hb, hcB, hd, he, haT, haS, go_sem, ↓reduceIte]; try (first | with_reducible refine unhide hQQ ?_ | refine ⟨by kernel_rfl, unhide hQQ ?_⟩); clear hQQ QQ) | with_reducible first | apply then_n | apply block_n | apply then_x | apply then_r | apply nog_n | apply nog_r | apply block_r | apply block_e (by decide) | apply block_x (by decide)))
    refine ⟨rfl, .inr ⟨rfl, callS_updateK (kv := .int .i64 (hs : Int)) (vv := .int .i64 (ht : Int)) rfl rfl key3 und48 (lastI S T (P ++ [h])) (by simp (disch := first | decide | omega) only [ha, hb, hcB, hd, he, haT, haS, go_sem, ↓reduceIte]; try rfl) (by simp (disch := first | decide | omega) only [ha, hb, hcB, hd, he, haT, haS, go_sem, ↓reduceIte]; try rfl) (by simp (disch := first | decide | omega) only [ha, hb, hcB, hd, he, haT, haS, go_sem, ↓reduceIte]; try rfl) (by simp (disch := first | decide | omega) only [ha, hb, hcB, hd, he, haT, haS, go_sem, ↓reduceIte]; try rfl) hkey hI1 hI2 hI3 ?_⟩⟩
    (simp (maxSteps := 400000) (disch := first | decide | omega) only [ha, hb, hcB, hd, he, haT, haS, go_sem, ↓reduceIte]; (try (with_reducible refine unhide hQQ ?_; clear hQQ QQ; (repeat with_reducible first | apply then_n | apply block_n | apply then_x | apply then_r | apply nog_n | apply nog_r | apply block_r | apply block_e (by decide) | apply block_x (by decide)))))
    (repeat (first | apply aw_seq | apply aw_block | apply aw_skip | apply aw_label | apply aw_exit | ((first | refine aw_region (hideO fun QQ hQQ => ?_) | refine aw_draw mixed (hideD fun QQ hQQ => ?_)); simp (maxSteps := 400000) (disch := first | decide | omega) only [ha, hb, hcB, hd, he, haT, haS, go_sem, ↓reduceIte]; try (first | with_reducible refine unhide hQQ ?_ | refine ⟨by kernel_rfl, unhide hQQ ?_⟩); clear hQQ QQ) | with_reducible first | apply then_n | apply block_n | apply then_x | apply then_r | apply nog_n | apply nog_r | apply block_r | apply block_e (by decide) | apply block_x (by decide)))
    refine ⟨.inl rfl, left_app [(e, .memo Try.prog 3 (lastI S T (P ++ [h]))), (c, .box [.p (.v (.bool false))])] hcl (fun x o hx => hnew x o _ hx) ?_ ?_ ?_ ⟨rfl, rfl⟩⟩
    · simp (disch := first | decide | omega) only [go_sem, ↓reduceIte]; try rfl
    · intro id o ho
      rcases get_cons_cases ho with ⟨rfl, rfl⟩ | ho
      · simp (disch := first | decide | omega) only [go_sem, ↓reduceIte]; try rfl
      rcases get_cons_cases ho with ⟨rfl, rfl⟩ | ho
      · simp (disch := first | decide | omega) only [go_sem, ↓reduceIte]; first | done | rfl | exact hcB
      · cases ho
    · intro id o hid hno ho
      have e1 : id ≠ e := by rintro rfl; rw [AL.get_eq] at hno; cases hno
      rw [AL.get_ne _ _ e1] at hno
      have e2 : id ≠ c := by rintro rfl; rw [AL.get_eq] at hno; cases hno
      simp (disch := first | decide | omega) only [go_sem, ↓reduceIte]
      exact ho
  · have hno0 : ∀ v, ¬ (lastI S T P).yes (.int .i64 (hs : Int)) v := by
      rintro v ⟨k, v1, h1, hk, rfl⟩
      have hk := (val_inj hk).symm
      subst hk
      rw [hlv] at h1; cases h1
    (repeat (first | apply aw_seq | apply aw_block | apply aw_skip | apply aw_label | apply aw_exit | ((first | refine aw_region (hideO fun QQ hQQ => ?_) | refine aw_draw mixed (hideD fun QQ hQQ => ?_)); simp (maxSteps := 400000) (disch := first | decide | omega) only [ha, hb, hcB, hd, he, haT, haS, go_sem, ↓reduceIte]; try (first | with_reducible refine unhide hQQ ?_ | refine ⟨by kernel_rfl, unhide hQQ ?_⟩); clear hQQ QQ) | with_reducible first | apply then_n | apply block_n | apply then_x | apply then_r | apply nog_n | apply nog_r | apply block_r | apply block_e (by decide) | apply block_x (by decide)))
    refine ⟨rfl, .inr ⟨rfl, callS_lookupK (kv := .int .i64 (hs : Int)) rfl rfl key3 und48 zero3 (by simp (disch := first | decide | omega) only [ha, hb, hcB, hd, he, haT, haS, go_sem, ↓reduceIte]; try rfl) (by simp (disch := first | decide | omega) only [ha, hb, hcB, hd, he, haT, haS, go_sem, ↓reduceIte]; try rfl) (by simp (disch := first | decide | omega) only [ha, hb, hcB, hd, he, haT, haS, go_sem, ↓reduceIte]; try rfl) hkey (fun v hv => absurd hv (hno0 v)) ?_⟩⟩
    intro hno
    refine ⟨_, relR_int _, ?_⟩
    (simp (maxSteps := 400000) (disch := first | decide | omega) only [ha, hb, hcB, hd, he, haT, haS, go_sem, ↓reduceIte]; (try (with_reducible refine unhide hQQ ?_; clear hQQ QQ; (repeat with_reducible first | apply then_n | apply block_n | apply then_x | apply then_r | apply nog_n | apply nog_r | apply block_r | apply block_e (by decide) | apply block_x (by decide)))))
    (repeat (first | apply aw_seq | apply aw_block | apply aw_skip | apply aw_label | apply aw_exit | ((first | refine aw_region (hideO fun QQ hQQ => ?_) | refine aw_draw mixed (hideD fun QQ hQQ => ?_)); simp (maxSteps := 400000) (disch := first | decide | omega) only [ha, hb, hcB, hd, he, haT, haS, go_sem, ↓reduceIte]; try (first | with_reducible refine unhide hQQ ?_ | refine ⟨by kernel_rfl, unhide hQQ ?_⟩); clear hQQ QQ) | with_reducible first | apply then_n | apply block_n | apply then_x | apply then_r | apply nog_n | apply nog_r | apply block_r | apply block_e (by decide) | apply block_x (by decide)))
    refine ⟨rfl, .inr ⟨rfl, callS_updateK (kv := .int .i64 (hs : Int)) (vv := .int .i64 (ht : Int)) rfl rfl key3 und48 (lastI S T (P ++ [h])) (by simp (disch := first | decide | omega) only [ha, hb, hcB, hd, he, haT, haS, go_sem, ↓reduceIte]; try rfl) (by simp (disch := first | decide | omega) only [ha, hb, hcB, hd, he, haT, haS, go_sem, ↓reduceIte]; try rfl) (by simp (disch := first | decide | omega) only [ha, hb, hcB, hd, he, haT, haS, go_sem, ↓reduceIte]; try rfl) (by simp (disch := first | decide | omega) only [ha, hb, hcB, hd, he, haT, haS, go_sem, ↓reduceIte]; try rfl) hkey hI1 hI2 hI3 ?_⟩⟩
    (simp (maxSteps := 400000) (disch := first | decide | omega) only [ha, hb, hcB, hd, he, haT, haS, go_sem, ↓reduceIte]; (try (with_reducible refine unhide hQQ ?_; clear hQQ QQ; (repeat with_reducible first | apply then_n | apply block_n | apply then_x | apply then_r | apply nog_n | apply nog_r | apply block_r | apply block_e (by decide) | apply block_x (by decide)))))
    (repeat (first | apply aw_seq | apply aw_block | apply aw_skip | apply aw_label | apply aw_exit | ((first | refine aw_region (hideO fun QQ hQQ => ?_) | refine aw_draw mixed (hideD fun QQ hQQ => ?_)); simp (maxSteps := 400000) (disch := first | decide | omega) only [ha, hb, hcB, hd, he, haT, haS, go_sem, ↓reduceIte]; try (first | with_reducible refine unhide hQQ ?_ | refine ⟨by kernel_rfl, unhide hQQ ?_⟩); clear hQQ QQ) | with_reducible first | apply then_n | apply block_n | apply then_x | apply then_r | apply nog_n | apply nog_r | apply block_r | apply block_e (by decide) | apply block_x (by decide)))
    refine ⟨.inl rfl, left_app [(e, .memo Try.prog 3 (lastI S T (P ++ [h]))), (c, .box [.p (.v (.bool true))])] hcl (fun x o hx => hnew x o _ hx) ?_ ?_ ?_ ⟨rfl, rfl⟩⟩
    · simp (disch := first | decide | omega) only [go_sem, ↓reduceIte]; try rfl
    · intro id o ho
      rcases get_cons_cases ho with ⟨rfl, rfl⟩ | ho
      · simp (disch := first | decide | omega) only [go_sem, ↓reduceIte]; try rfl
      rcases get_cons_cases ho with ⟨rfl, rfl⟩ | ho
      · simp (disch := first | decide | omega) only [go_sem, ↓reduceIte]; first | done | rfl | exact hcB
      · cases ho
    · intro id o hid hno ho
      have e1 : id ≠ e := by rintro rfl; rw [AL.get_eq] at hno; cases hno
      rw [AL.get_ne _ _ e1] at hno
      have e2 : id ≠ c := by rintro rfl; rw [AL.get_eq] at hno; cases hno
      simp (disch := first | decide | omega) only [go_sem, ↓reduceIte]
      exact ho
  · rename_i v0
    have eok : okV (some v0) ht = ((v0 : Int) == (ht : Int)) := by
      show Nat.beq v0 ht = _
      by_cases e : v0 = ht
      · subst e; rw [beq_self_eq_true]; exact Nat.beq_refl _
      · have e2 : ((v0 : Int) == (ht : Int)) = false := by rw [beq_eq_false_iff_ne]; omega
        rw [e2]
        cases hq : Nat.beq v0 ht with
        | false => rfl
        | true => exact absurd (Nat.eq_of_beq_eq_true hq) e
    try rw [eok]
    have hv0 : ∀ v, (lastI S T P).yes (.int .i64 (hs : Int)) v → v = .int .i64 (v0 : Int) := by
      rintro v ⟨k, v1, h1, hk, rfl⟩
      have hk := (val_inj hk).symm
      subst hk
      rw [hlv] at h1; cases h1; rfl
    have hno0 : ¬ ∀ b, ¬ (lastI S T P).all (.int .i64 (hs : Int)) b := fun hno => hno _ ⟨hs, v0, hlv, rfl, rfl⟩
    (repeat (first | apply aw_seq | apply aw_block | apply aw_skip | apply aw_label | apply aw_exit | ((first | refine aw_region (hideO fun QQ hQQ => ?_) | refine aw_draw mixed (hideD fun QQ hQQ => ?_)); simp (maxSteps := 400000) (disch := first | decide | omega) only [ha, hb, hcB, hd, he, haT, haS, go_sem, ↓reduceIte]; try (first | with_reducible refine unhide hQQ ?_ | refine ⟨by kernel_rfl, unhide hQQ ?_⟩); clear hQQ QQ) | with_reducible first | apply then_n | apply block_n | apply then_x | apply then_r | apply nog_n | apply nog_r | apply block_r | apply block_e (by decide) | apply block_x (by decide)))
    refine ⟨rfl, .inr ⟨rfl, callS_lookupK (kv := .int .i64 (hs : Int)) rfl rfl key3 und48 zero3 (by simp (disch := first | decide | omega) only [ha, hb, hcB, hd, he, haT, haS, go_sem, ↓reduceIte]; try rfl) (by simp (disch := first | decide | omega) only [ha, hb, hcB, hd, he, haT, haS, go_sem, ↓reduceIte]; try rfl) (by simp (disch := first | decide | omega) only [ha, hb, hcB, hd, he, haT, haS, go_sem, ↓reduceIte]; try rfl) hkey ?_ (fun hno => absurd hno hno0)⟩⟩
    intro v hv
    obtain rfl := hv0 v hv
    refine ⟨_, relR_int _, ?_⟩
    (simp (maxSteps := 400000) (disch := first | decide | omega) only [ha, hb, hcB, hd, he, haT, haS, go_sem, ↓reduceIte]; (try (with_reducible refine unhide hQQ ?_; clear hQQ QQ; (repeat with_reducible first | apply then_n | apply block_n | apply then_x | apply then_r | apply nog_n | apply nog_r | apply block_r | apply block_e (by decide) | apply block_x (by decide)))))
    (repeat (first | apply aw_seq | apply aw_block | apply aw_skip | apply aw_label | apply aw_exit | ((first | refine aw_region (hideO fun QQ hQQ => ?_) | refine aw_draw mixed (hideD fun QQ hQQ => ?_)); simp (maxSteps := 400000) (disch := first | decide | omega) only [ha, hb, hcB, hd, he, haT, haS, go_sem, ↓reduceIte]; try (first | with_reducible refine unhide hQQ ?_ | refine ⟨by kernel_rfl, unhide hQQ ?_⟩); clear hQQ QQ) | with_reducible first | apply then_n | apply block_n | apply then_x | apply then_r | apply nog_n | apply nog_r | apply block_r | apply block_e (by decide) | apply block_x (by decide)))
    refine ⟨rfl, .inr ⟨rfl, callS_updateK (kv := .int .i64 (hs : Int)) (vv := .int .i64 (ht : Int)) rfl rfl key3 und48 (lastI S T (P ++ [h])) (by simp (disch := first | decide | omega) only [ha, hb, hcB, hd, he, haT, haS, go_sem, ↓reduceIte]; try rfl) (by simp (disch := first | decide | omega) only [ha, hb, hcB, hd, he, haT, haS, go_sem, ↓reduceIte]; try rfl) (by simp (disch := first | decide | omega) only [ha, hb, hcB, hd, he, haT, haS, go_sem, ↓reduceIte]; try rfl) (by simp (disch := first | decide | omega) only [ha, hb, hcB, hd, he, haT, haS, go_sem, ↓reduceIte]; try rfl) hkey hI1 hI2 hI3 ?_⟩⟩
    (simp (maxSteps := 400000) (disch := first | decide | omega) only [ha, hb, hcB, hd, he, haT, haS, go_sem, ↓reduceIte]; (try (with_reducible refine unhide hQQ ?_; clear hQQ QQ; (repeat with_reducible first | apply then_n | apply block_n | apply then_x | apply then_r | apply nog_n | apply nog_r | apply block_r | apply block_e (by decide) | apply block_x (by decide)))))
    (repeat (first | apply aw_seq | apply aw_block | apply aw_skip | apply aw_label | apply aw_exit | ((first | refine aw_region (hideO fun QQ hQQ => ?_) | refine aw_draw mixed (hideD fun QQ hQQ => ?_)); simp (maxSteps := 400000) (disch := first | decide | omega) only [ha, hb, hcB, hd, he, haT, haS, go_sem, ↓reduceIte]; try (first | with_reducible refine unhide hQQ ?_ | refine ⟨by kernel_rfl, unhide hQQ ?_⟩); clear hQQ QQ) | with_reducible first | apply then_n | apply block_n | apply then_x | apply then_r | apply nog_n | apply nog_r | apply block_r | apply block_e (by decide) | apply block_x (by decide)))
    refine ⟨.inl rfl, left_app [(e, .memo Try.prog 3 (lastI S T (P ++ [h]))), (c, .box [.p (.v (.bool ((v0 : Int) == (ht : Int))))])] hcl (fun x o hx => hnew x o _ hx) ?_ ?_ ?_ ⟨rfl, rfl⟩⟩
    · simp (disch := first | decide | omega) only [go_sem, ↓reduceIte]; try rfl
    · intro id o ho
      rcases get_cons_cases ho with ⟨rfl, rfl⟩ | ho
      · simp (disch := first | decide | omega) only [go_sem, ↓reduceIte]; try rfl
      rcases get_cons_cases ho with ⟨rfl, rfl⟩ | ho
      · simp (disch := first | decide | omega) only [go_sem, ↓reduceIte]; first | done | rfl | exact hcB
      · cases ho
    · intro id o hid hno ho
      have e1 : id ≠ e := by rintro rfl; rw [AL.get_eq] at hno; cases hno
      rw [AL.get_ne _ _ e1] at hno
      have e2 : id ≠ c := by rintro rfl; rw [AL.get_eq] at hno; cases hno
      simp (disch := first | decide | omega) only [go_sem, ↓reduceIte]
      exact ho
noncomputable def obO (S T : Nat) (P : List (Nat × Nat)) : List (Nat × Obj') := [(3, .memo Try.prog 3 (lastI S T (P.map (·.2)))), (5, .box [.p (.v (.bool (okL S T (P.map (·.2)))))])]
theorem obO_get {S T : Nat} {P : List (Nat × Nat)} {id : Nat} {o : Obj'} (h : AL.get (obO S T P) id = some o) : (id = 3 ∧ .memo Try.prog 3 (lastI S T (P.map (·.2))) = o) ∨ (id = 5 ∧ .box [.p (.v (.bool (okL S T (P.map (·.2)))))] = o) := by
  rcases get_cons_cases h with h | h
  · exact .inl h
  rcases get_cons_cases h with h | h
  · exact .inr h
  · rw [AL.get_nil] at h; cases h
theorem step_open (hB : BOK N L U T bales tests) {S : Nat} (hS : S < 64) {hp0 : List (Nat × Obj')} {nx0 : Nat} (hd0 : AL.get hp0 0 = some (.box (buC N L U T bales tests))) (hd2 : AL.get hp0 2 = some (.box [.p (iP S)])) (hd4 : AL.get hp0 4 = some (.box [.memo 3])) (hn0 : 5 < nx0) (K : Kx) (st : St) (P : List (Nat × Nat)) (m h : Nat) (hK : K.P = Try.prog) (hpre : (P ++ [(m, h)]) <+: TR N L U bales tests) (hH : HPof (obO S T) [3, 5] hp0 nx0 P st.hp) :
    CallF K 42 ([.one (.p (iP m)), .one (.p (iP h))] ++ [.box 4, .box 2, .box 5, .box 0].map capV) st fun st' av => av = .tup [] ∧ st'.fr = st.fr ∧ st'.nx = st.nx ∧ (∀ id o, AL.get (obO S T (P ++ [(m, h)])) id = some o → AL.get st'.hp id = some o) ∧ ∀ id, id ∉ [3, 5] → AL.get st'.hp id = AL.get st.hp id := by
  obtain ⟨P', Z, w0, cap, nt, rd, pan, df, dk, rg⟩ := K
  obtain rfl : P' = Try.prog := hK
  obtain ⟨fr, hp, nx⟩ := st
  obtain ⟨p1, p2, p3, p4⟩ := pre_lt hB hpre
  have g3 := hH.1 3 _ rfl
  have g5 := hH.1 5 _ rfl
  have g0 := hH.2 0 _ (by omega) (by decide) hd0
  have g2 := hH.2 2 _ (by omega) (by decide) hd2
  have g4 := hH.2 4 _ (by omega) (by decide) hd4
  have e : obO S T (P ++ [(m, h)]) = [(3, .memo Try.prog 3 (lastI S T (P.map (·.2) ++ [h]))), (5, .box [.p (.v (.bool (okL S T (P.map (·.2)) && okV (lastV S T (h &&& S) (P.map (·.2))) (h &&& T))))])] := by
    unfold obO
    rw [List.map_append]
    simp only [List.map_cons, List.map_nil, okL_snoc]
  refine (c_open42 (N := N) (L := L) (U := U) (T := T) (bales := bales) (tests := tests) p2 (by have := hB.tp; have := pow64 hB.b6; omega) hS g4 g2 g5 g0 g3 (by decide)).mono ?_
  rintro _ _ ⟨rfl, rfl⟩
  refine ⟨rfl, rfl, rfl, fun id o ho => ?_, fun id hid => ?_⟩
  · rw [e] at ho
    rw [AL_append, ho]
  · simp only [List.mem_cons, List.mem_nil_iff, or_false, not_or] at hid
    rw [AL_append, AL.get_ne _ _ hid.1, AL.get_ne _ _ hid.2, AL.get_nil]
theorem s_open41 (hB : BOK N L U T bales tests) {S : Nat} (hS : S < 64) :
    FunS Try.prog 41 [.one (.p (iP S)), .one (.box 0 0)] [(0, .box (buC N L U T bales tests))] 1 (.one (.one (.v (.bool (tlB N L U T bales tests S))))) := by
  have hst := fun hp0 nx0 hd0 hd2 hd4 hn0 => step_open hB hS (hp0 := hp0) (nx0 := nx0) hd0 hd2 hd4 hn0
  have htl : tlB N L U T bales tests S = okL S T ((TR N L U bales tests).map (·.2)) := okL_iff.symm
  rw [htl]
  unfold buC at hst ⊢
  refine funS_ok (nt := 11) (rs := [.tmp 3]) Try.func41 rfl rfl rfl (by simp) fun Z w0 cap pan dk tm => ?_; simp only [initV, pins, pinOf, List.map_cons, List.map_nil]
  refine tw ?_; try with_reducible intro QQ hQQ
  refine ⟨rfl, .inr ⟨rfl, callS_makeMap rfl rfl 3 (lastI S T []) (fun a b h => by obtain ⟨_, _, h, _⟩ := h; cases h) ?_⟩⟩
  (refine ts ?_; try clear hQQ QQ)
  refine tw ?_; try with_reducible intro QQ hQQ
  refine callS_ok rfl rfl 39 (by simp (disch := first | decide | omega) only [go_sem, ↓reduceIte]; try rfl) (by simp (disch := first | decide | omega) only [go_sem, ↓reduceIte]; try rfl) Try.func39 rfl (by decide) (CallF.mono (c_every hB Try.func42 rfl (by decide) (obO S T) [3, 5] (caps := [.box 4, .box 2, .box 5, .box 0]) ?_ ?_ ?_) ?_)
  · refine ⟨fun P id o h => ?_, fun P id h => ?_, fun id h => ?_, fun P id o h => ?_⟩
    · rcases obO_get h with ⟨rfl, _⟩ | ⟨rfl, _⟩ <;> decide
    · simp only [List.mem_cons, List.mem_nil_iff, or_false] at h
      rcases h with rfl | rfl <;> exact ⟨_, rfl⟩
    · simp only [List.mem_cons, List.mem_nil_iff, or_false] at h
      rcases h with rfl | rfl <;> exact ⟨_, rfl⟩
    · rcases obO_get h with ⟨_, rfl⟩ | ⟨_, rfl⟩ <;> exact ⟨rfl, fun _ _ h => by cases h⟩
  · intro id o ho
    rcases obO_get ho with ⟨rfl, rfl⟩ | ⟨rfl, rfl⟩ <;> rfl
  · exact hst _ _ rfl rfl rfl (by decide)
  rintro _ _ ⟨rfl, rfl⟩
  simp only [obO, List.cons_append, List.nil_append]
  (refine ts ?_; try clear hQQ QQ)
  refine tw ?_; try with_reducible intro QQ hQQ
  (refine aw_ret ⟨.inr rfl, (by simp (maxSteps := 400000) (disch := first | decide | omega) only [go_sem, ↓reduceIte]; try rfl), (by simp (maxSteps := 400000) (disch := first | decide | omega) only [go_sem, ↓reduceIte]; try rfl), (by simp only [List.mem_cons, List.mem_nil_iff, forall_eq_or_imp, forall_eq, false_imp_iff, implies_true, or_false, and_true]; simp (maxSteps := 400000) (disch := first | decide | omega) only [go_sem, ↓reduceIte]; try exact ⟨rfl, rfl⟩)⟩)
end
end Go.Proofs.Ytknikcpeacmpmaa
