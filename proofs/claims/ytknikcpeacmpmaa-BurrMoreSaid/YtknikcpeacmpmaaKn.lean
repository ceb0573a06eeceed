/- Kn: texts joined (BvT BvU BvV BvW). -/
import Derived.Test.YtknikcpeacmpmaaBvS
import Derived.Test.YtknikcpeacmpmaaKm
import Derived.Test.YtknikcpeacmpmaaBvR
import Derived.Test.YtknikcpeacmpmaaKe
set_option linter.all false
/- burr: whether the top line is clean, walked. -/
namespace Go.Proofs.Ytknikcpeacmpmaa
open Go Go.RowKit Go.Sh Go.Pv
set_option maxHeartbeats 8000000
set_option maxRecDepth 8000
set_option pp.maxSteps 60000
/-- Where the first is that is so, or -1. -/
def idxF (p : Nat → Bool) (l : List Nat) : Int := if l.any p = true then ((l.findIdx p : Nat) : Int) else -1
theorem findIdx_of {p : Nat → Bool} {l : List Nat} {i : Nat} (hi : i < l.length) (h : ∀ k, k < i → p (l.getD k 0) = false) (hp : p (l.getD i 0) = true) : idxF p l = i := by
  have e : ∀ k, k < l.length → l.getD k 0 = l[k]! := fun k hk => by simp [List.getD, hk]
  have hg : ∀ k (hk : k < l.length), l.getD k 0 = l[k] := fun k hk => by simp [List.getD, hk]
  have ha : l.any p = true := List.any_eq_true.2 ⟨_, mem_of_getD (d := 0) hi, hp⟩
  unfold idxF
  rw [if_pos ha]
  have : l.findIdx p = i := by
    rw [List.findIdx_eq hi]
    refine ⟨by rw [← hg]; exact hp, fun j hj => ?_⟩
    have := h j hj
    rw [hg j (by omega)] at this
    exact this
  rw [this]
theorem idx_none {p : Nat → Bool} {l : List Nat} (h : ∀ k, k < l.length → p (l.getD k 0) = false) : idxF p l = -1 := by
  unfold idxF
  rw [if_neg]
  intro ha
  obtain ⟨x, hx, hp⟩ := List.any_eq_true.1 ha
  obtain ⟨i, hi, rfl⟩ := List.getElem_of_mem hx
  have := h i hi
  rw [show l.getD i 0 = l[i] by simp [List.getD, hi]] at this
  rw [this] at hp; cases hp
theorem idxF_nonneg {p : Nat → Bool} {l : List Nat} : decide ((0 : Int) ≤ idxF p l) = l.any p := by
  unfold idxF
  cases l.any p with
  | true => rw [if_pos rfl]; exact decide_eq_true (by omega)
  | false => rfl
attribute [local go_sem] rowN rowsK_rN get_someN
theorem ok_index (l : List Nat) (hl : l.length ≤ 100000) (c : Int) : FunOK Try.prog 91 [.one (.sl (l.map rowN)), .one (iP c)] (.one (.one (iP (idxF (fun x => decide (c = (x : Int))) l)))) := by
  refine fun_ok (nt := 19) (rs := [.tmp 4]) Try.func91 rfl rfl rfl (by simp) fun Z w0 => ?_; simp only [initFr, avR, List.map_cons, List.map_nil]
  refine tw ?_; try with_reducible intro QQ hQQ
  refine aw_weak (weak_keep [0, 1, 7, 8] (by simp only [go_sem, ↓reduceIte]; rfl)) ?_
  refine aw_loop_ov (ι := { i : Nat // i ≤ l.length ∧ ∀ k, k < i → decide (c = ((l.getD k 0 : Nat) : Int)) = false }) (fun i => [(8, iA i.1)]) (fun _ => []) (fun i => l.length - i.1) ⟨0, by omega, fun k hk => absurd hk (by omega)⟩ (by first | rfl | (simp only [go_sem, ↓reduceIte]; first | done | rfl | (simp; try rfl))) ?_
  rintro ⟨i, hi, hik⟩
  simp (disch := decide) only [ov, ovL, AL.get_nil, AL.get_eq, AL.get_ne, Option.getD_some, Option.getD_none]
  by_cases hil : i < l.length
  · by_cases hx : c = ((l.getD i 0 : Nat) : Int)
    · have hidx := findIdx_of (p := fun x => decide (c = (x : Int))) hil hik (decide_eq_true hx)
      rw [hidx]
      clear hik hidx
      refine tw ?_; try with_reducible intro QQ hQQ
      refine ti ?_; try clear hQQ QQ
      refine tw ?_; try with_reducible intro QQ hQQ
      refine ti ?_; try clear hQQ QQ
      refine tw ?_; try with_reducible intro QQ hQQ
      refine aw_ret ?_; refine ⟨.inr rfl, ?_⟩; simp only [resA, res1, go_sem, ↓reduceIte]
    · have hnx : ∀ k, k < i + 1 → decide (c = ((l.getD k 0 : Nat) : Int)) = false := fun k hk => by
        by_cases e : k = i
        · rw [e]; exact decide_eq_false hx
        · exact hik k (by omega)
      clear hik
      refine tw ?_; try with_reducible intro QQ hQQ
      refine ti ?_; try clear hQQ QQ
      refine tw ?_; try with_reducible intro QQ hQQ
      refine ti ?_; try clear hQQ QQ
      refine tw ?_; try with_reducible intro QQ hQQ
      (refine ⟨⟨i + 1, by omega, hnx⟩, ?_, weak_round (by simp only [go_sem, ↓reduceIte]; first | done | rfl) (by first | rfl | (simp only [go_sem, ↓reduceIte]))⟩; (simp only; omega))
  · have hie : i = l.length := by omega
    subst hie
    rw [idx_none hik]
    clear hik
    refine tw ?_; try with_reducible intro QQ hQQ
    refine ti ?_; try clear hQQ QQ
    refine tw ?_; try with_reducible intro QQ hQQ
    refine aw_ret ?_; refine ⟨.inr rfl, ?_⟩; simp only [resA, res1, go_sem, ↓reduceIte]
theorem ok_contains (l : List Nat) (hl : l.length ≤ 100000) (c : Int) : FunOK Try.prog 59 [.one (.sl (l.map rowN)), .one (iP c)] (.one (.one (.v (.bool (l.any fun x => decide (c = (x : Int))))))) := by
  have h := ok_index l hl c
  have hn := idxF_nonneg (p := fun x => decide (c = (x : Int))) (l := l)
  generalize idxF (fun x => decide (c = (x : Int))) l = v at *
  refine fun_ok (nt := 9) (rs := [.tmp 4]) Try.func59 rfl rfl rfl (by simp) fun Z w0 => ?_; simp only [initFr, avR, List.map_cons, List.map_nil]
  refine tw ?_; try with_reducible intro QQ hQQ
  ((refine cO 91 rfl rfl rfl (h) Try.func91 rfl ?_); refine tu ?_; try clear hQQ QQ); refine tw ?_; try with_reducible intro QQ hQQ
  refine aw_ret ?_; refine ⟨.inr rfl, ?_⟩; simp only [resA, res1, go_sem, ↓reduceIte]
  rw [← hn]
end Go.Proofs.Ytknikcpeacmpmaa
/- burr: predicates that are called for each of some sets. -/
namespace Go.Proofs.Ytknikcpeacmpmaa
open Go Go.RowKit Go.Sh Go.Pv
set_option maxHeartbeats 8000000
set_option maxRecDepth 8000
set_option pp.maxSteps 60000
/-- A value that, called with any of some sets, tells whether it is so, and leaves all as it is. -/
def PredC (ac : AC) (p : Nat → Bool) (l : List Nat) (hp0 : List (Nat × Obj')) (nx0 : Nat) : Prop :=
  ∀ (K : Kx) (st : St) (o : Oper) (f arg : Operand) (argTypes : Array TypeId) (x : Nat) (Q : St → Prop), K.P = Try.prog → x ∈ l → dstOK K o.dst = true → o.op = .call { callee := .value f, args := #[arg], argTypes := argTypes } → evalA (AL.get st.fr) f = some (.one ac) → evalA (AL.get st.fr) arg = some (.one (.p (iP x))) →
    (∀ id ob, id < nx0 → AL.get hp0 id = some ob → AL.get st.hp id = some ob) → Q (st.put o.dst (.one (.p (.v (.bool (p x)))))) → CallS K st o Q
/-- A function. -/
theorem pred_fn {g : FuncId} {gn : Func} {p : Nat → Bool} {l : List Nat} {hp0 : List (Nat × Obj')} {nx0 : Nat} (h5 : Try.prog.funcs[g]? = some gn) (h6 : gn.body.isSome = true) (h7 : gn.name ≠ "runtime.NumGoroutine") (hf : ∀ x ∈ l, FunOK Try.prog g [.one (iP x)] (.one (.one (.v (.bool (p x)))))) : PredC (.fn g []) p l hp0 nx0 := by
  intro K st o f arg argTypes x Q hK hx hd ho h1 h2 _ hQ
  obtain ⟨P, Z, w0, cap, nt, rd, pan, df, dk, rg⟩ := K
  dsimp only at hK
  subst hK
  refine callS_data (any := true) hd (by rw [ho]; intro c hc; cases hc) (fid := g) (rvs := [.one (iP x)]) (fun σ a w hr => ?_) (fun _ => rfl) (hf x hx) hQ
  obtain ⟨us, hus, hs0, _⟩ := hr.evF f _ h1
  have hz : us = #[] := Array.eq_empty_of_size_eq_zero (by simpa using hs0)
  subst hz
  have harg := hr.evF arg _ h2
  refine ⟨#[a.eval arg], ?_, rfl, fun j r hj => ?_⟩
  · simp [execOp, ho, resolve, invoke, hus, Deferred.ofValue, run_callFunc h5 h6 h7]
  · rcases j with _ | j
    · simp at hj; subst hj; exact ⟨_, rfl, RelP.mono (fun _ _ _ hz hc => ⟨.inl hz, hc⟩) harg⟩
    · simp at hj
/-- A bound function. -/
theorem pred_bfn {g : FuncId} {gn : Func} {r0 : RV} {p : Nat → Bool} {l : List Nat} {hp0 : List (Nat × Obj')} {nx0 : Nat} (h5 : Try.prog.funcs[g]? = some gn) (h6 : gn.body.isSome = true) (h7 : gn.name ≠ "runtime.NumGoroutine") (hf : ∀ x ∈ l, FunOK Try.prog g [r0, .one (iP x)] (.one (.one (.v (.bool (p x)))))) : PredC (.bfn g [r0]) p l hp0 nx0 := by
  intro K st o f arg argTypes x Q hK hx hd ho h1 h2 _ hQ
  obtain ⟨P, Z, w0, cap, nt, rd, pan, df, dk, rg⟩ := K
  dsimp only at hK
  subst hK
  exact callS_bound (any := false) hd ho g h1 (rvs := [.one (iP x)]) (by simp [arg1, h2, rvA, pvA]) h5 h6 h7 (fun h => by cases h) (hf x hx) hQ
/-- A closure, by its contract. -/
theorem pred_clo {g : FuncId} {gn : Func} {caps : List CC} {p : Nat → Bool} {l : List Nat} {hp0 : List (Nat × Obj')} {nx0 : Nat} (h5 : Try.prog.funcs[g]? = some gn) (h6 : gn.body.isSome = true) (h7 : gn.name ≠ "runtime.NumGoroutine")
    (hf : ∀ (K : Kx) (st : St) (x : Nat), K.P = Try.prog → x ∈ l → (∀ id ob, id < nx0 → AL.get hp0 id = some ob → AL.get st.hp id = some ob) → CallF K g ([.one (.p (iP x))] ++ caps.map capV) st fun st' av => st' = st ∧ av = .one (.p (.v (.bool (p x))))) : PredC (.fn g caps) p l hp0 nx0 := by
  intro K st o f arg argTypes x Q hK hx hd ho h1 h2 hh hQ
  have hf := hf K st x hK hx hh
  obtain ⟨P, Z, w0, cap, nt, rd, pan, df, dk, rg⟩ := K
  dsimp only at hK
  subst hK
  refine callS_of hd ho g (caps := caps) (avs := [.one (.p (iP x))]) (by rw [h1]; rfl) (by simp [mapO, h2]) h5 h6 h7 (hf.mono ?_)
  rintro _ _ ⟨rfl, rfl⟩
  exact hQ
theorem PredC.mono {ac : AC} {p : Nat → Bool} {l : List Nat} {hp0 hp1 : List (Nat × Obj')} {nx0 nx1 : Nat} (h : PredC ac p l hp0 nx0) (hh : ∀ id ob, id < nx0 → AL.get hp0 id = some ob → id < nx1 ∧ AL.get hp1 id = some ob) : PredC ac p l hp1 nx1 :=
  fun K st o f arg argTypes x Q h1 h2 h3 h4 h5 h6 h7 h8 => h K st o f arg argTypes x Q h1 h2 h3 h4 h5 h6 (fun id ob hi ho => let ⟨g1, g2⟩ := hh id ob hi ho; h7 id ob g1 g2) h8
attribute [local go_sem] rowN rowsK_rN get_someN
section
variable {Z : Zn} {w0 : World} {cap : Nat → Prop} {nt : Nat} {rd : Option Nat} {pan : List PanicEntry → St → Prop} {df : Option Nat} {dk : List Nat} {rg : Bool} {fr : List (Nat × AV)} {hp : List (Nat × Obj')} {nx : Nat}
theorem c_indexF {ac : AC} {p : Nat → Bool} {l : List Nat} (hl : l.length ≤ 100000) (hp1 : PredC ac p l hp nx) :
    CallF ⟨Try.prog, Z, w0, cap, nt, rd, pan, df, dk, rg⟩ 92 [.one (.p (.sl (l.map rowN))), .one ac] ⟨fr, hp, nx⟩ fun st' av => st' = ⟨fr, hp, nx⟩ ∧ av = .one (.p (iP (idxF p l))) := by
  (refine callF_to (nt := 19) (rs := [.tmp 4]) Try.func92 rfl rfl rfl (by simp) fun hcl tm Ds => ?_); simp only [initV]
  dsimp only [Kx.calleeT]
  have hlt := hcl.lt
  dsimp only at hlt
  refine tw ?_; try with_reducible intro QQ hQQ
  refine aw_weak (weak_thr [0, 1, 7, 8] (by simp only [go_sem, ↓reduceIte]; rfl)) ?_
  let FX : List (Nat × Obj') → Nat → Prop := fun hpX nxX => nx < nxX ∧ AL.get hpX nx = some (.kept fr tm) ∧ ∀ id o, id < nx → AL.get hp id = some o → AL.get hpX id = some o
  have hfin : ∀ {hpX : List (Nat × Obj')} {nxX : Nat} {v : Int}, FX hpX nxX → v = idxF p l → AL.get hpX nx = some (.kept fr tm) ∧ ∃ T : St, T.fr = fr ∧ Closed T ∧ (∀ id o, AL.get T.hp id = some o → AL.get hpX id = some o) ∧ There (AL.get T.hp) (refsV (.one (.p (iP v)))) ∧ T = ⟨fr, hp, nx⟩ ∧ (AV.one (.p (iP v)) : AV) = .one (.p (iP (idxF p l))) := by
    intro hpX nxX v ⟨g0, g1, g2⟩ hv
    exact ⟨g1, ⟨fr, hp, nx⟩, rfl, hcl, fun id o ho => g2 id o (hlt id o ho) ho, fun i hi => (by cases hi), rfl, by rw [hv]⟩
  refine aw_loop_hp (ι := { i : Nat // i ≤ l.length ∧ ∀ k, k < i → p (l.getD k 0) = false }) (fun i => [(8, iA i.1)]) (fun _ => FX) (fun i => l.length - i.1) ⟨0, by omega, fun k hk => absurd hk (by omega)⟩ (by first | rfl | (simp only [go_sem, ↓reduceIte]; rfl)) ?_ ?_
  · exact ⟨by dsimp only; omega, by simp (disch := first | decide | omega) only [go_sem, ↓reduceIte]; try rfl, fun id o hl h => by simp (disch := first | decide | omega) only [go_sem, ↓reduceIte]; exact h⟩
  rintro ⟨i, hi, hik⟩ hpX nxX hFX
  obtain ⟨f0, f1, f2⟩ := id hFX
  simp (disch := decide) only [ov, ovL, AL.get_nil, AL.get_eq, AL.get_ne, Option.getD_some, Option.getD_none]
  by_cases hil : i < l.length
  · have hmem := mem_of_getD (d := 0) hil
    have hfi := fun h => findIdx_of (p := p) hil hik h
    have hnx : p (l.getD i 0) = false → ∀ k, k < i + 1 → p (l.getD k 0) = false := fun hx k hk => by
      by_cases e : k = i
      · rw [e]; exact hx
      · exact hik k (by omega)
    clear hik
    (repeat (first | apply aw_seq | apply aw_block | apply aw_skip | apply aw_label | apply aw_exit | ((first | refine aw_region (hideO fun QQ hQQ => ?_) | refine aw_draw mixed (hideD fun QQ hQQ => ?_)); simp (maxSteps := 400000) (disch := first | decide | omega) only [f1, go_sem, ↓reduceIte]; try (first | with_reducible refine unhide hQQ ?_ | refine ⟨by kernel_rfl, unhide hQQ ?_⟩); clear hQQ QQ) | with_reducible first | apply then_n | apply block_n | apply then_x | apply then_r | apply nog_n | apply nog_r | apply block_r | apply block_e (by decide) | apply block_x (by decide)))
    refine aw_cond2 (by simp (disch := first | decide | omega) only [f1, go_sem, ↓reduceIte]; rfl) ?_; first | refine .inl ⟨by first | rfl | exact decide_eq_true (by omega) | exact decide_eq_true (by assumption) | (simp (disch := first | decide | omega) only [if_pos_d, if_neg_d, decide_eq_true_eq, Bool.not_eq_true', decide_eq_false_iff_not]; omega), ?_⟩ | refine .inr ⟨by first | rfl | exact decide_eq_false (by omega) | exact decide_eq_false (by assumption) | (simp (disch := first | decide | omega) only [if_pos_d, if_neg_d, decide_eq_true_eq, Bool.not_eq_true', decide_eq_false_iff_not]; omega), ?_⟩
    (repeat (first | apply aw_seq | apply aw_block | apply aw_skip | apply aw_label | apply aw_exit | ((first | refine aw_region (hideO fun QQ hQQ => ?_) | refine aw_draw mixed (hideD fun QQ hQQ => ?_)); simp (maxSteps := 400000) (disch := first | decide | omega) only [f1, go_sem, ↓reduceIte]; try (first | with_reducible refine unhide hQQ ?_ | refine ⟨by kernel_rfl, unhide hQQ ?_⟩); clear hQQ QQ) | with_reducible first | apply then_n | apply block_n | apply then_x | apply then_r | apply nog_n | apply nog_r | apply block_r | apply block_e (by decide) | apply block_x (by decide)))
    refine ⟨rfl, .inr ⟨rfl, hp1 _ _ _ _ _ _ (l.getD i 0) _ rfl hmem rfl rfl (by simp (disch := first | decide | omega) only [f1, go_sem, ↓reduceIte]; try rfl) (by simp (disch := first | decide | omega) only [f1, go_sem, ↓reduceIte]; try rfl) (by intro id ob h1 h2; simp (disch := first | decide | omega) only [f1, go_sem, ↓reduceIte]; exact f2 id ob h1 h2) ?_⟩⟩
    cases hx : p (l.getD i 0)
    · (simp (maxSteps := 400000) (disch := first | decide | omega) only [f1, go_sem, ↓reduceIte]; (try (with_reducible refine unhide hQQ ?_; clear hQQ QQ; (repeat with_reducible first | apply then_n | apply block_n | apply then_x | apply then_r | apply nog_n | apply nog_r | apply block_r | apply block_e (by decide) | apply block_x (by decide)))))
      (repeat (first | apply aw_seq | apply aw_block | apply aw_skip | apply aw_label | apply aw_exit | ((first | refine aw_region (hideO fun QQ hQQ => ?_) | refine aw_draw mixed (hideD fun QQ hQQ => ?_)); simp (maxSteps := 400000) (disch := first | decide | omega) only [f1, go_sem, ↓reduceIte]; try (first | with_reducible refine unhide hQQ ?_ | refine ⟨by kernel_rfl, unhide hQQ ?_⟩); clear hQQ QQ) | with_reducible first | apply then_n | apply block_n | apply then_x | apply then_r | apply nog_n | apply nog_r | apply block_r | apply block_e (by decide) | apply block_x (by decide)))
      refine aw_cond2 (by simp (disch := first | decide | omega) only [f1, go_sem, ↓reduceIte]; rfl) ?_; first | refine .inl ⟨by first | rfl | exact decide_eq_true (by omega) | exact decide_eq_true (by assumption) | (simp (disch := first | decide | omega) only [if_pos_d, if_neg_d, decide_eq_true_eq, Bool.not_eq_true', decide_eq_false_iff_not]; omega), ?_⟩ | refine .inr ⟨by first | rfl | exact decide_eq_false (by omega) | exact decide_eq_false (by assumption) | (simp (disch := first | decide | omega) only [if_pos_d, if_neg_d, decide_eq_true_eq, Bool.not_eq_true', decide_eq_false_iff_not]; omega), ?_⟩
      (repeat (first | apply aw_seq | apply aw_block | apply aw_skip | apply aw_label | apply aw_exit | ((first | refine aw_region (hideO fun QQ hQQ => ?_) | refine aw_draw mixed (hideD fun QQ hQQ => ?_)); simp (maxSteps := 400000) (disch := first | decide | omega) only [f1, go_sem, ↓reduceIte]; try (first | with_reducible refine unhide hQQ ?_ | refine ⟨by kernel_rfl, unhide hQQ ?_⟩); clear hQQ QQ) | with_reducible first | apply then_n | apply block_n | apply then_x | apply then_r | apply nog_n | apply nog_r | apply block_r | apply block_e (by decide) | apply block_x (by decide)))
      refine ⟨⟨i + 1, by omega, hnx hx⟩, ?_, ?_, ?_⟩
      · simp only; omega
      · exact ⟨by dsimp only; omega, by simp (disch := first | decide | omega) only [f1, go_sem, ↓reduceIte]; try rfl, fun id o hl h => by simp (disch := first | decide | omega) only [f1, go_sem, ↓reduceIte]; exact f2 id o hl h⟩
      · first | rfl | (simp only [f1, go_sem, ↓reduceIte]; rfl)
    · (simp (maxSteps := 400000) (disch := first | decide | omega) only [f1, go_sem, ↓reduceIte]; (try (with_reducible refine unhide hQQ ?_; clear hQQ QQ; (repeat with_reducible first | apply then_n | apply block_n | apply then_x | apply then_r | apply nog_n | apply nog_r | apply block_r | apply block_e (by decide) | apply block_x (by decide)))))
      (repeat (first | apply aw_seq | apply aw_block | apply aw_skip | apply aw_label | apply aw_exit | ((first | refine aw_region (hideO fun QQ hQQ => ?_) | refine aw_draw mixed (hideD fun QQ hQQ => ?_)); simp (maxSteps := 400000) (disch := first | decide | omega) only [f1, go_sem, ↓reduceIte]; try (first | with_reducible refine unhide hQQ ?_ | refine ⟨by kernel_rfl, unhide hQQ ?_⟩); clear hQQ QQ) | with_reducible first | apply then_n | apply block_n | apply then_x | apply then_r | apply nog_n | apply nog_r | apply block_r | apply block_e (by decide) | apply block_x (by decide)))
      refine aw_cond2 (by simp (disch := first | decide | omega) only [f1, go_sem, ↓reduceIte]; rfl) ?_; first | refine .inl ⟨by first | rfl | exact decide_eq_true (by omega) | exact decide_eq_true (by assumption) | (simp (disch := first | decide | omega) only [if_pos_d, if_neg_d, decide_eq_true_eq, Bool.not_eq_true', decide_eq_false_iff_not]; omega), ?_⟩ | refine .inr ⟨by first | rfl | exact decide_eq_false (by omega) | exact decide_eq_false (by assumption) | (simp (disch := first | decide | omega) only [if_pos_d, if_neg_d, decide_eq_true_eq, Bool.not_eq_true', decide_eq_false_iff_not]; omega), ?_⟩
      (repeat (first | apply aw_seq | apply aw_block | apply aw_skip | apply aw_label | apply aw_exit | ((first | refine aw_region (hideO fun QQ hQQ => ?_) | refine aw_draw mixed (hideD fun QQ hQQ => ?_)); simp (maxSteps := 400000) (disch := first | decide | omega) only [f1, go_sem, ↓reduceIte]; try (first | with_reducible refine unhide hQQ ?_ | refine ⟨by kernel_rfl, unhide hQQ ?_⟩); clear hQQ QQ) | with_reducible first | apply then_n | apply block_n | apply then_x | apply then_r | apply nog_n | apply nog_r | apply block_r | apply block_e (by decide) | apply block_x (by decide)))
      refine aw_ret ⟨.inr rfl, _, by simp (disch := first | decide | omega) only [f1, go_sem, ↓reduceIte]; try rfl, hfin hFX (hfi hx).symm⟩
  · have hie : i = l.length := by omega
    subst hie
    have hidx := idx_none hik
    clear hik
    (repeat (first | apply aw_seq | apply aw_block | apply aw_skip | apply aw_label | apply aw_exit | ((first | refine aw_region (hideO fun QQ hQQ => ?_) | refine aw_draw mixed (hideD fun QQ hQQ => ?_)); simp (maxSteps := 400000) (disch := first | decide | omega) only [f1, go_sem, ↓reduceIte]; try (first | with_reducible refine unhide hQQ ?_ | refine ⟨by kernel_rfl, unhide hQQ ?_⟩); clear hQQ QQ) | with_reducible first | apply then_n | apply block_n | apply then_x | apply then_r | apply nog_n | apply nog_r | apply block_r | apply block_e (by decide) | apply block_x (by decide)))
    refine aw_cond2 (by simp (disch := first | decide | omega) only [f1, go_sem, ↓reduceIte]; rfl) ?_; first | refine .inl ⟨by first | rfl | exact decide_eq_true (by omega) | exact decide_eq_true (by assumption) | (simp (disch := first | decide | omega) only [if_pos_d, if_neg_d, decide_eq_true_eq, Bool.not_eq_true', decide_eq_false_iff_not]; omega), ?_⟩ | refine .inr ⟨by first | rfl | exact decide_eq_false (by omega) | exact decide_eq_false (by assumption) | (simp (disch := first | decide | omega) only [if_pos_d, if_neg_d, decide_eq_true_eq, Bool.not_eq_true', decide_eq_false_iff_not]; omega), ?_⟩
    (repeat (first | apply aw_seq | apply aw_block | apply aw_skip | apply aw_label | apply aw_exit | ((first | refine aw_region (hideO fun QQ hQQ => ?_) | refine aw_draw mixed (hideD fun QQ hQQ => ?_)); simp (maxSteps := 400000) (disch := first | decide | omega) only [f1, go_sem, ↓reduceIte]; try (first | with_reducible refine unhide hQQ ?_ | refine ⟨by kernel_rfl, unhide hQQ ?_⟩); clear hQQ QQ) | with_reducible first | apply then_n | apply block_n | apply then_x | apply then_r | apply nog_n | apply nog_r | apply block_r | apply block_e (by decide) | apply block_x (by decide)))
    refine aw_ret ⟨.inr rfl, _, by simp (disch := first | decide | omega) only [go_sem, ↓reduceIte]; try rfl, hfin hFX hidx.symm⟩
theorem c_containsF {ac : AC} {p : Nat → Bool} {l : List Nat} (hl : l.length ≤ 100000) (hp1 : PredC ac p l hp nx) :
    CallF ⟨Try.prog, Z, w0, cap, nt, rd, pan, df, dk, rg⟩ 60 [.one (.p (.sl (l.map rowN))), .one ac] ⟨fr, hp, nx⟩ fun st' av => st' = ⟨fr, hp, nx⟩ ∧ av = .one (.p (.v (.bool (l.any p)))) := by
  have hn := idxF_nonneg (p := p) (l := l)
  (refine callF_to (nt := 9) (rs := [.tmp 4]) Try.func60 rfl rfl rfl (by simp) fun hcl tm Ds => ?_); simp only [initV]
  dsimp only [Kx.calleeT]
  have hlt := hcl.lt
  dsimp only at hlt
  have hp2 : PredC ac p l ((nx, Obj'.kept fr tm) :: hp) (nx + 1) := hp1.mono fun id ob hi ho => ⟨by omega, by rw [AL.get_ne _ _ (by omega)]; exact ho⟩
  refine tw ?_; try with_reducible intro QQ hQQ
  (refine callS_ok rfl rfl 92 (by simp (disch := first | decide | omega) only [go_sem, ↓reduceIte]; try rfl) (by simp (disch := first | decide | omega) only [go_sem, ↓reduceIte]; try rfl) Try.func92 rfl (by decide) ((c_indexF hl hp2).mono ?_)); rintro _ _ ⟨rfl, rfl⟩; refine ts ?_; try clear hQQ QQ
  refine tw ?_; try with_reducible intro QQ hQQ
  rw [hn]
  refine aw_ret ⟨.inr rfl, _, by simp (disch := first | decide | omega) only [go_sem, ↓reduceIte]; try rfl, by simp (disch := first | decide | omega) only [go_sem, ↓reduceIte]; try rfl, ⟨fr, hp, nx⟩, rfl, hcl, fun id o ho => ?_, fun i hi => (by cases hi), rfl, rfl⟩
  have ho : AL.get hp id = some o := ho
  have := hlt id o ho
  simp (disch := first | decide | omega) only [go_sem, ↓reduceIte]
  exact ho
theorem idx_lt {p : Nat → Bool} {l : List Nat} (h : l.any p = true) : ∃ i : Nat, i < l.length ∧ idxF p l = i ∧ l.getD i 0 = firstF p l := by
  refine ⟨l.findIdx p, List.findIdx_lt_length_of_exists (by simpa [List.any_eq_true] using h), ?_, rfl⟩
  unfold idxF
  rw [if_pos h]
theorem c_first {ac : AC} {p : Nat → Bool} {l : List Nat} (hl : l.length ≤ 100000) (hp1 : PredC ac p l hp nx) (h : l.any p = true) :
    CallF ⟨Try.prog, Z, w0, cap, nt, rd, pan, df, dk, rg⟩ 68 [.one (.p (.sl (l.map rowN))), .agg [ac]] ⟨fr, hp, nx⟩ fun st' av => st' = ⟨fr, hp, nx⟩ ∧ av = .one (.p (iP (firstF p l))) := by
  obtain ⟨i, hi, hidx, hfi⟩ := idx_lt h
  have hm := ok_must 4
  (refine callF_to (nt := 17) (rs := [.tmp 4]) Try.func68 rfl rfl rfl (by simp) fun hcl tm Ds => ?_); simp only [initV]
  dsimp only [Kx.calleeT]
  have hlt := hcl.lt
  dsimp only at hlt
  have hp2 : PredC ac p l ((nx + 1, .box [ac]) :: (nx, Obj'.kept fr tm) :: hp) (nx + 1 + 1) := hp1.mono fun id ob hi ho => ⟨by omega, by rw [AL.get_ne _ _ (by omega), AL.get_ne _ _ (by omega)]; exact ho⟩
  have hc92 := fun {Z w0 cap nt rd pan df dk rg fr} => c_indexF (Z := Z) (w0 := w0) (cap := cap) (nt := nt) (rd := rd) (pan := pan) (df := df) (dk := dk) (rg := rg) (fr := fr) hl hp2
  rw [hidx] at hc92
  refine tw ?_; try with_reducible intro QQ hQQ
  (refine callS_ok rfl rfl 92 (by simp (disch := first | decide | omega) only [go_sem, ↓reduceIte]; try rfl) (by simp (disch := first | decide | omega) only [go_sem, ↓reduceIte]; try rfl) Try.func92 rfl (by decide) ((hc92).mono ?_)); rintro _ _ ⟨rfl, rfl⟩; refine ts ?_; try clear hQQ QQ
  refine tw ?_; try with_reducible intro QQ hQQ
  ((refine cO 76 rfl rfl rfl (hm) Try.func76 rfl ?_); refine tu ?_; try clear hQQ QQ); refine tw ?_; try with_reducible intro QQ hQQ
  refine aw_ret ⟨.inr rfl, _, by simp (disch := first | decide | omega) only [go_sem, ↓reduceIte]; try rfl, by simp (disch := first | decide | omega) only [go_sem, ↓reduceIte]; try rfl, ⟨fr, hp, nx⟩, rfl, hcl, fun id o ho => ?_, fun i hi => (by cases hi), rfl, ?_⟩
  · have ho : AL.get hp id = some o := ho
    have := hlt id o ho
    simp (disch := first | decide | omega) only [go_sem, ↓reduceIte]
    exact ho
  · rw [← hfi]
end
end Go.Proofs.Ytknikcpeacmpmaa
/- burr: all sets of so many, the smaller ones first, walked. -/
namespace Go.Proofs.Ytknikcpeacmpmaa
open Go Go.RowKit Go.Sh Go.Pv
set_option maxHeartbeats 8000000
set_option maxRecDepth 8000
set_option pp.maxSteps 60000
/-- A slice of the call's own, of which nothing else holds a part. -/
theorem weak_unshare {K : Kx} {fr : List (Nat × AV)} {t nx : Nat} {E : TypeId} {k : Nat} {rows : List (List PV)} (hfr : ∀ t' av, AL.get fr t' = some av → (∃ v, av = .one (.p (.v v))) ∨ av = .one (.own t rows.length)) (hr : ∀ (i : Nat) (row : List PV) (j : Nat) (c : PV), rows[i]? = some row → row[j]? = some c → ∃ v, c = .v v) :
    Weak K ⟨fr, [(t, .arr E k rows true)], nx⟩ ⟨fr, [(t, .arr E k rows false)], nx⟩ := by
  intro σ a w h
  have hg : ∀ {sh : Bool} {id o}, AL.get [(t, Obj'.arr E k rows sh)] id = some o → id = t ∧ o = .arr E k rows sh := by
    intro sh id o ho
    by_cases e : id = t
    · subst e; rw [AL.get_eq] at ho; cases ho; exact ⟨rfl, rfl⟩
    · rw [AL.get_ne _ _ e] at ho; cases ho
  refine ⟨σ, ⟨fun id o ho => ?_, fun id l hl => ?_, h.heap.inj, h.heap.lt⟩, fun t' av ht => ?_, fun id o ho => ?_, h.df, h.nt, h.frm⟩
  · obtain ⟨rfl, rfl⟩ := hg ho
    obtain ⟨val, xs, h1, h2, h3, h4⟩ := h.heap.objs id (.arr E k rows true) (AL.get_eq _ _ _)
    refine ⟨val, xs, h1, h2, h3, fun i row j c hi hj => ?_⟩
    obtain ⟨u, hu, hru⟩ := h4 i row j c hi hj
    obtain ⟨v, rfl⟩ := hr i row j c hi hj
    cases hru with
    | v _ hv => exact ⟨_, hu, .v _ hv⟩
  · obtain ⟨o, ho⟩ := h.heap.dom id l hl
    obtain ⟨rfl, _⟩ := hg ho
    exact ⟨_, AL.get_eq _ _ _⟩
  · obtain ⟨h1, h2⟩ := h.fr t' av ht
    refine ⟨h1, ?_⟩
    rcases hfr t' av ht with ⟨v, rfl⟩ | rfl
    · cases h2 with
      | v _ hv => exact .v _ hv
    · obtain ⟨E', k', rows', sh', l, g1, g2, g3, g4, g5⟩ := h2
      obtain ⟨_, g⟩ := hg g1
      cases g
      exact ⟨E, k, rows, false, l, AL.get_eq _ _ _, g2, g3, g4, fun hlt => absurd hlt (Nat.lt_irrefl _)⟩
  · obtain ⟨rfl, _⟩ := hg ho
    exact h.lt id _ (AL.get_eq _ _ _)
theorem sets_all : ∀ k, k ≤ 6 → ∃ s0, (List.range (2 ^ k)).map (gt s0) = List.range (2 ^ k) ∧ (List.range (2 ^ k)).map (gt (stabN (2 ^ k) s0)) = setsL k := by
  intro k hk
  rcases (show k = 0 ∨ k = 1 ∨ k = 2 ∨ k = 3 ∨ k = 4 ∨ k = 5 ∨ k = 6 by omega) with rfl | rfl | rfl | rfl | rfl | rfl | rfl
  · exact ⟨_, by kernel_rfl, by rw [stab0]; kernel_rfl⟩
  · exact ⟨_, by kernel_rfl, by rw [stab1]; kernel_rfl⟩
  · exact ⟨_, by kernel_rfl, by rw [stab2]; kernel_rfl⟩
  · exact ⟨_, by kernel_rfl, by rw [stab3]; kernel_rfl⟩
  · exact ⟨_, by kernel_rfl, by rw [stab4]; kernel_rfl⟩
  · exact ⟨_, by kernel_rfl, by rw [stab5]; kernel_rfl⟩
  · exact ⟨_, by kernel_rfl, by rw [stab6]; kernel_rfl⟩
theorem rowsF_map (f : Nat → Nat) (len : Nat) : rowsF f len = ((List.range len).map f).map rowN := by
  unfold rowsF rowN; rw [List.map_map]; rfl
theorem rowsF_take (f : Nat → Nat) (n : Nat) : (rowsF f n).take n = rowsF f n := List.take_of_length_le (by rw [rowsF_len]; exact Nat.le_refl _)
theorem ok_subsets (k : Nat) (hk : k ≤ 6) : FunOK Try.prog 69 [.one (iP k)] (.one (.one (.sl ((setsL k).map rowN)))) := by
  obtain ⟨s0, hs0, hs1⟩ := sets_all k hk
  have hp6 := pow64 hk
  have hsh : ∀ (T : TypeId) (p q : Operand), binA Try.prog .shl T p q (.int .i64 1) (.int .i64 (k : Int)) = some (.int .i64 ((2 ^ k : Nat) : Int)) := fun T p q => bin_shl_one .i64 T p q (by omega)
  rw [← hs1, ← rowsF_map]
  generalize 2 ^ k = M at *
  refine fun_ok (nt := 17) (rs := [.tmp 2]) Try.func69 rfl rfl rfl (by simp) fun Z w0 => ?_; simp only [initFr, avR, List.map_cons, List.map_nil]
  (repeat (first | apply aw_seq | apply aw_block | apply aw_skip | apply aw_label | apply aw_exit | ((first | refine aw_region (hideO fun QQ hQQ => ?_) | refine aw_draw mixed (hideD fun QQ hQQ => ?_)); simp (maxSteps := 400000) (disch := first | decide | omega) only [hsh, go_sem, ↓reduceIte]; try (first | with_reducible refine unhide hQQ ?_ | refine ⟨by kernel_rfl, unhide hQQ ?_⟩); clear hQQ QQ) | with_reducible first | apply then_n | apply block_n | apply then_x | apply then_r | apply nog_n | apply nog_r | apply block_r | apply block_e (by decide) | apply block_x (by decide)))
  refine aw_weak (weak_own 2 3 1 rfl) ?_
  (refine ts ?_; try clear hQQ QQ)
  refine aw_weak (weak_keep [2, 5, 6] (by simp only [go_sem, ↓reduceIte]; rfl)) ?_
  refine aw_loop_ov (ι := { i : Nat // i ≤ M }) (fun i => [(6, iA i.1), (2, .one (.own 0 i.1))]) (fun i => [(0, .arr 3 1 ((List.range i.1).map rowN) true)]) (fun i => M - i.1) ⟨0, by omega⟩ (by first | rfl | (simp only [go_sem, ↓reduceIte]; first | done | rfl | (simp; try rfl))) ?_
  rintro ⟨i, hi⟩
  simp (disch := decide) only [ov, ovL, AL.get_nil, AL.get_eq, AL.get_ne, Option.getD_some, Option.getD_none]
  by_cases hil : i < M
  · have hlb : (i + 1) * 8 ≤ 140737488355328 := by omega
    have hrow : (List.range i).map rowN ++ [[iP (i : Int)]] = (List.range (i + 1)).map rowN := by simp [List.range_succ, rowN]
    have hll : ((List.range i).map rowN).length = i := by simp
    (repeat (first | apply aw_seq | apply aw_block | apply aw_skip | apply aw_label | apply aw_exit | ((first | refine aw_region (hideO fun QQ hQQ => ?_) | refine aw_draw mixed (hideD fun QQ hQQ => ?_)); simp (maxSteps := 400000) (disch := first | decide | omega) only [rowsK_1, hlb, hll, go_sem, ↓reduceIte]; try (first | with_reducible refine unhide hQQ ?_ | refine ⟨by kernel_rfl, unhide hQQ ?_⟩); clear hQQ QQ) | with_reducible first | apply then_n | apply block_n | apply then_x | apply then_r | apply nog_n | apply nog_r | apply block_r | apply block_e (by decide) | apply block_x (by decide)))
    refine aw_cond2 (by simp (disch := first | decide | omega) only [rowsK_1, hlb, hll, go_sem, ↓reduceIte]; rfl) ?_; first | refine .inl ⟨by first | rfl | exact decide_eq_true (by omega) | exact decide_eq_true (by assumption) | (simp (disch := first | decide | omega) only [if_pos_d, if_neg_d, decide_eq_true_eq, Bool.not_eq_true', decide_eq_false_iff_not]; omega), ?_⟩ | refine .inr ⟨by first | rfl | exact decide_eq_false (by omega) | exact decide_eq_false (by assumption) | (simp (disch := first | decide | omega) only [if_pos_d, if_neg_d, decide_eq_true_eq, Bool.not_eq_true', decide_eq_false_iff_not]; omega), ?_⟩
    (repeat (first | apply aw_seq | apply aw_block | apply aw_skip | apply aw_label | apply aw_exit | ((first | refine aw_region (hideO fun QQ hQQ => ?_) | refine aw_draw mixed (hideD fun QQ hQQ => ?_)); simp (maxSteps := 400000) (disch := first | decide | omega) only [rowsK_1, hlb, hll, go_sem, ↓reduceIte]; try (first | with_reducible refine unhide hQQ ?_ | refine ⟨by kernel_rfl, unhide hQQ ?_⟩); clear hQQ QQ) | with_reducible first | apply then_n | apply block_n | apply then_x | apply then_r | apply nog_n | apply nog_r | apply block_r | apply block_e (by decide) | apply block_x (by decide)))
    refine ⟨⟨i + 1, by omega⟩, ?_, weak_round ?_ (by first | rfl | (simp only [rowsK_1, hlb, hll, go_sem, ↓reduceIte]))⟩
    rotate_left
    · simp only [← hrow]
      (simp only [rowsK_1, hlb, hll, go_sem, ↓reduceIte]; try rfl)
    · simp only; omega
  · have hie : i = M := by omega
    subst hie
    have hrs : (List.range i).map rowN = rowsF (gt s0) i := by rw [rowsF_map, hs0]
    rw [hrs]
    refine tw ?_; try with_reducible intro QQ hQQ
    refine ti ?_; try clear hQQ QQ
    (repeat (first | with_reducible refine then_n ?_ | with_reducible refine block_n ?_))
    refine aw_exit ?_
    (repeat (first | with_reducible refine then_n ?_ | with_reducible refine block_x rfl ?_ | with_reducible refine block_n ?_))
    refine aw_weak (weak_unshare (t := 0) (E := 3) (k := 1) (rows := rowsF (gt s0) i) ?_ ?_) ?_
    · intro t' av ht
      simp only [AL.get] at ht
      repeat (first | (split at ht; · cases ht; first | exact .inl ⟨_, rfl⟩ | (right; rw [rowsF_len])) | cases ht)
    · intro a row j c ha hj
      unfold rowsF at ha
      rw [List.getElem?_map] at ha
      obtain ⟨x, _, rfl⟩ := Option.map_eq_some_iff.1 ha
      rcases j with _ | j
      · simp at hj; exact ⟨_, hj.symm⟩
      · simp at hj
    refine tw ?_; try with_reducible intro QQ hQQ
    refine callS_ok rfl rfl 94 (by simp (disch := first | decide | omega) only [go_sem, ↓reduceIte]; try rfl) (by simp (disch := first | decide | omega) only [go_sem, ↓reduceIte]; try rfl) Try.func94 rfl (by decide) (CallF.mono (c_sort (len := i) (t := 0) (by omega) s0 ?_) ?_)
    · rfl
    rintro _ _ ⟨rfl, rfl⟩
    (refine ts ?_; try clear hQQ QQ)
    refine tw ?_; try with_reducible intro QQ hQQ
    refine aw_weak (weak_share 0 (E := 3) (k := 1) (rows := rowsF (gt (stabN i s0)) i) (sh := false) (by rfl)) ?_
    refine aw_weak (weak_dataS 2 (t := 0) (n := i) (E := 3) (k := 1) (rows := rowsF (gt (stabN i s0)) i) (by rfl) (by rfl)) ?_
    rw [rowsF_take]
    refine aw_ret ?_; refine ⟨.inr rfl, ?_⟩; simp only [resA, res1, go_sem, ↓reduceIte]
end Go.Proofs.Ytknikcpeacmpmaa
/- burr: whether the top line is clean, walked; what is first, if none is. -/
namespace Go.Proofs.Ytknikcpeacmpmaa
open Go Go.RowKit Go.Sh Go.Pv
set_option maxHeartbeats 8000000
set_option maxRecDepth 8000
set_option pp.maxSteps 60000
section
variable {Z : Zn} {w0 : World} {cap : Nat → Prop} {nt : Nat} {rd : Option Nat} {pan : List PanicEntry → St → Prop} {df : Option Nat} {dk : List Nat} {rg : Bool} {fr : List (Nat × AV)} {hp : List (Nat × Obj')} {nx : Nat}
theorem c_firstX {ac : AC} {p : Nat → Bool} {l : List Nat} (hl : l.length ≤ 100000) (hp1 : PredC ac p l hp nx) (h : l.any p = false) (hpan : pan [{ v := stopV 4, recovered := false }] ⟨fr, hp, nx⟩) :
    CallF ⟨Try.prog, Z, w0, cap, nt, rd, pan, df, dk, rg⟩ 68 [.one (.p (.sl (l.map rowN))), .agg [ac]] ⟨fr, hp, nx⟩ fun _ _ => False := by
  have hidx : idxF p l = -1 := by unfold idxF; rw [h]; rfl
  (refine callF_to (nt := 17) (rs := [.tmp 4]) Try.func68 rfl rfl rfl (by simp) fun hcl tm Ds => ?_); simp only [initV]
  dsimp only [Kx.calleeT]
  have hlt := hcl.lt
  dsimp only at hlt
  have hp2 : PredC ac p l ((nx + 1, .box [ac]) :: (nx, Obj'.kept fr tm) :: hp) (nx + 1 + 1) := hp1.mono fun id ob hi ho => ⟨by omega, by rw [AL.get_ne _ _ (by omega), AL.get_ne _ _ (by omega)]; exact ho⟩
  have hc92 := fun {Z w0 cap nt rd pan df dk rg fr} => c_indexF (Z := Z) (w0 := w0) (cap := cap) (nt := nt) (rd := rd) (pan := pan) (df := df) (dk := dk) (rg := rg) (fr := fr) hl hp2
  rw [hidx] at hc92
  refine tw ?_; try with_reducible intro QQ hQQ
  (refine callS_ok rfl rfl 92 (by simp (disch := first | decide | omega) only [go_sem, ↓reduceIte]; try rfl) (by simp (disch := first | decide | omega) only [go_sem, ↓reduceIte]; try rfl) Try.func92 rfl (by decide) ((hc92).mono ?_)); rintro _ _ ⟨rfl, rfl⟩; refine ts ?_; try clear hQQ QQ
  refine tw ?_; try with_reducible intro QQ hQQ
  (refine ⟨rfl, .inr ⟨rfl, callS_x rfl 76 ⟨by simp (disch := first | decide | omega) only [go_sem, ↓reduceIte]; try rfl, by simp (disch := first | decide | omega) only [go_sem, ↓reduceIte]; try rfl⟩ Try.func76 rfl (by decide) (x_must 4) ?_⟩⟩)
  exact ⟨by simp (disch := first | decide | omega) only [go_sem, ↓reduceIte]; try rfl, ⟨fr, hp, nx⟩, ⟨rfl, hcl, fun id o ho => by have := hlt id o ho; simp (disch := first | decide | omega) only [go_sem, ↓reduceIte]; exact ho⟩, hpan⟩
end
section
variable {n lo hi top : Int} {bales : List (Int × Int)} {tests : List (Int × Bool)}
def topL (L U T : Nat) (bales : List (Int × Int)) (tests : List (Int × Bool)) (N : Nat) : List Nat := (walkL L U bales tests (2 ^ N)).map (· &&& T)
def cleanL (W : List Nat) : Int := if (W.any fun x => decide (x ≠ 0)) = false then 2 else if (W.any fun x => decide ((0 : Int) = (x : Int))) = true then 1 else 0
def cleanA (n lo hi top : Int) (bales : List (Int × Int)) (tests : List (Int × Bool)) : Int := cleanL (topL lo.toNat hi.toNat top.toNat bales tests n.toNat)
theorem ok_dirty (x : Nat) : FunOK Try.prog 61 [.one (iP x)] (.one (.one (.v (.bool (decide (x ≠ 0)))))) := by
  refine fun_ok (nt := 5) (rs := [.tmp 2]) Try.func61 rfl rfl rfl (by simp) fun Z w0 => ?_; simp only [initFr, avR, List.map_cons, List.map_nil]
  refine tw ?_; try with_reducible intro QQ hQQ
  refine aw_ret ?_; refine ⟨.inr rfl, ?_⟩; simp only [resA, res1, go_sem, ↓reduceIte]
  by_cases h : x = 0
  · subst h; rfl
  · rw [decide_eq_true h]
    simp [h]
theorem ok_Clean : FunOK Try.prog 18 [buR n lo hi top bales tests] (ansN (whyT n lo hi top bales tests) (cleanA n lo hi top bales tests)) := by
  cases hv : burrB n lo hi top bales tests
  · have hwhy : whyT n lo hi top bales tests = 1 := by simp [whyT, hv]
    have hb := hwhy
    refine fun_exp (l := [_]) (od := _) (nt := 24) (t := 8) (eb := 1) (rs := [.tmp 2, .cell 3 30]) ans57 Try.func18 rfl rfl rfl (by simp) rfl rfl rfl Try.func57 rfl (by decide) fun Z w0 => ?_; simp only [initFr, avR, List.map_cons, List.map_nil]
    simp only [buR, List.map_cons, List.map_nil]
    try simp only [List.append_eq, List.cons_append, List.nil_append]
    refine tw ?_; try with_reducible intro QQ hQQ
    refine ⟨rfl, ?_⟩
    (refine ts ?_; try clear hQQ QQ)
    refine tw ?_; try with_reducible intro QQ hQQ
    (refine ⟨rfl, .inr ⟨rfl, callS_x rfl 48 ⟨by simp (disch := first | decide | omega) only [go_sem, ↓reduceIte]; try rfl, by simp (disch := first | decide | omega) only [go_sem, ↓reduceIte]; try rfl⟩ Try.func48 rfl (by decide) (x_open hv) ?_⟩⟩)
    exact ⟨1, 0, rfl, by simp (disch := first | decide | omega) only [go_sem, ↓reduceIte]; try rfl, by simp (disch := first | decide | omega) only [go_sem, ↓reduceIte]; try rfl, by simp (disch := first | decide | omega) only [resA, res1, ansR, ansN, hwhy, hb, go_sem, ↓reduceIte]; try rfl⟩
  obtain ⟨N, L, U, T, rfl, rfl, rfl, rfl, hB⟩ := bok_of hv
  have hU : U ≤ 5 := by have := hB.hn; have := hB.n5; omega
  have ht6 : tests.length ≤ 100 := by have := hB.t6; omega
  have hcn : cntB (N : Int) (L : Int) (U : Int) bales tests = cntF L U bales tests (2 ^ N) := rfl
  by_cases hc : cntF L U bales tests (2 ^ N) = 0
  · have hwhy : whyT N L U T bales tests = 10 := by simp [whyT, hv, hcn, hc]
    have hb := hwhy
    have hx := x_told (top := T) hB.n5 hU hB.b6 hB.b32 ht6 hB.te6 hc
    simp only [shP] at hx
    refine fun_exp (l := [_]) (od := _) (nt := 24) (t := 8) (eb := 1) (rs := [.tmp 2, .cell 3 30]) ans57 Try.func18 rfl rfl rfl (by simp) rfl rfl rfl Try.func57 rfl (by decide) fun Z w0 => ?_; simp only [initFr, avR, List.map_cons, List.map_nil]
    simp only [buR, List.map_cons, List.map_nil]
    try simp only [List.append_eq, List.cons_append, List.nil_append]
    refine tw ?_; try with_reducible intro QQ hQQ
    refine ⟨rfl, ?_⟩
    (refine ts ?_; try clear hQQ QQ)
    refine tw ?_; try with_reducible intro QQ hQQ
    refine callS_ok rfl rfl 48 (by simp (disch := first | decide | omega) only [go_sem, ↓reduceIte]; try rfl) (by simp (disch := first | decide | omega) only [go_sem, ↓reduceIte]; try rfl) Try.func48 rfl (by decide) (CallF.mono (c_open hv) ?_); rintro _ _ ⟨rfl, rfl⟩; refine ts ?_; try clear hQQ QQ
    unfold buC
    refine tw ?_; try with_reducible intro QQ hQQ
    (refine ⟨rfl, .inr ⟨rfl, callS_x rfl 49 ⟨by simp (disch := first | decide | omega) only [go_sem, ↓reduceIte]; try rfl, by simp (disch := first | decide | omega) only [go_sem, ↓reduceIte]; try rfl⟩ Try.func49 rfl (by decide) (hx) ?_⟩⟩)
    exact ⟨10, 0, rfl, by simp (disch := first | decide | omega) only [go_sem, ↓reduceIte]; try rfl, by simp (disch := first | decide | omega) only [go_sem, ↓reduceIte]; try rfl, by simp (disch := first | decide | omega) only [resA, res1, ansR, ansN, hwhy, hb, go_sem, ↓reduceIte]; try rfl⟩
  have hwhy : whyT N L U T bales tests = 0 := by simp [whyT, hv, hcn, hc]
  have hb := hwhy
  have htold := ok_told (top := T) hB.n5 hU hB.b6 hB.b32 ht6 hB.te6 (Nat.pos_of_ne_zero hc)
  simp only [shP] at htold
  have htop := ok_top (lo := L) (T := T) (tests := tests) hB.n5 hU (Nat.lt_of_lt_of_le hB.tp (pow64 hB.b6)) hB.b6 hB.b32 ht6 hB.te6
  have hmm : ((walkL L U bales tests (2 ^ N)).map fun h => rowN (h &&& T)) = (topL L U T bales tests N).map rowN := by unfold topL; rw [List.map_map]; rfl
  rw [hmm] at htop
  simp only [shP] at htop
  have hans : cleanA N L U T bales tests = cleanL (topL L U T bales tests N) := rfl
  have hlen : (topL L U T bales tests N).length ≤ 100000 := by
    unfold topL
    rw [List.length_map]
    have := walkL_len (lo := L) (up := U) (bales := bales) (tests := tests) (2 ^ N)
    have := pow32 hB.n5
    omega
  generalize topL L U T bales tests N = W at *
  have h59 := ok_contains W hlen 0
  clear hmm
  obtain ⟨bd, hbd⟩ : ∃ b, (W.any fun x => decide (x ≠ 0)) = b := ⟨_, rfl⟩
  obtain ⟨bc, hbc⟩ : ∃ b, (W.any fun x => decide ((0 : Int) = (x : Int))) = b := ⟨_, rfl⟩
  unfold cleanL at hans
  rw [hbd, hbc] at hans
  rw [hbc] at h59
  have h60 := fun {Z w0 cap nt rd pan df dk rg fr hp nx} => c_containsF (ac := .fn 61 []) (p := fun x => decide (x ≠ 0)) (Z := Z) (w0 := w0) (cap := cap) (nt := nt) (rd := rd) (pan := pan) (df := df) (dk := dk) (rg := rg) (fr := fr) (hp := hp) (nx := nx) hlen (pred_fn Try.func61 rfl (by decide) fun x _ => ok_dirty x)
  rw [hbd] at h60
  cases bd
  · rw [if_pos rfl] at hans
    refine fun_exp (l := [_]) (od := _) (nt := 24) (t := 8) (eb := 1) (rs := [.tmp 2, .cell 3 30]) ans57 Try.func18 rfl rfl rfl (by simp) rfl rfl rfl Try.func57 rfl (by decide) fun Z w0 => ?_; simp only [initFr, avR, List.map_cons, List.map_nil]
    simp only [buR, List.map_cons, List.map_nil]
    try simp only [List.append_eq, List.cons_append, List.nil_append]
    refine tw ?_; try with_reducible intro QQ hQQ
    refine ⟨rfl, ?_⟩
    (refine ts ?_; try clear hQQ QQ)
    refine tw ?_; try with_reducible intro QQ hQQ
    refine callS_ok rfl rfl 48 (by simp (disch := first | decide | omega) only [go_sem, ↓reduceIte]; try rfl) (by simp (disch := first | decide | omega) only [go_sem, ↓reduceIte]; try rfl) Try.func48 rfl (by decide) (CallF.mono (c_open hv) ?_); rintro _ _ ⟨rfl, rfl⟩; refine ts ?_; try clear hQQ QQ
    unfold buC
    refine aw_weak (weak_give 4 4 [iP N, iP L, iP U, .sl (bales.map row2), iP T, .sl (tests.map rowB)] [8, 2, 3] [1] 5 (by simp only [go_sem, ↓reduceIte]; rfl) (by rfl) (by rfl) (by decide) (fun _ h => h)) ?_; dsimp only [AL.set]
    refine tw ?_; try with_reducible intro QQ hQQ
    ((refine cO 49 rfl rfl rfl (htold) Try.func49 rfl ?_); refine tu ?_; try clear hQQ QQ); refine tw ?_; try with_reducible intro QQ hQQ
    ((refine cB 58 rfl rfl rfl (htop) Try.func58 rfl ?_); refine tu ?_; try clear hQQ QQ); refine tw ?_; try with_reducible intro QQ hQQ
    ((refine cO 59 rfl rfl rfl (h59) Try.func59 rfl ?_); refine tu ?_; try clear hQQ QQ); refine tw ?_; try with_reducible intro QQ hQQ
    (refine callS_ok rfl rfl 60 (by simp (disch := first | decide | omega) only [go_sem, ↓reduceIte]; try rfl) (by simp (disch := first | decide | omega) only [go_sem, ↓reduceIte]; try rfl) Try.func60 rfl (by decide) ((h60).mono ?_)); rintro _ _ ⟨rfl, rfl⟩; refine ts ?_; try clear hQQ QQ
    refine tw ?_; try with_reducible intro QQ hQQ
    refine ti ?_; try clear hQQ QQ
    refine tw ?_; try with_reducible intro QQ hQQ
    (refine aw_ret ⟨.inr rfl, by simp (disch := first | decide | omega) only [go_sem, ↓reduceIte]; try rfl, by simp (disch := first | decide | omega) only [resA, res1, ansR, ansN, hb, hwhy, hans, go_sem, ↓reduceIte]; try rfl⟩)
  · rw [if_neg (by decide)] at hans
    cases bc
    · rw [if_neg (by decide)] at hans
      refine fun_exp (l := [_]) (od := _) (nt := 24) (t := 8) (eb := 1) (rs := [.tmp 2, .cell 3 30]) ans57 Try.func18 rfl rfl rfl (by simp) rfl rfl rfl Try.func57 rfl (by decide) fun Z w0 => ?_; simp only [initFr, avR, List.map_cons, List.map_nil]
      simp only [buR, List.map_cons, List.map_nil]
      try simp only [List.append_eq, List.cons_append, List.nil_append]
      refine tw ?_; try with_reducible intro QQ hQQ
      refine ⟨rfl, ?_⟩
      (refine ts ?_; try clear hQQ QQ)
      refine tw ?_; try with_reducible intro QQ hQQ
      refine callS_ok rfl rfl 48 (by simp (disch := first | decide | omega) only [go_sem, ↓reduceIte]; try rfl) (by simp (disch := first | decide | omega) only [go_sem, ↓reduceIte]; try rfl) Try.func48 rfl (by decide) (CallF.mono (c_open hv) ?_); rintro _ _ ⟨rfl, rfl⟩; refine ts ?_; try clear hQQ QQ
      unfold buC
      refine aw_weak (weak_give 4 4 [iP N, iP L, iP U, .sl (bales.map row2), iP T, .sl (tests.map rowB)] [8, 2, 3] [1] 5 (by simp only [go_sem, ↓reduceIte]; rfl) (by rfl) (by rfl) (by decide) (fun _ h => h)) ?_; dsimp only [AL.set]
      refine tw ?_; try with_reducible intro QQ hQQ
      ((refine cO 49 rfl rfl rfl (htold) Try.func49 rfl ?_); refine tu ?_; try clear hQQ QQ); refine tw ?_; try with_reducible intro QQ hQQ
      ((refine cB 58 rfl rfl rfl (htop) Try.func58 rfl ?_); refine tu ?_; try clear hQQ QQ); refine tw ?_; try with_reducible intro QQ hQQ
      ((refine cO 59 rfl rfl rfl (h59) Try.func59 rfl ?_); refine tu ?_; try clear hQQ QQ); refine tw ?_; try with_reducible intro QQ hQQ
      (refine callS_ok rfl rfl 60 (by simp (disch := first | decide | omega) only [go_sem, ↓reduceIte]; try rfl) (by simp (disch := first | decide | omega) only [go_sem, ↓reduceIte]; try rfl) Try.func60 rfl (by decide) ((h60).mono ?_)); rintro _ _ ⟨rfl, rfl⟩; refine ts ?_; try clear hQQ QQ
      refine tw ?_; try with_reducible intro QQ hQQ
      refine ti ?_; try clear hQQ QQ
      refine tw ?_; try with_reducible intro QQ hQQ
      refine ti ?_; try clear hQQ QQ
      refine tw ?_; try with_reducible intro QQ hQQ
      (refine aw_ret ⟨.inr rfl, by simp (disch := first | decide | omega) only [go_sem, ↓reduceIte]; try rfl, by simp (disch := first | decide | omega) only [resA, res1, ansR, ansN, hb, hwhy, hans, go_sem, ↓reduceIte]; try rfl⟩)
    · rw [if_pos rfl] at hans
      refine fun_exp (l := [_]) (od := _) (nt := 24) (t := 8) (eb := 1) (rs := [.tmp 2, .cell 3 30]) ans57 Try.func18 rfl rfl rfl (by simp) rfl rfl rfl Try.func57 rfl (by decide) fun Z w0 => ?_; simp only [initFr, avR, List.map_cons, List.map_nil]
      simp only [buR, List.map_cons, List.map_nil]
      try simp only [List.append_eq, List.cons_append, List.nil_append]
      refine tw ?_; try with_reducible intro QQ hQQ
      refine ⟨rfl, ?_⟩
      (refine ts ?_; try clear hQQ QQ)
      refine tw ?_; try with_reducible intro QQ hQQ
      refine callS_ok rfl rfl 48 (by simp (disch := first | decide | omega) only [go_sem, ↓reduceIte]; try rfl) (by simp (disch := first | decide | omega) only [go_sem, ↓reduceIte]; try rfl) Try.func48 rfl (by decide) (CallF.mono (c_open hv) ?_); rintro _ _ ⟨rfl, rfl⟩; refine ts ?_; try clear hQQ QQ
      unfold buC
      refine aw_weak (weak_give 4 4 [iP N, iP L, iP U, .sl (bales.map row2), iP T, .sl (tests.map rowB)] [8, 2, 3] [1] 5 (by simp only [go_sem, ↓reduceIte]; rfl) (by rfl) (by rfl) (by decide) (fun _ h => h)) ?_; dsimp only [AL.set]
      refine tw ?_; try with_reducible intro QQ hQQ
      ((refine cO 49 rfl rfl rfl (htold) Try.func49 rfl ?_); refine tu ?_; try clear hQQ QQ); refine tw ?_; try with_reducible intro QQ hQQ
      ((refine cB 58 rfl rfl rfl (htop) Try.func58 rfl ?_); refine tu ?_; try clear hQQ QQ); refine tw ?_; try with_reducible intro QQ hQQ
      ((refine cO 59 rfl rfl rfl (h59) Try.func59 rfl ?_); refine tu ?_; try clear hQQ QQ); refine tw ?_; try with_reducible intro QQ hQQ
      (refine callS_ok rfl rfl 60 (by simp (disch := first | decide | omega) only [go_sem, ↓reduceIte]; try rfl) (by simp (disch := first | decide | omega) only [go_sem, ↓reduceIte]; try rfl) Try.func60 rfl (by decide) ((h60).mono ?_)); rintro _ _ ⟨rfl, rfl⟩; refine ts ?_; try clear hQQ QQ
      refine tw ?_; try with_reducible intro QQ hQQ
      refine ti ?_; try clear hQQ QQ
      refine tw ?_; try with_reducible intro QQ hQQ
      refine ti ?_; try clear hQQ QQ
      refine tw ?_; try with_reducible intro QQ hQQ
      (refine aw_ret ⟨.inr rfl, by simp (disch := first | decide | omega) only [go_sem, ↓reduceIte]; try rfl, by simp (disch := first | decide | omega) only [resA, res1, ansR, ansN, hb, hwhy, hans, go_sem, ↓reduceIte]; try rfl⟩)
end
end Go.Proofs.Ytknikcpeacmpmaa
