/- Kwa14: texts joined (WaS WaT). -/
import Derived.Test.YtgdhdikeicgndaaKwa11
import Derived.Test.YtgdhdikeicgndaaKcx5
set_option linter.all false
/- classer: the first one that suits. Printed by gen_first.py. -/
namespace Go.Proofs.Ytgdhdikeicgndaa
open Go Go.RowKit Go.Sh Go.Pv Go.Cl
set_option maxHeartbeats 1600000
set_option maxRecDepth 8000
set_option pp.maxSteps 60000
def rowU (x : Nat) : List PV := [.v (.int .u64 (x : Int))]
theorem rowsK_rU (l : List Nat) : rowsK 1 (l.map rowU) = True := eq_true fun i r h => by rw [List.getElem?_map] at h; obtain ⟨x, _, rfl⟩ := Option.map_eq_some_iff.1 h; rfl
def idxF (p : Nat → Bool) (l : List Nat) : Int := if l.any p = true then ((l.findIdx p : Nat) : Int) else -1
theorem findIdx_of {p : Nat → Bool} {l : List Nat} {i : Nat} (hi : i < l.length) (h : ∀ k, k < i → p (l.getD k 0) = false) (hp : p (l.getD i 0) = true) : idxF p l = i := by
  have e : ∀ k, k < l.length → l.getD k 0 = l[k]! := fun k hk => by simp [List.getD, hk]
  have hg : ∀ k (hk : k < l.length), l.getD k 0 = l[k] := fun k hk => by simp [List.getD, hk]
  have ha : l.any p = true := List.any_eq_true.2 ⟨_, mem_of_getD (d := 0) hi, hp⟩
  unfold idxF
  rw [if_pos ha]
  have : l.findIdx p = i := by
    rw [List.findIdx_eq hi]
    refine ⟨by rw [← hg]; exact hp, fun j hj => ?_⟩
    have := h j hj
    rw [hg j (by omega)] at this
    exact this
  rw [this]
theorem idx_none {p : Nat → Bool} {l : List Nat} (h : ∀ k, k < l.length → p (l.getD k 0) = false) : idxF p l = -1 := by
  unfold idxF
  rw [if_neg]
  intro ha
  obtain ⟨x, hx, hp⟩ := List.any_eq_true.1 ha
  obtain ⟨i, hi, rfl⟩ := List.getElem_of_mem hx
  have := h i hi
  rw [show l.getD i 0 = l[i] by simp [List.getD, hi]] at this
  rw [this] at hp; cases hp
theorem idxF_nonneg {p : Nat → Bool} {l : List Nat} : decide ((0 : Int) ≤ idxF p l) = l.any p := by
  unfold idxF
  cases l.any p with
  | true => rw [if_pos rfl]; exact decide_eq_true (by omega)
  | false => rfl
theorem idx_lt {p : Nat → Bool} {l : List Nat} (h : l.any p = true) : ∃ i : Nat, i < l.length ∧ idxF p l = i ∧ l.getD i 0 = firstF p l := by
  refine ⟨l.findIdx p, List.findIdx_lt_length_of_exists (by simpa [List.any_eq_true] using h), ?_, rfl⟩
  unfold idxF
  rw [if_pos h]
/-- A value that, called with any of some sets, tells whether it is so, and leaves all as it is. -/
def PredC (kd : IntKind) (ac : AC) (p : Nat → Bool) (l : List Nat) (hp0 : List (Nat × Obj')) (nx0 : Nat) : Prop :=
  ∀ (K : Kx) (st : St) (o : Oper) (f arg : Operand) (argTypes : Array TypeId) (x : Nat) (Q : St → Prop), K.P = Try.prog → x ∈ l → dstOK K o.dst = true → o.op = .call { callee := .value f, args := #[arg], argTypes := argTypes } → evalA (AL.get st.fr) f = some (.one ac) → evalA (AL.get st.fr) arg = some (.one (.p (.v (.int kd (x : Int))))) →
    (∀ id ob, id < nx0 → AL.get hp0 id = some ob → AL.get st.hp id = some ob) → Q (st.put o.dst (.one (.p (.v (.bool (p x)))))) → CallS K st o Q
/-- A closure, by its contract. -/
theorem pred_clo {kd : IntKind} {g : FuncId} {gn : Func} {caps : List CC} {p : Nat → Bool} {l : List Nat} {hp0 : List (Nat × Obj')} {nx0 : Nat} (h5 : Try.prog.funcs[g]? = some gn) (h6 : gn.body.isSome = true) (h7 : gn.name ≠ "runtime.NumGoroutine")
    (hf : ∀ (K : Kx) (st : St) (x : Nat), K.P = Try.prog → x ∈ l → (∀ id ob, id < nx0 → AL.get hp0 id = some ob → AL.get st.hp id = some ob) → CallF K g ([.one (.p (.v (.int kd (x : Int))))] ++ caps.map capV) st fun st' av => st' = st ∧ av = .one (.p (.v (.bool (p x))))) : PredC kd (.fn g caps) p l hp0 nx0 := by
  intro K st o f arg argTypes x Q hK hx hd ho h1 h2 hh hQ
  have hf := hf K st x hK hx hh
  obtain ⟨P, Z, w0, cap, nt, rd, pan, df, dk, rg⟩ := K
  dsimp only at hK
  subst hK
  refine callS_of hd ho g (caps := caps) (avs := [.one (.p (.v (.int kd (x : Int))))]) (by rw [h1]; rfl) (by simp [mapO, h2]) h5 h6 h7 (hf.mono ?_)
  rintro _ _ ⟨rfl, rfl⟩
  exact hQ
theorem PredC.mono {kd : IntKind} {ac : AC} {p : Nat → Bool} {l : List Nat} {hp0 hp1 : List (Nat × Obj')} {nx0 nx1 : Nat} (h : PredC kd ac p l hp0 nx0) (hh : ∀ id ob, id < nx0 → AL.get hp0 id = some ob → id < nx1 ∧ AL.get hp1 id = some ob) : PredC kd ac p l hp1 nx1 :=
  fun K st o f arg argTypes x Q h1 h2 h3 h4 h5 h6 h7 h8 => h K st o f arg argTypes x Q h1 h2 h3 h4 h5 h6 (fun id ob hi ho => let ⟨g1, g2⟩ := hh id ob hi ho; h7 id ob g1 g2) h8
attribute [local go_sem] rowN rowsK_rN rowU rowsK_rU get_someN
section
variable {Z : Zn} {w0 : World} {cap : Nat → Prop} {nt : Nat} {rd : Option Nat} {pan : List PanicEntry → St → Prop} {df : Option Nat} {dk : List Nat} {rg : Bool} {fr : List (Nat × AV)} {hp : List (Nat × Obj')} {nx : Nat}
theorem c_indexN {ac : AC} {p : Nat → Bool} {l : List Nat} (hl : l.length ≤ 100000) (hp1 : PredC .i64 ac p l hp nx) :
    CallF ⟨Try.prog, Z, w0, cap, nt, rd, pan, df, dk, rg⟩ 84 [.one (.p (.sl (l.map rowN))), .one ac] ⟨fr, hp, nx⟩ fun st' av => st' = ⟨fr, hp, nx⟩ ∧ av = .one (.p (iP (idxF p l))) := by
  (refine callF_to (nt := 19) (rs := [.tmp 4]) Try.func84 rfl rfl rfl (by simp) fun hcl tm Ds => ?_); simp only [initV]
  dsimp only [Kx.calleeT]
  have hlt := hcl.lt
  dsimp only at hlt
  refine tw ?_; try with_reducible intro QQ hQQ
  refine aw_weak (weak_thr [0, 1, 7, 8] (by simp only [go_sem, ↓reduceIte]; rfl)) ?_
  let FX : List (Nat × Obj') → Nat → Prop := fun hpX nxX => nx < nxX ∧ AL.get hpX nx = some (.kept fr tm) ∧ ∀ id o, id < nx → AL.get hp id = some o → AL.get hpX id = some o
  have hfin : ∀ {hpX : List (Nat × Obj')} {nxX : Nat} {v : Int}, FX hpX nxX → v = idxF p l → AL.get hpX nx = some (.kept fr tm) ∧ ∃ T : St, T.fr = fr ∧ Closed T ∧ (∀ id o, AL.get T.hp id = some o → AL.get hpX id = some o) ∧ There (AL.get T.hp) (refsV (.one (.p (iP v)))) ∧ T = ⟨fr, hp, nx⟩ ∧ (AV.one (.p (iP v)) : AV) = .one (.p (iP (idxF p l))) := by
    intro hpX nxX v ⟨g0, g1, g2⟩ hv
    exact ⟨g1, ⟨fr, hp, nx⟩, rfl, hcl, fun id o ho => g2 id o (hlt id o ho) ho, fun i hi => (by cases hi), rfl, by rw [hv]⟩
  refine aw_loop_hp (ι := { i : Nat // i ≤ l.length ∧ ∀ k, k < i → p (l.getD k 0) = false }) (fun i => [(8, iA i.1)]) (fun _ => FX) (fun i => l.length - i.1) ⟨0, by omega, fun k hk => absurd hk (by omega)⟩ (by first | rfl | (simp only [go_sem, ↓reduceIte]; rfl)) ?_ ?_
  · exact ⟨by dsimp only; omega, by simp (disch := first | decide | omega) only [go_sem, ↓reduceIte]; try rfl, fun id o hl h => by simp (disch := first | decide | omega) only [go_sem, ↓reduceIte]; exact h⟩
  rintro ⟨i, hi, hik⟩ hpX nxX hFX
  obtain ⟨f0, f1, f2⟩ := id hFX
  simp (disch := decide) only [ov, ovL, AL.get_nil, AL.get_eq, AL.get_ne, Option.getD_some, Option.getD_none]
  by_cases hil : i < l.length
  · have hmem := mem_of_getD (d := 0) hil
    have hfi := fun h => findIdx_of (p := p) hil hik h
    have hnx : p (l.getD i 0) = false → ∀ k, k < i + 1 → p (l.getD k 0) = false := fun hx k hk => by
      by_cases e : k = i
      · rw [e]; exact hx
      · exact hik k (by omega)
    clear hik
    try clear hF
    have hF := f1
    refine twF ?_; try with_reducible intro QQ hQQ
    refine tiF ?_; try clear hQQ QQ
    refine twF ?_; try with_reducible intro QQ hQQ
    refine ⟨rfl, .inr ⟨rfl, hp1 _ _ _ _ _ _ (l.getD i 0) _ rfl hmem rfl rfl (by simp (disch := first | decide | omega) only [hF, go_sem, ↓reduceIte]; try rfl) (by simp (disch := first | decide | omega) only [hF, go_sem, ↓reduceIte]; try rfl) (by intro id ob h1 h2; simp (disch := first | decide | omega) only [hF, go_sem, ↓reduceIte]; exact f2 id ob h1 h2) ?_⟩⟩
    cases hx : p (l.getD i 0)
    · (refine tsF ?_; try clear hQQ QQ)
      refine twF ?_; try with_reducible intro QQ hQQ
      refine tiF ?_; try clear hQQ QQ
      refine twF ?_; try with_reducible intro QQ hQQ
      refine ⟨⟨i + 1, by omega, hnx hx⟩, ?_, ?_, ?_⟩
      · simp only; omega
      · exact ⟨by dsimp only; omega, by simp (disch := first | decide | omega) only [hF, go_sem, ↓reduceIte]; try rfl, fun id o hl h => by simp (disch := first | decide | omega) only [hF, go_sem, ↓reduceIte]; exact f2 id o hl h⟩
      · first | rfl | (simp only [hF, go_sem, ↓reduceIte]; rfl)
    · (refine tsF ?_; try clear hQQ QQ)
      refine twF ?_; try with_reducible intro QQ hQQ
      refine tiF ?_; try clear hQQ QQ
      refine twF ?_; try with_reducible intro QQ hQQ
      refine aw_ret ⟨.inr rfl, _, by simp (disch := first | decide | omega) only [hF, go_sem, ↓reduceIte]; try rfl, hfin hFX (hfi hx).symm⟩
  · have hie : i = l.length := by omega
    subst hie
    have hidx := idx_none hik
    clear hik
    try clear hF
    have hF := f1
    refine twF ?_; try with_reducible intro QQ hQQ
    refine tiF ?_; try clear hQQ QQ
    refine twF ?_; try with_reducible intro QQ hQQ
    refine aw_ret ⟨.inr rfl, _, by simp (disch := first | decide | omega) only [go_sem, ↓reduceIte]; try rfl, hfin hFX hidx.symm⟩
theorem c_firstN {ac : AC} {p : Nat → Bool} {l : List Nat} (hl : l.length ≤ 100000) (hp1 : PredC .i64 ac p l hp nx) (h : l.any p = true) :
    CallF ⟨Try.prog, Z, w0, cap, nt, rd, pan, df, dk, rg⟩ 59 [.one (.p (.sl (l.map rowN))), .agg [ac]] ⟨fr, hp, nx⟩ fun st' av => st' = ⟨fr, hp, nx⟩ ∧ av = .one (.p (.v (.int .i64 ((firstF p l : Nat) : Int)))) := by
  obtain ⟨i, hi, hidx, hfi⟩ := idx_lt h
  have hm := ok_ask 4
  (refine callF_to (nt := 17) (rs := [.tmp 4]) Try.func59 rfl rfl rfl (by simp) fun hcl tm Ds => ?_); simp only [initV]
  dsimp only [Kx.calleeT]
  have hlt := hcl.lt
  dsimp only at hlt
  have hp2 : PredC .i64 ac p l ((nx + 1, .box [ac]) :: (nx, Obj'.kept fr tm) :: hp) (nx + 1 + 1) := hp1.mono fun id ob hi ho => ⟨by omega, by rw [AL.get_ne _ _ (by omega), AL.get_ne _ _ (by omega)]; exact ho⟩
  have hcI := fun {Z w0 cap nt rd pan df dk rg fr} => c_indexN (Z := Z) (w0 := w0) (cap := cap) (nt := nt) (rd := rd) (pan := pan) (df := df) (dk := dk) (rg := rg) (fr := fr) hl hp2
  rw [hidx] at hcI
  refine tw ?_; try with_reducible intro QQ hQQ
  (refine callS_ok rfl rfl 84 (by simp (disch := first | decide | omega) only [go_sem, ↓reduceIte]; try rfl) (by simp (disch := first | decide | omega) only [go_sem, ↓reduceIte]; try rfl) Try.func84 rfl (by decide) ((hcI).mono ?_)); rintro _ _ ⟨rfl, rfl⟩; refine ts ?_; try clear hQQ QQ
  refine tw ?_; try with_reducible intro QQ hQQ
  ((refine cO 52 rfl rfl rfl (hm) Try.func52 rfl ?_); refine tu ?_; try clear hQQ QQ); refine tw ?_; try with_reducible intro QQ hQQ
  refine aw_ret ⟨.inr rfl, _, by simp (disch := first | decide | omega) only [go_sem, ↓reduceIte]; try rfl, by simp (disch := first | decide | omega) only [go_sem, ↓reduceIte]; try rfl, ⟨fr, hp, nx⟩, rfl, hcl, fun id o ho => ?_, fun i hi => (by cases hi), rfl, ?_⟩
  · have ho : AL.get hp id = some o := ho
    have := hlt id o ho
    simp (disch := first | decide | omega) only [go_sem, ↓reduceIte]
    exact ho
  · rw [← hfi]
theorem cx_firstN {ac : AC} {p : Nat → Bool} {l : List Nat} (hl : l.length ≤ 100000) (hp1 : PredC .i64 ac p l hp nx) (h : l.any p = false) (hpan : pan [{ v := stopV 4, recovered := false }] ⟨fr, hp, nx⟩) :
    CallF ⟨Try.prog, Z, w0, cap, nt, rd, pan, df, dk, rg⟩ 59 [.one (.p (.sl (l.map rowN))), .agg [ac]] ⟨fr, hp, nx⟩ fun _ _ => False := by
  have hidx : idxF p l = -1 := by unfold idxF; rw [if_neg (by rw [h]; decide)]
  (refine callF_to (nt := 17) (rs := [.tmp 4]) Try.func59 rfl rfl rfl (by simp) fun hcl tm Ds => ?_); simp only [initV]
  dsimp only [Kx.calleeT]
  have hlt := hcl.lt
  dsimp only at hlt
  have hp2 : PredC .i64 ac p l ((nx + 1, .box [ac]) :: (nx, Obj'.kept fr tm) :: hp) (nx + 1 + 1) := hp1.mono fun id ob hi ho => ⟨by omega, by rw [AL.get_ne _ _ (by omega), AL.get_ne _ _ (by omega)]; exact ho⟩
  have hcI := fun {Z w0 cap nt rd pan df dk rg fr} => c_indexN (Z := Z) (w0 := w0) (cap := cap) (nt := nt) (rd := rd) (pan := pan) (df := df) (dk := dk) (rg := rg) (fr := fr) hl hp2
  rw [hidx] at hcI
  refine tw ?_; try with_reducible intro QQ hQQ
  (refine callS_ok rfl rfl 84 (by simp (disch := first | decide | omega) only [go_sem, ↓reduceIte]; try rfl) (by simp (disch := first | decide | omega) only [go_sem, ↓reduceIte]; try rfl) Try.func84 rfl (by decide) ((hcI).mono ?_)); rintro _ _ ⟨rfl, rfl⟩; refine ts ?_; try clear hQQ QQ
  refine tw ?_; try with_reducible intro QQ hQQ
  (refine ⟨rfl, .inr ⟨rfl, callS_x rfl 52 ⟨by simp (disch := first | decide | omega) only [go_sem, ↓reduceIte]; try rfl, by simp (disch := first | decide | omega) only [go_sem, ↓reduceIte]; try rfl⟩ Try.func52 rfl (by decide) (x_ask 4) ?_⟩⟩)
  refine ⟨by simp (disch := first | decide | omega) only [go_sem, ↓reduceIte]; try rfl, ⟨fr, hp, nx⟩, ⟨rfl, hcl, fun id o ho => ?_⟩, hpan⟩
  have ho : AL.get hp id = some o := ho
  have := hlt id o ho
  simp (disch := first | decide | omega) only [go_sem, ↓reduceIte]
  exact ho
end
section
variable {Z : Zn} {w0 : World} {cap : Nat → Prop} {nt : Nat} {rd : Option Nat} {pan : List PanicEntry → St → Prop} {df : Option Nat} {dk : List Nat} {rg : Bool} {fr : List (Nat × AV)} {hp : List (Nat × Obj')} {nx : Nat}
theorem c_indexU {ac : AC} {p : Nat → Bool} {l : List Nat} (hl : l.length ≤ 100000) (hp1 : PredC .u64 ac p l hp nx) :
    CallF ⟨Try.prog, Z, w0, cap, nt, rd, pan, df, dk, rg⟩ 93 [.one (.p (.sl (l.map rowU))), .one ac] ⟨fr, hp, nx⟩ fun st' av => st' = ⟨fr, hp, nx⟩ ∧ av = .one (.p (iP (idxF p l))) := by
  (refine callF_to (nt := 19) (rs := [.tmp 4]) Try.func93 rfl rfl rfl (by simp) fun hcl tm Ds => ?_); simp only [initV]
  dsimp only [Kx.calleeT]
  have hlt := hcl.lt
  dsimp only at hlt
  refine tw ?_; try with_reducible intro QQ hQQ
  refine aw_weak (weak_thr [0, 1, 7, 8] (by simp only [go_sem, ↓reduceIte]; rfl)) ?_
  let FX : List (Nat × Obj') → Nat → Prop := fun hpX nxX => nx < nxX ∧ AL.get hpX nx = some (.kept fr tm) ∧ ∀ id o, id < nx → AL.get hp id = some o → AL.get hpX id = some o
  have hfin : ∀ {hpX : List (Nat × Obj')} {nxX : Nat} {v : Int}, FX hpX nxX → v = idxF p l → AL.get hpX nx = some (.kept fr tm) ∧ ∃ T : St, T.fr = fr ∧ Closed T ∧ (∀ id o, AL.get T.hp id = some o → AL.get hpX id = some o) ∧ There (AL.get T.hp) (refsV (.one (.p (iP v)))) ∧ T = ⟨fr, hp, nx⟩ ∧ (AV.one (.p (iP v)) : AV) = .one (.p (iP (idxF p l))) := by
    intro hpX nxX v ⟨g0, g1, g2⟩ hv
    exact ⟨g1, ⟨fr, hp, nx⟩, rfl, hcl, fun id o ho => g2 id o (hlt id o ho) ho, fun i hi => (by cases hi), rfl, by rw [hv]⟩
  refine aw_loop_hp (ι := { i : Nat // i ≤ l.length ∧ ∀ k, k < i → p (l.getD k 0) = false }) (fun i => [(8, iA i.1)]) (fun _ => FX) (fun i => l.length - i.1) ⟨0, by omega, fun k hk => absurd hk (by omega)⟩ (by first | rfl | (simp only [go_sem, ↓reduceIte]; rfl)) ?_ ?_
  · exact ⟨by dsimp only; omega, by simp (disch := first | decide | omega) only [go_sem, ↓reduceIte]; try rfl, fun id o hl h => by simp (disch := first | decide | omega) only [go_sem, ↓reduceIte]; exact h⟩
  rintro ⟨i, hi, hik⟩ hpX nxX hFX
  obtain ⟨f0, f1, f2⟩ := id hFX
  simp (disch := decide) only [ov, ovL, AL.get_nil, AL.get_eq, AL.get_ne, Option.getD_some, Option.getD_none]
  by_cases hil : i < l.length
  · have hmem := mem_of_getD (d := 0) hil
    have hfi := fun h => findIdx_of (p := p) hil hik h
    have hnx : p (l.getD i 0) = false → ∀ k, k < i + 1 → p (l.getD k 0) = false := fun hx k hk => by
      by_cases e : k = i
      · rw [e]; exact hx
      · exact hik k (by omega)
    clear hik
    try clear hF
    have hF := f1
    refine twF ?_; try with_reducible intro QQ hQQ
    refine tiF ?_; try clear hQQ QQ
    refine twF ?_; try with_reducible intro QQ hQQ
    refine ⟨rfl, .inr ⟨rfl, hp1 _ _ _ _ _ _ (l.getD i 0) _ rfl hmem rfl rfl (by simp (disch := first | decide | omega) only [hF, go_sem, ↓reduceIte]; try rfl) (by simp (disch := first | decide | omega) only [hF, go_sem, ↓reduceIte]; try rfl) (by intro id ob h1 h2; simp (disch := first | decide | omega) only [hF, go_sem, ↓reduceIte]; exact f2 id ob h1 h2) ?_⟩⟩
    cases hx : p (l.getD i 0)
    · (refine tsF ?_; try clear hQQ QQ)
      refine twF ?_; try with_reducible intro QQ hQQ
      refine tiF ?_; try clear hQQ QQ
      refine twF ?_; try with_reducible intro QQ hQQ
      refine ⟨⟨i + 1, by omega, hnx hx⟩, ?_, ?_, ?_⟩
      · simp only; omega
      · exact ⟨by dsimp only; omega, by simp (disch := first | decide | omega) only [hF, go_sem, ↓reduceIte]; try rfl, fun id o hl h => by simp (disch := first | decide | omega) only [hF, go_sem, ↓reduceIte]; exact f2 id o hl h⟩
      · first | rfl | (simp only [hF, go_sem, ↓reduceIte]; rfl)
    · (refine tsF ?_; try clear hQQ QQ)
      refine twF ?_; try with_reducible intro QQ hQQ
      refine tiF ?_; try clear hQQ QQ
      refine twF ?_; try with_reducible intro QQ hQQ
      refine aw_ret ⟨.inr rfl, _, by simp (disch := first | decide | omega) only [hF, go_sem, ↓reduceIte]; try rfl, hfin hFX (hfi hx).symm⟩
  · have hie : i = l.length := by omega
    subst hie
    have hidx := idx_none hik
    clear hik
    try clear hF
    have hF := f1
    refine twF ?_; try with_reducible intro QQ hQQ
    refine tiF ?_; try clear hQQ QQ
    refine twF ?_; try with_reducible intro QQ hQQ
    refine aw_ret ⟨.inr rfl, _, by simp (disch := first | decide | omega) only [go_sem, ↓reduceIte]; try rfl, hfin hFX hidx.symm⟩
theorem c_firstU {ac : AC} {p : Nat → Bool} {l : List Nat} (hl : l.length ≤ 100000) (hp1 : PredC .u64 ac p l hp nx) (h : l.any p = true) :
    CallF ⟨Try.prog, Z, w0, cap, nt, rd, pan, df, dk, rg⟩ 72 [.one (.p (.sl (l.map rowU))), .agg [ac]] ⟨fr, hp, nx⟩ fun st' av => st' = ⟨fr, hp, nx⟩ ∧ av = .one (.p (.v (.int .u64 ((firstF p l : Nat) : Int)))) := by
  obtain ⟨i, hi, hidx, hfi⟩ := idx_lt h
  have hm := ok_ask 4
  (refine callF_to (nt := 17) (rs := [.tmp 4]) Try.func72 rfl rfl rfl (by simp) fun hcl tm Ds => ?_); simp only [initV]
  dsimp only [Kx.calleeT]
  have hlt := hcl.lt
  dsimp only at hlt
  have hp2 : PredC .u64 ac p l ((nx + 1, .box [ac]) :: (nx, Obj'.kept fr tm) :: hp) (nx + 1 + 1) := hp1.mono fun id ob hi ho => ⟨by omega, by rw [AL.get_ne _ _ (by omega), AL.get_ne _ _ (by omega)]; exact ho⟩
  have hcI := fun {Z w0 cap nt rd pan df dk rg fr} => c_indexU (Z := Z) (w0 := w0) (cap := cap) (nt := nt) (rd := rd) (pan := pan) (df := df) (dk := dk) (rg := rg) (fr := fr) hl hp2
  rw [hidx] at hcI
  refine tw ?_; try with_reducible intro QQ hQQ
  (refine callS_ok rfl rfl 93 (by simp (disch := first | decide | omega) only [go_sem, ↓reduceIte]; try rfl) (by simp (disch := first | decide | omega) only [go_sem, ↓reduceIte]; try rfl) Try.func93 rfl (by decide) ((hcI).mono ?_)); rintro _ _ ⟨rfl, rfl⟩; refine ts ?_; try clear hQQ QQ
  refine tw ?_; try with_reducible intro QQ hQQ
  ((refine cO 52 rfl rfl rfl (hm) Try.func52 rfl ?_); refine tu ?_; try clear hQQ QQ); refine tw ?_; try with_reducible intro QQ hQQ
  refine aw_ret ⟨.inr rfl, _, by simp (disch := first | decide | omega) only [go_sem, ↓reduceIte]; try rfl, by simp (disch := first | decide | omega) only [go_sem, ↓reduceIte]; try rfl, ⟨fr, hp, nx⟩, rfl, hcl, fun id o ho => ?_, fun i hi => (by cases hi), rfl, ?_⟩
  · have ho : AL.get hp id = some o := ho
    have := hlt id o ho
    simp (disch := first | decide | omega) only [go_sem, ↓reduceIte]
    exact ho
  · rw [← hfi]
theorem cx_firstU {ac : AC} {p : Nat → Bool} {l : List Nat} (hl : l.length ≤ 100000) (hp1 : PredC .u64 ac p l hp nx) (h : l.any p = false) (hpan : pan [{ v := stopV 4, recovered := false }] ⟨fr, hp, nx⟩) :
    CallF ⟨Try.prog, Z, w0, cap, nt, rd, pan, df, dk, rg⟩ 72 [.one (.p (.sl (l.map rowU))), .agg [ac]] ⟨fr, hp, nx⟩ fun _ _ => False := by
  have hidx : idxF p l = -1 := by unfold idxF; rw [if_neg (by rw [h]; decide)]
  (refine callF_to (nt := 17) (rs := [.tmp 4]) Try.func72 rfl rfl rfl (by simp) fun hcl tm Ds => ?_); simp only [initV]
  dsimp only [Kx.calleeT]
  have hlt := hcl.lt
  dsimp only at hlt
  have hp2 : PredC .u64 ac p l ((nx + 1, .box [ac]) :: (nx, Obj'.kept fr tm) :: hp) (nx + 1 + 1) := hp1.mono fun id ob hi ho => ⟨by omega, by rw [AL.get_ne _ _ (by omega), AL.get_ne _ _ (by omega)]; exact ho⟩
  have hcI := fun {Z w0 cap nt rd pan df dk rg fr} => c_indexU (Z := Z) (w0 := w0) (cap := cap) (nt := nt) (rd := rd) (pan := pan) (df := df) (dk := dk) (rg := rg) (fr := fr) hl hp2
  rw [hidx] at hcI
  refine tw ?_; try with_reducible intro QQ hQQ
  (refine callS_ok rfl rfl 93 (by simp (disch := first | decide | omega) only [go_sem, ↓reduceIte]; try rfl) (by simp (disch := first | decide | omega) only [go_sem, ↓reduceIte]; try rfl) Try.func93 rfl (by decide) ((hcI).mono ?_)); rintro _ _ ⟨rfl, rfl⟩; refine ts ?_; try clear hQQ QQ
  refine tw ?_; try with_reducible intro QQ hQQ
  (refine ⟨rfl, .inr ⟨rfl, callS_x rfl 52 ⟨by simp (disch := first | decide | omega) only [go_sem, ↓reduceIte]; try rfl, by simp (disch := first | decide | omega) only [go_sem, ↓reduceIte]; try rfl⟩ Try.func52 rfl (by decide) (x_ask 4) ?_⟩⟩)
  refine ⟨by simp (disch := first | decide | omega) only [go_sem, ↓reduceIte]; try rfl, ⟨fr, hp, nx⟩, ⟨rfl, hcl, fun id o ho => ?_⟩, hpan⟩
  have ho : AL.get hp id = some o := ho
  have := hlt id o ho
  simp (disch := first | decide | omega) only [go_sem, ↓reduceIte]
  exact ho
end
end Go.Proofs.Ytgdhdikeicgndaa
/- classer: the exported function Proof. -/
namespace Go.Proofs.Ytgdhdikeicgndaa
open Go Go.RowKit Go.Sh Go.Pv Go.Cl
set_option maxHeartbeats 400000
set_option maxRecDepth 20000
set_option pp.maxSteps 60000
section
attribute [local go_sem] rowN rowsK_rN get_someN
variable {bales : List (Int × Int × Int)} {may drift mist : Int} {bs : List (Nat × Nat × Nat)} {May D M : Nat}
theorem s_never (h : LOK bs) (hD : D ≤ 30) (hM : M ≤ 6) (n : Nat) (hn : n < bs.length) (hcan : Go.Cl.mist D bs (2 ^ bs.length - 1) ≤ M) : FunS Try.prog 61 [.one (.p (iP (n : Int))), .one (.box 2 0)] (tH2 D M May bs Try.prog) 3 (.one (.one (.v (.bool (decide (toldS May (wrongS D M bs n) = 0)))))) := by
  have hw := s_wrong (May := May) h hD hM n hn hcan
  have ht := ok_told (D := D) (M := M) (May := May) (bs := bs) (wrongS D M bs n)
  have htl := told_le (May := May) (wrongS D M bs n)
  unfold tP at ht
  clear hcan
  generalize toldS May (wrongS D M bs n) = T at *
  generalize wrongS D M bs n = q at *
  obtain ⟨x, y⟩ := q
  dsimp only at hw ht
  unfold tH2 tH tC
  by_cases hT : T = 0
  · rw [decide_eq_true hT]
    refine funS_ok (nt := 10) (rs := [.tmp 3]) Try.func61 rfl rfl rfl (by simp) fun Z w0 cap pan dk tm => ?_; simp only [initV, pins, pinOf, List.map_cons, List.map_nil]
    refine tw ?_; try with_reducible intro QQ hQQ
    (refine callD_R [0, 1] (hw) rfl rfl (by simp (disch := first | decide | omega) only [go_sem, ↓reduceIte]; try rfl) (by simp (disch := first | decide | omega) only [go_sem, ↓reduceIte]; try rfl) Try.func47 rfl (by decide) (by rfl) (by repeat' (first | trivial | apply And.intro | (simp (disch := first | decide | omega) only [go_sem, ↓reduceIte]; first | done | rfl))) (by decide) (by decide) (by first | rfl | (simp (disch := first | decide | omega) only [go_sem, ↓reduceIte]; try rfl)) ?_); refine td ?_; try clear hQQ QQ
    refine tw ?_; try with_reducible intro QQ hQQ
    (refine cD 57 rfl rfl rfl (ht) Try.func57 rfl ?_); refine td ?_; try clear hQQ QQ
    refine tw ?_; try with_reducible intro QQ hQQ
    (refine aw_ret ⟨.inr rfl, (by simp (maxSteps := 400000) (disch := first | decide | omega) only [go_sem, ↓reduceIte]; try rfl), (by simp (maxSteps := 400000) (disch := first | decide | omega) only [go_sem, ↓reduceIte]; try rfl), (by simp only [List.mem_cons, List.mem_nil_iff, forall_eq_or_imp, forall_eq, false_imp_iff, implies_true, or_false, and_true]; simp (maxSteps := 400000) (disch := first | decide | omega) only [go_sem, ↓reduceIte]; try exact ⟨rfl, rfl⟩)⟩)
  · rw [decide_eq_false hT]
    refine funS_ok (nt := 10) (rs := [.tmp 3]) Try.func61 rfl rfl rfl (by simp) fun Z w0 cap pan dk tm => ?_; simp only [initV, pins, pinOf, List.map_cons, List.map_nil]
    refine tw ?_; try with_reducible intro QQ hQQ
    (refine callD_R [0, 1] (hw) rfl rfl (by simp (disch := first | decide | omega) only [go_sem, ↓reduceIte]; try rfl) (by simp (disch := first | decide | omega) only [go_sem, ↓reduceIte]; try rfl) Try.func47 rfl (by decide) (by rfl) (by repeat' (first | trivial | apply And.intro | (simp (disch := first | decide | omega) only [go_sem, ↓reduceIte]; first | done | rfl))) (by decide) (by decide) (by first | rfl | (simp (disch := first | decide | omega) only [go_sem, ↓reduceIte]; try rfl)) ?_); refine td ?_; try clear hQQ QQ
    refine tw ?_; try with_reducible intro QQ hQQ
    (refine cD 57 rfl rfl rfl (ht) Try.func57 rfl ?_); refine td ?_; try clear hQQ QQ
    refine tw ?_; try with_reducible intro QQ hQQ
    (refine aw_ret ⟨.inr rfl, (by simp (maxSteps := 400000) (disch := first | decide | omega) only [go_sem, ↓reduceIte]; try rfl), (by simp (maxSteps := 400000) (disch := first | decide | omega) only [go_sem, ↓reduceIte]; try rfl), (by simp only [List.mem_cons, List.mem_nil_iff, forall_eq_or_imp, forall_eq, false_imp_iff, implies_true, or_false, and_true]; simp (maxSteps := 400000) (disch := first | decide | omega) only [go_sem, ↓reduceIte]; try exact ⟨rfl, rfl⟩)⟩)
theorem sx_never (h : LOK bs) (hD : D ≤ 30) (n : Int) (hcan : ¬ Go.Cl.mist D bs (2 ^ bs.length - 1) ≤ M) : FunSX Try.prog 61 [.one (.p (iP n)), .one (.box 2 0)] (tH2 D M May bs Try.prog) 3 (stopV 10) := by
  have hw := sx_wrong (M := M) (May := May) h hD n hcan
  clear hcan
  unfold tH2 tH tC
  refine funSX_ok (nt := 10) Try.func61 rfl rfl (by simp) fun Z w0 cap dk tm => ?_; simp only [initV, pins, pinOf, List.map_cons, List.map_nil]
  refine tw ?_; try with_reducible intro QQ hQQ
  refine callD_SX [0, 1] (hw) rfl rfl (by simp (disch := first | decide | omega) only [go_sem, ↓reduceIte]; try rfl) (by simp (disch := first | decide | omega) only [go_sem, ↓reduceIte]; try rfl) Try.func47 rfl (by decide) (by rfl) (by repeat' (first | trivial | apply And.intro | (simp (disch := first | decide | omega) only [go_sem, ↓reduceIte]; first | done | rfl))) (by decide) (by decide) (by first | rfl | (simp (disch := first | decide | omega) only [go_sem, ↓reduceIte]; try rfl)) ?_ ?_; rotate_left; ((repeat (first | refine evDead_skip (by rfl) ?_ | (refine evDead_step (by rfl) (by simp (maxSteps := 400000) (disch := first | decide | omega) only [go_sem, ↓reduceIte]; try rfl) (by simp (maxSteps := 400000) (disch := first | decide | omega) only [go_sem, ↓reduceIte]; try rfl) ?_; simp (maxSteps := 400000) (disch := first | decide | omega) only [go_sem, ↓reduceIte]))); (try (show okDraw _ _ = true)); kernel_rfl); intro fr hk
  refine ⟨rfl, by simp (disch := first | decide | omega) only [go_sem, ↓reduceIte], ?_⟩
  simp only [List.mem_cons, List.mem_nil_iff, forall_eq_or_imp, forall_eq, false_imp_iff, implies_true, or_false, and_true]
  simp (disch := first | decide | omega) only [go_sem, ↓reduceIte]
/-- Does a bale never keep the line? -/
def nevB (D M May : Nat) (bs : List (Nat × Nat × Nat)) (i : Nat) : Bool := decide (toldS May (wrongS D M bs i) = 0)
def whyP (bales : List (Int × Int × Int)) (may drift mist : Int) : Int := if whyL bales may drift mist true = 0 then (if (List.range bales.length).any (nevB drift.toNat mist.toNat may.toNat (nB bales)) = true then 0 else 4) else whyL bales may drift mist true
def proofN (bales : List (Int × Int × Int)) (may drift mist : Int) : Nat := firstF (nevB drift.toNat mist.toNat may.toNat (nB bales)) (List.range bales.length)
theorem ok_Proof : FunOK Try.prog 22 [lineR bales may drift mist] (ansN (whyP bales may drift mist) (proofN bales may drift mist : Nat)) := by
  refine fun_expA (l := []) (od := _) (nt := 14) (t := 3) (eb := 1) (rs := [.tmp 2, .cell 3 29]) ans43 Try.func22 rfl rfl rfl (by simp) rfl rfl rfl ansFid_eq Try.func43 rfl (by decide) fun Z w0 => ?_; simp only [initFr, avR, List.map_cons, List.map_nil]
  simp only [lineR, List.map_cons, List.map_nil]
  refine tw ?_; try with_reducible intro QQ hQQ
  refine ⟨rfl, ?_⟩
  (refine ts ?_; try clear hQQ QQ)
  refine tw ?_; try with_reducible intro QQ hQQ
  cases hv : lineB bales may drift mist
  · have hwhy : whyP bales may drift mist = 1 := by simp [whyP, whyL, hv]
    have hb := hwhy
    refine callS_ok rfl rfl 44 (by simp (disch := first | decide | omega) only [go_sem, ↓reduceIte]; try rfl) (by simp (disch := first | decide | omega) only [go_sem, ↓reduceIte]; try rfl) Try.func44 rfl (by decide) (CallF.mono (c_open_arg hv Try.func51 rfl (by decide) ?_ ?_) fun _ _ h => False.elim h); (intro i hi; first | exact (List.not_mem_nil hi).elim | (simp only [List.flatMap_cons, List.flatMap_nil, refsCC, List.append_nil, List.mem_singleton] at hi; subst hi; exact ⟨_, by simp (disch := first | decide | omega) only [go_sem, ↓reduceIte]; try rfl⟩))
    exact ⟨1, 0, rfl, by simp (disch := first | decide | omega) only [go_sem, ↓reduceIte]; try rfl, by simp (disch := first | decide | omega) only [go_sem, ↓reduceIte]; try rfl, by simp (disch := first | decide | omega) only [resA, res1, ansR, ansN, hwhy, hb, go_sem, ↓reduceIte]; try rfl⟩
  obtain ⟨bs, May, D, M, rfl, rfl, rfl, rfl, hL, hMay, hD, hM⟩ := line_of hv
  simp only [rows_cast]
  have hl1 := hL.n1
  have hl6 := hL.n6
  have hnm := ok_numbers (bs.length : Int) (by omega)
  rw [Int.toNat_natCast] at hnm
  have hq : (List.range (bs.map castB).length).any (nevB (D : Int).toNat (M : Int).toNat (May : Int).toNat (nB (bs.map castB))) = (List.range bs.length).any (nevB D M May bs) := by rw [nB_cast, List.length_map, Int.toNat_natCast, Int.toNat_natCast, Int.toNat_natCast]
  have hpn : proofN (bs.map castB) May D M = firstF (nevB D M May bs) (List.range bs.length) := by unfold proofN; rw [nB_cast, List.length_map, Int.toNat_natCast, Int.toNat_natCast, Int.toNat_natCast]
  cases hc : canB (bs.map castB) D M
  · have hwhy : whyP (bs.map castB) May D M = 10 := by simp [whyP, whyL, hv, hc]
    rw [canB_cast] at hc
    have hsx := fun i => sx_never (May := May) hL hD i (of_decide_eq_false hc)
    have hb := hwhy
    clear hc hv hq hpn
    have hsx0 := fun x : Nat => hsx x
    have hll : (List.range bs.length).length = bs.length := List.length_range
    generalize List.range bs.length = l at *
    refine callS_ok rfl rfl 44 (by simp (disch := first | decide | omega) only [go_sem, ↓reduceIte]; try rfl) (by simp (disch := first | decide | omega) only [go_sem, ↓reduceIte]; try rfl) Try.func44 rfl (by decide) (CallF.mono (c_open_ok hL hMay hD hM Try.func51 rfl (by decide) ?_ ?_) ?_); (intro i hi; first | exact (List.not_mem_nil hi).elim | (simp only [List.flatMap_cons, List.flatMap_nil, refsCC, List.append_nil, List.mem_singleton] at hi; subst hi; exact ⟨_, by simp (disch := first | decide | omega) only [go_sem, ↓reduceIte]; try rfl⟩)); (exact is_box0 s_always); rintro _ _ ⟨rfl, rfl⟩; refine ts ?_; try clear hQQ QQ
    refine tw ?_; try with_reducible intro QQ hQQ
    ((refine cB 60 rfl rfl rfl (hnm) Try.func60 rfl ?_); refine tu ?_; try clear hQQ QQ); refine tw ?_; try with_reducible intro QQ hQQ
    (refine callS_ok rfl rfl 59 (by simp (maxSteps := 400000) (disch := first | decide | omega) only [go_sem, ↓reduceIte]; try rfl) (by simp (maxSteps := 400000) (disch := first | decide | omega) only [go_sem, ↓reduceIte]; try rfl) Try.func59 rfl (by decide) ?_); (refine callF_in (nt := 17) (rs := [.tmp 4]) Try.func59 rfl rfl rfl (by simp) fun tm Ds => ?_); simp only [initV, capV, List.map_cons, List.map_nil, List.cons_append, List.nil_append]
    refine tw ?_; try with_reducible intro QQ hQQ
    (refine callS_ok rfl rfl 84 (by simp (maxSteps := 400000) (disch := first | decide | omega) only [go_sem, ↓reduceIte]; try rfl) (by simp (maxSteps := 400000) (disch := first | decide | omega) only [go_sem, ↓reduceIte]; try rfl) Try.func84 rfl (by decide) ?_); (refine callF_in (nt := 19) (rs := [.tmp 4]) Try.func84 rfl rfl rfl (by simp) fun tm Ds => ?_); simp only [initV, capV, List.map_cons, List.map_nil, List.cons_append, List.nil_append]
    refine tw ?_; try with_reducible intro QQ hQQ
    refine aw_loop_ov (ι := { i : Nat // i = 0 }) (fun i => [(8, iA i.1)]) (fun _ => []) (fun i => 1 - i.1) ⟨0, rfl⟩ (by first | rfl | (simp only [go_sem, ↓reduceIte]; first | done | rfl | (simp; try rfl))) ?_
    rintro ⟨i, hi⟩
    subst hi
    simp (disch := decide) only [ov, ovL, AL.get_nil, AL.get_eq, AL.get_ne, Option.getD_some, Option.getD_none]
    refine tw ?_; try with_reducible intro QQ hQQ
    refine ti ?_; try clear hQQ QQ
    refine tw ?_; try with_reducible intro QQ hQQ
    refine callO_SX [5, 4, 6] (hsx0 (l.getD 0 0)) rfl rfl (by simp (disch := first | decide | omega) only [go_sem, ↓reduceIte]; try rfl) (by simp (disch := first | decide | omega) only [go_sem, ↓reduceIte]; try rfl) Try.func61 rfl (by decide) (by rfl) (by repeat' (first | trivial | apply And.intro | (simp (disch := first | decide | omega) only [go_sem, ↓reduceIte]; first | done | rfl))) (by decide) (by decide) (by first | rfl | (simp (disch := first | decide | omega) only [go_sem, ↓reduceIte]; try rfl)) ?_
    refine ⟨by simp (disch := first | decide | omega) only [go_sem, ↓reduceIte]; try rfl, ?_⟩
    refine ⟨by simp (disch := first | decide | omega) only [go_sem, ↓reduceIte]; try rfl, ?_⟩
    exact ⟨10, 0, rfl, by simp (disch := first | decide | omega) only [resA, res1, ansR, ansN, hwhy, hb, go_sem, ↓reduceIte]; try rfl, by simp (disch := first | decide | omega) only [resA, res1, ansR, ansN, hwhy, hb, go_sem, ↓reduceIte]; try rfl⟩
  · have hs := fun k hk => s_never (May := May) hL hD hM k hk (of_decide_eq_true (by rw [canB_cast] at hc; exact hc))
    cases ha : (List.range bs.length).any (nevB D M May bs)
    · have hwhy : whyP (bs.map castB) May D M = 4 := by rw [ha] at hq; unfold whyP; rw [hq]; simp [whyL, hv, hc]
      have hb := hwhy
      clear hc hv hq hpn
      refine callS_ok rfl rfl 44 (by simp (disch := first | decide | omega) only [go_sem, ↓reduceIte]; try rfl) (by simp (disch := first | decide | omega) only [go_sem, ↓reduceIte]; try rfl) Try.func44 rfl (by decide) (CallF.mono (c_open_ok hL hMay hD hM Try.func51 rfl (by decide) ?_ ?_) ?_); (intro i hi; first | exact (List.not_mem_nil hi).elim | (simp only [List.flatMap_cons, List.flatMap_nil, refsCC, List.append_nil, List.mem_singleton] at hi; subst hi; exact ⟨_, by simp (disch := first | decide | omega) only [go_sem, ↓reduceIte]; try rfl⟩)); (exact is_box0 s_always); rintro _ _ ⟨rfl, rfl⟩; refine ts ?_; try clear hQQ QQ
      refine tw ?_; try with_reducible intro QQ hQQ
      ((refine cB 60 rfl rfl rfl (hnm) Try.func60 rfl ?_); refine tu ?_; try clear hQQ QQ); refine tw ?_; try with_reducible intro QQ hQQ
      refine callS_ok rfl rfl 59 (by simp (disch := first | decide | omega) only [go_sem, ↓reduceIte]; try rfl) (by simp (disch := first | decide | omega) only [go_sem, ↓reduceIte]; try rfl) Try.func59 rfl (by decide) (CallF.mono (cx_firstN (l := List.range bs.length) (by simp; omega) (pred_clo (nx0 := 7) (kd := .i64) Try.func61 rfl (by decide) (fun K st x hK hx hh => callF_S (hp := tH2 D M May bs Try.prog) (avs0 := [.one (.p (iP (x : Int))), .one (.box 2 0)]) (nx := 3) [5, 4, 6] (by rw [hK]; exact hs x (List.mem_range.1 hx)) rfl (show _ ∧ _ ∧ _ ∧ True from ⟨hh 6 _ (by decide) rfl, hh 4 _ (by decide) rfl, hh 5 _ (by decide) rfl, trivial⟩) (by decide) (by decide) rfl)) ha ?_) fun _ _ h => False.elim h)
      exact ⟨4, 0, rfl, by simp (disch := first | decide | omega) only [go_sem, ↓reduceIte]; try rfl, by simp (disch := first | decide | omega) only [go_sem, ↓reduceIte]; try rfl, by simp (disch := first | decide | omega) only [resA, res1, ansR, ansN, hwhy, hb, go_sem, ↓reduceIte]; try rfl⟩
    · have hwhy : whyP (bs.map castB) May D M = 0 := by rw [ha] at hq; unfold whyP; rw [hq]; simp [whyL, hv, hc]
      have hb := hwhy
      clear hc hv hq
      obtain ⟨x, hans⟩ : ∃ x, firstF (nevB D M May bs) (List.range bs.length) = x := ⟨_, rfl⟩
      refine callS_ok rfl rfl 44 (by simp (disch := first | decide | omega) only [go_sem, ↓reduceIte]; try rfl) (by simp (disch := first | decide | omega) only [go_sem, ↓reduceIte]; try rfl) Try.func44 rfl (by decide) (CallF.mono (c_open_ok hL hMay hD hM Try.func51 rfl (by decide) ?_ ?_) ?_); (intro i hi; first | exact (List.not_mem_nil hi).elim | (simp only [List.flatMap_cons, List.flatMap_nil, refsCC, List.append_nil, List.mem_singleton] at hi; subst hi; exact ⟨_, by simp (disch := first | decide | omega) only [go_sem, ↓reduceIte]; try rfl⟩)); (exact is_box0 s_always); rintro _ _ ⟨rfl, rfl⟩; refine ts ?_; try clear hQQ QQ
      refine tw ?_; try with_reducible intro QQ hQQ
      ((refine cB 60 rfl rfl rfl (hnm) Try.func60 rfl ?_); refine tu ?_; try clear hQQ QQ); refine tw ?_; try with_reducible intro QQ hQQ
      (refine callS_ok rfl rfl 59 (by simp (disch := first | decide | omega) only [go_sem, ↓reduceIte]; try rfl) (by simp (disch := first | decide | omega) only [go_sem, ↓reduceIte]; try rfl) Try.func59 rfl (by decide) ((c_firstN (l := List.range bs.length) (by simp; omega) (pred_clo (nx0 := 7) (kd := .i64) Try.func61 rfl (by decide) (fun K st x hK hx hh => callF_S (hp := tH2 D M May bs Try.prog) (avs0 := [.one (.p (iP (x : Int))), .one (.box 2 0)]) (nx := 3) [5, 4, 6] (by rw [hK]; exact hs x (List.mem_range.1 hx)) rfl (show _ ∧ _ ∧ _ ∧ True from ⟨hh 6 _ (by decide) rfl, hh 4 _ (by decide) rfl, hh 5 _ (by decide) rfl, trivial⟩) (by decide) (by decide) rfl)) ha).mono ?_)); rintro _ _ ⟨rfl, rfl⟩; refine ts ?_; try clear hQQ QQ
      rw [hans]
      rw [hans] at hpn
      have hans := hpn
      refine tw ?_; try with_reducible intro QQ hQQ
      (refine aw_ret ⟨.inr rfl, by simp (disch := first | decide | omega) only [go_sem, ↓reduceIte]; try rfl, by simp (disch := first | decide | omega) only [resA, res1, ansR, ansN, hb, hwhy, hans, go_sem, ↓reduceIte]; try rfl⟩)
end
end Go.Proofs.Ytgdhdikeicgndaa
