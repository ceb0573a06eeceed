/- Texts of the proof, joined. -/
import Derived.Test.YthedkfiebmnghaaGreatKya21
set_option linter.all false
set_option maxHeartbeats 16000000
set_option maxRecDepth 20000
namespace Go.Proofs.YthedkfiebmnghaaGreat
open Go Go.RowKit Go.Sh Go.Pv Go.By
def YH (y : YD) (c : AC) (b : Nat) (o : Obj) : List (Nat × Obj') := [(0, .box [.p (.sl (y.ss.map SD.row)), .p (.sl (y.F.map rowN)), .p (iP (y.T : Int)), .p (iP (y.L : Int)), c, .raw 1]), (1, .raw b o)]
theorem mem_of_getD {α : Type} {l : List α} {i : Nat} {d : α} (h : i < l.length) : l.getD i d ∈ l := by rw [List.getD_eq_getElem?_getD, List.getElem?_eq_getElem h]; exact List.getElem_mem h
section
variable {y : YD} {c : AC} {b : Nat} {o : Obj}
theorem s_isStand (h : YOK y) (i : Int) : FunS Tryz.prog 44 [.one (.box 0 0), .one (.p (iP i))] (YH y c b o) 2 (.one (.one (.v (.bool (inB i 0 ((y.S : Int) - 1)))))) := by
 have hw := ok_within i 0 ((y.S : Int) - 1)
 have hll : (y.ss.map SD.row).length = y.S := List.length_map _
 have hl2 : y.ss.length = y.S := rfl
 have n1 := h.n1
 have n3 := h.n3
 unfold YH
 refine funS_ok (nt := 14) (rs := [.tmp 4]) Tryz.func44 rfl rfl rfl (by simp) fun Z w0 cap pan dk tm => ?_; refine tV ?_
 try clear hF
 have hF := And.intro hll (hl2)
 refine twF fun QQ hQQ => ?_
 ((refine cOF 45 rfl rfl rfl (hw) Tryz.func45 rfl ?_); refine tuF ?_; clear hQQ QQ); refine twF ?_
 (refine aw_ret ⟨.inr rfl, qMF, qMF, qVF⟩)
def IsD (c : AC) : Prop := c = .nil ∨ ∃ x, c = .p x
theorem s_isStandC (h : YOK y) (hc : IsD c) (i : Int) : FunS Tryz.prog 91 [.one (.p (iP i)), .one (.box 2 0)] ((2, .box [.box 0 0]) :: YH y c b o) 3 (.one (.one (.v (.bool (!inB i 0 ((y.S : Int) - 1)))))) := by
 have hs := s_isStand (c := c) (b := b) (o := o) h i
 rcases hc with rfl | ⟨x, rfl⟩
 ·unfold YH at hs ⊢
  refine funS_ok (nt := 8) (rs := [.tmp 3]) Tryz.func91 rfl rfl rfl (by simp) fun Z w0 cap pan dk tm => ?_; refine tV ?_
  refine tw fun QQ hQQ => ?_
  (refine callO_S [0, 1] (hs) rfl rfl qN qN Tryz.func44 rfl (by decide) (by rfl) qAN (by decide) (by decide) qCN ?_); refine ts ?_; clear hQQ QQ
  refine tw ?_
  (refine aw_ret ⟨.inr rfl, qMN, qMN, qVN⟩)
 ·unfold YH at hs ⊢
  refine funS_ok (nt := 8) (rs := [.tmp 3]) Tryz.func91 rfl rfl rfl (by simp) fun Z w0 cap pan dk tm => ?_; refine tV ?_
  refine tw fun QQ hQQ => ?_
  (refine callO_S [0, 1] (hs) rfl rfl qN qN Tryz.func44 rfl (by decide) (by rfl) qAN (by decide) (by decide) qCN ?_); refine ts ?_; clear hQQ QQ
  refine tw ?_
  (refine aw_ret ⟨.inr rfl, qMN, qMN, qVN⟩)
end
def PredI (ac : AC) (p : Int → Bool) (l : List Int) (hp0 : List (Nat × Obj')) (nx0 : Nat) : Prop :=
 ∀ (K : Kx) (st : St) (o : Oper) (f arg : Operand) (argTypes : Array TypeId) (x : Int) (Q : St → Prop), K.P = Tryz.prog → x ∈ l → dstOK K o.dst = true → o.op = .call { callee := .value f, args := #[arg], argTypes := argTypes } → evalA (AL.get st.fr) f = some (.one ac) → evalA (AL.get st.fr) arg = some (.one (.p (iP x))) →
  (∀ id ob, id < nx0 → AL.get hp0 id = some ob → AL.get st.hp id = some ob) → Q (st.put o.dst (.one (.p (.v (.bool (p x)))))) → CallS K st o Q
theorem pred_clo {g : FuncId} {gn : Func} {caps : List CC} {p : Int → Bool} {l : List Int} {hp0 : List (Nat × Obj')} {nx0 : Nat} (h5 : Tryz.prog.funcs[g]? = some gn) (h6 : gn.body.isSome = true) (h7 : gn.name ≠ "runtime.NumGoroutine")
  (hf : ∀ (K : Kx) (st : St) (x : Int), K.P = Tryz.prog → x ∈ l → (∀ id ob, id < nx0 → AL.get hp0 id = some ob → AL.get st.hp id = some ob) → CallF K g ([.one (.p (iP x))] ++ caps.map capV) st fun st' av => st' = st ∧ av = .one (.p (.v (.bool (p x))))) : PredI (.fn g caps) p l hp0 nx0 := by
 intro K st o f arg argTypes x Q hK hx hd ho h1 h2 hh hQ
 have hf := hf K st x hK hx hh
 obtain ⟨P, Z, w0, cap, nt, rd, pan, df, dk, rg⟩ := K
 dsimp only at hK
 subst hK
 refine callS_of hd ho g (caps := caps) (avs := [.one (.p (iP x))]) (by rw [h1]; rfl) (by simp [mapO, h2]) h5 h6 h7 (hf.mono ?_)
 rintro _ _ ⟨rfl, rfl⟩
 exact hQ
theorem PredI.mono {ac : AC} {p : Int → Bool} {l : List Int} {hp0 hp1 : List (Nat × Obj')} {nx0 nx1 : Nat} (h : PredI ac p l hp0 nx0) (hh : ∀ id ob, id < nx0 → AL.get hp0 id = some ob → id < nx1 ∧ AL.get hp1 id = some ob) : PredI ac p l hp1 nx1 :=
 fun K st o f arg argTypes x Q h1 h2 h3 h4 h5 h6 h7 h8 => h K st o f arg argTypes x Q h1 h2 h3 h4 h5 h6 (fun id ob hi ho => let ⟨g1, g2⟩ := hh id ob hi ho; h7 id ob g1 g2) h8
def idxI (p : Int → Bool) (l : List Int) : Int := if l.any p = true then ((l.findIdx p : Nat) : Int) else -1
theorem idxI_of {p : Int → Bool} {l : List Int} {i : Nat} (hi : i < l.length) (h : ∀ k, k < i → p (l.getD k 0) = false) (hp : p (l.getD i 0) = true) : idxI p l = i := by
 have hg : ∀ k (hk : k < l.length), l.getD k 0 = l[k] := fun k hk => by simp [List.getD, hk]
 have ha : l.any p = true := List.any_eq_true.2 ⟨_, mem_of_getD (d := 0) hi, hp⟩
 unfold idxI
 rw [if_pos ha]
 have : l.findIdx p = i := by
  rw [List.findIdx_eq hi]
  refine ⟨by rw [← hg]; exact hp, fun j hj => ?_⟩
  have := h j hj
  rw [hg j (by omega)] at this
  exact this
 rw [this]
theorem idxI_none {p : Int → Bool} {l : List Int} (h : ∀ k, k < l.length → p (l.getD k 0) = false) : idxI p l = -1 := by
 unfold idxI
 rw [if_neg]
 intro ha
 obtain ⟨x, hx, hp⟩ := List.any_eq_true.1 ha
 obtain ⟨k, hk, rfl⟩ := List.getElem_of_mem hx
 have := h k hk
 rw [show l.getD k 0 = l[k] by simp [List.getD, hk]] at this
 rw [this] at hp
 cases hp
theorem idxI_nonneg {p : Int → Bool} {l : List Int} : decide (0 ≤ idxI p l) = l.any p := by
 unfold idxI
 cases h : l.any p
 ·rfl
 ·rw [if_pos rfl]; exact decide_eq_true (by omega)
section
variable {Z : Zn} {w0 : World} {cap : Nat → Prop} {nt : Nat} {rd : Option Nat} {pan : List PanicEntry → St → Prop} {df : Option Nat} {dk : List Nat} {rg : Bool} {fr : List (Nat × AV)} {hp : List (Nat × Obj')} {nx : Nat}
theorem c_indexF {ac : AC} {p : Int → Bool} {l : List Int} (hl : l.length ≤ 100000) (hp1 : PredI ac p l hp nx) :
  CallF ⟨Tryz.prog, Z, w0, cap, nt, rd, pan, df, dk, rg⟩ 120 [.one (.p (.sl (l.map row1))), .one ac] ⟨fr, hp, nx⟩ fun st' av => st' = ⟨fr, hp, nx⟩ ∧ av = .one (.p (iP (idxI p l))) := by
 (refine callF_to (nt := 19) (rs := [.tmp 4]) Tryz.func120 rfl rfl rfl (by simp) fun hcl tm Ds => ?_); simp only [initV]
 dsimp only [Kx.calleeT]
 have hlt := hcl.lt
 dsimp only at hlt
 refine tw ?_
 refine aw_weak (weak_thr [0, 1, 7, 8] (by simp only [go_sem, ↓reduceIte]; rfl)) ?_
 let FX : List (Nat × Obj') → Nat → Prop := fun hpX nxX => nx < nxX ∧ AL.get hpX nx = some (.kept fr tm) ∧ ∀ id o, id < nx → AL.get hp id = some o → AL.get hpX id = some o
 have hfin : ∀ {hpX : List (Nat × Obj')} {nxX : Nat} {v : Int}, FX hpX nxX → v = idxI p l → AL.get hpX nx = some (.kept fr tm) ∧ ∃ T : St, T.fr = fr ∧ Closed T ∧ (∀ id o, AL.get T.hp id = some o → AL.get hpX id = some o) ∧ There (AL.get T.hp) (refsV (.one (.p (iP v)))) ∧ T = ⟨fr, hp, nx⟩ ∧ (AV.one (.p (iP v)) : AV) = .one (.p (iP (idxI p l))) := by
  intro hpX nxX v ⟨g0, g1, g2⟩ hv
  exact ⟨g1, ⟨fr, hp, nx⟩, rfl, hcl, fun id o ho => g2 id o (hlt id o ho) ho, fun i hi => (by cases hi), rfl, by rw [hv]⟩
 refine aw_loop_hp (ι := { i : Nat // i ≤ l.length ∧ ∀ k, k < i → p (l.getD k 0) = false }) (fun i => [(8, iA i.1)]) (fun _ => FX) (fun i => l.length - i.1) ⟨0, by omega, fun k hk => absurd hk (by omega)⟩ (by first | rfl | (simp only [go_sem, ↓reduceIte]; rfl)) ?_ ?_
 ·exact ⟨by dsimp only; omega, qN, fun id o hl h => by simp (disch := first | decide | omega) only [go_sem, ↓reduceIte]; exact h⟩
 rintro ⟨i, hi, hik⟩ hpX nxX hFX
 obtain ⟨f0, f1, f2⟩ := id hFX
 refine tO ?_
 by_cases hil : i < l.length
 ·have hmem := mem_of_getD (d := 0) hil
  have hfi := fun h => idxI_of (p := p) hil hik h
  have hnx : p (l.getD i 0) = false → ∀ k, k < i + 1 → p (l.getD k 0) = false := fun hx k hk => by
   by_cases e : k = i
   ·rw [e]; exact hx
   ·exact hik k (by omega)
  clear hik
  try clear hF
  have hF := f1
  refine twF ?_
  refine tiF ?_
  refine twF fun QQ hQQ => ?_
  refine ⟨rfl, .inr ⟨rfl, hp1 _ _ _ _ _ _ (l.getD i 0) _ rfl hmem rfl rfl qF qF (by intro id ob h1 h2; simp (disch := first | decide | omega) only [hF, go_sem, ↓reduceIte]; exact f2 id ob h1 h2) ?_⟩⟩
  cases hx : p (l.getD i 0)
  ·(refine tsF ?_; clear hQQ QQ)
   refine twF ?_
   refine tiF ?_
   refine twF ?_
   refine ⟨⟨i + 1, by omega, hnx hx⟩, ?_, ?_, ?_⟩
   ·simp only; omega
   ·exact ⟨by dsimp only; omega, qF, fun id o hl h => by simp (disch := first | decide | omega) only [hF, go_sem, ↓reduceIte]; exact f2 id o hl h⟩
   ·first | rfl | (simp only [hF, go_sem, ↓reduceIte]; rfl)
  ·(refine tsF ?_; clear hQQ QQ)
   refine twF ?_
   refine tiF ?_
   refine twF ?_
   refine aw_ret ⟨.inr rfl, _, qF, hfin hFX (hfi hx).symm⟩
 ·have hie : i = l.length := by omega
  subst hie
  have hidx := idxI_none hik
  clear hik
  try clear hF
  have hF := f1
  refine twF ?_
  refine tiF ?_
  refine twF ?_
  refine aw_ret ⟨.inr rfl, _, qN, hfin hFX hidx.symm⟩
theorem c_containsF {ac : AC} {p : Int → Bool} {l : List Int} (hl : l.length ≤ 100000) (hp1 : PredI ac p l hp nx) :
  CallF ⟨Tryz.prog, Z, w0, cap, nt, rd, pan, df, dk, rg⟩ 90 [.one (.p (.sl (l.map row1))), .one ac] ⟨fr, hp, nx⟩ fun st' av => st' = ⟨fr, hp, nx⟩ ∧ av = .one (.p (.v (.bool (l.any p)))) := by
 have hn := idxI_nonneg (p := p) (l := l)
 (refine callF_to (nt := 9) (rs := [.tmp 4]) Tryz.func90 rfl rfl rfl (by simp) fun hcl tm Ds => ?_); simp only [initV]
 dsimp only [Kx.calleeT]
 have hlt := hcl.lt
 dsimp only at hlt
 have hp2 : PredI ac p l ((nx, Obj'.kept fr tm) :: hp) (nx + 1) := hp1.mono fun id ob hi ho => ⟨by omega, by rw [AL.get_ne _ _ (by omega)]; exact ho⟩
 refine tw fun QQ hQQ => ?_
 (refine callS_ok rfl rfl 120 qN qN Tryz.func120 rfl (by decide) ((c_indexF hl hp2).mono ?_)); rintro _ _ ⟨rfl, rfl⟩; refine ts ?_; clear hQQ QQ
 refine tw ?_
 rw [hn]
 refine aw_ret ⟨.inr rfl, _, qN, qN, ⟨fr, hp, nx⟩, rfl, hcl, fun id o ho => ?_, fun i hi => (by cases hi), rfl, rfl⟩
 have ho : AL.get hp id = some o := ho
 have := hlt id o ho
 simp (disch := first | decide | omega) only [go_sem, ↓reduceIte]
 exact ho
end
section
variable {y : YD} {c : AC} {b : Nat} {o : Obj}
theorem all_of_any (l : List Int) (p : Int → Bool) : (!l.any fun x => !p x) = l.all p := by
 induction l with
 | nil => rfl
 | cons x r ih => simp only [List.any_cons, List.all_cons, Bool.not_or, Bool.not_not]; rw [ih]
theorem s_areStands (h : YOK y) (hc : IsD c) (l : List Int) (hl : l.length ≤ 100000) : FunS Tryz.prog 54 [.one (.box 0 0), .one (.p (.sl (l.map row1)))] (YH y c b o) 2 (.one (.one (.v (.bool (l.all fun x => inB x 0 ((y.S : Int) - 1)))))) := by
 have hS := fun i => s_isStandC (b := b) (o := o) h hc i
 rw [← all_of_any]
 rcases hc with rfl | ⟨x0, rfl⟩
 ·unfold YH at hS ⊢
  refine funS_ok (nt := 9) (rs := [.tmp 4]) Tryz.func54 rfl rfl rfl (by simp) fun Z w0 cap pan dk tm => ?_; refine tV ?_
  refine tw fun QQ hQQ => ?_
  refine callS_ok rfl rfl 90 qN qN Tryz.func90 rfl (by decide) (CallF.mono (c_containsF (p := fun x => !inB x 0 ((y.S : Int) - 1)) hl (pred_clo Tryz.func91 rfl (by decide) ?_)) ?_)
  ·intro K st x hK _ hh
   refine callF_S (hp := (2, .box [.box 0 0]) :: [(0, .box [.p (.sl (y.ss.map SD.row)), .p (.sl (y.F.map rowN)), .p (iP (y.T : Int)), .p (iP (y.L : Int)), .nil, .raw 1]), (1, .raw b o)]) (avs0 := [.one (.p (iP x)), .one (.box 2 0)]) (nx := 3) [0, 1, 3] (by rw [hK]; exact hS x) rfl (show _ ∧ _ ∧ _ ∧ True from ⟨hh 3 _ (by decide) (by rfl), hh 0 _ (by decide) (by rfl), hh 1 _ (by decide) (by rfl), trivial⟩) (by decide) (by decide) rfl
  ·rintro _ _ ⟨rfl, rfl⟩
   (refine ts ?_; clear hQQ QQ)
   refine tw ?_
   (refine aw_ret ⟨.inr rfl, qMN, qMN, qVN⟩)
 ·unfold YH at hS ⊢
  refine funS_ok (nt := 9) (rs := [.tmp 4]) Tryz.func54 rfl rfl rfl (by simp) fun Z w0 cap pan dk tm => ?_; refine tV ?_
  refine tw fun QQ hQQ => ?_
  refine callS_ok rfl rfl 90 qN qN Tryz.func90 rfl (by decide) (CallF.mono (c_containsF (p := fun x => !inB x 0 ((y.S : Int) - 1)) hl (pred_clo Tryz.func91 rfl (by decide) ?_)) ?_)
  ·intro K st x hK _ hh
   refine callF_S (hp := (2, .box [.box 0 0]) :: [(0, .box [.p (.sl (y.ss.map SD.row)), .p (.sl (y.F.map rowN)), .p (iP (y.T : Int)), .p (iP (y.L : Int)), .p x0, .raw 1]), (1, .raw b o)]) (avs0 := [.one (.p (iP x)), .one (.box 2 0)]) (nx := 3) [0, 1, 3] (by rw [hK]; exact hS x) rfl (show _ ∧ _ ∧ _ ∧ True from ⟨hh 3 _ (by decide) (by rfl), hh 0 _ (by decide) (by rfl), hh 1 _ (by decide) (by rfl), trivial⟩) (by decide) (by decide) rfl
  ·rintro _ _ ⟨rfl, rfl⟩
   (refine ts ?_; clear hQQ QQ)
   refine tw ?_
   (refine aw_ret ⟨.inr rfl, qMN, qMN, qVN⟩)
end
end Go.Proofs.YthedkfiebmnghaaGreat
namespace Go.Proofs.YthedkfiebmnghaaGreat
open Go Go.RowKit Go.Sh Go.Pv Go.By
section
attribute [local go_sem] rowsK_r1
theorem maxL_ge (l : List Int) (m : Int) : m ≤ maxL m l := ((maxL_le l m).1 (Int.le_refl _)).1
theorem ok_latest (l : List Int) (hl : l.length ≤ 100000) : FunOK Tryz.prog 101 [.one (.sl (l.map row1))] (.one (.one (iP (maxL (-1000) l)))) := by
 have hll : (l.map row1).length = l.length := List.length_map _
 refine fun_ok (nt := 17) (rs := [.tmp 2]) Tryz.func101 rfl rfl rfl (by simp) fun Z w0 => ?_; refine tI ?_
 refine tw ?_
 refine aw_weak (weak_keep [3, 6, 7, 8] (by simp only [go_sem, ↓reduceIte]; rfl)) ?_
 refine aw_loop_ov (ι := { i : Nat // i ≤ l.length }) (fun i => [(3, iA (maxL (-1000) (l.take i.1))), (8, iA i.1)]) (fun _ => []) (fun i => l.length - i.1) ⟨0, by omega⟩ (by first | rfl | (simp only [go_sem, ↓reduceIte]; first | done | rfl | (simp; try rfl))) ?_
 rintro ⟨i, hi⟩
 refine tO ?_
 by_cases hil : i < l.length
 ·have e1 : l.take (i + 1) = l.take i ++ [l.getD i 0] := by
   rw [List.take_succ, List.getElem?_eq_getElem hil, List.getD_eq_getElem?_getD, List.getElem?_eq_getElem hil]; rfl
  have e2 : maxL (-1000) (l.take (i + 1)) = if l.getD i 0 > maxL (-1000) (l.take i) then l.getD i 0 else maxL (-1000) (l.take i) := by
   rw [e1, maxL_snoc]; split <;> omega
  have hg : l[i]? = some (l.getD i 0) := get_some1' hil
  generalize l.getD i 0 = x at *
  generalize maxL (-1000) (l.take i) = m at *
  try clear hF
  have hF := And.intro hg (hll)
  refine twF ?_
  refine tiF ?_
  refine twF ?_
  refine ⟨⟨i + 1, by omega⟩, ?_, weak_round ?_ (by first | rfl | (simp only [hF, go_sem, ↓reduceIte]))⟩
  rotate_left
  ·simp only [e2]
   (simp only [hF, go_sem, ↓reduceIte]; try rfl)
  ·simp only; omega
 ·have hie : i = l.length := by omega
  subst hie
  rw [List.take_length]
  refine tw ?_
  refine ti ?_
  refine tw ?_
  exact qRN
def fromL (lo hi : Nat) : List Int := (List.range (hi + 1 - lo)).map fun i => ((lo + i : Nat) : Int)
theorem ok_from (lo hi : Nat) (h1 : lo ≤ hi + 1) (h2 : hi ≤ 2000) : FunOK Tryz.prog 69 [.one (iP (lo : Int)), .one (iP (hi : Int))] (.one (.one (.sl ((fromL lo hi).map row1)))) := by
 obtain ⟨N, hN⟩ : ∃ N, hi + 1 - lo = N := ⟨_, rfl⟩
 unfold fromL
 rw [hN]
 refine fun_ok (nt := 17) (rs := [.tmp 4]) Tryz.func69 rfl rfl rfl (by simp) fun Z w0 => ?_; refine tI ?_
 refine tw ?_
 refine aw_weak (weak_own 4 3 1 rfl) ?_
 refine aw_weak (weak_keep [1, 4, 5] (by simp only [go_sem, ↓reduceIte]; rfl)) ?_
 refine aw_loop_ov (ι := { i : Nat // i ≤ N }) (fun i => [(4, .one (.own 0 i.1)), (5, iA ((lo + i.1 : Nat) : Int))]) (fun i => [(0, .arr 3 1 (((List.range i.1).map fun i => ((lo + i : Nat) : Int)).map row1) true)]) (fun i => N - i.1) ⟨0, by omega⟩ (by first | rfl | (simp only [go_sem, ↓reduceIte]; first | done | rfl | (simp; try rfl))) ?_
 rintro ⟨i, hi'⟩
 refine tO ?_
 by_cases hil : i < N
 ·have hlb : (i + 1) * 8 ≤ 140737488355328 := by omega
  have hrow : ((List.range i).map fun i => ((lo + i : Nat) : Int)).map row1 ++ [[iP ((lo + i : Nat) : Int)]] = ((List.range (i + 1)).map fun i => ((lo + i : Nat) : Int)).map row1 := by simp [List.range_succ, row1]
  have hll : (((List.range i).map fun i => ((lo + i : Nat) : Int)).map row1).length = i := by simp
  have hnx : ((lo + i : Nat) : Int) + 1 = ((lo + (i + 1) : Nat) : Int) := by omega
  have hb : lo + i ≤ 2001 := by omega
  have hle : ((lo + i : Nat) : Int) ≤ (hi : Int) := by omega
  generalize hp : lo + i = p at *
  generalize hp2 : lo + (i + 1) = p2 at *
  try clear hF
  have hF := And.intro hlb (And.intro hll (hnx))
  refine twF ?_
  refine tiF ?_
  refine twF ?_
  refine ⟨⟨i + 1, by omega⟩, ?_, weak_round ?_ (by first | rfl | (simp only [hF, go_sem, ↓reduceIte]))⟩
  rotate_left
  ·subst hp2
   simp only [← hrow]
   (simp only [hF, go_sem, ↓reduceIte]; try rfl)
  ·simp only; omega
 ·have hie : i = N := by omega
  subst hie
  have hta : List.take i (((List.range i).map fun i => ((lo + i : Nat) : Int)).map row1) = ((List.range i).map fun i => ((lo + i : Nat) : Int)).map row1 := List.take_of_length_le (by simp)
  have hgt : ¬ ((lo + i : Nat) : Int) ≤ (hi : Int) := by omega
  have hb : lo + i ≤ 2001 := by omega
  refine tw ?_
  refine ti ?_
  refine tw ?_
  refine tRN ?_
  rw [hta]
end
theorem ok_after170 (T : Nat) (hT : T ≤ 100) (d : Int) (hd : -2000 ≤ d ∧ d ≤ 2000) (i : Nat) (hi : i ≤ 100000) : FunOK Tryz.prog 170 [.agg [iP (T : Int)], .one (iP d), .one (iP (i : Int))] (.one (.one (iP (((i + 1 : Nat) : Int) * (T : Int) - d)))) := by
 have h1 : (i + 1) * T ≤ 100001 * 100 := Nat.mul_le_mul (by omega) hT
 have h2 : ((i : Int) + 1) * (T : Int) = (((i + 1) * T : Nat) : Int) := by push_cast; rfl
 have h3 : ((i + 1 : Nat) : Int) * (T : Int) = (((i + 1) * T : Nat) : Int) := by push_cast; rfl
 rw [h3]
 generalize (i + 1) * T = q at *
 refine fun_ok (nt := 14) (rs := [.tmp 6]) Tryz.func170 rfl rfl rfl (by simp) fun Z w0 => ?_; refine tI ?_
 try clear hF
 have hF := h2
 refine twF ?_
 exact qRN
theorem ok_after171 (T n : Nat) (hT : T ≤ 100) (hn : n ≤ 2000) (d : Int) (hd : -2000 ≤ d ∧ d ≤ 2000) (i : Nat) (hi : i ≤ 100000) : FunOK Tryz.prog 171 [.agg [iP (T : Int), iP (n : Int)], .one (iP d), .one (iP (i : Int))] (.one (.one (iP (((i + 1 : Nat) : Int) * (T : Int) - d + (n : Int))))) := by
 have ha := ok_after170 T hT d hd i hi
 have h1 : (i + 1) * T ≤ 100001 * 100 := Nat.mul_le_mul (by omega) hT
 have h3 : ((i + 1 : Nat) : Int) * (T : Int) = (((i + 1) * T : Nat) : Int) := by push_cast; rfl
 rw [h3] at ha ⊢
 generalize (i + 1) * T = q at *
 refine fun_ok (nt := 15) (rs := [.tmp 6]) Tryz.func171 rfl rfl rfl (by simp) fun Z w0 => ?_; refine tI ?_
 refine tw fun QQ hQQ => ?_
 (refine cD 170 rfl rfl rfl (ha) Tryz.func170 rfl ?_); refine td ?_; clear hQQ QQ
 refine tw ?_
 exact qRN
theorem ifc106 (v : Value) : ifcA Tryz.prog 106 v = some (.iface 106 v) := ifcA_of (fs := match Tryz.prog.underlying 106 with | some (.struct fs) => fs | _ => #[]) (by kernel_rfl)
theorem ifc110 (v : Value) : ifcA Tryz.prog 110 v = some (.iface 110 v) := ifcA_of (fs := match Tryz.prog.underlying 110 with | some (.struct fs) => fs | _ => #[]) (by kernel_rfl)
attribute [go_sem] ifc106 ifc110
def paceV (T : Nat) : Value := .iface 106 (.agg #[.int .i64 (T : Int)])
def laterV (T n : Nat) : Value := .iface 110 (.agg #[.int .i64 (T : Int), .int .i64 (n : Int)])
end Go.Proofs.YthedkfiebmnghaaGreat
namespace Go.Proofs.YthedkfiebmnghaaGreat
open Go Go.RowKit Go.Sh Go.Pv Go.By Go.ChangeMaps
theorem arrA_pvO (n : Nat) (c : Nat → Int) (any : Bool) (h : Nat → Option Obj') : mapO (pvA any h) (arrA n c) = some (arrP n c) := by rw [← mapM_eq]; exact arrA_pv n c any h
theorem arrA_toPVO (n : Nat) (c : Nat → Int) (h : Nat → Option Obj') : mapO (toPV h) (arrA n c) = some (arrP n c) := by rw [← mapM_eq]; exact arrA_toPV n c h
theorem arrA_plain3 (c : Nat → Int) : mapO plainC (arrA 3 c) = some [Value.int .i64 (c 0), Value.int .i64 (c 1), Value.int .i64 (c 2)] := rfl
theorem arr3 : ([AC.p (PV.v (Value.int .i64 0)), AC.p (PV.v (Value.int .i64 0)), AC.p (PV.v (Value.int .i64 0))] : List AC) = arrA 3 fun _ => 0 := rfl
attribute [go_sem] arrA_pvO arrA_toPVO arrA_plain3 arrA_map arrA_cellPV arrA_get arrA_drop arrA_drop0 arrA_take arrA_len arrP_len arrA_pv arrA_toPV arrA_refs arrA_put arrA_dropn Nat.mul_one
abbrev YF (y : YD) (b : Nat) : List (Nat × Obj') := YH y (.p (.sl (y.ndR y.S))) b (.map (toE y.D y.all) y.all.length)
theorem relR_tk (x : Nat × Nat) : ∀ (Z : Nat → Nat → Prop) (w : World), RelR Z w (.agg [iP (x.1 : Int), iP (x.2 : Int)]) (tkV x) := by
 intro Z w
 refine ⟨_, rfl, rfl, fun j c hj => ?_⟩
 rcases j with _ | _ | j
 ·simp at hj; subst hj; exact ⟨_, rfl, .v _ rfl⟩
 ·simp at hj; subst hj; exact ⟨_, rfl, .v _ rfl⟩
 ·simp at hj
section
variable {y : YD} {b : Nat}
theorem all_at (h : YOK y) {x : Nat × Nat} (hx : x ∈ y.all) : x.1 < y.S ∧ x.2 < y.n x.1 ∧ x.1 < 3 ∧ x.2 < 16 := by
 obtain ⟨h1, h2⟩ := mem_allT.1 (show (x.1, x.2) ∈ allT y.n y.S from hx)
 have := h.n3
 have := n_16 h h1
 exact ⟨h1, h2, by omega, by omega⟩
theorem s_left (h : YOK y) : FunS Tryz.prog 51 [.one (.box 0 0)] (YF y b) 2 (.one (.agg (arrP 3 fun s => ((if s < y.S then y.n s else 0 : Nat) : Int)))) := by
 have hnd : y.all.Nodup := allT_nodup y.S
 have hat := fun (x : Nat × Nat) (hx : x ∈ y.all) => all_at h hx
 have hln := all_len h
 have hfin : ∀ done : List (Nat × Nat), done.Perm y.all → arrP 3 (fun s => ((cntF done s : Nat) : Int)) = arrP 3 fun s => ((if s < y.S then y.n s else 0 : Nat) : Int) := fun done hp => arrP_congr fun s _ => by
  rw [cntF_perm hp, show y.all = allT y.n y.S from rfl, cntF_all]
 have hcnt : ∀ (done : List (Nat × Nat)) (seen : Array Nat), Seen y.all seen done → ∀ s, cntF done s ≤ 48 := fun done seen hs s => by
  have := seen_len hs
  have := cntF_le done s
  omega
 unfold YF YH
 refine funS_ok (nt := 20) (rs := [.cell 2 51]) Tryz.func51 rfl rfl rfl (by simp) fun Z w0 cap pan dk tm => ?_; refine tV ?_
 refine tw fun QQ hQQ => ?_
 refine ⟨rfl, .inr ⟨rfl, callS_rangeRaw (T := 73) (k := 94) (e := 3) (id := 1) (bm := b) (ck := y.all.length) (es := toE y.D y.all) rfl rfl und73 qN qN fun r => ?_⟩⟩
 (refine ts ?_; clear hQQ QQ)
 refine tw ?_
 rw [arr3]
 have hz0 : arrA 3 (fun _ => 0) = arrA 3 fun s => ((cntF [] s : Nat) : Int) := arrA_congr fun i _ => by simp [cntF]
 rw [hz0]
 refine aw_weak (weak_restrict [2, 8] [4, 3, 2, 1, 0] 5 (by simp only [go_sem, ↓reduceIte]; rfl)) ?_
 refine aw_loop_ov (ι := { p : Array Nat × List (Nat × Nat) // Seen y.all p.1 p.2 }) (fun _ => []) (fun p => [(4, .raw r (.mapIter (some b) y.all.length p.1.1 y.all.length)), (3, .box (arrA 3 fun s => ((cntF p.1.2 s : Nat) : Int)))]) (fun p => (leftOf (toE y.D y.all) p.1.1).size) ⟨(#[], []), Seen.start⟩ (by first | rfl | (simp only [go_sem, ↓reduceIte]; first | done | rfl | (simp; try rfl))) ?_
 rintro ⟨⟨seen, done⟩, hs⟩
 refine tO ?_
 refine tw fun QQ hQQ => ?_
 refine ⟨rfl, .inr ⟨rfl, callS_nextRaw (id := 4) (r := r) (im := 1) (bm := b) (since := y.all.length) (c0 := y.all.length) (ck := y.all.length) (seen := seen) (es := toE y.D y.all) rfl rfl qN qN qN toE_born (Nat.le_refl _) (fun h0 => ?_) (fun e he => ?_)⟩⟩
 ·have hperm := hs.all hnd h0
  have hf := hfin done hperm
  (refine ts ?_; clear hQQ QQ)
  refine tw ?_
  refine ti ?_
  refine tw ?_
  rw [← hf]
  (refine aw_ret ⟨.inr rfl, qMN, qMN, qVN⟩)
 ·obtain ⟨i, x, hi, rfl, hx, hxd, hs2⟩ := hs.step hnd he
  have hsh := left_shrinks _ seen _ he
  have hc := hcnt done seen hs x.1
  obtain ⟨h1, h2, h3, h4⟩ := hat x hx
  refine ⟨.agg [iP (x.1 : Int), iP (x.2 : Int)], .one (iP (dueT y.D x)), relR_tk x, fun _ _ => .v _ rfl, ?_⟩
  have hen := (mem_left he).1
  have hup : updF (fun s => ((cntF done s : Nat) : Int)) x.1 (((cntF done x.1 : Nat) : Int) + 1) = fun s => ((cntF (done ++ [x]) s : Nat) : Int) := by
   funext s
   unfold updF
   rw [cntF_snoc]
   by_cases e : s = x.1
   ·rw [if_pos e, if_pos e, e]; rfl
   ·rw [if_neg e, if_neg e]; rfl
  (refine ts ?_; clear hQQ QQ)
  refine tw ?_
  refine ti ?_
  refine tw fun QQ hQQ => ?_
  refine ⟨rfl, .inr ⟨rfl, callS_entryRaw (id := 4) (r := r) (im := 1) (bm := b) (since := y.all.length) (ck := y.all.length) (seen := seen) (es := toE y.D y.all) (e := entE y.D i x) (rk := .agg [iP (x.1 : Int), iP (x.2 : Int)]) (rv := .one (iP (dueT y.D x))) rfl rfl qN qN qN hen toE_borns (relR_tk x) (fun _ _ => .v _ rfl) ?_⟩⟩
  (refine ts ?_; clear hQQ QQ)
  try clear hF
  have hF := hup
  refine twF ?_
  refine ⟨⟨(seen.push (entE y.D i x).born, done ++ [x]), hs2⟩, ?_, weak_round ?_ (by first | rfl | (simp only [hF, go_sem, ↓reduceIte]))⟩
  rotate_left
  ·(simp only [hF, go_sem, ↓reduceIte]; try rfl)
  ·exact hsh
end
end Go.Proofs.YthedkfiebmnghaaGreat
namespace Go.Proofs.YthedkfiebmnghaaGreat
open Go Go.RowKit Go.Sh Go.Pv Go.By
theorem c_trips {Z : Zn} {w0 : World} {cap : Nat → Prop} {nt : Nat} {rd : Option Nat} {pan : List PanicEntry → St → Prop} {df : Option Nat} {dk : List Nat} {rg : Bool} {fr : List (Nat × AV)} {hp : List (Nat × Obj')} {nx : Nat} {rows : List (List PV)} :
  CallF ⟨Tryz.prog, Z, w0, cap, nt, rd, pan, df, dk, rg⟩ 61 [.one (.p (.sl rows))] ⟨fr, hp, nx⟩ fun st' av => st' = ⟨fr, (nx + 1, .box [.p (.sl rows)]) :: hp, nx + 1 + 1⟩ ∧ av = .one (.fn 95 [.box (nx + 1)]) := by
 (refine callF_to (nt := 4) (rs := [.tmp 2]) Tryz.func61 rfl rfl rfl (by simp) fun hcl tm Ds => ?_); simp only [initV]
 dsimp only [Kx.calleeT]
 have hlt := hcl.lt
 dsimp only at hlt
 refine tw ?_
 refine aw_ret ⟨.inr rfl, _, qN, qN, ⟨fr, (nx + 1, .box [.p (.sl rows)]) :: hp, nx + 1 + 1⟩, rfl, ?_, ?_, ?_, rfl, rfl⟩
 ·exact Closed.new (st := ⟨fr, hp, nx⟩) (id := nx + 1) (nx' := nx + 1 + 1) hcl (by dsimp only; omega) (by omega) (fun _ _ h => by cases h) (fun i hi => by cases hi)
 ·intro id o ho
  have ho : AL.get ((nx + 1, Obj'.box [.p (.sl rows)]) :: hp) id = some o := ho
  by_cases e1 : id = nx + 1
  ·subst e1; rw [AL.get_eq] at ho ⊢; exact ho
  ·rw [AL.get_ne _ _ e1] at ho
   have := hlt id o ho
   simp (disch := first | decide | omega) only [go_sem, ↓reduceIte]
   exact ho
 ·intro i hi
  simp only [refsV, refsC, refsCC, List.flatMap_cons, List.flatMap_nil, List.append_nil, List.mem_singleton] at hi
  subst hi
  exact ⟨_, AL.get_eq _ _ _⟩
def latesG (g : Int → Nat → Int) : Nat → List Int → List Int
 | _, [] => []
 | o, d :: l => g d o :: latesG g (o + 1) l
theorem latesG_len (g : Int → Nat → Int) : ∀ (l : List Int) (o : Nat), (latesG g o l).length = l.length
 | [], _ => rfl
 | d :: l, o => by show (latesG g (o + 1) l).length + 1 = _; rw [latesG_len g l]; rfl
theorem latesG_snoc (g : Int → Nat → Int) (d : Int) : ∀ (l : List Int) (o : Nat), latesG g o (l ++ [d]) = latesG g o l ++ [g d (o + l.length)]
 | [], o => rfl
 | x :: l, o => by
  show g x o :: latesG g (o + 1) (l ++ [d]) = _
  rw [latesG_snoc g d l (o + 1), List.length_cons, show o + 1 + l.length = o + (l.length + 1) by omega]; rfl
def cntP (p : List Nat) (i s : Nat) : Nat := (p.take i).count s
theorem cntP_succ {p : List Nat} {i : Nat} (hi : i < p.length) (s : Nat) : cntP p (i + 1) s = cntP p i s + if s = p.getD i 0 then 1 else 0 := by
 unfold cntP
 have e1 : p.take (i + 1) = p.take i ++ [p.getD i 0] := by
  rw [List.take_succ, List.getElem?_eq_getElem hi, List.getD_eq_getElem?_getD, List.getElem?_eq_getElem hi]; rfl
 rw [e1, List.count_append]
 congr 1
 by_cases h : s = p.getD i 0
 ·rw [if_pos h, ← h]; simp
 ·rw [if_neg h, List.count_cons, List.count_nil, if_neg (by simp only [beq_iff_eq]; exact fun (e : p.getD i 0 = s) => h e.symm)]
theorem cntP_lt {p : List Nat} {i : Nat} (hi : i < p.length) : cntP p i (p.getD i 0) < p.count (p.getD i 0) := by
 have h1 := cntP_succ hi (p.getD i 0)
 rw [if_pos rfl] at h1
 have h2 : cntP p (i + 1) (p.getD i 0) ≤ p.count (p.getD i 0) := (List.take_sublist _ _).count_le _
 omega
theorem dseq_take (D : Nat → List Int) {p : List Nat} {i : Nat} (hi : i < p.length) : dseq D (fun _ => 0) (p.take (i + 1)) = dseq D (fun _ => 0) (p.take i) ++ [(D (p.getD i 0)).getD (cntP p i (p.getD i 0)) 0] := by
 have e1 : p.take (i + 1) = p.take i ++ [p.getD i 0] := by
  rw [List.take_succ, List.getElem?_eq_getElem hi, List.getD_eq_getElem?_getD, List.getElem?_eq_getElem hi]; rfl
 rw [e1, dseq_append]
 congr 1
 show [(D (p.getD i 0)).getD (after (fun _ => 0) (p.take i) (p.getD i 0)) 0] = _
 rw [after_count]
 unfold cntP
 rw [Nat.zero_add]
section
variable {y : YD} {b : Nat}
theorem all_plan : IsPlan y.S y.n (y.all.map Prod.fst) := ⟨fun s hs => by
 obtain ⟨x, hx, rfl⟩ := List.mem_map.1 hs
 exact (mem_allT.1 (show (x.1, x.2) ∈ allT y.n y.S from hx)).1, fun s hs => by
 have := cntF_all (n := y.n) y.S s
 rw [if_pos hs] at this
 exact this⟩
theorem plan_len (h : YOK y) {p : List Nat} (hp : IsPlan y.S y.n p) : p.length ≤ 48 := by
 have := (plan_perm hp all_plan).length_eq
 rw [List.length_map] at this
 have := all_len h
 omega
theorem rowN_get {p : List Nat} {i : Nat} (hi : i < p.length) : (p.map rowN)[i]? = some [iP ((p.getD i 0 : Nat) : Int)] := by rw [List.getElem?_map, getD_some (d := 0) hi]; rfl
end
section
variable {y : YD} {b : Nat}
theorem s_over (h : YOK y) {p : List Nat} (hp : IsPlan y.S y.n p) {Tid : TypeId} {v rv : Value} {fid : FuncId} {fn : Func} {r0 : RV} {g : Int → Nat → Int}
  (hm : ∀ w, (method (Tryz.prog.types.size + Made.depth) Tid v "shearworks/boy.after").run Tryz.prog w = .ok (fid, rv) w) (hnl : nilM Tryz.prog (.one (.p (.v (.func (.method "shearworks/boy.after") #[.iface Tid v] #[])))) = true) (hr0 : ∀ Z w, RelR Z w r0 rv)
  (h5 : Tryz.prog.funcs[fid]? = some fn) (h6 : fn.body.isSome = true) (h7 : fn.name ≠ "runtime.NumGoroutine") (hf : ∀ (d : Int) (i : Nat), 0 ≤ d ∧ d < 600 → i ≤ 48 → FunOK Tryz.prog fid [r0, .one (iP d), .one (iP (i : Int))] (.one (.one (iP (g d i))))) :
  FunS Tryz.prog 71 [.one (.box 0 0), .one (.p (.sl (p.map rowN))), .one (.p (.v (.iface Tid v)))] (YF y b) 2 (.one (.one (iP (maxL (-1000) (latesG g 0 (dseq y.D (fun _ => 0) p)))))) := by
 have hpl := plan_len h hp
 have hmem : ∀ i, i < p.length → p.getD i 0 < y.S ∧ cntP p i (p.getD i 0) < y.n (p.getD i 0) := fun i hi => by
  have h1 := hp.1 _ (mem_of_getD (d := 0) hi)
  have h2 := cntP_lt hi
  rw [hp.2 _ h1] at h2
  exact ⟨h1, h2⟩
 have hn3 := h.n3
 have hlat := ok_latest (latesG g 0 (dseq y.D (fun _ => 0) p)) (by rw [latesG_len, dseq_len]; omega)
 have hll : (p.map rowN).length = p.length := List.length_map _
 unfold YF YH
 refine funS_ok (nt := 34) (rs := [.tmp 6]) Tryz.func71 rfl rfl rfl (by simp) fun Z w0 cap pan dk tm => ?_; refine tV ?_
 refine tw fun QQ hQQ => ?_
 refine ⟨rfl, .inr ⟨rfl, callS_bfnF rfl rfl 61 qN qN Tryz.func61 rfl (by decide) (CallF.mono c_trips ?_)⟩⟩
 rintro _ _ ⟨rfl, rfl⟩
 (refine ts ?_; clear hQQ QQ)
 refine tw ?_
 refine aw_weak (weak_ownB 5 0 3 1 (by simp (disch := first | decide | omega) only [go_sem, ↓reduceIte]; rfl) rfl) ?_
 dsimp only [List.set]
 refine aw_weak (weak_restrict [3, 5, 7, 14] [8, 7, 5, 4, 3, 2, 1, 0] 9 (by simp only [go_sem, ↓reduceIte]; rfl)) ?_
 refine aw_rangeFunc (nt := 29) rfl rfl (by simp (disch := first | decide | omega) only [go_sem, ↓reduceIte]; rfl) Tryz.func95 rfl (by decide) rfl rfl (by decide) fun r bb tm2 Ds2 hr1 hr1p hr2 hr3 hr4 hr5 hr6 hr7 => ?_
 dsimp only [Kx.iter] at hr5 hr7 ⊢
 refine aw_scope rfl ?_
 refine tw ?_
 rw [arr3]
 have hz0 : arrA 3 (fun _ => 0) = arrA 3 fun s => ((cntP p 0 s : Nat) : Int) := arrA_congr fun i _ => by simp [cntP]
 rw [hz0]
 refine aw_weak (weak_restrict [0, 3, 7, 8, 9] [11, 10, 9, 8, 7, 5, 4, 3, 2, 1, 0] 12 (by simp only [go_sem, ↓reduceIte]; rfl)) ?_
 refine aw_loop_ov (ι := { i : Nat // i ≤ p.length }) (fun i => [(9, iA i.1)]) (fun i => [(11, .box (arrA 3 fun s => ((cntP p i.1 s : Nat) : Int))), (8, .arr 3 1 ((latesG g 0 (dseq y.D (fun _ => 0) (p.take i.1))).map row1) true), (5, .box [.own 8 i.1])]) (fun i => p.length - i.1) ⟨0, by omega⟩ (by first | rfl | (simp only [go_sem, ↓reduceIte]; first | done | rfl | (simp; try rfl))) ?_
 rintro ⟨i, hi⟩
 refine tO ?_
 by_cases hil : i < p.length
 ·have hg := rowN_get hil
  obtain ⟨m1, m2⟩ := hmem i hil
  have hds := dseq_take y.D hil
  have hdr := D_rng h m1 m2
  have h16 := n_16 h m1
  have hx : (p.getD i 0, cntP p i (p.getD i 0)) ∈ y.all := mem_allT.2 ⟨m1, m2⟩
  have hcs := fun s => cntP_succ hil s
  have hLs : latesG g 0 (dseq y.D (fun _ => 0) (p.take (i + 1))) = latesG g 0 (dseq y.D (fun _ => 0) (p.take i)) ++ [g ((y.D (p.getD i 0)).getD (cntP p i (p.getD i 0)) 0) i] := by
   rw [hds, latesG_snoc, Nat.zero_add, dseq_len, List.length_take, Nat.min_eq_left hi]
  have hLl : (latesG g 0 (dseq y.D (fun _ => 0) (p.take i))).length = i := by rw [latesG_len, dseq_len, List.length_take, Nat.min_eq_left hi]
  have hdt : (y.D (p.getD i 0)).getD (cntP p i (p.getD i 0)) 0 = dueT y.D (p.getD i 0, cntP p i (p.getD i 0)) := rfl
  rw [hdt] at hdr hLs
  have hff := hf _ i hdr (by omega)
  have hhas := toE_has (D := y.D) hx
  obtain ⟨kl, hkl⟩ := keyOf94 (p.getD i 0, cntP p i (p.getD i 0)) (by dsimp only; omega) (by dsimp only; omega)
  have hkeys : ∀ e ∈ (toE y.D y.all).toList, ∃ l, keyOf Tryz.prog 94 e.key = some l := toE_keys fun x hx => by have := all_at h hx; omega
  have hup : updF (fun s => ((cntP p i s : Nat) : Int)) (p.getD i 0) (((cntP p i (p.getD i 0) : Nat) : Int) + 1) = fun s => ((cntP p (i + 1) s : Nat) : Int) := by
   funext s
   unfold updF
   rw [hcs s]
   by_cases e : s = p.getD i 0
   ·rw [if_pos e, if_pos e, e]; rfl
   ·rw [if_neg e, if_neg e]; rfl
  have hlb : (i + 1) * 8 ≤ 140737488355328 := by omega
  have hk16 : cntP p i (p.getD i 0) < 16 := by omega
  clear hds hdt hcs
  generalize latesG g 0 (dseq y.D (fun _ => 0) (p.take i)) = LL at *
  generalize hsd : p.getD i 0 = sd at *
  generalize hkd : cntP p i sd = kd at *
  generalize dueT y.D (sd, kd) = dd at *
  have hrow : (latesG g 0 (dseq y.D (fun _ => 0) (p.take (i + 1)))).map row1 = LL.map row1 ++ [[iP (g dd i)]] := by rw [hLs]; simp [row1]
  try clear hF
  have hF := And.intro hg (And.intro hll (And.intro hkd (And.intro hup (And.intro hLl (hlb)))))
  refine twF ?_
  refine tiF ?_
  refine twF fun QQ hQQ => ?_
  refine ⟨rfl, .inr ⟨rfl, callS_yield (L := 10) (C := 9) (avs := [.one (.p (iP (i : Int))), .agg [.p (iP (sd : Int)), .p (iP (kd : Int))]]) rfl rfl qF qF qF hr1 qF hr6 (by rw [hr5]; exact fun t av ht => hr7 t av ht |> fun h => by rw [hr5] at h; exact h) (by rw [hr2]; rfl) ?_ fun Ds tmi => ?_⟩⟩
  ·intro t ht
   rw [hr2] at ht
   rw [hr5]
   simp only [List.mem_cons, List.mem_nil_iff, or_false] at ht
   rcases ht with rfl | rfl <;> decide
  obtain ⟨rB, hrB⟩ : ∃ rB, ({ r with state := .busy } : Loop) = rB := ⟨_, rfl⟩
  rw [hrB, hr2, hr3, hr4, hr5]
  have hrr : ({ rB with state := .ready, pending := none } : Loop) = r := by
   rw [← hrB]
   cases r
   dsimp only at hr1 hr1p
   subst hr1 hr1p
   rfl
  simp only [Kx.round, setPs]
  refine twF ?_
  refine ⟨rfl, by simp (disch := first | decide | omega) only [hF, go_sem, ↓reduceIte], ?_⟩
  refine twF fun QQ hQQ => ?_
  refine callD_findRaw rfl rfl key94 und73 zero3 (id := 1) (b := b) (ck := y.all.length) (es := toE y.D y.all) qF qF (kv := tkV (sd, kd)) qF hkl hkeys (v := .int .i64 dd) (is := true) (.inl ⟨rfl, hhas.1, hhas.2⟩) (rv := .one (iP dd)) (fun _ _ => .v _ rfl) ?_
  (refine tdF ?_)
  refine callD_turn rfl rfl [] _ _ _ (turns_invoke (any := true) rfl rfl qF fid hm hr0 qF h5 h6 h7 (fun _ => rfl) hff) ?_
  (refine tdF ?_; clear hQQ QQ)
  refine twF ?_
  refine ⟨qF, none, .inl ⟨rfl, rfl⟩, rB, qF, ?_⟩
  have hin : (none : Option Code).isNone = true := rfl
  try clear hF
  have hF := And.intro hg (And.intro hll (And.intro hkd (And.intro hup (And.intro hin (And.intro hrr (hLl))))))
  (refine tsF ?_; clear hQQ QQ)
  refine twF ?_
  refine tiF ?_
  refine twF ?_
  refine ⟨⟨i + 1, by omega⟩, ?_, weak_round ?_ (by first | rfl | (simp only [hF, go_sem, ↓reduceIte]))⟩
  rotate_left
  ·simp only [hrow]
   (simp only [hF, go_sem, ↓reduceIte]; try rfl)
  ·simp only; omega
 ·have hie : i = p.length := by omega
  subst hie
  rw [List.take_length]
  have hLl : (latesG g 0 (dseq y.D (fun _ => 0) p)).length = p.length := by rw [latesG_len, dseq_len]
  have hta : List.take p.length ((latesG g 0 (dseq y.D (fun _ => 0) p)).map row1) = (latesG g 0 (dseq y.D (fun _ => 0) p)).map row1 := List.take_of_length_le (by rw [List.length_map, hLl]; exact Nat.le_refl _)
  generalize latesG g 0 (dseq y.D (fun _ => 0) p) = LL at *
  try clear hF
  have hF := hll
  refine twF ?_
  refine tiF ?_
  refine twF ?_
  refine ⟨.inl rfl, qF, r, qF, by rw [hr1]; decide, ?_⟩
  rw [hr1p]
  (repeat (first | with_reducible refine then_n ?_ | with_reducible refine block_n ?_))
  try clear hF
  have hF := And.intro hta (hLl)
  refine twF fun QQ hQQ => ?_
  ((refine cOF 101 rfl rfl rfl (hlat) Tryz.func101 rfl ?_); refine tuF ?_; clear hQQ QQ); refine twF ?_
  (refine aw_ret ⟨.inr rfl, qMF, qMF, qVF⟩)
end
end Go.Proofs.YthedkfiebmnghaaGreat
