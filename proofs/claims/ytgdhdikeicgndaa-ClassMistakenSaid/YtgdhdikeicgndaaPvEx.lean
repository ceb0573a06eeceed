/- The logic of plain data: a function of data of whose answer only something is known. Seat-independent. -/
import Derived.Test.YtgdhdikeicgndaaPvFc
import Derived.Test.YtgdhdikeicgndaaKpv1
set_option linter.all false
namespace Go.Pv
open Go Go.RowKit Go.Sh
/-- THE CONTRACT OF A FUNCTION of data, of whose answer R is known. -/
def FunEx (P : Program) (f : FuncId) (args : List RV) (R : RR → Prop) : Prop :=
  ∀ (Z : Zn) (w : World) (us : Array Value), RelRs Z w args us → Calls P f us w fun e w' => ∃ res u, R res ∧ e = .returned u ∧ RelRR (fun b c => Z b c ∨ w.heap.size ≤ b) w' res u ∧ Below w.heap.size w w'
theorem fun_ex {P : Program} {f : FuncId} {fn : Func} {c : Code} {args : List RV} {R : RR → Prop} {nt : Nat} {rs : List ResultVar} (hf : P.funcs[f]? = some fn) (hb : fn.body = some c) (hnt : fn.ntmps = nt) (hrs : fn.results.toList = rs) (hn : args.length ≤ nt)
    (h : ∀ Z w0, AW ⟨P, Z, w0, fun _ => False, nt, none, noPan, none, [], true⟩ c (fun e st => (e = .normal ∨ e = .ret) ∧ ∃ res, resA P st rs = some res ∧ R res) ⟨initFr 0 args, [], 0⟩) : FunEx P f args R := by
  subst hnt hrs
  intro Z w us hus
  refine calls_of_aw (K := ⟨P, Z, w, fun _ => False, fn.ntmps, none, noPan, none, [], true⟩) hf hb rfl rfl (rel_init hus hn) (h Z w) (fun e st' hq => hq.1) (fun e σ' st' a' w' hq hr => ?_) (fun ps σ' st' a' w' hp _ => hp.elim)
  obtain ⟨_, res, hres, hR⟩ := hq
  obtain ⟨u, hu, hru⟩ := results_run hr hres
  refine ⟨u, hu, res, u, hR, rfl, hru.mono fun b c x hz hc => ⟨?_, hc⟩, rel_below hr fun _ h => h⟩
  rcases hz with hz | ⟨_, id, l, h1, h2⟩
  · exact hz.1
  · rcases (hr.heap.lt id l b h1 h2).2 with h3 | h3
    · exact .inr h3
    · exact h3.elim
variable {K : Kx}
theorem callF_ex {fid : FuncId} {avs : List AV} {rvs : List RV} {R : RR → Prop} {st : St} (hargs : mapO (rvA false (AL.get st.hp)) avs = some rvs) (hf : FunEx K.P fid rvs R) : CallF K fid avs st fun st' av => st' = st ∧ ∃ res, R res ∧ av = avRR res := by
  intro σ a w us hr hus
  have hrel : RelRs ((sit K σ st w).Zc false) w rvs us := by
    rw [← mapM_eq] at hargs
    obtain ⟨h1, h2⟩ := mapM_get hargs
    refine ⟨by have := hus.1; omega, fun j r hj => ?_⟩
    obtain ⟨x, hx, hxr⟩ := h2 j r hj
    obtain ⟨u, hu, hru⟩ := hus.2 j x hx
    exact ⟨u, hu, rvA_rel (s := sit K σ st w) hr.heap hru hxr⟩
  refine (hf _ w _ hrel).mono fun e w' he => ?_
  obtain ⟨res, u, hR, rfl, hru, hbel⟩ := he
  exact .inl ⟨u, rfl, σ, st, avRR res, hr.at hbel, avRR_rel (relRR_after hr (fun h => by cases h) hru), rfl, res, hR, rfl⟩
end Go.Pv
