/- burr, the law: several boxes of the caller, turned. -/
import Derived.Test.YtknikcpeacmpmaaBwW
set_option linter.all false
namespace Go.Proofs.Ytknikcpeacmpmaa
open Go Go.RowKit Go.Sh Go.Pv
theorem closed_app {new : List (Nat × Obj')} {fr : List (Nat × AV)} {hp : List (Nat × Obj')} {nx : Nat} (hcl : Closed ⟨fr, hp, nx⟩) (hn : ∀ id o, AL.get new id = some o → (∃ o', AL.get hp id = some o') ∧ refsO o = [] ∧ ∀ fr tm, o ≠ .kept fr tm) : Closed ⟨fr, new ++ hp, nx⟩ := by
  have hd : ∀ {l : List Nat}, There (AL.get hp) l → There (AL.get (new ++ hp)) l := by
    intro l hl i hi
    obtain ⟨o, ho⟩ := hl i hi
    rw [AL_append]
    cases hq : AL.get new i with
    | some o' => exact ⟨o', rfl⟩
    | none => exact ⟨o, ho⟩
  have hg : ∀ {id o}, AL.get (new ++ hp) id = some o → AL.get new id = some o ∨ AL.get hp id = some o := by
    intro id o h
    rw [AL_append] at h
    cases hq : AL.get new id with
    | some o' => rw [hq] at h; cases h; exact .inl rfl
    | none => rw [hq] at h; exact .inr h
  refine ⟨fun id o h => ?_, fun t av ht => hd (hcl.fr t av ht), fun id o h hk => ?_, fun id fr0 tm0 h t av ht => ?_⟩
  · rcases hg h with h | h
    · obtain ⟨⟨o', ho'⟩, _⟩ := hn _ _ h
      exact hcl.lt id o' ho'
    · exact hcl.lt id o h
  · rcases hg h with h | h
    · rw [(hn _ _ h).2.1]; intro i hi; cases hi
    · exact hd (hcl.obj id o h hk)
  · rcases hg h with h | h
    · exact absurd rfl ((hn _ _ h).2.2 _ _)
    · exact hd (hcl.kept id fr0 tm0 h t av ht)
/-- Objects of a caller, turned. -/
theorem left_app {tm : Nat → Value} {fr : List (Nat × AV)} {hp hpX : List (Nat × Obj')} {nx : Nat} (new : List (Nat × Obj')) (hcl : Closed ⟨fr, hp, nx⟩) (hn : ∀ id o, AL.get new id = some o → (∃ o', AL.get hp id = some o') ∧ refsO o = [] ∧ ∀ fr tm, o ≠ .kept fr tm) (h1 : AL.get hpX nx = some (.kept fr tm)) (h2 : ∀ id o, AL.get new id = some o → AL.get hpX id = some o) (h3 : ∀ id o, id < nx → AL.get new id = none → AL.get hp id = some o → AL.get hpX id = some o) {Q : St → AV → Prop} (hq : Q ⟨fr, new ++ hp, nx⟩ (.tup [])) :
    ∃ av, some (AV.tup []) = some av ∧ AL.get hpX nx = some (.kept fr tm) ∧ ∃ T : St, T.fr = fr ∧ Closed T ∧ (∀ id o, AL.get T.hp id = some o → AL.get hpX id = some o) ∧ There (AL.get T.hp) (refsV av) ∧ Q T av := by
  refine ⟨_, rfl, h1, ⟨fr, new ++ hp, nx⟩, rfl, closed_app hcl hn, fun id o ho => ?_, fun i hi => (by cases hi), hq⟩
  have ho : AL.get (new ++ hp) id = some o := ho
  rw [AL_append] at ho
  cases hq : AL.get new id with
  | some o' => rw [hq] at ho; cases ho; exact h2 id o hq
  | none => rw [hq] at ho; exact h3 id o (hcl.lt id o ho) hq ho
theorem get_cons_cases {α : Type} {k id : Nat} {v o : α} {l : List (Nat × α)} (h : AL.get ((k, v) :: l) id = some o) : (id = k ∧ v = o) ∨ AL.get l id = some o := by
  by_cases e : id = k
  · subst e; rw [AL.get_eq] at h; cases h; exact .inl ⟨rfl, rfl⟩
  · rw [AL.get_ne _ _ e] at h; exact .inr h
end Go.Proofs.Ytknikcpeacmpmaa
