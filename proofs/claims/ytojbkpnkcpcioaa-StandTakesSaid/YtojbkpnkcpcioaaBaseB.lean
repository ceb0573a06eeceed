/- The law for a drawn region in the form in which it is used: a relation between worlds that every operation keeps, and that every known fact abides; one obligation for each operation. Seat-independent. -/
import Derived.Test.YtojbkpnkcpcioaaBaseA
import Derived.Below
import Derived.KernelRfl
set_option linter.all false
namespace Go.Sh
open Go Go.RowKit

/-- An operation that is carried out under a contract of the plain calculus is so within the wide fence. -/
theorem Oper.wpIn_of_wp {P : Program} {o : Oper} {a : Act} {w : World} {N : Nat} {K : Act → World → Prop} {Q : Exit → Act → World → Prop} (h : o.wp P a w K Q) : o.wpIn Fence.wide N P a w K Q := by
  refine ⟨fun _ _ => trivial, ?_⟩
  unfold Oper.wp at h
  have e : o.semAt Fence.wide.round a.eval = execOp a.eval o := rfl
  rw [e]
  generalize (execOp a.eval o).run P w = r at h ⊢
  cases r with
  | ok x w' =>
    cases x <;> simp only [Oper.upon] at h <;> simp only [Oper.uponIn] <;>
      first
        | exact h
        | exact ⟨fun hd => (by cases hd), callsIn_wide.2 h⟩
        | exact ⟨fun hd => (by cases hd), fun c cs _ => let ⟨v, w', r, s⟩ := h c cs; ⟨v, w', r, stepsIn_wide.2 s⟩⟩
  | halt x w' => cases x <;> simp only [Oper.upon] at h <;> simp only [Oper.uponIn] <;> exact h

theorem wpListIn_of_wpList {P : Program} {ops : Array Oper} {N : Nat} {Q : Exit → Act → World → Prop} (hout : ¬ LetsOut Q) : ∀ (l : List Oper) (a : Act) (w : World), wpList P ops Q l a w → wpListIn Fence.wide N P ops Q l a w
  | [], _, _, h => h
  | o :: r, a, w, h => by
    unfold wpList at h
    unfold wpListIn
    split at h
    · rename_i hw
      rw [if_pos hw]
      rcases h with h | h
      · exact Oper.wpIn_mono (fun a' w' h' => wpListIn_of_wpList hout r a' w' h') (Oper.wpIn_of_wp h)
      · exact absurd h.2 hout
    · rename_i hw
      rw [if_neg hw]
      exact ⟨fun _ _ => trivial, wpListIn_of_wpList hout r _ _ h⟩

section
variable {F : Fence} {N : Nat} {P : Program} {l : List Oper} {n : Nat} {Q : Exit → Act → World → Prop}

/-- What an operation of the head comes to. -/
def RgK (R : World → World → Prop) (V : Value → World → Prop) (o : Oper) (a : Act) (w : World) : Act → World → Prop := fun a' w' => ∃ v, (o.dst = none → v = undef) ∧ a' = a.put o.dst v ∧ V v w' ∧ R w w'

/-- One obligation for each operation of the head. -/
def RgAll (F : Fence) (N : Nat) (P : Program) (l : List Oper) (n : Nat) (R : World → World → Prop) (Vs : List (Value → World → Prop)) (Qp : List PanicEntry → World → Prop) (a0 : Act) (w0 : World) : List Oper → List (Value → World → Prop) → Prop
  | [], _ => True
  | _ :: _, [] => False
  | o :: r, V :: vs => (∀ a w, R w0 w → Ahead l n (fun j u w => (Vs[j]?).elim True fun V => V u w) a0 o a w →
      if Region.wanted o (yielded l.toArray a.tmps) then o.wpIn F N P a w (RgK R V o a w) (RgOut a Qp) else (∀ f, o.about P w a.eval = some f → F.fn f) ∧ V undef w) ∧ RgAll F N P l n R Vs Qp a0 w0 r vs

theorem RgAll.get {R : World → World → Prop} {Vs : List (Value → World → Prop)} {Qp : List PanicEntry → World → Prop} {a0 : Act} {w0 : World} : ∀ (r : List Oper) (vs : List (Value → World → Prop)), RgAll F N P l n R Vs Qp a0 w0 r vs →
    ∀ (i : Nat) (o : Oper), r[i]? = some o → ∃ V, vs[i]? = some V ∧ (∀ a w, R w0 w → Ahead l n (fun j u w => (Vs[j]?).elim True fun V => V u w) a0 o a w →
      if Region.wanted o (yielded l.toArray a.tmps) then o.wpIn F N P a w (RgK R V o a w) (RgOut a Qp) else (∀ f, o.about P w a.eval = some f → F.fn f) ∧ V undef w)
  | [], _, _, i, o, h => by simp at h
  | _ :: _, [], h, _, _, _ => h.elim
  | o' :: r, V :: vs, h, i, o, hi => by
    cases i with
    | zero => simp at hi; subst hi; exact ⟨V, rfl, h.1⟩
    | succ i => exact RgAll.get r vs h.2 i o (by simpa using hi)

/-- What stands behind the region, for whatever values the head's operations have. -/
def RgEnd (K : Act → World → Prop) : List Oper → List (Value → World → Prop) → Act → (World → Prop) → Prop
  | [], _, a, kn => ∀ w, kn w → K a w
  | o :: r, V :: vs, a, kn => ∀ v, RgEnd K r vs (a.put o.dst v) (fun w => V v w ∧ kn w)
  | o :: r, [], a, kn => ∀ v, RgEnd K r [] (a.put o.dst v) kn

theorem RgEnd.use {K : Act → World → Prop} : ∀ (r : List Oper) (vs : List (Value → World → Prop)) (a : Act) (kn : World → Prop), RgEnd K r vs a kn → ∀ (us : Nat → Value) (i : Nat) (w : World), kn w →
    (∀ k V, vs[k]? = some V → k < r.length → V (us (i + k)) w) → K (putAll a r us i) w
  | [], _, _, _, h, _, _, w, hk, _ => h w hk
  | o :: r, V :: vs, a, kn, h, us, i, w, hk, hv =>
    RgEnd.use r vs _ _ (h (us i)) us (i + 1) w ⟨hv 0 V rfl (by simp), hk⟩ fun k V' hk' hl => by
      have := hv (k + 1) V' hk' (by simp; omega)
      rwa [show i + (k + 1) = i + 1 + k by omega] at this
  | o :: r, [], a, kn, h, us, i, w, hk, hv => RgEnd.use r [] _ _ (h (us i)) us (i + 1) w hk fun k V' hk' _ => by simp at hk'

theorem RgEnd.mono {K K' : Act → World → Prop} (hk : ∀ a w, K a w → K' a w) : ∀ (r : List Oper) (vs : List (Value → World → Prop)) (a : Act) (kn : World → Prop), RgEnd K r vs a kn → RgEnd K' r vs a kn
  | [], _, _, _, h => fun w hw => hk _ _ (h w hw)
  | _ :: r, _ :: vs, _, _, h => fun v => RgEnd.mono hk r vs _ _ (h v)
  | _ :: r, [], _, _, h => fun v => RgEnd.mono hk r [] _ _ (h v)

theorem wpIn_region_rel {id sz : Nat} {a0 : Act} {w0 : World} (n : Nat) (R : World → World → Prop) (Vs : List (Value → World → Prop)) (Qp : List PanicEntry → World → Prop)
    (hm : P.follows .mixedOrders = true) (hsz : a0.tmps.size = sz) (hB : rgB l n sz = true)
    (hR0 : R w0 { w0 with drawn := w0.drawn + 1 }) (hRt : ∀ {a b c}, R a b → R b c → R a c) (hst : ∀ V ∈ Vs, ∀ u w w', R w w' → V u w → V u w')
    (hop : RgAll F N P l n R Vs Qp a0 w0 (l.take n) Vs)
    (hpan : ∀ ch a w, Qp ch w → (∀ t, t ∉ dsts (l.take n) → slot a t = slot a0 t) → a.defers = a0.defers → Q (.panic ch) a w)
    (hend : RgEnd (wpListIn F N P l.toArray Q (l.drop n)) (l.take n) Vs a0 (R w0)) :
    (Code.region id l.toArray true).wpIn F N P Q a0 w0 := by
  refine wpIn_region_rg n (fun j u w => (Vs[j]?).elim True fun V => V u w) (R w0) Qp hm hsz hB hR0 ?_ hpan ?_
  · intro i o hin hi a w hI hA
    obtain ⟨V, hV, h⟩ := RgAll.get (l.take n) Vs hop i o (take_get hin hi)
    have h := h a w hI hA
    split
    · rename_i hw
      rw [if_pos hw] at h
      refine Oper.wpIn_mono (fun a' w' hh => ?_) h
      obtain ⟨v, hn, ha, hv, hr⟩ := hh
      refine ⟨v, hn, ha, by simpa [hV] using hv, hRt hI hr, fun j u _ hu => ?_⟩
      have hu' : (Vs[j]?).elim True (fun V => V u w) := hu
      show (Vs[j]?).elim True (fun V => V u w')
      generalize hj : Vs[j]? = x at hu' ⊢
      cases x with
      | none => trivial
      | some V' => exact hst V' (List.mem_of_getElem? hj) u w w' hr hu'
    · rename_i hw
      rw [if_neg hw] at h
      exact ⟨h.1, by simpa [hV] using h.2⟩
  · intro us w hI hv
    refine RgEnd.use (l.take n) Vs a0 (R w0) hend us 0 w hI fun k V hk hl => ?_
    have hkn : k < n := by simp at hl; omega
    have := hv k hkn
    rw [Nat.zero_add]
    simpa [hk] using this

/-- An operation that yields a value and leaves the world alone. -/
theorem rg_val {R : World → World → Prop} {V : Value → World → Prop} {o : Oper} {a : Act} {w : World} {Qx : Exit → Act → World → Prop} (v : Value) (hro : ∀ c, o.op ≠ .defer c) (hab : ∀ c, o.op ≠ .call c ∨ True)
    (hrun : (execOp a.eval o).run P w = .ok (.value v) w) (hdst : o.dst = none → v = undef) (hV : V v w) (hR : R w w) (habout : ∀ f, o.about P w a.eval = some f → F.fn f) : o.wpIn F N P a w (RgK R V o a w) Qx := by
  refine ⟨habout, ?_⟩
  rw [Oper.semAt_eq _ _ _ hro, hrun]
  exact ⟨v, hdst, rfl, hV, hR⟩
end

section
variable {P : Program} {l : List Oper} {Q : Exit → Act → World → Prop}
/-- The same in the plain calculus. -/
theorem wp_region_rel {id sz : Nat} {a0 : Act} {w0 : World} (n : Nat) (R : World → World → Prop) (Vs : List (Value → World → Prop)) (Qp : List PanicEntry → World → Prop)
    (hm : P.follows .mixedOrders = true) (hsz : a0.tmps.size = sz) (hB : rgB l n sz = true)
    (hR0 : R w0 { w0 with drawn := w0.drawn + 1 }) (hRt : ∀ {a b c}, R a b → R b c → R a c) (hst : ∀ V ∈ Vs, ∀ u w w', R w w' → V u w → V u w')
    (hop : RgAll Fence.wide 0 P l n R Vs Qp a0 w0 (l.take n) Vs)
    (hpan : ∀ ch a w, Qp ch w → (∀ t, t ∉ dsts (l.take n) → slot a t = slot a0 t) → a.defers = a0.defers → Q (.panic ch) a w)
    (hout : ¬ LetsOut Q)
    (hend : RgEnd (wpList P l.toArray Q (l.drop n)) (l.take n) Vs a0 (R w0)) :
    (Code.region id l.toArray true).wp P Q a0 w0 :=
  wpIn_wide.1 (wpIn_region_rel (F := Fence.wide) (N := 0) n R Vs Qp hm hsz hB hR0 hRt hst hop hpan
    (RgEnd.mono (fun a w h => wpListIn_of_wpList hout _ a w h) _ _ _ _ hend))

theorem rg_val_wide {R : World → World → Prop} {V : Value → World → Prop} {o : Oper} {a : Act} {w : World} {N : Nat} {Qx : Exit → Act → World → Prop} (v : Value)
    (hrun : (execOp a.eval o).run P w = .ok (.value v) w) (hdst : o.dst = none → v = undef) (hV : V v w) (hR : R w w) : o.wpIn Fence.wide N P a w (RgK R V o a w) Qx :=
  Oper.wpIn_of_wp (by unfold Oper.wp; rw [hrun]; exact ⟨v, hdst, rfl, hV, hR⟩)

/-- A call of a Go function. -/
theorem rg_call_wide {R : World → World → Prop} {V : Value → World → Prop} {o : Oper} {a : Act} {w : World} {N : Nat} {Qp : List PanicEntry → World → Prop} {f : FuncId} {args : Array Value} {d : Tmp} (hd : o.dst = some d)
    (hrun : (execOp a.eval o).run P w = .ok (.enter f args) w)
    (hc : Calls P f args w fun e w' => match e with | .returned v => V v w' ∧ R w w' | .panicked ch => Qp ch w' | .outgrown => False) : o.wpIn Fence.wide N P a w (RgK R V o a w) (RgOut a Qp) :=
  Oper.wpIn_of_wp (by
    unfold Oper.wp
    rw [hrun]
    refine hc.mono fun e w' h => ?_
    cases e with
    | returned v => exact ⟨v, (fun h0 => by rw [hd] at h0; cases h0), rfl, h.1, h.2⟩
    | panicked ch => exact ⟨rfl, h⟩
    | outgrown => exact h.elim)
end
end Go.Sh
