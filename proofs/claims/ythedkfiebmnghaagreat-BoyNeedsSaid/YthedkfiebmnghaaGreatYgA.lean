/- Texts of the proof, joined. -/
import Derived.Test.YthedkfiebmnghaaGreatKye37
set_option linter.all false
set_option maxHeartbeats 16000000
set_option maxRecDepth 20000
namespace Go.By
section
variable {R : Nat → Int × Int} {n : Nat} {can : Int}
theorem scan_step {t : Option Int} {r : Nat} {d : Int} {res : Option (Nat × Int)} (h : scanF R can t (n - r) r d = some res) (hr : r < n) :
  (¬ max d (R r).1 < (R r).2 ∧ scanF R can t (n - (r + 1)) (r + 1) d = some res) ∨ ∃ x, t = some x ∧ max d (R r).1 < (R r).2 ∧ ¬ x - max d (R r).1 > can ∧
   ((max (max d (R r).1) x < (R r).2 ∧ res = some (r, max (max d (R r).1) x)) ∨ (¬ max (max d (R r).1) x < (R r).2 ∧ scanF R can t (n - (r + 1)) (r + 1) d = some res)) := by
 rw [show n - r = (n - (r + 1)) + 1 by omega] at h
 unfold scanF at h
 by_cases hc : max d (R r).1 < (R r).2
 ·rw [if_pos hc] at h
  cases t with
  | none => simp at h
  | some x =>
   dsimp only at h
   by_cases h1 : can < x - max d (R r).1
   ·rw [if_pos h1] at h; simp at h
   ·rw [if_neg h1] at h
    refine .inr ⟨x, rfl, hc, by omega, ?_⟩
    by_cases h2 : max (max d (R r).1) x < (R r).2
    ·rw [if_pos h2] at h
     exact .inl ⟨h2, (Option.some.inj h).symm⟩
    ·rw [if_neg h2] at h
     exact .inr ⟨h2, h⟩
 ·rw [if_neg hc] at h
  exact .inl ⟨hc, h⟩
theorem sim_step {th : Nat → Option Int} {tk : Nat → Int} {k : Nat} {ks : List Nat} {i r : Nat} {d : Int} (h : simB R n can th tk (k :: ks) i r d = true) :
  ∃ res, scanF R can (th i) (n - r) r d = some res ∧ ∀ r' a, res = some (r', a) → simB R n can th tk ks (i + 1) r' (a + tk k) = true := by
 unfold simB at h
 cases hs : scanF R can (th i) (n - r) r d with
 | none => rw [hs] at h; simp at h
 | some o =>
  rw [hs] at h
  refine ⟨o, rfl, fun r' a e => ?_⟩
  subst e
  exact h
end
def SI (R : Nat → Int × Int) (n : Nat) (can : Int) (t : Option Int) (d : Int) (res : Option (Nat × Int)) (r0 r : Nat) (at_ : Nat) (bg : Int) : Prop :=
 (bg = -1 ∧ at_ = r0 ∧ r ≤ n ∧ scanF R can t (n - r) r d = some res) ∨ (0 ≤ bg ∧ bg < 600 ∧ at_ < n ∧ r = at_ + 1 ∧ res = some (at_, bg) ∧ t ≠ none)
end Go.By
namespace Go.Proofs.YthedkfiebmnghaaGreat
open Go Go.RowKit Go.Sh Go.Sh.Stand Go.Pv Go.By
section
variable {y : YD}
theorem sim_true (h : YOK y) {i : Nat} (hi : i < y.S) {p : List Nat} (hp : IsPlan y.S y.n p) {can : Int} (h0 : 0 ≤ can) (hc : waitsS y.D (y.T : Int) p ≤ can) {t : Shearer} (ht : t ∈ allSh (y.sd i).st) :
  simB (runF (y.sd i).runs) (y.sd i).runs.length can (fun k => (thereL (y.f i) y.L (y.T : Int) i p)[k]?) (tkN t) (ksN (y.sd i).sheep) 0 0 0 = true :=
 true_ok (runs_next (h.ok i hi)) (runs_wide (h.ok i hi)) (fun k => (tk_rng (h.ok i hi) ht (k : Int)).2.2) (fun k => by have := (tk_rng (h.ok i hi) (quick_mem (h.ok i hi)) (k : Int)).1; show 0 ≤ tk (y.sd i).quick (k : Int); omega) h.l1 h0 hi hp rfl rfl ((waits_le h0).1 hc)
def mnS (s : SD) : Nat → Int × Int
 | 0 => s.m0
 | 1 => s.m1
 | _ => s.m2
def takT (s : SD) (by_ : List Nat) (i n : Nat) : Int :=
 (mnS s n).1 + if by_.length = 0 then 0 else (((by_.getD ((n + i) % by_.length) 0 : Nat) : Int) + 3 * (n : Int)).tmod ((mnS s n).2 - (mnS s n).1 + 1)
def takS (s : SD) (by_ : List Nat) (i : Nat) : Shearer := (takT s by_ i 0, takT s by_ i 1, takT s by_ i 2)
theorem mn_rng {s : SD} (h : s.ok = true) (n : Nat) : 1 ≤ (mnS s n).1 ∧ (mnS s n).1 ≤ (mnS s n).2 ∧ (mnS s n).2 ≤ 40 := by
 have hm := (ok_fit h).minb
 have h0 := hm s.m0 (by simp [SD.st])
 have h1 := hm s.m1 (by simp [SD.st])
 have h2 := hm s.m2 (by simp [SD.st])
 match n with
 | 0 => exact ⟨h0.1, h0.2.1, h0.2.2.1⟩
 | 1 => exact ⟨h1.1, h1.2.1, h1.2.2.1⟩
 | _ + 2 => exact ⟨h2.1, h2.2.1, h2.2.2.1⟩
theorem takT_rng {s : SD} (h : s.ok = true) (by_ : List Nat) (i n : Nat) : (mnS s n).1 ≤ takT s by_ i n ∧ takT s by_ i n ≤ (mnS s n).2 := by
 have hm := mn_rng h n
 unfold takT
 split
 ·omega
 ·have h1 := Int.tmod_nonneg ((mnS s n).2 - (mnS s n).1 + 1) (show (0 : Int) ≤ ((by_.getD ((n + i) % by_.length) 0 : Nat) : Int) + 3 * (n : Int) by omega)
  have h2 := Int.tmod_lt_of_pos (((by_.getD ((n + i) % by_.length) 0 : Nat) : Int) + 3 * (n : Int)) (show (0 : Int) < (mnS s n).2 - (mnS s n).1 + 1 by omega)
  omega
theorem takS_mem {s : SD} (h : s.ok = true) (by_ : List Nat) (i : Nat) : takS s by_ i ∈ allSh s.st := by
 rw [mem_sh]
 exact ⟨takT_rng h by_ i 0, takT_rng h by_ i 1, takT_rng h by_ i 2⟩
theorem there_len (y : YD) (i : Nat) (p : List Nat) : (thereL (y.f i) y.L (y.T : Int) i p).length = y.f i + p.count i * y.L := by
 unfold thereL
 rw [List.length_append, List.length_replicate, theR_len]
def theK (y : YD) (i : Nat) (p : List Nat) (k : Nat) : List Int := List.replicate (y.f i) 0 ++ theR y.L (y.T : Int) i 0 (p.take k)
theorem theR_snoc (load : Nat) (T : Int) (i s : Nat) : ∀ (p : List Nat) (o : Nat), theR load T i o (p ++ [s]) = theR load T i o p ++ if s = i then List.replicate load (((o + p.length + 1 : Nat) : Int) * T) else []
 | [], o => by simp [theR]
 | x :: p, o => by
  show (if x = i then List.replicate load (((o + 1 : Nat) : Int) * T) else []) ++ theR load T i (o + 1) (p ++ [s]) = ((if x = i then List.replicate load (((o + 1 : Nat) : Int) * T) else []) ++ theR load T i (o + 1) p) ++ _
  rw [theR_snoc load T i s p (o + 1), List.append_assoc, List.length_cons, show o + 1 + p.length + 1 = o + (p.length + 1) + 1 by omega]
theorem theR_rng {load : Nat} {T : Int} {i : Nat} (hT : 0 ≤ T) : ∀ (p : List Nat) (o : Nat), ∀ a ∈ theR load T i o p, 0 ≤ a ∧ a ≤ ((o + p.length : Nat) : Int) * T
 | [], _, a, ha => by simp [theR] at ha
 | s :: p, o, a, ha => by
  unfold theR at ha
  have hm : ∀ x y : Nat, x ≤ y → (x : Int) * T ≤ (y : Int) * T := fun x y h => Int.mul_le_mul_of_nonneg_right (by omega) hT
  rcases List.mem_append.1 ha with ha | ha
  ·have ha : a = ((o + 1 : Nat) : Int) * T := by
    split at ha
    ·exact (List.mem_replicate.1 ha).2
    ·simp at ha
   rw [ha]
   exact ⟨Int.mul_nonneg (by omega) hT, hm _ _ (by rw [List.length_cons]; omega)⟩
  ·have := theR_rng hT p (o + 1) a ha
   have h2 := hm (o + 1 + p.length) (o + (s :: p).length) (by rw [List.length_cons]; omega)
   omega
theorem there_rng (h : YOK y) {i : Nat} {p : List Nat} (hp : p.length ≤ 48) : ∀ a ∈ thereL (y.f i) y.L (y.T : Int) i p, 0 ≤ a ∧ a ≤ 2880 := by
 intro a ha
 unfold thereL at ha
 rcases List.mem_append.1 ha with ha | ha
 ·have := (List.mem_replicate.1 ha).2
  omega
 ·have h1 := theR_rng (by omega) p 0 a ha
  have h2 : ((0 + p.length : Nat) : Int) * (y.T : Int) ≤ ((48 * 60 : Nat) : Int) := by
   have := Nat.mul_le_mul (show 0 + p.length ≤ 48 by omega) h.t60
   exact_mod_cast this
  omega
theorem theK_zero (y : YD) (i : Nat) (p : List Nat) : theK y i p 0 = List.replicate (y.f i) 0 := by
 unfold theK; rw [List.take_zero]; exact List.append_nil _
theorem theK_all (y : YD) (i : Nat) (p : List Nat) : theK y i p p.length = thereL (y.f i) y.L (y.T : Int) i p := by
 unfold theK thereL; rw [List.take_length]
theorem theK_succ (y : YD) (i : Nat) {p : List Nat} {k : Nat} (hk : k < p.length) : theK y i p (k + 1) = theK y i p k ++ if p.getD k 0 = i then List.replicate y.L (((k + 1 : Nat) : Int) * (y.T : Int)) else [] := by
 unfold theK
 rw [List.take_succ, getD_some (d := 0) hk]
 show _ ++ theR _ _ _ 0 (p.take k ++ [p.getD k 0]) = _
 rw [theR_snoc, List.length_take, Nat.min_eq_left (by omega), Nat.zero_add, List.append_assoc]
theorem theK_len (y : YD) (i : Nat) {p : List Nat} {k : Nat} (hk : k ≤ p.length) : (theK y i p k).length ≤ y.f i + k * y.L := by
 unfold theK
 rw [List.length_append, List.length_replicate, theR_len]
 have h1 := List.count_le_length (a := i) (l := p.take k)
 rw [List.length_take, Nat.min_eq_left hk] at h1
 have := Nat.mul_le_mul_right y.L h1
 omega
end
def cC (g : Nat → Int) : List AC := [.p (iP (g 0)), .p (iP (g 1)), .p (iP (g 2))]
theorem cC_len (g : Nat → Int) : (cC g).length = 3 := rfl
theorem cC_refs (g : Nat → Int) : (cC g).flatMap refsC = [] := rfl
theorem cC_spl {g : Nat → Int} {n : Nat} (hn : n < 3) (v : Int) : (cC g).take n ++ [.p (iP v)] ++ (cC g).drop (n + 1) = cC fun j => if j = n then v else g j := by
 rcases (show n = 0 ∨ n = 1 ∨ n = 2 by omega) with rfl | rfl | rfl <;> rfl
theorem cC_drop {g : Nat → Int} {n : Nat} (hn : n < 3) : (cC g).drop n = .p (iP (g n)) :: (cC g).drop (n + 1) := by
 rcases (show n = 0 ∨ n = 1 ∨ n = 2 by omega) with rfl | rfl | rfl <;> rfl
theorem mn_cells {s : SD} {n : Nat} (hn : n < 3) : (List.drop (n * 2) [AC.p (iP s.m0.1), .p (iP s.m0.2), .p (iP s.m1.1), .p (iP s.m1.2), .p (iP s.m2.1), .p (iP s.m2.2)]).take 2 = [.p (iP (mnS s n).1), .p (iP (mnS s n).2)] := by
 rcases (show n = 0 ∨ n = 1 ∨ n = 2 by omega) with rfl | rfl | rfl <;> rfl
theorem aw_join_keepQ {K : Kx} {ι : Type} {c rest : Code} {Q0 : Exit → St → Prop} {st st0 : St} (slots : List Nat) (hk : keep st slots = some st0) (fo : ι → List (Nat × AV)) (ho : ι → List (Nat × Obj')) (h1 : ∀ Q1 : Exit → St → Prop, AW K c (thenA (fun st' => ∃ j, Weak K st' (ov st0 (fo j) (ho j))) Q1) st) (h2 : ∀ j, AW K rest Q0 (ov st0 (fo j) (ho j))) : AW K c (thenA (AW K rest Q0) Q0) st :=
 aw_join_keep slots hk fo ho (h1 Q0) h2
end Go.Proofs.YthedkfiebmnghaaGreat
