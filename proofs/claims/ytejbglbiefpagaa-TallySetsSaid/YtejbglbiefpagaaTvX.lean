/- tally: the chapter's examples, reckoned. -/
import Derived.Test.YtejbglbiefpagaaTvK
import Derived.Test.YtejbglbiefpagaaTvV
import Derived.Test.YtejbglbiefpagaaTvW
set_option linter.all false
namespace Go.Proofs.Ytejbglbiefpagaa
open Go Go.RowKit Go.Sh Go.Pv
set_option maxRecDepth 20000
def strS : List (Int × Int) := [(0, 1), (-1, 0)]
def clA : List (Int × Int × Int × Int) := [(0, 0, 6, 6), (1, 0, 5, 5), (0, 2, 4, 5), (2, 0, 15, 16)]
def clB : List (Int × Int × Int × Int) := [(0, 0, 6, 6), (1, 0, 5, 5), (0, 2, 4, 5), (2, 0, 15, 16), (1, 2, 3, 3)]
def clD : List (Int × Int × Int × Int) := [(0, 0, 6, 6), (1, 0, 5, 5), (0, 2, 4, 5), (2, 0, 15, 16), (1, 2, 3, 3), (0, 1, 8, 8)]
def wordS : Nat := 375168554990132270949301339619983537324437080864276559045290478677221233981003218034479974084819640808227472494219609564497906308372835636871571475083172228363767965124796993202506436790376628904358378635031311951058100506401918295504398123530437528842143514388037001899025725710056620273524422504533713804524479581884262807653634299269216614390124825719322562745354178157055599268895629935165744190844472218479812601832563240506547257744615170387030472436681972130669377277578400170156671654017935389115552765180606749509640427459789126754888087819460931897948990901122819573297982989700733869414262711668790474753702699130622567184058925956631302869562325078208788213190968345037981268715134303275982052200494219559542854044136479683183585508724124473386866637195646385244555027547492169299384933716367809753721337845576064095734661844585087742595388947801989476998425409483259532332890912869475930440858507007954052692675430423379532077693098404370902646374731842946930186899666647250388945640732361195618928524007098749908246993724451782541888495323197384683970756250001218941841117958973218764392686652973156783708130778009208640024304441490796162022216234753935520127875284523204868522386220034753985637482037772480707546954369736990971137268511716983785812984344754254498611001977155361320744807209195795756506959492532613821205326666621935189713338091355623685343780331424042762305735452117649709109110688012310487730152867294527632477429912960388807573379076757148658678807163890892711784947341058690152318967072369410569839725135422135480188636202419901600954952392076781112283534009243926654295842415669999639057848632635827275442167796728098689015155967715841810420089875138056682410910658743928308152527114499164158520961724648932649310416690250085014467381995360150285972402078395418228409818535709160142938000769984286810758330871180133566364234844115070046834721289986077546084860999258262010642530086908990095658332139193149929552109272861570942287776139877522605945124927993660535033732522022034864412510488301495410808294125364908150845287409401828396355407133858483371328245985554670645352138514723241200802631932965988260671747379763927412697544452752968641308720456398149114568146107793001166055564129678264522993016682621678480027177806927267549463125892311864681630333985300327903882548682822207410978947072
theorem word_eq : F1W 3 10 strS 2 = wordS := by kernel_rfl
theorem valA : validB 3 10 strS clA = true := by kernel_rfl
theorem valB : validB 3 10 strS clB = true := by kernel_rfl
theorem valD : validB 3 10 strS clD = true := by kernel_rfl
theorem tokA : TOK 3 10 strS clA := (tok_of valA).2
theorem tokB : TOK 3 10 strS clB := (tok_of valB).2
theorem tokD : TOK 3 10 strS clD := (tok_of valD).2
theorem conc {calls : List (Int × Int × Int × Int)} (h : TOK 3 10 strS calls) (set : Nat) : RepW (tabW 3 calls set wordS) (tabF 3 10 strS calls set) :=
  rep_F2 h (by rw [← word_eq]; exact rep_F1 h 2 (Nat.le_refl _)) calls.length (Nat.le_refl _)
theorem idxN_B {p q : Nat → Bool} : ∀ {L : List Nat} {k : Nat}, (∀ x, p x = q x) → match idxN q L k with | some i => k ≤ i ∧ idxB p L = ((i - k : Nat) : Int) | none => idxB p L = -1
  | [], k, _ => rfl
  | x :: r, k, h => by
    unfold idxN
    cases hq : q x
    · have ih := idxN_B (L := r) (k := k + 1) h
      simp only [cond_false]
      have hx : ¬ p x = true := by rw [h, hq]; decide
      revert ih
      cases idxN q r (k + 1) with
      | none => intro ih; show idxB p (x :: r) = -1; unfold idxB; rw [if_neg hx]; dsimp only at ih; rw [ih]; rfl
      | some i =>
        intro ih
        dsimp only at ih ⊢
        refine ⟨by omega, ?_⟩
        unfold idxB
        rw [if_neg hx, ih.2, if_neg (by omega)]
        omega
    · simp only [cond_true]
      refine ⟨Nat.le_refl _, ?_⟩
      unfold idxB
      rw [if_pos (by rw [h, hq])]
      simp
theorem idx_some {p q : Nat → Bool} {L : List Nat} {i : Nat} (h : ∀ x, p x = q x) (hi : idxN q L 0 = some i) : idxB p L = i := by
  have := idxN_B (L := L) (k := 0) h
  rw [hi] at this
  simpa using this.2
theorem idx_none {p q : Nat → Bool} {L : List Nat} (h : ∀ x, p x = q x) (hi : idxN q L 0 = none) : idxB p L = -1 := by
  have := idxN_B (L := L) (k := 0) h
  rw [hi] at this
  exact this
theorem why_ok {calls : List (Int × Int × Int × Int)} (hv : validB 3 10 strS calls = true) (hc : canW (tabW 3 calls (2 ^ calls.length - 1) wordS) = true) {b : Bool} (hb : b = true) : whyE 3 10 strS calls b = 0 := by
  unfold whyE
  rw [if_neg (by rw [hv]; decide), if_neg (by rw [hb]; decide), if_neg]
  show ¬ canB (tabF 3 10 strS calls (2 ^ calls.length - 1)) 11 = false
  rw [can_W (conc (tok_of hv).2 _)]
  show ¬ canW (tabW 3 calls (2 ^ calls.length - 1) wordS) = false
  rw [hc]; decide
theorem why_no {calls : List (Int × Int × Int × Int)} (hv : validB 3 10 strS calls = true) (hc : canW (tabW 3 calls (2 ^ calls.length - 1) wordS) = false) {b : Bool} (hb : b = true) : whyE 3 10 strS calls b = 10 := by
  unfold whyE
  rw [if_neg (by rw [hv]; decide), if_neg (by rw [hb]; decide), if_pos]
  show canB (tabF 3 10 strS calls (2 ^ calls.length - 1)) 11 = false
  rw [can_W (conc (tok_of hv).2 _)]
  exact hc
theorem val_E {calls : List (Int × Int × Int × Int)} (hv : validB 3 10 strS calls = true) {a b : Nat} {v : Int} (ha : a < 11) (hb : b < 11) (h : valW (tabW 3 calls (2 ^ calls.length - 1) wordS) a b = v) : tabE 3 10 strS calls a b = v := by
  rw [← h]
  exact val_W (conc (tok_of hv).2 _) ha hb
theorem pw_eq {calls : List (Int × Int × Int × Int)} (hv : validB 3 10 strS calls = true) (x : Nat) : pW 3 10 strS calls x = canW (tabW 3 calls (diffN (2 ^ calls.length - 1) x) wordS) := can_W (conc (tok_of hv).2 _)
theorem pc_eq {calls : List (Int × Int × Int × Int)} (hv : validB 3 10 strS calls = true) (x : Nat) : pC 3 10 strS calls x = !canW (tabW 3 calls x wordS) := by unfold pC; rw [can_W (conc (tok_of hv).2 _)]
theorem canA : canW (tabW 3 clA (2 ^ clA.length - 1) wordS) = true := by kernel_rfl
theorem canBB : canW (tabW 3 clB (2 ^ clB.length - 1) wordS) = true := by kernel_rfl
theorem canD : canW (tabW 3 clD (2 ^ clD.length - 1) wordS) = false := by kernel_rfl
theorem Shorn_A_1 : FunOK Try.prog 14 [tyR 3 10 strS clA, .one (iP 1)] (.tup [.agg [iP (4), iP (6)], .one (iP 0)]) := by
  have h := ok_Shorn (n := 3) (most := 10) (strays := strS) (calls := clA) (1)
  have e1 : tabE 3 10 strS clA 1 2 = -4 := val_E valA (by decide) (by decide) (by kernel_rfl)
  have e2 : tabE 3 10 strS clA 2 1 = 6 := val_E valA (by decide) (by decide) (by kernel_rfl)
  rw [why_ok valA canA (by rfl), show shornS 3 10 strS clA (1) = (-(tabE 3 10 strS clA 1 2), tabE 3 10 strS clA 2 1) from rfl, e1, e2] at h
  exact h
theorem Shorn_A_0 : FunOK Try.prog 14 [tyR 3 10 strS clA, .one (iP 0)] (.tup [.agg [iP (6), iP (6)], .one (iP 0)]) := by
  have h := ok_Shorn (n := 3) (most := 10) (strays := strS) (calls := clA) (0)
  have e1 : tabE 3 10 strS clA 0 1 = -6 := val_E valA (by decide) (by decide) (by kernel_rfl)
  have e2 : tabE 3 10 strS clA 1 0 = 6 := val_E valA (by decide) (by decide) (by kernel_rfl)
  rw [why_ok valA canA (by rfl), show shornS 3 10 strS clA (0) = (-(tabE 3 10 strS clA 0 1), tabE 3 10 strS clA 1 0) from rfl, e1, e2] at h
  exact h
theorem Shorn_A_2 : FunOK Try.prog 14 [tyR 3 10 strS clA, .one (iP 2)] (.tup [.agg [iP (4), iP (5)], .one (iP 0)]) := by
  have h := ok_Shorn (n := 3) (most := 10) (strays := strS) (calls := clA) (2)
  have e1 : tabE 3 10 strS clA 2 3 = -4 := val_E valA (by decide) (by decide) (by kernel_rfl)
  have e2 : tabE 3 10 strS clA 3 2 = 5 := val_E valA (by decide) (by decide) (by kernel_rfl)
  rw [why_ok valA canA (by rfl), show shornS 3 10 strS clA (2) = (-(tabE 3 10 strS clA 2 3), tabE 3 10 strS clA 3 2) from rfl, e1, e2] at h
  exact h
theorem Shorn_B_1 : FunOK Try.prog 14 [tyR 3 10 strS clB, .one (iP 1)] (.tup [.agg [iP (5), iP (6)], .one (iP 0)]) := by
  have h := ok_Shorn (n := 3) (most := 10) (strays := strS) (calls := clB) (1)
  have e1 : tabE 3 10 strS clB 1 2 = -5 := val_E valB (by decide) (by decide) (by kernel_rfl)
  have e2 : tabE 3 10 strS clB 2 1 = 6 := val_E valB (by decide) (by decide) (by kernel_rfl)
  rw [why_ok valB canBB (by rfl), show shornS 3 10 strS clB (1) = (-(tabE 3 10 strS clB 1 2), tabE 3 10 strS clB 2 1) from rfl, e1, e2] at h
  exact h
theorem Shorn_B_2 : FunOK Try.prog 14 [tyR 3 10 strS clB, .one (iP 2)] (.tup [.agg [iP (4), iP (4)], .one (iP 0)]) := by
  have h := ok_Shorn (n := 3) (most := 10) (strays := strS) (calls := clB) (2)
  have e1 : tabE 3 10 strS clB 2 3 = -4 := val_E valB (by decide) (by decide) (by kernel_rfl)
  have e2 : tabE 3 10 strS clB 3 2 = 4 := val_E valB (by decide) (by decide) (by kernel_rfl)
  rw [why_ok valB canBB (by rfl), show shornS 3 10 strS clB (2) = (-(tabE 3 10 strS clB 2 3), tabE 3 10 strS clB 3 2) from rfl, e1, e2] at h
  exact h
theorem Pen_A_1 : FunOK Try.prog 16 [tyR 3 10 strS clA, .one (iP 1)] (.tup [.agg [iP (5), iP (8)], .one (iP 0)]) := by
  have h := ok_Pen (n := 3) (most := 10) (strays := strS) (calls := clA) (1)
  have e1 : tabE 3 10 strS clA 6 7 = -5 := val_E valA (by decide) (by decide) (by kernel_rfl)
  have e2 : tabE 3 10 strS clA 7 6 = 8 := val_E valA (by decide) (by decide) (by kernel_rfl)
  rw [why_ok valA canA (by rfl), show penS 3 10 strS clA (1) = (-(tabE 3 10 strS clA 6 7), tabE 3 10 strS clA 7 6) from rfl, e1, e2] at h
  exact h
theorem Pen_A_2 : FunOK Try.prog 16 [tyR 3 10 strS clA, .one (iP 2)] (.tup [.agg [iP (3), iP (5)], .one (iP 0)]) := by
  have h := ok_Pen (n := 3) (most := 10) (strays := strS) (calls := clA) (2)
  have e1 : tabE 3 10 strS clA 7 3 = -3 := val_E valA (by decide) (by decide) (by kernel_rfl)
  have e2 : tabE 3 10 strS clA 3 7 = 5 := val_E valA (by decide) (by decide) (by kernel_rfl)
  rw [why_ok valA canA (by rfl), show penS 3 10 strS clA (2) = (-(tabE 3 10 strS clA 7 3), tabE 3 10 strS clA 3 7) from rfl, e1, e2] at h
  exact h
theorem Stray_B_1 : FunOK Try.prog 18 [tyR 3 10 strS clB, .one (iP 1)] (.tup [.agg [iP (-1), iP (-1)], .one (iP 0)]) := by
  have h := ok_Stray (n := 3) (most := 10) (strays := strS) (calls := clB) (1)
  have e1 : tabE 3 10 strS clB 7 2 = 1 := val_E valB (by decide) (by decide) (by kernel_rfl)
  have e2 : tabE 3 10 strS clB 2 7 = -1 := val_E valB (by decide) (by decide) (by kernel_rfl)
  rw [why_ok valB canBB (by rfl), show strayS 3 10 strS clB (1) = (-(tabE 3 10 strS clB 7 2), tabE 3 10 strS clB 2 7) from rfl, e1, e2] at h
  exact h
theorem Stray_A_0 : FunOK Try.prog 18 [tyR 3 10 strS clA, .one (iP 0)] (.tup [.agg [iP (1), iP (1)], .one (iP 0)]) := by
  have h := ok_Stray (n := 3) (most := 10) (strays := strS) (calls := clA) (0)
  have e1 : tabE 3 10 strS clA 6 1 = -1 := val_E valA (by decide) (by decide) (by kernel_rfl)
  have e2 : tabE 3 10 strS clA 1 6 = 1 := val_E valA (by decide) (by decide) (by kernel_rfl)
  rw [why_ok valA canA (by rfl), show strayS 3 10 strS clA (0) = (-(tabE 3 10 strS clA 6 1), tabE 3 10 strS clA 1 6) from rfl, e1, e2] at h
  exact h
theorem Stray_A_1 : FunOK Try.prog 18 [tyR 3 10 strS clA, .one (iP 1)] (.tup [.agg [iP (-1), iP (0)], .one (iP 0)]) := by
  have h := ok_Stray (n := 3) (most := 10) (strays := strS) (calls := clA) (1)
  have e1 : tabE 3 10 strS clA 7 2 = 1 := val_E valA (by decide) (by decide) (by kernel_rfl)
  have e2 : tabE 3 10 strS clA 2 7 = 0 := val_E valA (by decide) (by decide) (by kernel_rfl)
  rw [why_ok valA canA (by rfl), show strayS 3 10 strS clA (1) = (-(tabE 3 10 strS clA 7 2), tabE 3 10 strS clA 2 7) from rfl, e1, e2] at h
  exact h
theorem Together_A_1_2 : FunOK Try.prog 20 [tyR 3 10 strS clA, .one (iP 1), .one (iP 2)] (.tup [.agg [iP (9), iP (10)], .one (iP 0)]) := by
  have h := ok_Together (n := 3) (most := 10) (strays := strS) (calls := clA) (1) (2)
  have e1 : tabE 3 10 strS clA 1 3 = -9 := val_E valA (by decide) (by decide) (by kernel_rfl)
  have e2 : tabE 3 10 strS clA 3 1 = 10 := val_E valA (by decide) (by decide) (by kernel_rfl)
  rw [why_ok valA canA (by rfl), show togS 3 10 strS clA (1) (2) = (-(tabE 3 10 strS clA 1 3), tabE 3 10 strS clA 3 1) from rfl, e1, e2] at h
  exact h
theorem Together_A_0_2 : FunOK Try.prog 20 [tyR 3 10 strS clA, .one (iP 0), .one (iP 2)] (.tup [.agg [iP (15), iP (16)], .one (iP 0)]) := by
  have h := ok_Together (n := 3) (most := 10) (strays := strS) (calls := clA) (0) (2)
  have e1 : tabE 3 10 strS clA 0 3 = -15 := val_E valA (by decide) (by decide) (by kernel_rfl)
  have e2 : tabE 3 10 strS clA 3 0 = 16 := val_E valA (by decide) (by decide) (by kernel_rfl)
  rw [why_ok valA canA (by rfl), show togS 3 10 strS clA (0) (2) = (-(tabE 3 10 strS clA 0 3), tabE 3 10 strS clA 3 0) from rfl, e1, e2] at h
  exact h
theorem Fits_A_1_1_5_6 : FunOK Try.prog 22 [tyR 3 10 strS clA, .agg [iP 1, iP 1, iP 5, iP 6]] (.tup [.one (iP 1), .one (iP 0)]) := by
  have h := ok_Fits (n := 3) (most := 10) (strays := strS) (calls := clA) (1, 1, 5, 6)
  have e1 : tabE 3 10 strS clA 6 7 = -5 := val_E valA (by decide) (by decide) (by kernel_rfl)
  have e2 : tabE 3 10 strS clA 7 6 = 8 := val_E valA (by decide) (by decide) (by kernel_rfl)
  rw [why_ok valA canA (by rfl), show fitsS 3 10 strS clA (1, 1, 5, 6) = fitsV (1, 1, 5, 6) (-(tabE 3 10 strS clA 6 7)) (tabE 3 10 strS clA 7 6) from rfl, e1, e2, show fitsV (1, 1, 5, 6) (- -5) 8 = 1 from by decide] at h
  exact h
theorem Fits_A_1_1_5_8 : FunOK Try.prog 22 [tyR 3 10 strS clA, .agg [iP 1, iP 1, iP 5, iP 8]] (.tup [.one (iP 2), .one (iP 0)]) := by
  have h := ok_Fits (n := 3) (most := 10) (strays := strS) (calls := clA) (1, 1, 5, 8)
  have e1 : tabE 3 10 strS clA 6 7 = -5 := val_E valA (by decide) (by decide) (by kernel_rfl)
  have e2 : tabE 3 10 strS clA 7 6 = 8 := val_E valA (by decide) (by decide) (by kernel_rfl)
  rw [why_ok valA canA (by rfl), show fitsS 3 10 strS clA (1, 1, 5, 8) = fitsV (1, 1, 5, 8) (-(tabE 3 10 strS clA 6 7)) (tabE 3 10 strS clA 7 6) from rfl, e1, e2, show fitsV (1, 1, 5, 8) (- -5) 8 = 2 from by decide] at h
  exact h
theorem Fits_A_1_1_9_9 : FunOK Try.prog 22 [tyR 3 10 strS clA, .agg [iP 1, iP 1, iP 9, iP 9]] (.tup [.one (iP 0), .one (iP 0)]) := by
  have h := ok_Fits (n := 3) (most := 10) (strays := strS) (calls := clA) (1, 1, 9, 9)
  have e1 : tabE 3 10 strS clA 6 7 = -5 := val_E valA (by decide) (by decide) (by kernel_rfl)
  have e2 : tabE 3 10 strS clA 7 6 = 8 := val_E valA (by decide) (by decide) (by kernel_rfl)
  rw [why_ok valA canA (by rfl), show fitsS 3 10 strS clA (1, 1, 9, 9) = fitsV (1, 1, 9, 9) (-(tabE 3 10 strS clA 6 7)) (tabE 3 10 strS clA 7 6) from rfl, e1, e2, show fitsV (1, 1, 9, 9) (- -5) 8 = 0 from by decide] at h
  exact h
theorem wIdxD : wIdx 3 10 strS clD = 4 := idx_some (pw_eq valD) (by kernel_rfl)
theorem wSetD : wSet 3 10 strS clD = 8 := by unfold wSet; rw [wIdxD]; kernel_rfl
theorem whyWD : whyW 3 10 strS clD = 0 := by unfold whyW; rw [valD, wIdxD]; rfl
theorem False_D : FunOK Try.prog 24 [tyR 3 10 strS clD] (.tup [.one (iP 1), .one (iP 8), .one (iP 0)]) := by
  have h := ok_False (n := 3) (most := 10) (strays := strS) (calls := clD)
  rw [whyWD, wSetD, show popc 8 = 1 from by kernel_rfl] at h
  exact h
theorem wIdxB : wIdx 3 10 strS clB = 0 := idx_some (pw_eq valB) (by kernel_rfl)
theorem wSetB : wSet 3 10 strS clB = 0 := by unfold wSet; rw [wIdxB]; kernel_rfl
theorem whyWB : whyW 3 10 strS clB = 0 := by unfold whyW; rw [valB, wIdxB]; rfl
theorem False_B : FunOK Try.prog 24 [tyR 3 10 strS clB] (.tup [.one (iP 0), .one (iP 0), .one (iP 0)]) := by
  have h := ok_False (n := 3) (most := 10) (strays := strS) (calls := clB)
  rw [whyWB, wSetB, show popc 0 = 0 from by kernel_rfl] at h
  exact h
theorem sus_congr {p q : Nat → Bool} {w : Nat} {L : List Nat} (h : ∀ x, p x = q x) : ∀ i, susA p w L i = susA q w L i
  | 0 => rfl
  | i + 1 => by unfold susA; rw [sus_congr h i, h]
/-- The same, so that the kernel reckons it. -/
def susK (q : Nat → Bool) (w : Nat) : List Nat → Nat → Nat
  | [], a => a
  | x :: r, a => cond (Nat.beq (popc x) (popc w) && q x) (force (a ||| x) (susK q w r)) (susK q w r a)
theorem susK_cons (q : Nat → Bool) (w x : Nat) (r : List Nat) (a : Nat) : susK q w (x :: r) a = cond (Nat.beq (popc x) (popc w) && q x) (force (a ||| x) (susK q w r)) (susK q w r a) := rfl
theorem susK_eq {q : Nat → Bool} {w : Nat} (L : List Nat) : ∀ (r : List Nat) (i : Nat), L.drop i = r → i ≤ L.length → susK q w r (susA q w L i) = susA q w L L.length
  | [], i, h, hi => by
    have : i = L.length := by
      have := congrArg List.length h
      simp at this; omega
    subst this; rfl
  | x :: r, i, h, hi => by
    have hlt : i < L.length := by
      have := congrArg List.length h
      simp at this; omega
    have hx : L.getD i 0 = x := by
      have := congrArg (fun l => l[0]?) h
      simp at this
      simp [List.getD, this]
    have hr : L.drop (i + 1) = r := by
      have := congrArg (List.drop 1) h
      simpa [List.drop_drop] using this
    have ih := susK_eq (q := q) (w := w) L r (i + 1) hr hlt
    rw [← ih, susK_cons]
    conv => rhs; unfold susA
    rw [hx]
    by_cases h1 : popc x = popc w
    · cases h2 : q x
      · rw [show Nat.beq (popc x) (popc w) = true by rw [Nat.beq_eq]; exact h1, if_neg (by simp)]; rfl
      · rw [show Nat.beq (popc x) (popc w) = true by rw [Nat.beq_eq]; exact h1, if_pos ⟨h1, rfl⟩]
        rw [Bool.true_and, cond_true, force_eq]
    · rw [show Nat.beq (popc x) (popc w) = false by rw [← Bool.not_eq_true, Nat.beq_eq]; exact h1, if_neg (fun h => h1 h.1)]; rfl
theorem Sus_D : FunOK Try.prog 26 [tyR 3 10 strS clD] (.tup [.one (iP 40), .one (iP 0)]) := by
  have h := ok_Suspects (n := 3) (most := 10) (strays := strS) (calls := clD)
  have e : susS 3 10 strS clD = 40 := by
    unfold susS
    rw [wSetD]
    show susA (pW 3 10 strS clD) 8 (setsL clD.length) (setsL clD.length).length = 40
    rw [sus_congr (pw_eq valD)]
    exact (susK_eq (setsL clD.length) (setsL clD.length) 0 rfl (Nat.zero_le _)).symm.trans (by kernel_rfl)
  rw [whyWD, e] at h
  exact h
theorem cIdxD : cIdx 3 10 strS clD = 49 := idx_some (pc_eq valD) (by kernel_rfl)
theorem Clash_D : FunOK Try.prog 28 [tyR 3 10 strS clD] (.tup [.one (iP 45), .one (iP 0)]) := by
  have h := ok_Clash (n := 3) (most := 10) (strays := strS) (calls := clD)
  rw [show whyC 3 10 strS clD = 0 by unfold whyC; rw [valD, cIdxD]; rfl, show cSet 3 10 strS clD = 45 by unfold cSet; rw [cIdxD]; kernel_rfl] at h
  exact h
theorem cIdxB : cIdx 3 10 strS clB = -1 := idx_none (pc_eq valB) (by kernel_rfl)
theorem Clash_B : FunOK Try.prog 28 [tyR 3 10 strS clB] (.tup [.one (iP 0), .one (iP 4)]) := by
  have h := ok_Clash (n := 3) (most := 10) (strays := strS) (calls := clB)
  rw [show whyC 3 10 strS clB = 4 by unfold whyC; rw [valB, cIdxB]; rfl] at h
  exact h
theorem Shorn_D_0 : FunOK Try.prog 14 [tyR 3 10 strS clD, .one (iP 0)] (.tup [.agg [iP 0, iP 0], .one (iP 10)]) := by
  have h := ok_Shorn (n := 3) (most := 10) (strays := strS) (calls := clD) 0
  rw [why_no valD canD (by rfl)] at h
  exact h
end Go.Proofs.Ytejbglbiefpagaa
