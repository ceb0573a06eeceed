/- classer: what the document tells of a line. -/
import Derived.Test.YtgdhdikeicgndaaWcN
set_option linter.all false
namespace Go.Proofs.Ytgdhdikeicgndaa
open Go Go.RowKit Go.Sh Go.Pv Go.Cl
set_option maxHeartbeats 4000000
set_option maxRecDepth 20000
set_option pp.maxSteps 60000
section
variable {bales : List (Int × Int × Int)} {may drift mist : Int}
/-- The states of all truths of a line, if it is valid. -/
def toldL (bales : List (Int × Int × Int)) (may drift mist asked : Int) (v : Bool) : List St5 := if whyL bales may drift mist v = 0 then stL (nB bales) drift.toNat may.toNat mist.toNat (2 ^ bales.length - 1) asked bales.length else []
theorem ok_toldD (asked : Int) (v : Bool) : FunOK Try.prog 48 [lineR bales may drift mist, .one (iP asked), .one (.v (.bool v))] (.tup [.one (.sl ((toldL bales may drift mist asked v).map stP)), .one (iP (whyL bales may drift mist v))]) := by
  have hLn := ok_LineD (bales := bales) (may := may) (drift := drift) (mist := mist)
  cases hv : lineB bales may drift mist
  · rw [hv] at hLn
    have hw : whyL bales may drift mist v = 1 := by simp [whyL, hv]
    have ht : toldL bales may drift mist asked v = [] := by unfold toldL; rw [hw]; rfl
    rw [hw, ht]
    clear hv hw ht
    refine fun_ok (nt := 25) (rs := [.tmp 6, .tmp 7]) Try.func48 rfl rfl rfl (by simp) fun Z w0 => ?_; simp only [initFr, avR, List.map_cons, List.map_nil]
    simp only [lineR, List.map_cons, List.map_nil]
    refine tw ?_; try with_reducible intro QQ hQQ
    ((refine cO 34 rfl rfl rfl (hLn) Try.func34 rfl ?_); refine tu ?_; try clear hQQ QQ); refine tw ?_; try with_reducible intro QQ hQQ
    refine ti ?_; try clear hQQ QQ
    refine tw ?_; try with_reducible intro QQ hQQ
    refine aw_ret ?_; refine ⟨.inr rfl, ?_⟩; simp only [resA, res1, go_sem, ↓reduceIte]
  rw [hv] at hLn
  cases v
  · have hw : whyL bales may drift mist false = 2 := by simp [whyL, hv]
    have ht : toldL bales may drift mist asked false = [] := by unfold toldL; rw [hw]; rfl
    rw [hw, ht]
    clear hv hw ht
    refine fun_ok (nt := 25) (rs := [.tmp 6, .tmp 7]) Try.func48 rfl rfl rfl (by simp) fun Z w0 => ?_; simp only [initFr, avR, List.map_cons, List.map_nil]
    simp only [lineR, List.map_cons, List.map_nil]
    refine tw ?_; try with_reducible intro QQ hQQ
    ((refine cO 34 rfl rfl rfl (hLn) Try.func34 rfl ?_); refine tu ?_; try clear hQQ QQ); refine tw ?_; try with_reducible intro QQ hQQ
    refine ti ?_; try clear hQQ QQ
    refine tw ?_; try with_reducible intro QQ hQQ
    refine ti ?_; try clear hQQ QQ
    refine tw ?_; try with_reducible intro QQ hQQ
    refine aw_ret ?_; refine ⟨.inr rfl, ?_⟩; simp only [resA, res1, go_sem, ↓reduceIte]
  obtain ⟨bs, May, D, M, rfl, rfl, rfl, rfl, hL, hMay, hD, hM⟩ := line_of hv
  have h6 := hL.n6
  have hp6 := pow64 h6
  have hp0 := Nat.two_pow_pos bs.length
  have hev := ok_everyD (bales := bs.map castB) (may := May) (drift := D) (mist := M) (by rw [List.length_map]; omega)
  have hst := ok_states63 (most := M) (tk := 2 ^ bs.length - 1) (asked := asked) hL hMay hD (by omega) (by omega) (M : Int)
  have hM' : M < FAR := by unfold FAR; omega
  have hni := st_nil (May := May) (D := D) (most := M) (tk := 2 ^ bs.length - 1) (asked := asked) hL hM'
  have hmi := mist_iff (D := D) (M := M) hL hM'
  have hsl := st_len6 (D := D) (May := May) (most := M) (tk := 2 ^ bs.length - 1) (asked := asked) hL h6
  rw [List.length_map] at hev
  cases hc : canB (bs.map castB) D M
  · have hw : whyL (bs.map castB) May D M true = 10 := by simp [whyL, hv, hc]
    have ht : toldL (bs.map castB) May D M asked true = [] := by unfold toldL; rw [hw]; rfl
    rw [hw, ht]
    rw [canB_cast] at hc
    have hno := hni.2 (fun he => of_decide_eq_false hc (hmi.2 he))
    rw [hno] at hst
    rw [lineR_cast]
    rw [rows_cast] at hev hLn
    clear hv hw ht hni hmi hsl hno hc
    generalize 2 ^ bs.length - 1 = E at *
    refine fun_ok (nt := 25) (rs := [.tmp 6, .tmp 7]) Try.func48 rfl rfl rfl (by simp) fun Z w0 => ?_; simp only [initFr, avR, List.map_cons, List.map_nil]
    refine tw ?_; try with_reducible intro QQ hQQ
    ((refine cO 34 rfl rfl rfl (hLn) Try.func34 rfl ?_); refine tu ?_; try clear hQQ QQ); refine tw ?_; try with_reducible intro QQ hQQ
    refine ti ?_; try clear hQQ QQ
    refine tw ?_; try with_reducible intro QQ hQQ
    refine ti ?_; try clear hQQ QQ
    refine tw ?_; try with_reducible intro QQ hQQ
    (refine cD 64 rfl rfl rfl (hev) Try.func64 rfl ?_); refine td ?_; try clear hQQ QQ
    ((refine cG 63 rfl rfl rfl (hst) Try.func63 rfl ?_); refine tv ?_; try clear hQQ QQ); refine tw ?_; try with_reducible intro QQ hQQ
    refine ti ?_; try clear hQQ QQ
    refine tw ?_; try with_reducible intro QQ hQQ
    refine aw_ret ?_; refine ⟨.inr rfl, ?_⟩; simp only [resA, res1, go_sem, ↓reduceIte]
  · have hw : whyL (bs.map castB) May D M true = 0 := by simp [whyL, hv, hc]
    have ht : toldL (bs.map castB) May D M asked true = stL bs D May M (2 ^ bs.length - 1) asked bs.length := by unfold toldL; rw [hw, if_pos rfl, nB_cast, List.length_map]; rfl
    rw [hw, ht]
    rw [canB_cast] at hc
    have hne : stL bs D May M (2 ^ bs.length - 1) asked bs.length ≠ [] := fun e => hni.1 e (hmi.1 (of_decide_eq_true hc))
    rw [lineR_cast]
    rw [rows_cast] at hev hLn
    clear hv hw ht hni hmi hc
    generalize stL bs D May M (2 ^ bs.length - 1) asked bs.length = L at *
    generalize 2 ^ bs.length - 1 = E at *
    have hlp : 0 < L.length := List.length_pos_iff.2 hne
    have hll : (L.map stP).length = L.length := List.length_map _
    clear hne
    refine fun_ok (nt := 25) (rs := [.tmp 6, .tmp 7]) Try.func48 rfl rfl rfl (by simp) fun Z w0 => ?_; simp only [initFr, avR, List.map_cons, List.map_nil]
    refine tw ?_; try with_reducible intro QQ hQQ
    ((refine cO 34 rfl rfl rfl (hLn) Try.func34 rfl ?_); refine tu ?_; try clear hQQ QQ); refine tw ?_; try with_reducible intro QQ hQQ
    refine ti ?_; try clear hQQ QQ
    refine tw ?_; try with_reducible intro QQ hQQ
    refine ti ?_; try clear hQQ QQ
    refine tw ?_; try with_reducible intro QQ hQQ
    (refine cD 64 rfl rfl rfl (hev) Try.func64 rfl ?_); refine td ?_; try clear hQQ QQ
    (refine cG 63 rfl rfl rfl (hst) Try.func63 rfl ?_); refine td ?_; try clear hQQ QQ
    try clear hF
    have hF := hll
    refine twF ?_; try with_reducible intro QQ hQQ
    refine tiF ?_; try clear hQQ QQ
    refine twF ?_; try with_reducible intro QQ hQQ
    refine aw_ret ?_; refine ⟨.inr rfl, ?_⟩; simp only [resA, res1, go_sem, ↓reduceIte]
end
end Go.Proofs.Ytgdhdikeicgndaa
