/- Kk: texts joined (BvH BvI BvJ). -/
import Derived.Test.YtknikcpeacmpmaaBvG
import Derived.Test.YtknikcpeacmpmaaKm
set_option linter.all false
/- burr: what is returned: Count, Bales, Pure, Mobs. -/
namespace Go.Proofs.Ytknikcpeacmpmaa
open Go Go.RowKit Go.Sh Go.Pv
set_option maxHeartbeats 8000000
set_option maxRecDepth 8000
set_option pp.maxSteps 60000
/-- What is answered: an error's code, or a number. -/
def ansN (e : Int) (r : Int) : RR := .tup [.one (iP (if e = 0 then r else 0)), .one (iP e)]
def ansR (e : Int) (r : Int × Int) : RR := .tup [.one (iP (if e = 0 then r.1 else 0)), .one (iP (if e = 0 then r.2 else 0)), .one (iP e)]
theorem bok_of {n lo hi top : Int} {bales : List (Int × Int)} {tests : List (Int × Bool)} (h : burrB n lo hi top bales tests = true) : ∃ N L U T : Nat, n = N ∧ lo = L ∧ hi = U ∧ top = T ∧ BOK N L U T bales tests := by
  obtain ⟨hh, hb, ht⟩ := burrB_of h
  obtain ⟨⟨b1, b2, b3, b4⟩, b5, b6, b7⟩ := head_of hh
  have hp := Nat.two_pow_pos bales.length
  refine ⟨n.toNat, lo.toNat, hi.toNat, top.toNat, by omega, by omega, by omega, by omega, by omega, by omega, by omega, by omega, b5, by omega, b7, fun i hi => ?_, fun t htm => ?_⟩
  · have := hb i hi
    have hq := Nat.two_pow_pos n.toNat
    simp only [baleB, inB, Bool.and_eq_true, decide_eq_true_eq] at this
    obtain ⟨⟨h1, h2⟩, h3⟩ := this
    exact ⟨⟨by omega, by omega⟩, ⟨by omega, by omega⟩, h3⟩
  · obtain ⟨i, hi, rfl⟩ := List.getElem_of_mem htm
    have := ht i hi
    rw [List.getD_eq_getElem?_getD, List.getElem?_eq_getElem hi] at this
    simp only [inB, Bool.and_eq_true, decide_eq_true_eq, Option.getD_some] at this
    omega
theorem BOK.b32 {N lo hi top : Nat} {bales : List (Int × Int)} {tests : List (Int × Bool)} (h : BOK N lo hi top bales tests) : ∀ i, i < bales.length → (0 ≤ (bales.getD i (0, 0)).1 ∧ (bales.getD i (0, 0)).1 < 32) ∧ (0 ≤ (bales.getD i (0, 0)).2 ∧ (bales.getD i (0, 0)).2 < 32) := fun i hi => by
  have := h.ba i hi
  have := pow32 h.n5
  omega
theorem BOK.te6 {N lo hi top : Nat} {bales : List (Int × Int)} {tests : List (Int × Bool)} (h : BOK N lo hi top bales tests) : ∀ t ∈ tests, 0 ≤ t.1 ∧ t.1 < 6 := fun t ht => by
  have := h.te t ht
  have := h.b6
  omega
section
variable {n lo hi top : Int} {bales : List (Int × Int)} {tests : List (Int × Bool)}
def cntB (n lo hi : Int) (bales : List (Int × Int)) (tests : List (Int × Bool)) : Nat := cntF lo.toNat hi.toNat bales tests (2 ^ n.toNat)
/-- Why it is not told. -/
def whyV (n lo hi top : Int) (bales : List (Int × Int)) (tests : List (Int × Bool)) : Int := if burrB n lo hi top bales tests = true then 0 else 1
def whyT (n lo hi top : Int) (bales : List (Int × Int)) (tests : List (Int × Bool)) : Int := if burrB n lo hi top bales tests = true then (if cntB n lo hi bales tests = 0 then 10 else 0) else 1
theorem ok_Count : FunOK Try.prog 22 [buR n lo hi top bales tests] (ansN (whyV n lo hi top bales tests) (cntB n lo hi bales tests : Nat)) := by
  cases hv : burrB n lo hi top bales tests
  · have hwhy : whyV n lo hi top bales tests = 1 := by simp [whyV, hv]
    have hb := hwhy
    refine fun_exp (l := [_]) (od := _) (nt := 10) (t := 4) (eb := 1) (rs := [.tmp 2, .cell 3 30]) ans64 Try.func22 rfl rfl rfl (by simp) rfl rfl rfl Try.func64 rfl (by decide) fun Z w0 => ?_; simp only [initFr, avR, List.map_cons, List.map_nil]
    simp only [buR, List.map_cons, List.map_nil]
    try simp only [List.append_eq, List.cons_append, List.nil_append]
    refine tw ?_; try with_reducible intro QQ hQQ
    refine ⟨rfl, ?_⟩
    (refine ts ?_; try clear hQQ QQ)
    refine tw ?_; try with_reducible intro QQ hQQ
    refine callD_X rfl rfl 48 (by simp (disch := first | decide | omega) only [go_sem, ↓reduceIte]; try rfl) (by simp (disch := first | decide | omega) only [go_sem, ↓reduceIte]; try rfl) Try.func48 rfl (by decide) (x_open hv) ?_ ?_; rotate_left; ((repeat (first | refine evDead_skip (by rfl) ?_ | (refine evDead_step (by rfl) (by simp (maxSteps := 400000) (disch := first | decide | omega) only [go_sem, ↓reduceIte]; try rfl) (by simp (maxSteps := 400000) (disch := first | decide | omega) only [go_sem, ↓reduceIte]; try rfl) ?_; simp (maxSteps := 400000) (disch := first | decide | omega) only [go_sem, ↓reduceIte]))); (try (show okDraw _ _ = true)); kernel_rfl); intro fr hk
    (have k4 := hk 4 (by rfl); have k2 := hk 2 (by rfl); have k3 := hk 3 (by rfl); simp (disch := first | decide | omega) only [go_sem, ↓reduceIte] at k4 k2 k3; exact ⟨1, 0, rfl, k4, by simp (disch := first | decide | omega) only [go_sem, ↓reduceIte]; try rfl, by simp (disch := first | decide | omega) only [k2, k3, hwhy, hb, resA, res1, ansR, ansN, go_sem, ↓reduceIte]; try rfl⟩)
  · have hwhy : whyV n lo hi top bales tests = 0 := by simp [whyV, hv]
    obtain ⟨N, L, U, T, rfl, rfl, rfl, rfl, hB⟩ := bok_of hv
    have hans : cntB (N : Int) (L : Int) (U : Int) bales tests = cntF L U bales tests (2 ^ N) := rfl
    have hc := ok_count (N := N) (lo := L) (up := U) (top := T) (tests0 := tests) (tests := tests) hB.n5 (by have := hB.hn; have := hB.n5; omega) hB.b6 hB.b32 (by have := hB.t6; omega) hB.te6
    simp only [shP] at hc
    have hb := hwhy
    refine fun_exp (l := [_]) (od := _) (nt := 10) (t := 4) (eb := 1) (rs := [.tmp 2, .cell 3 30]) ans64 Try.func22 rfl rfl rfl (by simp) rfl rfl rfl Try.func64 rfl (by decide) fun Z w0 => ?_; simp only [initFr, avR, List.map_cons, List.map_nil]
    simp only [buR, List.map_cons, List.map_nil]
    try simp only [List.append_eq, List.cons_append, List.nil_append]
    refine tw ?_; try with_reducible intro QQ hQQ
    refine ⟨rfl, ?_⟩
    (refine ts ?_; try clear hQQ QQ)
    refine tw ?_; try with_reducible intro QQ hQQ
    refine callD_F [4] ?_ ?_ 5 rfl rfl (by simp (disch := first | decide | omega) only [go_sem, ↓reduceIte]; try rfl) (by simp (disch := first | decide | omega) only [go_sem, ↓reduceIte]; try rfl) Try.func48 rfl (by decide) ?_ (by dsimp only; omega) (by decide) ?_ ?_; rotate_left 3; (intro fr hk; exact c_open hv); rotate_left; (intro id hid; simp only [List.mem_cons, List.mem_nil_iff, or_false, not_or] at hid; simp (disch := first | decide | omega) only [go_sem, ↓reduceIte]); refine td ?_; try clear hQQ QQ
    (refine cD 65 rfl rfl rfl (hc) Try.func65 rfl ?_); refine td ?_; try clear hQQ QQ
    refine tw ?_; try with_reducible intro QQ hQQ
    (refine aw_ret ⟨.inr rfl, by simp (disch := first | decide | omega) only [go_sem, ↓reduceIte]; try rfl, by simp (disch := first | decide | omega) only [resA, res1, ansR, ansN, hb, hwhy, hans, go_sem, ↓reduceIte]; try rfl⟩)
end
end Go.Proofs.Ytknikcpeacmpmaa
/- burr: what is in all of some sets, and in some. -/
namespace Go.Proofs.Ytknikcpeacmpmaa
open Go Go.RowKit Go.Sh Go.Pv
set_option maxHeartbeats 8000000
set_option maxRecDepth 8000
set_option pp.maxSteps 60000
theorem and_iO {T : TypeId} {x y : Operand} {o : Option Nat} {m : Nat} (ho : ltO o) (hm : m < 64) : binA Try.prog .and T x y (.int .i64 (iO o)) (.int .i64 (m : Int)) = some (.int .i64 ((andO o m : Nat) : Int)) := by
  cases o with
  | none =>
    rw [bin_and]
    have e : (BitVec.ofInt IntKind.i64.bits (iO none) &&& BitVec.ofInt IntKind.i64.bits (m : Int)).toNat = m := by
      show (BitVec.ofInt 64 (-1) &&& BitVec.ofInt 64 (m : Int)).toNat = m
      rw [BitVec.toNat_and, ofInt_nat (by omega)]
      rw [show (BitVec.ofInt 64 (-1)).toNat = 2 ^ 64 - 1 from rfl, Nat.and_comm, Nat.and_two_pow_sub_one_eq_mod]
      omega
    rw [e, wrap_nat (by omega)]
    rfl
  | some a =>
    have := ho a rfl
    exact bin_and_nat T x y (by omega) (by omega)
def seeC (s : Nat) (o : Option Nat) : List AC := [.p (iP s), .p (iP (iO o))]
section
variable {Z : Zn} {w0 : World} {cap : Nat → Prop} {nt : Nat} {rd : Option Nat} {pan : List PanicEntry → St → Prop} {df : Option Nat} {dk : List Nat} {rg : Bool} {fr : List (Nat × AV)} {hp : List (Nat × Obj')} {nx b : Nat}
/-- The box of a caller, turned. -/
theorem left_set {tm : Nat → Value} {hpX : List (Nat × Obj')} {cs cs' : List AC} (hcl : Closed ⟨fr, hp, nx⟩) (hb : AL.get hp b = some (.box cs)) (hcs : cs'.flatMap refsC = []) (h1 : AL.get hpX nx = some (.kept fr tm)) (h2 : AL.get hpX b = some (.box cs')) (h3 : ∀ id o, id < nx → id ≠ b → AL.get hp id = some o → AL.get hpX id = some o) {Q : St → AV → Prop} (hq : Q ⟨fr, AL.set hp b (.box cs'), nx⟩ (.tup [])) :
    ∃ av, some (AV.tup []) = some av ∧ AL.get hpX nx = some (.kept fr tm) ∧ ∃ T : St, T.fr = fr ∧ Closed T ∧ (∀ id o, AL.get T.hp id = some o → AL.get hpX id = some o) ∧ There (AL.get T.hp) (refsV av) ∧ Q T av := by
  refine ⟨_, rfl, h1, ⟨fr, AL.set hp b (.box cs'), nx⟩, rfl, hcl.set hb (fun _ _ h => by cases h) (fun i hi => by simp only [refsO, hcs] at hi; cases hi), fun id o ho => ?_, fun i hi => (by cases hi), hq⟩
  have ho : AL.get (AL.set hp b (.box cs')) id = some o := ho
  rw [AL.get_set] at ho
  split at ho
  · rename_i e; rw [e]; rw [← ho]; exact h2
  · rename_i e; exact h3 id o (hcl.lt id o ho) e ho
theorem c_see1 {s m : Nat} {c2 : PV} (hs : s < 64) (hm : m < 64) (hb : AL.get hp b = some (.box [.p (iP s), .p c2])) :
    CallF ⟨Try.prog, Z, w0, cap, nt, rd, pan, df, dk, rg⟩ 123 [.one (.box b 0), .one (.p (iP m))] ⟨fr, hp, nx⟩ fun st' av => st' = ⟨fr, AL.set hp b (.box [.p (iP ((s ||| m : Nat) : Int)), .p c2]), nx⟩ ∧ av = .tup [] := by
  have hu := ok_union2 (a := s) (b := m) (by omega) (by omega)
  (refine callF_to (nt := 14) (rs := []) Try.func123 rfl rfl rfl (by simp) fun hcl tm Ds => ?_); simp only [initV]
  have hlt := hcl.lt b _ hb
  dsimp only [Kx.calleeT] at hlt ⊢
  have hbn : b ≠ nx := by omega
  (repeat (first | apply aw_seq | apply aw_block | apply aw_skip | apply aw_label | apply aw_exit | ((first | refine aw_region (hideO fun QQ hQQ => ?_) | refine aw_draw mixed (hideD fun QQ hQQ => ?_)); simp (maxSteps := 400000) (disch := first | decide | omega) only [hb, hbn, go_sem, ↓reduceIte]; try (first | with_reducible refine unhide hQQ ?_ | refine ⟨by kernel_rfl, unhide hQQ ?_⟩); clear hQQ QQ) | with_reducible first | apply then_n | apply block_n | apply then_x | apply then_r | apply nog_n | apply nog_r | apply block_r | apply block_e (by decide) | apply block_x (by decide)))
  ((refine callO_ok rfl rfl 88 true rfl (by simp (disch := first | decide | omega) only [hb, hbn, go_sem, ↓reduceIte]; try rfl) (fun _ => rfl) (hu) Try.func88 rfl (by decide) ?_); simp (maxSteps := 400000) (disch := first | decide | omega) only [hb, hbn, go_sem, ↓reduceIte]; try (with_reducible refine unhide hQQ ?_; clear hQQ QQ)); (repeat (first | apply aw_seq | apply aw_block | apply aw_skip | apply aw_label | apply aw_exit | ((first | refine aw_region (hideO fun QQ hQQ => ?_) | refine aw_draw mixed (hideD fun QQ hQQ => ?_)); simp (maxSteps := 400000) (disch := first | decide | omega) only [hb, hbn, go_sem, ↓reduceIte]; try (first | with_reducible refine unhide hQQ ?_ | refine ⟨by kernel_rfl, unhide hQQ ?_⟩); clear hQQ QQ) | with_reducible first | apply then_n | apply block_n | apply then_x | apply then_r | apply nog_n | apply nog_r | apply block_r | apply block_e (by decide) | apply block_x (by decide)))
  refine ⟨.inl rfl, left_set hcl hb rfl ?_ ?_ ?_ ⟨rfl, rfl⟩⟩
  · simp (disch := first | decide | omega) only [go_sem, ↓reduceIte]; try rfl
  · exact AL.get_eq _ _ _
  · intro id o h1 h2 h3
    simp (disch := first | decide | omega) only [go_sem, ↓reduceIte]
    exact h3
theorem c_see {s m : Nat} {q : Option Nat} (hs : s < 64) (hq : ltO q) (hm : m < 64) (hb : AL.get hp b = some (.box (seeC s q))) :
    CallF ⟨Try.prog, Z, w0, cap, nt, rd, pan, df, dk, rg⟩ 121 [.one (.box b 0), .one (.p (iP m))] ⟨fr, hp, nx⟩ fun st' av => st' = ⟨fr, AL.set hp b (.box (seeC (seeS (s, q) m).1 (seeS (s, q) m).2)), nx⟩ ∧ av = .tup [] := by
  have ha : ∀ (T : TypeId) (x y : Operand), binA Try.prog .and T x y (.int .i64 (iO q)) (.int .i64 (m : Int)) = some (.int .i64 ((andO q m : Nat) : Int)) := fun T x y => and_iO hq hm
  (refine callF_to (nt := 17) (rs := []) Try.func121 rfl rfl rfl (by simp) fun hcl tm Ds => ?_); simp only [initV]
  have hlt := hcl.lt b _ hb
  dsimp only [Kx.calleeT] at hlt ⊢
  have hbn : b ≠ nx := by omega
  unfold seeC at hb ⊢
  have hb' : AL.get ((nx, Obj'.kept fr tm) :: hp) b = some (.box [.p (iP s), .p (iP (iO q))]) := by rw [AL.get_ne _ _ hbn]; exact hb
  (repeat (first | apply aw_seq | apply aw_block | apply aw_skip | apply aw_label | apply aw_exit | ((first | refine aw_region (hideO fun QQ hQQ => ?_) | refine aw_draw mixed (hideD fun QQ hQQ => ?_)); simp (maxSteps := 400000) (disch := first | decide | omega) only [hb, hbn, ha, go_sem, ↓reduceIte]; try (first | with_reducible refine unhide hQQ ?_ | refine ⟨by kernel_rfl, unhide hQQ ?_⟩); clear hQQ QQ) | with_reducible first | apply then_n | apply block_n | apply then_x | apply then_r | apply nog_n | apply nog_r | apply block_r | apply block_e (by decide) | apply block_x (by decide)))
  (refine callS_ok rfl rfl 123 (by simp (disch := first | decide | omega) only [hb, hbn, ha, go_sem, ↓reduceIte]; try rfl) (by simp (disch := first | decide | omega) only [hb, hbn, ha, go_sem, ↓reduceIte]; try rfl) Try.func123 rfl (by decide) ((c_see1 hs hm hb').mono ?_)); rintro _ _ ⟨rfl, rfl⟩; simp (maxSteps := 400000) (disch := first | decide | omega) only [hb, hbn, ha, go_sem, ↓reduceIte]; (try (with_reducible refine unhide hQQ ?_; clear hQQ QQ; (repeat with_reducible first | apply then_n | apply block_n | apply then_x | apply then_r | apply nog_n | apply nog_r | apply block_r | apply block_e (by decide) | apply block_x (by decide))))
  (repeat (first | apply aw_seq | apply aw_block | apply aw_skip | apply aw_label | apply aw_exit | ((first | refine aw_region (hideO fun QQ hQQ => ?_) | refine aw_draw mixed (hideD fun QQ hQQ => ?_)); simp (maxSteps := 400000) (disch := first | decide | omega) only [hb, hbn, ha, go_sem, ↓reduceIte]; try (first | with_reducible refine unhide hQQ ?_ | refine ⟨by kernel_rfl, unhide hQQ ?_⟩); clear hQQ QQ) | with_reducible first | apply then_n | apply block_n | apply then_x | apply then_r | apply nog_n | apply nog_r | apply block_r | apply block_e (by decide) | apply block_x (by decide)))
  refine ⟨.inl rfl, left_set hcl hb rfl ?_ ?_ ?_ ⟨rfl, rfl⟩⟩
  · simp (disch := first | decide | omega) only [go_sem, ↓reduceIte]; try rfl
  · exact AL.get_eq _ _ _
  · intro id o h1 h2 h3
    simp (disch := first | decide | omega) only [go_sem, ↓reduceIte]
    exact h3
theorem c_sets {s : Nat} {q : Option Nat} (hb : AL.get hp b = some (.box (seeC s q))) :
    CallF ⟨Try.prog, Z, w0, cap, nt, rd, pan, df, dk, rg⟩ 122 [.one (.box b 0)] ⟨fr, hp, nx⟩ fun st' av => st' = ⟨fr, hp, nx⟩ ∧ av = .tup [.one (iP (iO q)), .one (iP s)] := by
  (refine callF_to (nt := 13) (rs := [.tmp 2, .tmp 3]) Try.func122 rfl rfl rfl (by simp) fun hcl tm Ds => ?_); simp only [initV]
  have hlt := hcl.lt b _ hb
  dsimp only [Kx.calleeT] at hlt ⊢
  have hbn : b ≠ nx := by omega
  unfold seeC at hb
  (repeat (first | apply aw_seq | apply aw_block | apply aw_skip | apply aw_label | apply aw_exit | ((first | refine aw_region (hideO fun QQ hQQ => ?_) | refine aw_draw mixed (hideD fun QQ hQQ => ?_)); simp (maxSteps := 400000) (disch := first | decide | omega) only [hb, hbn, go_sem, ↓reduceIte]; try (first | with_reducible refine unhide hQQ ?_ | refine ⟨by kernel_rfl, unhide hQQ ?_⟩); clear hQQ QQ) | with_reducible first | apply then_n | apply block_n | apply then_x | apply then_r | apply nog_n | apply nog_r | apply block_r | apply block_e (by decide) | apply block_x (by decide)))
  refine aw_ret ⟨.inr rfl, _, by simp (disch := first | decide | omega) only [go_sem, ↓reduceIte]; try rfl, by simp (disch := first | decide | omega) only [go_sem, ↓reduceIte]; try rfl, ⟨fr, hp, nx⟩, rfl, hcl, ?_, fun i hi => (by cases hi), rfl, rfl⟩
  intro id o ho
  have := hcl.lt id o ho
  dsimp only at this
  simp (disch := first | decide | omega) only [go_sem, ↓reduceIte]
  exact ho
end
theorem meth_see (blk : Nat) (w : World) : (method (Try.prog.types.size + Made.depth) 63 (.pointer (some ⟨blk, 0, none⟩)) "shearworks/burr.see").run Try.prog w = .ok (121, .pointer (some ⟨blk, 0, none⟩)) w := by kernel_rfl
theorem meth_sets (blk : Nat) (w : World) : (method (Try.prog.types.size + Made.depth) 63 (.pointer (some ⟨blk, 0, none⟩)) "shearworks/burr.sets").run Try.prog w = .ok (122, .pointer (some ⟨blk, 0, none⟩)) w := by kernel_rfl
end Go.Proofs.Ytknikcpeacmpmaa
/- burr: which bales hold a burr, walked. -/
namespace Go.Proofs.Ytknikcpeacmpmaa
open Go Go.RowKit Go.Sh Go.Pv
set_option maxHeartbeats 8000000
set_option maxRecDepth 8000
set_option pp.maxSteps 60000
section
variable {bales : List (Int × Int)}
theorem ok_bales {N lo up : Nat} {top : Int} {tests : List (Int × Bool)} (hN : N ≤ 5) (hup : up ≤ 5) (hb6 : bales.length ≤ 6) (hb : ∀ i, i < bales.length → (0 ≤ (bales.getD i (0, 0)).1 ∧ (bales.getD i (0, 0)).1 < 32) ∧ (0 ≤ (bales.getD i (0, 0)).2 ∧ (bales.getD i (0, 0)).2 < 32)) (htl : tests.length ≤ 100) (ht : ∀ t ∈ tests, 0 ≤ t.1 ∧ t.1 < 6) (h0 : 0 < cntF lo up bales tests (2 ^ N)) :
    FunOK Try.prog 56 [.one (shP N lo up top bales tests)] (.tup [.one (iP (iO (seeL (balL lo up bales tests (2 ^ N))).2)), .one (iP (seeL (balL lo up bales tests (2 ^ N))).1)]) := by
  have htold := ok_told (top := top) hN hup hb6 hb htl ht h0
  have hsh : ∀ (T : TypeId) (p q : Operand), binA Try.prog .shl T p q (.int .i64 1) (.int .i64 (N : Int)) = some (.int .i64 ((2 ^ N : Nat) : Int)) := fun T p q => bin_shl_one .i64 T p q (by omega)
  have hp := pow32 hN
  have hp0 := Nat.two_pow_pos N
  generalize cntF lo up bales tests (2 ^ N) = c at htold
  clear h0
  simp only [shP] at htold
  refine fun_ok (nt := 37) (rs := [.tmp 2, .tmp 3]) Try.func56 rfl rfl rfl (by simp) fun Z w0 => ?_; simp only [initFr, avR, List.map_cons, List.map_nil]
  simp only [shP]
  refine tw ?_; try with_reducible intro QQ hQQ
  ((refine cO 49 rfl rfl rfl (htold) Try.func49 rfl ?_); refine tu ?_; try clear hQQ QQ); refine tw ?_; try with_reducible intro QQ hQQ
  (refine callS_ok rfl rfl 50 (by simp (maxSteps := 400000) (disch := first | decide | omega) only [go_sem, ↓reduceIte]; try rfl) (by simp (maxSteps := 400000) (disch := first | decide | omega) only [go_sem, ↓reduceIte]; try rfl) Try.func50 rfl (by decide) ?_); (refine callF_in (nt := 4) (rs := [.tmp 2]) Try.func50 rfl rfl rfl (by simp) fun tm Ds => ?_); simp only [initV, capV, List.map_cons, List.map_nil, List.cons_append, List.nil_append]
  refine tw ?_; try with_reducible intro QQ hQQ
  (refine aw_ret ⟨.inr rfl, _, by (simp (maxSteps := 400000) (disch := first | decide | omega) only [go_sem, ↓reduceIte]; try rfl), by (simp (maxSteps := 400000) (disch := first | decide | omega) only [go_sem, ↓reduceIte]; try rfl), ?_⟩); refine ts ?_; try clear hQQ QQ
  refine tw ?_; try with_reducible intro QQ hQQ
  refine aw_weak (weak_thr [1, 2, 3, 4, 5, 13, 14] (by simp only [go_sem, ↓reduceIte]; rfl)) ?_
  refine aw_rangeFunc (nt := 34) rfl rfl (by simp (disch := first | decide | omega) only [go_sem, ↓reduceIte]; rfl) Try.func87 rfl (by decide) rfl rfl (by decide) fun r bb tm2 Ds2 hr1 hr1p hr2 hr3 hr4 hr5 hr6 hr7 => ?_
  dsimp only [Kx.iter] at hr5 hr7 ⊢
  refine aw_scope rfl ?_
  (repeat (first | apply aw_seq | apply aw_block | apply aw_skip | apply aw_label | apply aw_exit | ((first | refine aw_region (hideO fun QQ hQQ => ?_) | refine aw_draw mixed (hideD fun QQ hQQ => ?_)); simp (maxSteps := 400000) (disch := first | decide | omega) only [hsh, go_sem, ↓reduceIte]; try (first | with_reducible refine unhide hQQ ?_ | refine ⟨by kernel_rfl, unhide hQQ ?_⟩); clear hQQ QQ) | with_reducible first | apply then_n | apply block_n | apply then_x | apply then_r | apply nog_n | apply nog_r | apply block_r | apply block_e (by decide) | apply block_x (by decide)))
  refine aw_weak (weak_keepA [0, 1, 9, 10] (by simp only [go_sem, ↓reduceIte]; rfl)) ?_
  refine aw_loop_ov (ι := { i : Nat // i ≤ 2 ^ N }) (fun i => [(10, iA i.1)]) (fun i => [(1, .box (seeC (seeL (balL lo up bales tests i.1)).1 (seeL (balL lo up bales tests i.1)).2))]) (fun i => 2 ^ N - i.1) ⟨0, by omega⟩ (by first | rfl | (simp only [go_sem, ↓reduceIte]; first | done | rfl | (simp; try rfl))) ?_
  rintro ⟨i, hi⟩
  simp (disch := decide) only [ov, ovL, AL.get_nil, AL.get_eq, AL.get_ne, Option.getD_some, Option.getD_none]
  by_cases hil : i < 2 ^ N
  · have hs := ok_size i (by omega)
    have hw := ok_within (popc i) lo up
    have e1 := balL_succ (lo := lo) (up := up) (bales := bales) (tests := tests) i
    have hL := seeL_lt (balL_lt (lo := lo) (up := up) (i := i) hb6 ht)
    generalize balL lo up bales tests i = L at *
    by_cases hin : lo ≤ popc i ∧ popc i ≤ up
    · rw [show inB (popc i) lo up = true by simp [inB]; omega] at hw
      refine tw ?_; try with_reducible intro QQ hQQ
      refine ti ?_; try clear hQQ QQ
      refine tw ?_; try with_reducible intro QQ hQQ
      (refine cD 71 rfl rfl rfl (hs) Try.func71 rfl ?_); refine td ?_; try clear hQQ QQ
      (refine cD 86 rfl rfl rfl (hw) Try.func86 rfl ?_); refine td ?_; try clear hQQ QQ
      refine tw ?_; try with_reducible intro QQ hQQ
      refine ti ?_; try clear hQQ QQ
      refine tw ?_; try with_reducible intro QQ hQQ
      refine ⟨rfl, .inr ⟨rfl, callS_yield (L := 6) (C := 5) (avs := [.one (.p (iP (i : Int)))]) rfl rfl (by simp (disch := first | decide | omega) only [go_sem, ↓reduceIte]; try rfl) (by simp (disch := first | decide | omega) only [go_sem, ↓reduceIte]; try rfl) (by simp (disch := first | decide | omega) only [go_sem, ↓reduceIte]; try rfl) hr1 (by simp (disch := first | decide | omega) only [go_sem, ↓reduceIte]; try rfl) hr6 (by rw [hr5]; exact fun t av ht => hr7 t av ht |> fun h => by rw [hr5] at h; exact h) (by rw [hr2]; rfl) ?_ fun Ds tmi => ?_⟩⟩
      · intro t ht
        rw [hr2] at ht
        rw [hr5]
        simp only [List.mem_cons, List.mem_nil_iff, or_false] at ht
        subst ht; decide
      obtain ⟨rB, hrB⟩ : ∃ rB, ({ r with state := .busy } : Loop) = rB := ⟨_, rfl⟩
      rw [hrB, hr2, hr3, hr4, hr5]
      have hrr : ({ rB with state := .ready, pending := none } : Loop) = r := by
        rw [← hrB]
        cases r
        dsimp only at hr1 hr1p
        subst hr1 hr1p
        rfl
      simp only [Kx.round, setPs]
      have hH := ok_held (N := N) (lo := lo) (hi := up) (top := top) (tests0 := tests) (tests := tests) (m := i) (by omega) hb6 hb htl ht
      have hlt := held_lt (m := i) hb6 ht
      have hfe : feasB lo up bales tests i = decide (diffN (heldF bales i tests).1 (heldF bales i tests).2 = 0) := by unfold feasB; rw [decide_eq_true hin.1, decide_eq_true hin.2]; rfl
      rw [hfe] at e1
      have hS := ok_some hlt.1 hlt.2
      simp only [shP] at hH
      generalize hq : heldF bales i tests = q at *
      obtain ⟨qa, qb⟩ := q
      dsimp only at hH hS e1 hlt hfe
      by_cases hd : diffN qa qb = 0
      · rw [decide_eq_true hd] at hS e1
        have e2 : seeL (balL lo up bales tests (i + 1)) = seeS (seeS (seeL L) qa) qb := by rw [e1, if_pos rfl, seeL_snoc2]
        clear e1 hfe hd
        obtain ⟨⟨s, o⟩, hso⟩ : ∃ S, seeL L = S := ⟨_, rfl⟩
        rw [hso] at hL e2
        simp only [hso]
        obtain ⟨hs1, ho1⟩ := hL
        dsimp only at hs1 ho1
        have hs2 : (seeS (s, o) qa).1 < 64 := or64 hs1 hlt.1
        have ho2 : ltO (seeS (s, o) qa).2 := fun a ha => by cases ha; exact andO_lt hlt.1
        refine tw ?_; try with_reducible intro QQ hQQ
        refine ⟨rfl, by simp (disch := first | decide | omega) only [go_sem, ↓reduceIte], ?_⟩
        refine tw ?_; try with_reducible intro QQ hQQ
        (refine cD 51 rfl rfl rfl (hH) Try.func51 rfl ?_); refine td ?_; try clear hQQ QQ
        refine tw ?_; try with_reducible intro QQ hQQ
        ((refine cO 52 rfl rfl rfl (hS) Try.func52 rfl ?_); refine tu ?_; try clear hQQ QQ); refine tw ?_; try with_reducible intro QQ hQQ
        refine ti ?_; try clear hQQ QQ
        refine tw ?_; try with_reducible intro QQ hQQ
        (refine ⟨rfl, .inr ⟨rfl, callS_invokeF (T := 63) (b := 1) rfl rfl (by simp (disch := first | decide | omega) only [go_sem, ↓reduceIte]; try rfl) 121 meth_see (by simp (disch := first | decide | omega) only [go_sem, ↓reduceIte]; try rfl) Try.func121 rfl (by decide) ((c_see hs1 ho1 hlt.1 (by simp (disch := first | decide | omega) only [go_sem, ↓reduceIte]; try rfl)).mono ?_)⟩⟩); rintro _ _ ⟨rfl, rfl⟩; refine ts ?_; try clear hQQ QQ
        refine tw ?_; try with_reducible intro QQ hQQ
        (refine ⟨rfl, .inr ⟨rfl, callS_invokeF (T := 63) (b := 1) rfl rfl (by simp (disch := first | decide | omega) only [go_sem, ↓reduceIte]; try rfl) 121 meth_see (by simp (disch := first | decide | omega) only [go_sem, ↓reduceIte]; try rfl) Try.func121 rfl (by decide) ((c_see hs2 ho2 hlt.2 (by simp (disch := first | decide | omega) only [go_sem, ↓reduceIte]; try rfl)).mono ?_)⟩⟩); rintro _ _ ⟨rfl, rfl⟩; refine ts ?_; try clear hQQ QQ
        refine tw ?_; try with_reducible intro QQ hQQ
        refine ⟨by simp (disch := first | decide | omega) only [go_sem, ↓reduceIte]; try rfl, none, .inl ⟨rfl, rfl⟩, rB, by simp (disch := first | decide | omega) only [go_sem, ↓reduceIte]; try rfl, ?_⟩
        (simp (maxSteps := 400000) (disch := first | decide | omega) only [Option.isNone_none, hrr, go_sem, ↓reduceIte]; (try (with_reducible refine unhide hQQ ?_; clear hQQ QQ; (repeat with_reducible first | apply then_n | apply block_n | apply then_x | apply then_r | apply nog_n | apply nog_r | apply block_r | apply block_e (by decide) | apply block_x (by decide)))))
        (repeat (first | apply aw_seq | apply aw_block | apply aw_skip | apply aw_label | apply aw_exit | ((first | refine aw_region (hideO fun QQ hQQ => ?_) | refine aw_draw mixed (hideD fun QQ hQQ => ?_)); simp (maxSteps := 400000) (disch := first | decide | omega) only [Option.isNone_none, hrr, go_sem, ↓reduceIte]; try (first | with_reducible refine unhide hQQ ?_ | refine ⟨by kernel_rfl, unhide hQQ ?_⟩); clear hQQ QQ) | with_reducible first | apply then_n | apply block_n | apply then_x | apply then_r | apply nog_n | apply nog_r | apply block_r | apply block_e (by decide) | apply block_x (by decide)))
        refine aw_cond2 (by simp (disch := first | decide | omega) only [Option.isNone_none, hrr, go_sem, ↓reduceIte]; rfl) ?_; first | refine .inl ⟨by first | rfl | exact decide_eq_true (by omega) | exact decide_eq_true (by assumption) | (simp (disch := first | decide | omega) only [if_pos_d, if_neg_d, decide_eq_true_eq, Bool.not_eq_true', decide_eq_false_iff_not]; omega), ?_⟩ | refine .inr ⟨by first | rfl | exact decide_eq_false (by omega) | exact decide_eq_false (by assumption) | (simp (disch := first | decide | omega) only [if_pos_d, if_neg_d, decide_eq_true_eq, Bool.not_eq_true', decide_eq_false_iff_not]; omega), ?_⟩
        (repeat (first | apply aw_seq | apply aw_block | apply aw_skip | apply aw_label | apply aw_exit | ((first | refine aw_region (hideO fun QQ hQQ => ?_) | refine aw_draw mixed (hideD fun QQ hQQ => ?_)); simp (maxSteps := 400000) (disch := first | decide | omega) only [Option.isNone_none, hrr, go_sem, ↓reduceIte]; try (first | with_reducible refine unhide hQQ ?_ | refine ⟨by kernel_rfl, unhide hQQ ?_⟩); clear hQQ QQ) | with_reducible first | apply then_n | apply block_n | apply then_x | apply then_r | apply nog_n | apply nog_r | apply block_r | apply block_e (by decide) | apply block_x (by decide)))
        refine ⟨⟨i + 1, by omega⟩, ?_, weak_round ?_ (by first | rfl | (simp only [Option.isNone_none, hrr, go_sem, ↓reduceIte]))⟩
        rotate_left
        · simp only [e2]
          (simp only [Option.isNone_none, hrr, go_sem, ↓reduceIte]; try rfl)
        · simp only; omega
      · rw [decide_eq_false hd] at hS e1
        rw [if_neg (by decide), List.append_nil] at e1
        refine tw ?_; try with_reducible intro QQ hQQ
        refine ⟨rfl, by simp (disch := first | decide | omega) only [go_sem, ↓reduceIte], ?_⟩
        refine tw ?_; try with_reducible intro QQ hQQ
        (refine cD 51 rfl rfl rfl (hH) Try.func51 rfl ?_); refine td ?_; try clear hQQ QQ
        refine tw ?_; try with_reducible intro QQ hQQ
        ((refine cO 52 rfl rfl rfl (hS) Try.func52 rfl ?_); refine tu ?_; try clear hQQ QQ); refine tw ?_; try with_reducible intro QQ hQQ
        refine ti ?_; try clear hQQ QQ
        refine tw ?_; try with_reducible intro QQ hQQ
        refine ⟨by simp (disch := first | decide | omega) only [go_sem, ↓reduceIte]; try rfl, none, .inl ⟨rfl, rfl⟩, rB, by simp (disch := first | decide | omega) only [go_sem, ↓reduceIte]; try rfl, ?_⟩
        (simp (maxSteps := 400000) (disch := first | decide | omega) only [Option.isNone_none, hrr, go_sem, ↓reduceIte]; (try (with_reducible refine unhide hQQ ?_; clear hQQ QQ; (repeat with_reducible first | apply then_n | apply block_n | apply then_x | apply then_r | apply nog_n | apply nog_r | apply block_r | apply block_e (by decide) | apply block_x (by decide)))))
        (repeat (first | apply aw_seq | apply aw_block | apply aw_skip | apply aw_label | apply aw_exit | ((first | refine aw_region (hideO fun QQ hQQ => ?_) | refine aw_draw mixed (hideD fun QQ hQQ => ?_)); simp (maxSteps := 400000) (disch := first | decide | omega) only [Option.isNone_none, hrr, go_sem, ↓reduceIte]; try (first | with_reducible refine unhide hQQ ?_ | refine ⟨by kernel_rfl, unhide hQQ ?_⟩); clear hQQ QQ) | with_reducible first | apply then_n | apply block_n | apply then_x | apply then_r | apply nog_n | apply nog_r | apply block_r | apply block_e (by decide) | apply block_x (by decide)))
        refine aw_cond2 (by simp (disch := first | decide | omega) only [Option.isNone_none, hrr, go_sem, ↓reduceIte]; rfl) ?_; first | refine .inl ⟨by first | rfl | exact decide_eq_true (by omega) | exact decide_eq_true (by assumption) | (simp (disch := first | decide | omega) only [if_pos_d, if_neg_d, decide_eq_true_eq, Bool.not_eq_true', decide_eq_false_iff_not]; omega), ?_⟩ | refine .inr ⟨by first | rfl | exact decide_eq_false (by omega) | exact decide_eq_false (by assumption) | (simp (disch := first | decide | omega) only [if_pos_d, if_neg_d, decide_eq_true_eq, Bool.not_eq_true', decide_eq_false_iff_not]; omega), ?_⟩
        (repeat (first | apply aw_seq | apply aw_block | apply aw_skip | apply aw_label | apply aw_exit | ((first | refine aw_region (hideO fun QQ hQQ => ?_) | refine aw_draw mixed (hideD fun QQ hQQ => ?_)); simp (maxSteps := 400000) (disch := first | decide | omega) only [Option.isNone_none, hrr, go_sem, ↓reduceIte]; try (first | with_reducible refine unhide hQQ ?_ | refine ⟨by kernel_rfl, unhide hQQ ?_⟩); clear hQQ QQ) | with_reducible first | apply then_n | apply block_n | apply then_x | apply then_r | apply nog_n | apply nog_r | apply block_r | apply block_e (by decide) | apply block_x (by decide)))
        refine ⟨⟨i + 1, by omega⟩, ?_, weak_round ?_ (by first | rfl | (simp only [Option.isNone_none, hrr, go_sem, ↓reduceIte]))⟩
        rotate_left
        · simp only [e1]
          (simp only [Option.isNone_none, hrr, go_sem, ↓reduceIte]; try rfl)
        · simp only; omega
    · have hfe : feasB lo up bales tests i = false := by
        unfold feasB
        rw [show (decide (lo ≤ popc i) && decide (popc i ≤ up)) = false by rw [← Bool.not_eq_true, Bool.and_eq_true, decide_eq_true_iff, decide_eq_true_iff]; exact hin]
        rfl
      rw [hfe, if_neg (by decide), List.append_nil] at e1
      rw [show inB (popc i) lo up = false by simp [inB]; omega] at hw
      refine tw ?_; try with_reducible intro QQ hQQ
      refine ti ?_; try clear hQQ QQ
      refine tw ?_; try with_reducible intro QQ hQQ
      (refine cD 71 rfl rfl rfl (hs) Try.func71 rfl ?_); refine td ?_; try clear hQQ QQ
      (refine cD 86 rfl rfl rfl (hw) Try.func86 rfl ?_); refine td ?_; try clear hQQ QQ
      refine tw ?_; try with_reducible intro QQ hQQ
      refine ti ?_; try clear hQQ QQ
      (refine aw_exit ?_); (repeat with_reducible first | apply then_n | apply block_n | apply then_x | apply then_r | apply nog_n | apply nog_r | apply block_r | apply block_e (by decide) | apply block_x (by decide))
      refine tw ?_; try with_reducible intro QQ hQQ
      refine ⟨⟨i + 1, by omega⟩, ?_, weak_round ?_ (by first | rfl | (simp only [go_sem, ↓reduceIte]))⟩
      rotate_left
      · simp only [e1]
        (simp only [go_sem, ↓reduceIte]; try rfl)
      · simp only; omega
  · have hie : i = 2 ^ N := by omega
    subst hie
    refine tw ?_; try with_reducible intro QQ hQQ
    refine ti ?_; try clear hQQ QQ
    refine tw ?_; try with_reducible intro QQ hQQ
    refine ⟨.inl rfl, by simp (disch := first | decide | omega) only [go_sem, ↓reduceIte]; try rfl, r, by simp (disch := first | decide | omega) only [go_sem, ↓reduceIte]; try rfl, by rw [hr1]; decide, ?_⟩
    rw [hr1p]
    (repeat (first | with_reducible refine then_n ?_ | with_reducible refine block_n ?_))
    show AW _ _ _ _
    generalize seeL (balL lo up bales tests (2 ^ N)) = S at *
    obtain ⟨s, o⟩ := S
    dsimp only
    refine tw ?_; try with_reducible intro QQ hQQ
    (refine ⟨rfl, .inr ⟨rfl, callS_invokeF (T := 63) (b := 1) rfl rfl (by simp (disch := first | decide | omega) only [go_sem, ↓reduceIte]; try rfl) 122 meth_sets (by simp (disch := first | decide | omega) only [go_sem, ↓reduceIte]; try rfl) Try.func122 rfl (by decide) ((c_sets (s := s) (q := o) (by simp (disch := first | decide | omega) only [go_sem, ↓reduceIte]; try rfl)).mono ?_)⟩⟩); rintro _ _ ⟨rfl, rfl⟩; refine ts ?_; try clear hQQ QQ
    refine tw ?_; try with_reducible intro QQ hQQ
    refine aw_ret ?_; refine ⟨.inr rfl, ?_⟩; simp only [resA, res1, go_sem, ↓reduceIte]
end
end Go.Proofs.Ytknikcpeacmpmaa
