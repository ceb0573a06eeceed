/- Texts of the proof, joined. -/
import Derived.Test.YthedkfiebmnghaaGreatKyb30
import Derived.Test.YthedkfiebmnghaaGreatKpv32
set_option linter.all false
set_option maxHeartbeats 16000000
set_option maxRecDepth 20000
namespace Go.Proofs.YthedkfiebmnghaaGreat
open Go Go.ChangeMaps Go.RowKit Go.Sh Go.Pv Go.By
open Go.Sort (PermIn SortedIn SWO)
noncomputable def soonT (y : YD) : List (Nat × Nat) := y.all.mergeSort fun x z => !ltT (cfT y.D) z x
noncomputable def soonY (y : YD) : List Nat := (soonT y).map Prod.fst
theorem soon_eq {y : YD} {done : List (Nat × Nat)} {d' : Array (Nat × Nat)} (hp : done.Perm y.all) (q1 : PermIn 0 done.length done.toArray d') (q2 : SortedIn (ltT (cfT y.D)) 0 done.length d') (hs : d'.size = done.length) : (List.range done.length).map (fun k => (tA d' k).1) = soonY y := by
 have hn : y.all.length = done.length := hp.length_eq.symm
 have htot : ∀ x z : Nat × Nat, ltT (cfT y.D) x z = false → ltT (cfT y.D) z x = false → x = z := fun x z h1 h2 => by
  have h1 : ¬ tripLt y.D x z := fun h => of_decide_eq_false h1 (cfT_lt.2 h)
  have h2 : ¬ tripLt y.D z x := fun h => of_decide_eq_false h2 (cfT_lt.2 h)
  unfold tripLt at *
  exact Prod.ext (by omega) (by omega)
 have hpm : PermIn 0 y.all.toArray.size y.all.toArray d' := by
  refine ⟨by simp [hs, hn], fun i hi => ?_, ?_⟩
  ·have hi : done.length ≤ i := by
    rcases hi with h | h
    ·omega
    ·simpa [hn] using h
   rw [getElem!_neg d' i (by omega), getElem!_neg y.all.toArray i (by simp; omega)]
  ·have h1 := q1.2.2
   have e1 : (done.toArray.extract 0 done.length).toList = done := by simp
   have e2 : (y.all.toArray.extract 0 y.all.toArray.size).toList = y.all := by simp
   rw [e1] at h1
   rw [e2]
   rw [show y.all.toArray.size = done.length by simp [hn]]
   exact h1.trans hp
 have hsd : SortedIn (ltT (cfT y.D)) 0 y.all.toArray.size d' := by
  rw [show y.all.toArray.size = done.length by simp [hn]]
  exact q2
 have hu := Go.Sort.sorted_unique_holds (lt := ltT (cfT y.D)) (swoT y.D) htot y.all.toArray d' hpm hsd
 have e3 : d'.toList = soonT y := hu
 unfold soonY
 rw [← e3]
 apply List.ext_getElem
 ·simp [hs]
 ·intro i h1 h2
  simp at h1
  simp [tA, show i < d'.size by omega]
section
variable {y : YD}
theorem soonT_perm (y : YD) : (soonT y).Perm y.all := List.mergeSort_perm _ _
theorem soonT_lt (h : YOK y) : (soonT y).Pairwise (tripLt y.D) := by
 have h1 : (soonT y).Pairwise fun x z => (!ltT (cfT y.D) z x) = true := List.pairwise_mergeSort (fun a b c h1 h2 => by
  have h3 := (swoT y.D).ntrans c b a (by simpa using h2) (by simpa using h1)
  simpa using h3) (fun a b => by
   cases h : ltT (cfT y.D) b a
   ·simp
   ·simp [Go.Sort.SWO.asymmA (swoT y.D) h]) _
 have h2 : (soonT y).Nodup := (soonT_perm y).nodup_iff.2 (allT_nodup y.S)
 refine (h1.and h2).imp fun {x z} hh => ?_
 obtain ⟨g1, g2⟩ := hh
 have g3 : ¬ tripLt y.D z x := fun hlt => by
  have : ltT (cfT y.D) z x = true := decide_eq_true (cfT_lt.2 hlt)
  rw [this] at g1
  cases g1
 unfold tripLt at *
 have : ¬ (x.1 = z.1 ∧ x.2 = z.2) := fun e => g2 (Prod.ext e.1 e.2)
 omega
theorem soonY_plan (h : YOK y) : IsPlan y.S y.n (soonY y) ∧ (dseq y.D (fun _ => 0) (soonY y)).Pairwise (· ≤ ·) :=
 trips_plan (fun s hs => D_sorted h hs) (fun s hs => by rw [D_len]; exact Nat.le_refl _) (soonT_lt h) fun s k => by rw [(soonT_perm y).mem_iff]; exact mem_allT
end
section
variable {y : YD} {b : Nat}
theorem s_soonest (h : YOK y) : FunS Tryz.prog 65 [.one (.box 0 0)] (YF y b) 2 (.one (.one (.sl ((soonY y).map rowN)))) := by
 have hnd : y.all.Nodup := allT_nodup y.S
 have hat := fun (x : Nat × Nat) (hx : x ∈ y.all) => all_at h hx
 have hln := all_len h
 unfold YF YH
 refine funS_ok (nt := 36) (rs := [.tmp 2]) Tryz.func65 rfl rfl rfl (by simp) fun Z w0 cap pan dk tm => ?_; refine tV ?_
 refine tw fun QQ hQQ => ?_
 refine ⟨rfl, .inr ⟨rfl, callS_rangeRaw (T := 73) (k := 94) (e := 3) (id := 1) (bm := b) (ck := y.all.length) (es := toE y.D y.all) rfl rfl und73 qN qN fun r => ?_⟩⟩
 (refine ts ?_; clear hQQ QQ)
 refine tw ?_
 refine aw_weak (weak_ownF 3 94 2 (by simp (disch := first | decide | omega) only [go_sem, ↓reduceIte])) ?_
 dsimp only [AL.set, Nat.reduceEqDiff, ↓reduceIte]
 refine aw_weak (weak_restrict [1, 2, 3, 11] [5, 4, 3, 2, 1, 0] 6 (by simp only [go_sem, ↓reduceIte]; rfl)) ?_
 refine aw_loop_ov (ι := { p : Array Nat × List (Nat × Nat) // Seen y.all p.1 p.2 }) (fun p => [(3, .one (.own 5 p.1.2.length))]) (fun p => [(5, .arr 94 2 (p.1.2.map trR) false), (4, .raw r (.mapIter (some b) y.all.length p.1.1 y.all.length))]) (fun p => (leftOf (toE y.D y.all) p.1.1).size) ⟨(#[], []), Seen.start⟩ (by first | rfl | (simp only [go_sem, ↓reduceIte]; first | done | rfl | (simp; try rfl))) ?_
 rintro ⟨⟨seen, done⟩, hs⟩
 refine tO ?_
 refine tw fun QQ hQQ => ?_
 refine ⟨rfl, .inr ⟨rfl, callS_nextRaw (id := 4) (r := r) (im := 1) (bm := b) (since := y.all.length) (c0 := y.all.length) (ck := y.all.length) (seen := seen) (es := toE y.D y.all) rfl rfl qN qN qN toE_born (Nat.le_refl _) (fun h0 => ?_) (fun e he => ?_)⟩⟩
 ·have hperm := hs.all hnd h0
  (refine ts ?_; clear hQQ QQ)
  refine tw ?_
  refine ti ?_
  refine tw fun QQ hQQ => ?_
  have hmem : ∀ i, i < done.length → tA done.toArray i ∈ y.all := fun i hi => by
   have : tA done.toArray i = done[i] := by simp [tA, hi]
   rw [this]
   exact hperm.subset (List.getElem_mem hi)
  have hdl : done.length ≤ 49 := by rw [hperm.length_eq]; omega
  refine callS_ok rfl rfl 96 qN qN Tryz.func96 rfl (by decide) ((c_sortf (cf := cfT y.D) (pr := fun x => x ∈ y.all) (t := 5) (len := done.length) (swoT y.D) (ac := .fn 97 [.box 3]) ?_ hdl done.toArray ?_ ⟨by simp, hmem⟩).mono ?_)
  ·refine ⟨97, [.box 3], Tryz.f97, rfl, Tryz.func97, rfl, by decide, fun K st x z hK hx hz hs => ?_⟩
   refine callF_S (hp := (2, .box [.box 0 0]) :: [(0, .box [.p (.sl (y.ss.map SD.row)), .p (.sl (y.F.map rowN)), .p (iP (y.T : Int)), .p (iP (y.L : Int)), .p (.sl (y.ndR y.S)), .raw 1]), (1, .raw b (.map (toE y.D y.all) y.all.length))]) (avs0 := [.agg [.p (iP (x.1 : Int)), .p (iP (x.2 : Int))], .agg [.p (iP (z.1 : Int)), .p (iP (z.2 : Int))], .one (.box 2 0)]) (nx := 3) [0, 1, 3] (by rw [hK]; exact s_cmp h hx hz) rfl (show _ ∧ _ ∧ _ ∧ True from ⟨hs 3 _ (by decide) (by decide) (by rfl), hs 0 _ (by decide) (by decide) (by rfl), hs 1 _ (by decide) (by decide) (by rfl), trivial⟩) (by decide) (by decide) rfl
  ·rfl
  rintro _ _ ⟨d', q1, q2, hok', rfl, rfl⟩
  dsimp only [AL.set, Nat.reduceEqDiff, ↓reduceIte]
  (refine ts ?_; clear hQQ QQ)
  refine tw ?_
  have hfin : (List.range done.length).map (fun k => (tA d' k).1) = soonY y := soon_eq hperm q1 q2 hok'.1
  have hsz : d'.size = done.length := hok'.1
  have hb1 : ∀ i, i < done.length → (tA d' i).1 < 3 := fun i hi => (hat _ (hok'.2 i hi)).2.2.1
  generalize done.length = N at *
  rw [← hfin]
  clear q1 q2 hfin hok' hperm hmem hs
  dsimp only [arrT]
  refine aw_weak (weak_own 2 3 1 (by simp (disch := first | decide | omega) only [go_sem, ↓reduceIte])) ?_
  dsimp only [AL.set, Nat.reduceEqDiff, ↓reduceIte]
  refine aw_weak (weak_restrict [2, 23, 24, 25] [6, 5, 4, 3, 2, 1, 0] 7 (by simp only [go_sem, ↓reduceIte]; rfl)) ?_
  refine aw_loop_ov (ι := { i : Nat // i ≤ N }) (fun i => [(2, .one (.own 6 i.1)), (25, iA i.1)]) (fun i => [(6, .arr 3 1 (((List.range i.1).map fun k => (tA d' k).1).map rowN) true)]) (fun i => N - i.1) ⟨0, by omega⟩ (by first | rfl | (simp only [go_sem, ↓reduceIte]; first | done | rfl | (simp; try rfl))) ?_
  rintro ⟨i, hi⟩
  refine tO ?_
  have hll : (((List.range i).map fun k => (tA d' k).1).map rowN).length = i := by simp
  have hlb : (i + 1) * 8 ≤ 140737488355328 := by omega
  by_cases hil : i < N
  ·have hrow : ((List.range i).map fun k => (tA d' k).1).map rowN ++ [[iP ((tA d' i).1 : Int)]] = ((List.range (i + 1)).map fun k => (tA d' k).1).map rowN := by simp [List.range_succ, rowN]
   have hb2 := hb1 i hil
   try clear hF
   have hF := And.intro hlb (And.intro hll (hsz))
   refine twF ?_
   refine tiF ?_
   refine twF ?_
   refine ⟨⟨i + 1, by omega⟩, ?_, weak_round ?_ (by first | rfl | (simp only [hF, go_sem, ↓reduceIte]))⟩
   rotate_left
   ·simp only [← hrow]
    (simp only [hF, go_sem, ↓reduceIte]; try rfl)
   ·simp only; omega
  ·have hie : i = N := by omega
   subst hie
   have hta : List.take i (((List.range i).map fun k => (tA d' k).1).map rowN) = ((List.range i).map fun k => (tA d' k).1).map rowN := List.take_of_length_le (by simp)
   refine tw ?_
   refine ti ?_
   refine tw ?_
   refine aw_weak (weak_dataS 2 qN qN) ?_
   rw [hta]
   refine tw ?_
   (refine aw_ret ⟨.inr rfl, qMN, qMN, qVN⟩)
 ·obtain ⟨i, x, hi, rfl, hx, hxd, hs2⟩ := hs.step hnd he
  have hsh := left_shrinks _ seen _ he
  have hdl : done.length ≤ 48 := by
   have := seen_len hs
   dsimp only at this
   omega
  refine ⟨.agg [iP (x.1 : Int), iP (x.2 : Int)], .one (iP (dueT y.D x)), relR_tk x, fun _ _ => .v _ rfl, ?_⟩
  have hen := (mem_left he).1
  (refine ts ?_; clear hQQ QQ)
  refine tw ?_
  refine ti ?_
  refine tw fun QQ hQQ => ?_
  refine ⟨rfl, .inr ⟨rfl, callS_entryRaw (id := 4) (r := r) (im := 1) (bm := b) (since := y.all.length) (ck := y.all.length) (seen := seen) (es := toE y.D y.all) (e := entE y.D i x) (rk := .agg [iP (x.1 : Int), iP (x.2 : Int)]) (rv := .one (iP (dueT y.D x))) rfl rfl qN qN qN hen toE_borns (relR_tk x) (fun _ _ => .v _ rfl) ?_⟩⟩
  (refine ts ?_; clear hQQ QQ)
  (repeat (first | apply aw_seq | apply aw_block))
  refine aw_app (l1 := [_, _, _]) (o := _) (l2 := [_]) 16 18 135 19 rfl rfl ?_
  refine hideO fun QQ hQQ => ?_
  (refine ts ?_; clear hQQ QQ)
  have hlr : (done.map trR).length = done.length := List.length_map _
  refine ⟨rfl, by (simp (disch := first | decide | omega) only [go_sem, ↓reduceIte]; try rfl), 5, 94, 2, 16, [.p (.v (.int .i64 0)), .p (.v (.int .i64 0))], done.map trR, [[iP (x.1 : Int), iP (x.2 : Int)]], .one (.own 7 1), [1, 2, 11], [0, 1, 2, 3, 4, 5], ?T2, ?_, ?_, ?_, ?_, by decide, by decide, rfl, ?_, ?_, by simp, ?_, ?_, ?_, ?_, ?_, ?hr, by decide, ?hg, ?hf, ?ho, ?hq⟩
  case hr => simp only [go_sem, ↓reduceIte]; rfl
  case hg => simp (disch := first | decide | omega) only [go_sem, ↓reduceIte]; try rfl
  case hf => exact fr_refs rfl
  case ho => exact hp_refs rfl
  case hq =>
   have hrr : done.map trR ++ [[iP (x.1 : Int), iP (x.2 : Int)]] = (done ++ [x]).map trR := by simp [trR]
   rw [hrr, hlr]
   dsimp only [List.length_cons, List.length_nil]
   refine hideO fun QQ hQQ => ?_
   (refine ts ?_; clear hQQ QQ)
   refine tw ?_
   refine ⟨⟨(seen.push (entE y.D i x).born, done ++ [x]), hs2⟩, ?_, weak_round ?_ (by first | rfl | (simp only [go_sem, ↓reduceIte]))⟩
   rotate_left
   ·have hl1 : (done ++ [x]).length = done.length + 1 := by simp
    rw [hl1]
    (simp only [go_sem, ↓reduceIte]; try rfl)
   ·exact hsh
  ·simp (disch := first | decide | omega) only [go_sem, ↓reduceIte]; try rfl
  ·simp (disch := first | decide | omega) only [go_sem, ↓reduceIte]; try rfl
  ·simp (disch := first | decide | omega) only [go_sem, ↓reduceIte]; try rfl
  ·simp (disch := first | decide | omega) only [go_sem, ↓reduceIte]; try rfl
  ·intro a c hc
   rcases a with _ | a
   ·simp at hc; subst hc; rfl
   ·simp at hc
  ·rw [hlr]
   show (done.length + 1) * 16 ≤ _
   omega
  ·rw [hlr]
   simp (disch := first | decide | omega) only [go_sem, ↓reduceIte]; try rfl
  ·simp (disch := first | decide | omega) only [go_sem, ↓reduceIte]; try rfl
  ·simp (disch := first | decide | omega) only [go_sem, ↓reduceIte]; try rfl
  ·simp (disch := first | decide | omega) only [go_sem, ↓reduceIte]; try rfl
  ·intro a row c d ha hb
   rcases Nat.lt_or_ge a (done.map trR).length with e | e
   ·rw [List.getElem?_append_left e, List.getElem?_map] at ha
    obtain ⟨z, _, rfl⟩ := Option.map_eq_some_iff.1 ha
    rcases c with _ | _ | c
    ·simp [trR] at hb; exact ⟨_, hb.symm⟩
    ·simp [trR] at hb; exact ⟨_, hb.symm⟩
    ·simp [trR] at hb
   ·rw [List.getElem?_append_right e] at ha
    have hm := List.mem_of_getElem? ha
    rw [List.mem_singleton] at hm
    subst hm
    rcases c with _ | _ | c
    ·simp at hb; exact ⟨_, hb.symm⟩
    ·simp at hb; exact ⟨_, hb.symm⟩
    ·simp at hb
end
end Go.Proofs.YthedkfiebmnghaaGreat
namespace Go.Proofs.YthedkfiebmnghaaGreat
open Go Go.RowKit Go.Sh Go.Pv Go.By
open Go.Sort (PermIn)
section
variable {y : YD} {b : Nat}
theorem overL_rng (h : YOK y) {p : List Nat} (hp : IsPlan y.S y.n p) {T n : Nat} (hT : T ≤ 100) (hn : n ≤ 2000) : -1000 ≤ overL y.D (T : Int) (n : Int) p ∧ overL y.D (T : Int) (n : Int) p ≤ 200000 := by
 obtain ⟨h1, h2⟩ := over_rng h hp hT
 unfold overL overS at *
 refine ⟨maxL_ge _ _, ?_⟩
 rw [maxL_le] at h2 ⊢
 refine ⟨by omega, fun x hx => ?_⟩
 obtain ⟨z, hz, rfl⟩ := List.mem_map.1 hx
 have := h2.2 z hz
 omega
theorem s_slowC (h : YOK y) (n : Nat) (hn : n ≤ 100) : FunS Tryz.prog 70 [.one (.p (iP (n : Int))), .one (.box 2 0)] ((2, .box [.box 0 0]) :: YF y b) 3 (.one (.one (.v (.bool (decide (overS y.D (n : Int) (soonY y) ≤ 0)))))) := by
 have h1 := s_soonest (b := b) h
 have hpl := (soonY_plan h).1
 have h2 := s_overP (b := b) h hpl n hn
 obtain ⟨h3, h4⟩ := over_rng h hpl hn
 generalize overS y.D (n : Int) (soonY y) = ov' at *
 unfold YF YH at h1 h2 ⊢
 refine funS_ok (nt := 12) (rs := [.tmp 3]) Tryz.func70 rfl rfl rfl (by simp) fun Z w0 cap pan dk tm => ?_; refine tV ?_
 refine tw fun QQ hQQ => ?_
 (refine callD_R [0, 1] (h1) rfl rfl qN qN Tryz.func65 rfl (by decide) (by rfl) qAN (by decide) (by decide) qCN ?_); refine td ?_
 refine tw ?_
 (refine callD_R [0, 1] (h2) rfl rfl qN qN Tryz.func71 rfl (by decide) (by rfl) qAN (by decide) (by decide) qCN ?_); refine td ?_; clear hQQ QQ
 refine tw ?_
 (refine aw_ret ⟨.inr rfl, qMN, qMN, qVN⟩)
theorem s_spareC (h : YOK y) (n : Nat) (hn : n ≤ 2000) : FunS Tryz.prog 72 [.one (.p (iP (n : Int))), .one (.box 2 0), .one (.box 3 0)] ((2, .box [.box 0 0]) :: (3, .box [.p (.sl (y.ss.map SD.row)), .p (.sl (y.F.map rowN)), .p (iP (y.T : Int)), .p (iP (y.L : Int))]) :: YF y b) 4 (.one (.one (.v (.bool (decide (overL y.D (y.T : Int) (n : Int) (soonY y) ≤ 0)))))) := by
 have h1 := s_soonest (b := b) h
 have hpl := (soonY_plan h).1
 have ht := h.t60
 have h2 := s_overL (b := b) h hpl y.T n (by omega) hn
 obtain ⟨h3, h4⟩ := overL_rng h hpl (T := y.T) (n := n) (by omega) hn
 generalize overL y.D (y.T : Int) (n : Int) (soonY y) = ov' at *
 unfold YF YH at h1 h2 ⊢
 refine funS_ok (nt := 16) (rs := [.tmp 4]) Tryz.func72 rfl rfl rfl (by simp) fun Z w0 cap pan dk tm => ?_; refine tV ?_
 refine tw fun QQ hQQ => ?_
 (refine callD_R [0, 1] (h1) rfl rfl qN qN Tryz.func65 rfl (by decide) (by rfl) qAN (by decide) (by decide) qCN ?_); refine td ?_
 refine tw ?_
 (refine callD_R [0, 1] (h2) rfl rfl qN qN Tryz.func71 rfl (by decide) (by rfl) qAN (by decide) (by decide) qCN ?_); refine td ?_; clear hQQ QQ
 refine tw ?_
 (refine aw_ret ⟨.inr rfl, qMN, qMN, qVN⟩)
end
open Go.Sort (PermIn)
def idxN (s : Nat) (p : List Nat) : Int := if s ∈ p then ((p.idxOf s : Nat) : Int) else -1
theorem idxN_of {s : Nat} {p : List Nat} {i : Nat} (hi : i < p.length) (h : ∀ k, k < i → p.getD k 0 ≠ s) (hs : p.getD i 0 = s) : idxN s p = i := by
 have hg : ∀ k (hk : k < p.length), p.getD k 0 = p[k] := fun k hk => by simp [List.getD, hk]
 have hm : s ∈ p := by rw [← hs]; exact mem_of_getD hi
 unfold idxN
 rw [if_pos hm]
 congr 1
 unfold List.idxOf
 rw [List.findIdx_eq hi]
 refine ⟨by rw [← hg i hi, hs]; exact beq_self_eq_true _, fun j hj => ?_⟩
 have := h j hj
 rw [hg j (by omega)] at this
 simpa using this
theorem idxN_none {s : Nat} {p : List Nat} (h : ∀ k, k < p.length → p.getD k 0 ≠ s) : idxN s p = -1 := by
 unfold idxN
 rw [if_neg]
 intro hm
 obtain ⟨k, hk, rfl⟩ := List.getElem_of_mem hm
 exact h k hk (by simp [List.getD, hk])
theorem ok_index (s : Nat) (p : List Nat) (hl : p.length ≤ 100000) : FunOK Tryz.prog 98 [.one (.sl (p.map rowN)), .one (iP (s : Int))] (.one (.one (iP (idxN s p)))) := by
 have hll : (p.map rowN).length = p.length := List.length_map _
 refine fun_ok (nt := 19) (rs := [.tmp 4]) Tryz.func98 rfl rfl rfl (by simp) fun Z w0 => ?_; refine tI ?_
 refine tw ?_
 refine aw_weak (weak_keep [0, 1, 7, 8] (by simp only [go_sem, ↓reduceIte]; rfl)) ?_
 refine aw_loop_ov (ι := { i : Nat // i ≤ p.length ∧ ∀ k, k < i → p.getD k 0 ≠ s }) (fun i => [(8, iA i.1)]) (fun _ => []) (fun i => p.length - i.1) ⟨0, by omega, fun k hk => absurd hk (by omega)⟩ (by first | rfl | (simp only [go_sem, ↓reduceIte]; first | done | rfl | (simp; try rfl))) ?_
 rintro ⟨i, hi, hik⟩
 refine tO ?_
 by_cases hil : i < p.length
 ·have hg := rowN_get hil
  have hfi := idxN_of (s := s) hil hik
  have hnx : p.getD i 0 ≠ s → ∀ k, k < i + 1 → p.getD k 0 ≠ s := fun hx k hk => by
   by_cases e : k = i
   ·rw [e]; exact hx
   ·exact hik k (by omega)
  clear hik
  generalize p.getD i 0 = x at *
  by_cases hx : x = s
  ·have hfi := hfi hx
   rw [hfi]
   subst hx
   try clear hF
   have hF := And.intro hg (hll)
   refine twF ?_
   refine tiF ?_
   refine twF ?_
   refine tiF ?_
   refine twF ?_
   exact qRN
  ·have hnx := hnx hx
   try clear hF
   have hF := And.intro hg (hll)
   refine twF ?_
   refine tiF ?_
   refine twF ?_
   refine tiF ?_
   refine twF ?_
   refine ⟨⟨i + 1, by omega, hnx⟩, ?_, weak_round ?_ (by first | rfl | (simp only [hF, go_sem, ↓reduceIte]))⟩
   rotate_left
   ·(simp only [hF, go_sem, ↓reduceIte]; try rfl)
   ·simp only; omega
 ·have hie : i = p.length := by omega
  subst hie
  rw [idxN_none hik]
  clear hik
  refine tw ?_
  refine ti ?_
  refine tw ?_
  exact qRN
theorem erase_split {p : List Nat} (s : Nat) : p.take (p.idxOf s) ++ p.drop (p.idxOf s + 1) = p.erase s := by
 rw [List.erase_eq_eraseIdx_of_idxOf (i := p.idxOf s) (w := rfl), List.eraseIdx_eq_take_drop_succ]
section
variable {D : Nat → List Int} {T : Int} {b : Int} {p rest : List Nat}
def CanF (D : Nat → List Int) (T b : Int) (p rest : List Nat) (s : Nat) : Prop := s ∈ rest ∧ SoonE D T b (p ++ s :: rest.erase s)
theorem pick_at {s : Nat} : ∀ f s0, s0 ≤ s → s < s0 + f → CanF D T b p rest s → (∀ u, s0 ≤ u → u < s → ¬ CanF D T b p rest u) → pickF D T b p rest f s0 = some s
 | 0, s0, h1, h2, _, _ => by omega
 | f + 1, s0, h1, h2, hc, hn => by
  unfold pickF
  by_cases e : s0 = s
  ·subst e
   exact if_pos hc
  ·rw [if_neg (show ¬ (s0 ∈ rest ∧ SoonE D T b (p ++ s0 :: rest.erase s0)) from hn s0 (Nat.le_refl _) (by omega))]
   exact pick_at f (s0 + 1) (by omega) (by omega) hc fun u h3 h4 => hn u (by omega) h4
theorem pick_no : ∀ f s0, (∀ u, s0 ≤ u → u < s0 + f → ¬ CanF D T b p rest u) → pickF D T b p rest f s0 = none
 | 0, s0, _ => rfl
 | f + 1, s0, hn => by
  unfold pickF
  rw [if_neg (show ¬ (s0 ∈ rest ∧ SoonE D T b (p ++ s0 :: rest.erase s0)) from hn s0 (Nat.le_refl _) (by omega))]
  exact pick_no f (s0 + 1) fun u h3 h4 => hn u (by omega) (by omega)
theorem first_yes {S k s : Nat} (hs : s < S) (hc : CanF D T b p rest s) (hn : ∀ u, u < s → ¬ CanF D T b p rest u) : firstF D T b S (k + 1) p rest = firstF D T b S k (p ++ [s]) (rest.erase s) := by
 conv => lhs; unfold firstF
 rw [pick_at S 0 (Nat.zero_le _) (by omega) hc fun u _ h => hn u h]
theorem first_not {S k : Nat} (hn : ∀ u, u < S → ¬ CanF D T b p rest u) : firstF D T b S (k + 1) p rest = firstF D T b S k p rest := by
 conv => lhs; unfold firstF
 rw [pick_no S 0 fun u _ h => hn u (by omega)]
theorem can_iff (hb : 0 ≤ b) {s : Nat} (hs : s ∈ rest) : CanF D T b p rest s ↔ waitsS D T (p ++ s :: rest.erase s) ≤ b := by
 unfold CanF
 rw [waits_le hb]
 exact ⟨fun h => h.2, fun h => ⟨hs, h⟩⟩
end
section
variable {y : YD} {b : Nat}
structure FS (y : YD) (m : Int) (G : List Nat) (N j : Nat) (p rest : List Nat) : Prop where
 le : j ≤ N
 plan : IsPlan y.S y.n (p ++ rest)
 go : firstF y.D (y.T : Int) m y.S (N - j) p rest = G
theorem FS.len (h : YOK y) {m : Int} {G : List Nat} {N j : Nat} {p rest : List Nat} (hf : FS y m G N j p rest) : p.length + rest.length ≤ 48 := by
 have := plan_len h hf.plan
 rwa [List.length_append] at this
theorem FS.out {m : Int} {G : List Nat} {N j : Nat} {p rest : List Nat} (hf : FS y m G N j p rest) {s : Nat} (hs : s ∈ rest) : IsPlan y.S y.n (p ++ s :: rest.erase s) :=
 plan_of_perm hf.plan ((List.perm_cons_erase hs).append_left p)
theorem FS.yes {m : Int} {G : List Nat} {N j : Nat} {p rest : List Nat} (hf : FS y m G N j p rest) (hj : j < N) {s : Nat} (hs : s < y.S) (hc : CanF y.D (y.T : Int) m p rest s) (hn : ∀ u, u < s → ¬ CanF y.D (y.T : Int) m p rest u) : FS y m G N (j + 1) (p ++ [s]) (rest.erase s) := by
 refine ⟨hj, ?_, ?_⟩
 ·rw [List.append_assoc]
  exact hf.out hc.1
 ·rw [← hf.go, show N - j = (N - (j + 1)) + 1 by omega, first_yes hs hc hn]
theorem FS.no {m : Int} {G : List Nat} {N j : Nat} {p rest : List Nat} (hf : FS y m G N j p rest) (hj : j < N) (hn : ∀ u, u < y.S → ¬ CanF y.D (y.T : Int) m p rest u) : FS y m G N (j + 1) p rest := by
 refine ⟨hj, hf.plan, ?_⟩
 rw [← hf.go, show N - j = (N - (j + 1)) + 1 by omega, first_not hn]
theorem s_first (h : YOK y) {m : Int} (hm0 : 0 ≤ m) (hm : m ≤ 1000000) : FunS Tryz.prog 66 [.one (.box 0 0), .one (.p (iP m))] (YF y b) 2 (.one (.one (.sl ((firstF y.D (y.T : Int) m y.S (soonY y).length [] (soonY y)).map rowN)))) := by
 have h1 := s_soonest (b := b) h
 have hpl := (soonY_plan h).1
 have hwa := fun (q : List Nat) (hq : IsPlan y.S y.n q) => s_waits (b := b) h hq
 have hwr := fun (q : List Nat) (hq : IsPlan y.S y.n q) => over_rng h hq (T := y.T) (by have := h.t60; omega)
 have hS3 := h.n3
 have hSl : (y.ss.map SD.row).length = y.S := List.length_map _
 obtain ⟨N, hN⟩ : ∃ N, (soonY y).length = N := ⟨_, rfl⟩
 have hN48 : N ≤ 48 := by rw [← hN]; exact plan_len h hpl
 rw [hN]
 obtain ⟨G, hG⟩ : ∃ G, firstF y.D (y.T : Int) m y.S N [] (soonY y) = G := ⟨_, rfl⟩
 have hF0 : FS y m G N 0 [] (soonY y) := ⟨Nat.zero_le _, by rw [List.nil_append]; exact hpl, hG⟩
 rw [hG]
 have hNl : ((soonY y).map rowN).length = N := by rw [List.length_map]; exact hN
 generalize soonY y = soon at *
 clear hG hpl
 unfold YF YH at h1 hwa ⊢
 refine funS_ok (nt := 62) (rs := [.tmp 4]) Tryz.func66 rfl rfl rfl (by simp) fun Z w0 cap pan dk tm => ?_; refine tV ?_
 refine tw fun QQ hQQ => ?_
 (refine callO_S [0, 1] (h1) rfl rfl qN qN Tryz.func65 rfl (by decide) (by rfl) qAN (by decide) (by decide) qCN ?_); refine ts ?_; clear hQQ QQ
 refine tw ?_
 refine aw_weak (weak_own 4 3 1 (by simp (disch := first | decide | omega) only [go_sem, ↓reduceIte])) ?_
 dsimp only [AL.set, Nat.reduceEqDiff, ↓reduceIte]
 try clear hF
 have hF := And.intro hNl (And.intro hN (hSl))
 refine twF ?_
 refine aw_weak (weak_restrict [0, 1, 4, 5, 12, 13] [3, 2, 1, 0] 4 (by simp only [go_sem, ↓reduceIte]; rfl)) ?_
 refine aw_loop_ov (ι := { q : Nat × List Nat × List Nat // FS y m G N q.1 q.2.1 q.2.2 }) (fun q => [(4, .one (.own 3 q.1.2.1.length)), (5, .one (.p (.sl (q.1.2.2.map rowN)))), (13, iA q.1.1)]) (fun q => [(3, .arr 3 1 (q.1.2.1.map rowN) true)]) (fun q => N - q.1.1) ⟨(0, [], soon), hF0⟩ (by first | rfl | (simp only [go_sem, ↓reduceIte]; first | done | rfl | (simp; try rfl))) ?_
 rintro ⟨⟨j, p, rest⟩, hfs⟩
 refine tO ?_
 have hlen := hfs.len h
 have hpL : (p.map rowN).length = p.length := List.length_map _
 have hrl : (rest.map rowN).length = rest.length := List.length_map _
 have hta : List.take p.length (p.map rowN) = p.map rowN := List.take_of_length_le (by rw [hpL]; exact Nat.le_refl _)
 dsimp only at hfs hlen
 by_cases hjN : j < N
 ·skip
  try clear hF
  have hF := And.intro hSl (And.intro hpL (hrl))
  refine twF ?_
  refine tiF ?_
  refine twF ?_
  refine aw_weak (weak_restrict [0, 1, 4, 5, 12, 13, 20, 21] [3, 2, 1, 0] 4 (by simp only [go_sem, ↓reduceIte]; rfl)) ?_
  refine aw_loop_ov (ι := { s : Nat // s ≤ y.S ∧ ∀ u, u < s → ¬ CanF y.D (y.T : Int) m p rest u }) (fun s => [(21, iA s.1)]) (fun _ => []) (fun s => y.S - s.1) ⟨0, Nat.zero_le _, fun u hu => by omega⟩ (by first | rfl | (simp only [go_sem, ↓reduceIte]; first | done | rfl | (simp; try rfl))) ?_
  rintro ⟨s, hs, hsn⟩
  refine tO ?_
  by_cases hsS : s < y.S
  ·have hix := ok_index s rest (by omega)
   have hnx : ¬ CanF y.D (y.T : Int) m p rest s → ∀ u, u < s + 1 → ¬ CanF y.D (y.T : Int) m p rest u := fun hc u hu => by
    by_cases e : u = s
    ·rw [e]; exact hc
    ·exact hsn u (by omega)
   by_cases hmem : s ∈ rest
   ·obtain ⟨i, hi⟩ : ∃ i, rest.idxOf s = i := ⟨_, rfl⟩
    have hil : i < rest.length := by rw [← hi]; exact List.idxOf_lt_length_of_mem hmem
    have e1 : idxN s rest = (i : Int) := by unfold idxN; rw [if_pos hmem, hi]
    have e2 : rest.take i ++ rest.drop (i + 1) = rest.erase s := by rw [← hi]; exact erase_split s
    rw [e1] at hix
    have hci := can_iff (D := y.D) (T := (y.T : Int)) (p := p) hm0 hmem
    have hout := hfs.out hmem
    have hw := hwa _ hout
    have hwb := hwr _ hout
    have hel : (rest.erase s).length + 1 = rest.length := by rw [List.length_erase_of_mem hmem]; omega
    have hfl : [p, [s], rest.take i, rest.drop (i + 1)].flatten = p ++ s :: rest.erase s := by simp [← e2]
    have hfl2 : [rest.take i, rest.drop (i + 1)].flatten = rest.erase s := by simp [← e2]
    have hct := ok_concat [p, [s], rest.take i, rest.drop (i + 1)] (by simp) (by rw [hfl, List.length_append, List.length_cons]; omega)
    have hct2 := ok_concat [rest.take i, rest.drop (i + 1)] (by simp) (by rw [hfl2]; omega)
    rw [hfl] at hct
    rw [hfl2] at hct2
    simp only [lsR, List.map_cons, List.map_nil, rowN] at hct hct2
    have hA : ((rest.map rowN).take i).drop 0 = (rest.take i).map rowN := by simp [List.map_take]
    have hB : ((rest.map rowN).take (rest.map rowN).length).drop (i + 1) = (rest.drop (i + 1)).map rowN := by rw [List.take_length, List.map_drop]
    have hyes : CanF y.D (y.T : Int) m p rest s → FS y m G N (j + 1) (p ++ [s]) (rest.erase s) := fun hc => hfs.yes hjN hsS hc hsn
    unfold waitsS at hw hci
    obtain ⟨W, hW⟩ : ∃ W, max 0 (overS y.D (y.T : Int) (p ++ s :: rest.erase s)) = W := ⟨_, rfl⟩
    have hW0 : 0 ≤ W ∧ W ≤ 100000 := by rw [← hW]; omega
    rw [hW] at hw hci
    clear hW hwb hout hfl hfl2 e1 e2 hi hwa hwr
    have hrow : p.map rowN ++ [[iP (s : Int)]] = (p ++ [s]).map rowN := by simp [rowN]
    have hl2 : (p ++ [s]).length = p.length + 1 := by simp
    have hlb : (p.length + 1) * 8 ≤ 140737488355328 := by omega
    have hkr : rowsK 1 (rest.map rowN) := (rowsK_N rest).mpr trivial
    generalize p ++ s :: rest.erase s = others at hct hw
    by_cases hle : W ≤ m
    ·have hyes := hyes (hci.2 hle)
     try clear hF
     have hF := And.intro hrl (And.intro hSl (And.intro hta (And.intro hpL (hlb))))
     refine twF ?_
     refine tiF ?_
     refine twF fun QQ hQQ => ?_
     ((refine cOF 98 rfl rfl rfl (hix) Tryz.func98 rfl ?_); refine tuF ?_; clear hQQ QQ); refine twF ?_
     refine tiF ?_
     refine twF fun QQ hQQ => ?_
     refine callD_sliceG (T := 84) (E := 3) (k := 1) (l := 0) (h := i) (rows := rest.map rowN) rfl rfl qF qF qF hkr rfl ⟨.i64, qF⟩ (Nat.zero_le _) (by rw [hrl]; omega) hA ?_
     (refine tdF ?_)
     refine callD_sliceG (T := 84) (E := 3) (k := 1) (l := i + 1) (h := (rest.map rowN).length) (rows := rest.map rowN) rfl rfl qF qF qF hkr ⟨.i64, qF⟩ rfl (by rw [hrl]; omega) (Nat.le_refl _) hB ?_
     (refine tdF ?_)
     ((refine cGF 99 rfl rfl rfl (hct) Tryz.func99 rfl ?_); refine tvF ?_; clear hQQ QQ); refine twF fun QQ hQQ => ?_
     (refine callO_S [0, 1] (hw) rfl rfl qF qF Tryz.func55 rfl (by decide) (by rfl) qAF (by decide) (by decide) qCF ?_); refine tsF ?_; clear hQQ QQ
     refine twF ?_
     refine tiF ?_
     refine twF fun QQ hQQ => ?_
     refine callD_sliceG (T := 84) (E := 3) (k := 1) (l := 0) (h := i) (rows := rest.map rowN) rfl rfl qF qF qF hkr rfl ⟨.i64, qF⟩ (Nat.zero_le _) (by rw [hrl]; omega) hA ?_
     (refine tdF ?_)
     refine callD_sliceG (T := 84) (E := 3) (k := 1) (l := i + 1) (h := (rest.map rowN).length) (rows := rest.map rowN) rfl rfl qF qF qF hkr ⟨.i64, qF⟩ rfl (by rw [hrl]; omega) (Nat.le_refl _) hB ?_
     (refine tdF ?_)
     ((refine cGF 99 rfl rfl rfl (hct2) Tryz.func99 rfl ?_); refine tvF ?_; clear hQQ QQ); refine twF ?_
     refine ⟨⟨(j + 1, p ++ [s], rest.erase s), hyes⟩, ?_, weak_round ?_ (by first | rfl | (simp only [hF, go_sem, ↓reduceIte]))⟩
     rotate_left
     ·simp only [← hrow, hl2]
      (simp only [hF, go_sem, ↓reduceIte]; try rfl)
     ·simp only; omega
    ·have hnx := hnx (fun hc => hle (hci.1 hc))
     try clear hF
     have hF := And.intro hrl (And.intro hSl (And.intro hta (And.intro hpL (hlb))))
     refine twF ?_
     refine tiF ?_
     refine twF fun QQ hQQ => ?_
     ((refine cOF 98 rfl rfl rfl (hix) Tryz.func98 rfl ?_); refine tuF ?_; clear hQQ QQ); refine twF ?_
     refine tiF ?_
     refine twF fun QQ hQQ => ?_
     refine callD_sliceG (T := 84) (E := 3) (k := 1) (l := 0) (h := i) (rows := rest.map rowN) rfl rfl qF qF qF hkr rfl ⟨.i64, qF⟩ (Nat.zero_le _) (by rw [hrl]; omega) hA ?_
     (refine tdF ?_)
     refine callD_sliceG (T := 84) (E := 3) (k := 1) (l := i + 1) (h := (rest.map rowN).length) (rows := rest.map rowN) rfl rfl qF qF qF hkr ⟨.i64, qF⟩ rfl (by rw [hrl]; omega) (Nat.le_refl _) hB ?_
     (refine tdF ?_)
     ((refine cGF 99 rfl rfl rfl (hct) Tryz.func99 rfl ?_); refine tvF ?_; clear hQQ QQ); refine twF fun QQ hQQ => ?_
     (refine callO_S [0, 1] (hw) rfl rfl qF qF Tryz.func55 rfl (by decide) (by rfl) qAF (by decide) (by decide) qCF ?_); refine tsF ?_; clear hQQ QQ
     refine twF ?_
     refine tiF ?_
     refine twF ?_
     refine ⟨⟨s + 1, by omega, hnx⟩, ?_, weak_round ?_ (by first | rfl | (simp only [hF, go_sem, ↓reduceIte]))⟩
     rotate_left
     ·(simp only [hF, go_sem, ↓reduceIte]; try rfl)
     ·simp only; omega
   ·have e1 : idxN s rest = -1 := by unfold idxN; rw [if_neg hmem]
    rw [e1] at hix
    have hnx := hnx (fun hc => hmem hc.1)
    clear hwa hwr
    try clear hF
    have hF := And.intro hrl (And.intro hSl (And.intro hta (hpL)))
    refine twF ?_
    refine tiF ?_
    refine twF fun QQ hQQ => ?_
    ((refine cOF 98 rfl rfl rfl (hix) Tryz.func98 rfl ?_); refine tuF ?_; clear hQQ QQ); refine twF ?_
    refine tiF ?_
    refine twF ?_
    refine ⟨⟨s + 1, by omega, hnx⟩, ?_, weak_round ?_ (by first | rfl | (simp only [hF, go_sem, ↓reduceIte]))⟩
    rotate_left
    ·(simp only [hF, go_sem, ↓reduceIte]; try rfl)
    ·simp only; omega
  ·have hse : s = y.S := by omega
   have hno := hfs.no hjN (fun u hu => hsn u (by omega))
   clear hwa hwr
   try clear hF
   have hF := And.intro hrl (And.intro hSl (And.intro hta (hpL)))
   refine twF ?_
   refine tiF ?_
   refine twF ?_
   refine ⟨⟨(j + 1, p, rest), hno⟩, ?_, weak_round ?_ (by first | rfl | (simp only [hF, go_sem, ↓reduceIte]))⟩
   rotate_left
   ·(simp only [hF, go_sem, ↓reduceIte]; try rfl)
   ·simp only; omega
 ·have hje : j = N := by have := hfs.le; omega
  have hpG : p = G := by
   have := hfs.go
   rw [hje, Nat.sub_self] at this
   exact this
  rw [← hpG]
  clear hwa hwr hpG
  try clear hF
  have hF := And.intro hrl (And.intro hSl (hpL))
  refine twF ?_
  refine tiF ?_
  refine twF ?_
  refine aw_weak (weak_dataS 4 qF qF) ?_
  rw [hta]
  refine twF ?_
  (refine aw_ret ⟨.inr rfl, qMF, qMF, qVF⟩)
end
end Go.Proofs.YthedkfiebmnghaaGreat
