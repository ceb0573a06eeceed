/- tally: the table of a set of calls, walked. -/
import Derived.Test.YtejbglbiefpagaaTvE
set_option linter.all false
namespace Go.Proofs.Ytejbglbiefpagaa
open Go Go.RowKit Go.Sh Go.Pv
set_option maxHeartbeats 8000000
set_option maxRecDepth 20000
attribute [local go_sem] mapO_plain row4 get_some4
section
variable {N : Nat} {most : Int} {strays : List (Int × Int)} {calls : List (Int × Int × Int × Int)}
theorem ok_counts2 (n most : Int) (strays : List (Int × Int)) (calls : List (Int × Int × Int × Int)) (c : Int × Int × Int × Int) (h : c.1 = 2) : FunOK Try.prog 71 [.one (ydP n most strays calls), .agg (row4 c)] (.one (.one (.v (cntV 2 0 n)))) := by
  refine fun_ok (nt := 33) (rs := [.tmp 4]) Try.func71 rfl rfl rfl (by simp) fun Z w0 => ?_; simp only [initFr, avR, List.map_cons, List.map_nil]
  simp only [ydP, row4]
  refine tw ?_; try with_reducible intro QQ hQQ
  refine ti ?_; try clear hQQ QQ
  refine tw ?_; try with_reducible intro QQ hQQ
  refine ti ?_; try clear hQQ QQ
  refine tw ?_; try with_reducible intro QQ hQQ
  refine aw_ret ?_; refine ⟨.inr rfl, ?_⟩; simp only [resA, res1, go_sem, ↓reduceIte]
  simp [cntV]
theorem ok_counts0 (n most : Int) (strays : List (Int × Int)) (calls : List (Int × Int × Int × Int)) (c : Int × Int × Int × Int) (hb : -1000 ≤ c.2.1 ∧ c.2.1 ≤ 1000) (h : c.1 = 0) : FunOK Try.prog 71 [.one (ydP n most strays calls), .agg (row4 c)] (.one (.one (.v (cntV 0 c.2.1 (c.2.1 + 1))))) := by
  have := ok_counts n most strays calls c hb
  rw [if_pos (.inl h), h] at this
  exact this
theorem ok_counts1 (n most : Int) (strays : List (Int × Int)) (calls : List (Int × Int × Int × Int)) (c : Int × Int × Int × Int) (hb : -1000 ≤ c.2.1 ∧ c.2.1 ≤ 1000) (h : c.1 = 1) : FunOK Try.prog 71 [.one (ydP n most strays calls), .agg (row4 c)] (.one (.one (.v (cntV 1 c.2.1 (c.2.1 + 1))))) := by
  have := ok_counts n most strays calls c hb
  rw [if_pos (.inr h), h] at this
  exact this
theorem s_table (h : TOK N most strays calls) (set : Nat) (hset : set < 2 ^ 63) :
    FunS Try.prog 83 [.one (.box 0 0), .one (.p (uP set))] (ydH N most strays calls (keepI (tabF N most strays calls)) Try.prog) 2 (.one (.agg ((mk (tabF N most strays calls set)).map iP))) := by
  obtain ⟨kl, hkey⟩ := keyOf135 set (by omega)
  unfold ydH ydC uP
  refine funS_ok (nt := 40) (rs := [.cell 4 92]) Try.func83 rfl rfl rfl (by simp) fun Z w0 cap pan dk tm => ?_; simp only [initV, pins, pinOf, List.map_cons, List.map_nil]
  refine tw ?_; try with_reducible intro QQ hQQ
  refine ⟨rfl, .inr ⟨rfl, callS_lookup (kv := .agg #[.int .u64 (set : Int)]) rfl rfl key135 und87 zero92 (by simp (disch := first | decide | omega) only [go_sem, ↓reduceIte]; try rfl) (by simp (disch := first | decide | omega) only [go_sem, ↓reduceIte]; try rfl) (by simp (disch := first | decide | omega) only [go_sem, ↓reduceIte]; try rfl) hkey ?_ ⟨_, relR_tab _, ?_⟩⟩⟩
  · rintro v ⟨s, hs, rfl⟩
    have hss : s = set := by
      simp only [Value.agg.injEq, Array.mk.injEq, List.cons.injEq, Value.int.injEq, and_true, true_and] at hs
      omega
    subst hss
    refine ⟨_, relR_tab _, ?_⟩
    (refine ts ?_; try clear hQQ QQ)
    refine tw ?_; try with_reducible intro QQ hQQ
    refine ti ?_; try clear hQQ QQ
    refine tw ?_; try with_reducible intro QQ hQQ
    (refine aw_ret ⟨.inr rfl, (by simp (maxSteps := 400000) (disch := first | decide | omega) only [go_sem, ↓reduceIte]; try rfl), (by simp (maxSteps := 400000) (disch := first | decide | omega) only [go_sem, ↓reduceIte]; try rfl), (by simp only [List.mem_cons, List.mem_nil_iff, forall_eq_or_imp, forall_eq, false_imp_iff, implies_true, or_false, and_true]; simp (maxSteps := 400000) (disch := first | decide | omega) only [go_sem, ↓reduceIte]; try exact ⟨rfl, rfl⟩)⟩)
  · (refine ts ?_; try clear hQQ QQ)
    refine tw ?_; try with_reducible intro QQ hQQ
    refine ti ?_; try clear hQQ QQ
    refine tw ?_; try with_reducible intro QQ hQQ
    ((refine cO 104 rfl rfl rfl (ok_empty) Try.func104 rfl ?_); refine tu ?_; try clear hQQ QQ); refine tw ?_; try with_reducible intro QQ hQQ
    (refine callS_ok rfl rfl 106 (by simp (maxSteps := 400000) (disch := first | decide | omega) only [go_sem, ↓reduceIte]; try rfl) (by simp (maxSteps := 400000) (disch := first | decide | omega) only [go_sem, ↓reduceIte]; try rfl) Try.func106 rfl (by decide) ?_); (refine callF_in (nt := 6) (rs := [.tmp 4]) Try.func106 rfl rfl rfl (by simp) fun tm Ds => ?_); simp only [initV, capV, List.map_cons, List.map_nil, List.cons_append, List.nil_append]
    refine tw ?_; try with_reducible intro QQ hQQ
    (refine aw_ret ⟨.inr rfl, _, by (simp (maxSteps := 400000) (disch := first | decide | omega) only [go_sem, ↓reduceIte]; try rfl), by (simp (maxSteps := 400000) (disch := first | decide | omega) only [go_sem, ↓reduceIte]; try rfl), ?_⟩); refine ts ?_; try clear hQQ QQ
    refine tw ?_; try with_reducible intro QQ hQQ
    refine aw_weak (weak_thr [0, 1, 4, 7, 8, 9, 25, 26] (by simp only [go_sem, ↓reduceIte]; rfl)) ?_
    refine aw_rangeFunc (nt := 99) rfl rfl (by simp (disch := first | decide | omega) only [go_sem, ↓reduceIte]; rfl) Try.func111 rfl (by decide) rfl rfl (by decide) fun r bb tm2 Ds2 hr1 hr1p hr2 hr3 hr4 hr5 hr6 hr7 => ?_
    dsimp only [Kx.iter] at hr5 hr7 ⊢
    have HY : ∀ (pan' : List PanicEntry → St → Prop) (dk' : List Nat) (l : List Oper) (st : St) (o : Oper) (t0 t1 : Nat) (tys : Array TypeId) (f : Nat → Nat → Int) (a b : Nat) (x y lo hi : Int),
        dstOK ⟨Try.prog, Z, w0, cap, 99, none, pan', none, dk', true⟩ o.dst = true → o.op = .call { callee := .value (.tmp t0), args := #[.tmp t1], argTypes := tys } → AL.get st.fr t0 = some (.one (.yld 11)) → AL.get st.fr t1 = some (.agg [.p (iP x), .p (iP y), .p (iP lo), .p (iP hi)]) →
        x = (a : Int) → y = (b : Int) → a < 11 → b < 11 → (-65536 ≤ lo ∧ lo ≤ 65536) → (-65536 ≤ hi ∧ hi ≤ 65536) → (∀ i k, i < 11 → k < 11 → -1152921504606846976 ≤ f i k ∧ f i k ≤ 1152921504606846976) →
        AL.get st.hp 11 = some (.lp bb r) → AL.get st.hp 10 = some (.kept [(0, AV.one (AC.box 0 0)), (1, AV.one (AC.p (PV.v (Value.int IntKind.u64 (set : Int))))), (4, AV.one (AC.box 3 0)), (7, AV.one (AC.box 5 0)), (8, AV.one (AC.box 6 0)), (25, AV.one (AC.fn 111 [CC.box 8, CC.box 9]))] tm2) →
        AL.get st.hp 5 = some (.box (tab (mk f))) → AL.get st.hp 6 = some (.box [.fn 105 []]) → 5 < st.nx →
        TurnsA ⟨Try.prog, Z, w0, cap, 99, none, pan', none, dk', true⟩ l st o [5] (.one (.p (.v (.bool true)))) (AL.set st.hp 5 (.box (tab (mk (putB f a b lo hi))))) st.nx := by
      intro pan' dk' l st o t0 t1 tys f a b x y lo hi hd ho h0 h1 hx hy ha hb hlo hhi hf h11 h10 h5 h6 h5n
      subst hx hy
      have hput := ok_put f a b lo hi ha hb hlo hhi hf
      refine turns_yield hd ho h0 (avs := [.agg [.p (iP a), .p (iP b), .p (iP lo), .p (iP hi)]]) (by simp only [mapO, evalA, h1]) h11 hr1 hr1p h10 hr6 (by rw [hr5]; exact fun t av ht => hr7 t av ht |> fun h => by rw [hr5] at h; exact h) (by rw [hr2]; rfl) ?_ [5] _ ?_ ?_ ?_ ?_ ?_
      · intro t ht
        rw [hr2] at ht
        rw [hr5]
        simp only [List.mem_cons, List.mem_nil_iff, or_false] at ht
        subst ht; decide
      · intro id hid
        rw [AL.get_set, if_neg (by simpa using hid)]
      · intro id hid
        simp only [List.mem_cons, List.mem_nil_iff, or_false] at hid
        subst hid; exact h5n
      · decide
      · intro fr hc
        exact hc.set h5 (by intro fr tm hk; cases hk) (by intro i hi; simp only [refsO, refs_tab, List.not_mem_nil] at hi)
      · intro fr Ds tmi hlt
        obtain ⟨rB, hrB⟩ : ∃ rB, ({ r with state := .busy } : Loop) = rB := ⟨_, rfl⟩
        have l5 := hlt 5 _ h5
        have l6 := hlt 6 _ h6
        have l11 := hlt 11 _ h11
        rw [hrB, hr2, hr3, hr4, hr5]
        simp only [Kx.round, setPs]
        (repeat (first | apply aw_seq | apply aw_block | apply aw_skip | apply aw_label | apply aw_exit | ((first | refine aw_region (hideO fun QQ hQQ => ?_) | refine aw_draw mixed (hideD fun QQ hQQ => ?_)); simp (maxSteps := 400000) (disch := first | decide | omega) only [h5, h6, h11, go_sem, ↓reduceIte]; try (first | with_reducible refine unhide hQQ ?_ | refine ⟨by kernel_rfl, unhide hQQ ?_⟩); clear hQQ QQ) | with_reducible first | apply then_n | apply block_n | apply then_x | apply then_r | apply nog_n | apply nog_r | apply block_r | apply block_e (by decide) | apply block_x (by decide)))
        refine ⟨rfl, by simp (disch := first | decide | omega) only [h5, h6, h11, go_sem, ↓reduceIte], ?_⟩
        (repeat (first | apply aw_seq | apply aw_block | apply aw_skip | apply aw_label | apply aw_exit | ((first | refine aw_region (hideO fun QQ hQQ => ?_) | refine aw_draw mixed (hideD fun QQ hQQ => ?_)); simp (maxSteps := 400000) (disch := first | decide | omega) only [h5, h6, h11, go_sem, ↓reduceIte]; try (first | with_reducible refine unhide hQQ ?_ | refine ⟨by kernel_rfl, unhide hQQ ?_⟩); clear hQQ QQ) | with_reducible first | apply then_n | apply block_n | apply then_x | apply then_r | apply nog_n | apply nog_r | apply block_r | apply block_e (by decide) | apply block_x (by decide)))
        ((refine callO_ok rfl rfl 105 true rfl (by simp (disch := first | decide | omega) only [h5, h6, h11, go_sem, ↓reduceIte]; try rfl) (fun _ => rfl) (hput) Try.func105 rfl (by decide) ?_); simp (maxSteps := 400000) (disch := first | decide | omega) only [h5, h6, h11, go_sem, ↓reduceIte]; try (with_reducible refine unhide hQQ ?_; clear hQQ QQ)); (repeat (first | apply aw_seq | apply aw_block | apply aw_skip | apply aw_label | apply aw_exit | ((first | refine aw_region (hideO fun QQ hQQ => ?_) | refine aw_draw mixed (hideD fun QQ hQQ => ?_)); simp (maxSteps := 400000) (disch := first | decide | omega) only [h5, h6, h11, go_sem, ↓reduceIte]; try (first | with_reducible refine unhide hQQ ?_ | refine ⟨by kernel_rfl, unhide hQQ ?_⟩); clear hQQ QQ) | with_reducible first | apply then_n | apply block_n | apply then_x | apply then_r | apply nog_n | apply nog_r | apply block_r | apply block_e (by decide) | apply block_x (by decide)))
        refine ⟨rfl, by simp (disch := first | decide | omega) only [h5, h6, h11, go_sem, ↓reduceIte], by simp (disch := first | decide | omega) only [h5, h6, h11, go_sem, ↓reduceIte], fun id o' hne hid => ?_⟩
        rw [AL.get_set] at hid
        by_cases he : id = 5
        · subst he
          rw [if_pos rfl] at hid
          cases hid
          simp only [AL.get_eq]
          rfl
        · rw [if_neg he] at hid
          have hl := hlt id _ hid
          simp (disch := first | decide | omega) only [h5, h6, h11, go_sem, ↓reduceIte]
          exact hid
    refine aw_scope rfl ?_
    refine tw ?_; try with_reducible intro QQ hQQ
    refine aw_weak (weak_keepA [0, 1, 2, 4, 16, 17] (by simp only [go_sem, ↓reduceIte]; rfl)) ?_
    refine aw_loop_ov (ι := { i : Nat // i ≤ N }) (fun i => [(17, iA i.1)]) (fun i => [(5, .box (tab (mk (F0 N most i.1))))]) (fun i => N - i.1) ⟨0, by omega⟩ (by first | rfl | (simp only [go_sem, ↓reduceIte]; first | done | rfl | (simp; try rfl))) ?_
    rintro ⟨i, hi⟩
    simp (disch := decide) only [ov, ovL, AL.get_nil, AL.get_eq, AL.get_ne, Option.getD_some, Option.getD_none]
    have hn5 := h.n5
    have hm0 := h.m0
    have hm6 := h.m60
    have hm : -65536 ≤ most ∧ most ≤ 65536 := by omega
    by_cases hil : i < N
    · have ha1 := posM_lt h.n5 (show i + 1 ≤ N by omega)
      have ha2 := posM_lt h.n5 (show i ≤ N by omega)
      refine tw ?_; try with_reducible intro QQ hQQ
      refine ti ?_; try clear hQQ QQ
      refine tw ?_; try with_reducible intro QQ hQQ
      (refine callD_S [0, 1, 8] (s_by0 N most strays calls (keepI (tabF N most strays calls)) i (i + 1) 0 most) rfl rfl (by simp (disch := first | decide | omega) only [go_sem, ↓reduceIte]; try rfl) (by simp (disch := first | decide | omega) only [go_sem, ↓reduceIte]; try rfl) Try.func112 rfl (by decide) (by rfl) (by repeat' (first | trivial | apply And.intro | (simp (disch := first | decide | omega) only [go_sem, ↓reduceIte]; first | done | rfl))) (by decide) (by decide) (by first | rfl | (simp (disch := first | decide | omega) only [go_sem, ↓reduceIte]; try rfl)) ?_); refine td ?_; try clear hQQ QQ
      (refine callD_turn rfl rfl [5] _ _ _ (by exact HY _ _ _ _ _ 24 34 _ (F0 N most i) (i + 1) (i) _ _ _ _ (by exact rfl) (by exact rfl) (by simp (disch := first | decide | omega) only [go_sem, ↓reduceIte]) (by simp (disch := first | decide | omega) only [go_sem, ↓reduceIte]; try rfl) (by push_cast; rfl) rfl (by omega) (by omega) (by omega) (hm) (inB_far (inB_F0 h i hi) (by omega)) (by simp (disch := first | decide | omega) only [go_sem, ↓reduceIte]) (by simp (disch := first | decide | omega) only [go_sem, ↓reduceIte]; try rfl) (by simp (disch := first | decide | omega) only [go_sem, ↓reduceIte]) (by simp (disch := first | decide | omega) only [go_sem, ↓reduceIte]) (by dsimp only; omega)) ?_); refine td ?_; try clear hQQ QQ
      (refine callD_S [0, 1, 8] (s_by1 N most strays calls (keepI (tabF N most strays calls)) i (i + 1) 0 65536 (by omega) (by omega)) rfl rfl (by simp (disch := first | decide | omega) only [go_sem, ↓reduceIte]; try rfl) (by simp (disch := first | decide | omega) only [go_sem, ↓reduceIte]; try rfl) Try.func112 rfl (by decide) (by rfl) (by repeat' (first | trivial | apply And.intro | (simp (disch := first | decide | omega) only [go_sem, ↓reduceIte]; first | done | rfl))) (by decide) (by decide) (by first | rfl | (simp (disch := first | decide | omega) only [go_sem, ↓reduceIte]; try rfl)) ?_); refine td ?_; try clear hQQ QQ
      (refine callD_turn rfl rfl [5] _ _ _ (by exact HY _ _ _ _ _ 38 44 _ (putB (F0 N most i) (i + 1) i 0 most) (posM N (i + 1)) (posM N i) _ _ _ _ (by exact rfl) (by exact rfl) (by simp (disch := first | decide | omega) only [go_sem, ↓reduceIte]) (by simp (disch := first | decide | omega) only [go_sem, ↓reduceIte]; try rfl) (by rw [← posM_cast]; push_cast; rfl) (posM_cast N i) (by omega) (by omega) (by omega) (by omega) (inB_far (inB_putB (inB_F0 h i hi) (by omega) (by omega) hm.1 (by omega)) (by omega)) (by simp (disch := first | decide | omega) only [go_sem, ↓reduceIte]) (by simp (disch := first | decide | omega) only [go_sem, ↓reduceIte]; try rfl) (by simp (disch := first | decide | omega) only [go_sem, ↓reduceIte]) (by simp (disch := first | decide | omega) only [go_sem, ↓reduceIte]) (by dsimp only; omega)) ?_); refine td ?_; try clear hQQ QQ
      refine tw ?_; try with_reducible intro QQ hQQ
      refine ti ?_; try clear hQQ QQ
      refine tw ?_; try with_reducible intro QQ hQQ
      (refine ⟨⟨i + 1, by omega⟩, ?_, weak_round (by simp only [go_sem, ↓reduceIte]; first | done | rfl) (by first | rfl | (simp only [go_sem, ↓reduceIte]))⟩; (simp only; omega))
    · have hiN : i = N := by omega
      subst hiN
      refine tw ?_; try with_reducible intro QQ hQQ
      refine ti ?_; try clear hQQ QQ
      refine tw ?_; try with_reducible intro QQ hQQ
      refine aw_weak (weak_keepA [0, 1, 2, 4, 53, 54, 55] (by simp only [go_sem, ↓reduceIte]; rfl)) ?_
      refine aw_loop_ov (ι := { k : Nat // k ≤ strays.length }) (fun k => [(55, iA k.1)]) (fun k => [(5, .box (tab (mk (F1 i most strays k.1))))]) (fun k => strays.length - k.1) ⟨0, by omega⟩ (by first | rfl | (simp only [go_sem, ↓reduceIte]; first | done | rfl | (simp; try rfl))) ?_
      rintro ⟨k, hk⟩
      simp (disch := decide) only [ov, ovL, AL.get_nil, AL.get_eq, AL.get_ne, Option.getD_some, Option.getD_none]
      have hsl := h.sl
      by_cases hkl : k < strays.length
      · have ha1 := posM_lt h.n5 (show k + 1 ≤ i by omega)
        have hs := span_of (h.st k hkl)
        have hpens := ok_pens i most strays calls ((k : Int) + 1) (by omega)
        simp only [ydP] at hpens
        refine tw ?_; try with_reducible intro QQ hQQ
        refine ti ?_; try clear hQQ QQ
        refine tw ?_; try with_reducible intro QQ hQQ
        (refine cD 63 rfl rfl rfl (hpens) Try.func63 rfl ?_); refine td ?_; try clear hQQ QQ
        (refine callD_turn rfl rfl [5] _ _ _ (by exact HY _ _ _ _ _ 60 68 _ (F1 i most strays k) (k + 1) (posM i (k + 1)) _ _ _ _ (by exact rfl) (by exact rfl) (by simp (disch := first | decide | omega) only [go_sem, ↓reduceIte]) (by simp (disch := first | decide | omega) only [go_sem, ↓reduceIte]; try rfl) (by push_cast; rfl) (by unfold posM; rw [if_neg (by omega)]; push_cast; rfl) (by omega) (by omega) (by omega) (by omega) (inB_far (inB_F1 h k hk) (by omega)) (by simp (disch := first | decide | omega) only [go_sem, ↓reduceIte]) (by simp (disch := first | decide | omega) only [go_sem, ↓reduceIte]; try rfl) (by simp (disch := first | decide | omega) only [go_sem, ↓reduceIte]) (by simp (disch := first | decide | omega) only [go_sem, ↓reduceIte]) (by dsimp only; omega)) ?_); refine td ?_; try clear hQQ QQ
        refine tw ?_; try with_reducible intro QQ hQQ
        refine ti ?_; try clear hQQ QQ
        refine tw ?_; try with_reducible intro QQ hQQ
        (refine ⟨⟨k + 1, by omega⟩, ?_, weak_round (by simp only [go_sem, ↓reduceIte]; first | done | rfl) (by first | rfl | (simp only [go_sem, ↓reduceIte]))⟩; (simp only; omega))
      · have hkN : k = strays.length := by omega
        subst hkN
        refine tw ?_; try with_reducible intro QQ hQQ
        refine ti ?_; try clear hQQ QQ
        refine tw ?_; try with_reducible intro QQ hQQ
        refine aw_weak (weak_keepA [0, 1, 2, 4, 76, 77, 78] (by simp only [go_sem, ↓reduceIte]; rfl)) ?_
        refine aw_loop_ov (ι := { m : Nat // m ≤ calls.length }) (fun m => [(78, iA m.1)]) (fun m => [(5, .box (tab (mk (F2 i most strays calls set m.1))))]) (fun m => calls.length - m.1) ⟨0, by omega⟩ (by first | rfl | (simp only [go_sem, ↓reduceIte]; first | done | rfl | (simp; try rfl))) ?_
        rintro ⟨m, hm⟩
        simp (disch := decide) only [ov, ovL, AL.get_nil, AL.get_eq, AL.get_ne, Option.getD_some, Option.getD_none]
        have hcl := h.cl
        by_cases hml : m < calls.length
        · have hsi : set >>> m < 2 ^ 64 := Nat.lt_of_le_of_lt (Nat.shiftRight_le _ _) (by omega)
          have hca := h.ca m hml
          have hcc := call_of hca
          have hlt2 := cnt_lt h.n1 h.n5 hca
          have hfar := inB_far (inB_F2 h (set := set) m hm) (by omega)
          cases hb : set.testBit m
          · have hbt : ((set >>> m % 2 : Nat) : Int) = 0 := by rw [bit_f hb]; rfl
            have e2 : F2 i most strays calls set (m + 1) = F2 i most strays calls set m := by
              show (if _ then _ else _) = _
              rw [hb]; rfl
            (repeat (first | apply aw_seq | apply aw_block | apply aw_skip | apply aw_label | apply aw_exit | ((first | refine aw_region (hideO fun QQ hQQ => ?_) | refine aw_draw mixed (hideD fun QQ hQQ => ?_)); simp (maxSteps := 400000) (disch := first | decide | omega) only [binu_shr, binu_and_one, hbt, go_sem, ↓reduceIte]; try (first | with_reducible refine unhide hQQ ?_ | refine ⟨by kernel_rfl, unhide hQQ ?_⟩); clear hQQ QQ) | with_reducible first | apply then_n | apply block_n | apply then_x | apply then_r | apply nog_n | apply nog_r | apply block_r | apply block_e (by decide) | apply block_x (by decide)))
            refine aw_cond2 (by simp (disch := first | decide | omega) only [binu_shr, binu_and_one, hbt, go_sem, ↓reduceIte]; rfl) ?_; first | refine .inl ⟨by first | rfl | exact decide_eq_true (by omega) | exact decide_eq_true (by assumption) | (simp (disch := first | decide | omega) only [if_pos_d, if_neg_d, decide_eq_true_eq, Bool.not_eq_true', decide_eq_false_iff_not]; omega), ?_⟩ | refine .inr ⟨by first | rfl | exact decide_eq_false (by omega) | exact decide_eq_false (by assumption) | (simp (disch := first | decide | omega) only [if_pos_d, if_neg_d, decide_eq_true_eq, Bool.not_eq_true', decide_eq_false_iff_not]; omega), ?_⟩
            (repeat (first | apply aw_seq | apply aw_block | apply aw_skip | apply aw_label | apply aw_exit | ((first | refine aw_region (hideO fun QQ hQQ => ?_) | refine aw_draw mixed (hideD fun QQ hQQ => ?_)); simp (maxSteps := 400000) (disch := first | decide | omega) only [binu_shr, binu_and_one, hbt, go_sem, ↓reduceIte]; try (first | with_reducible refine unhide hQQ ?_ | refine ⟨by kernel_rfl, unhide hQQ ?_⟩); clear hQQ QQ) | with_reducible first | apply then_n | apply block_n | apply then_x | apply then_r | apply nog_n | apply nog_r | apply block_r | apply block_e (by decide) | apply block_x (by decide)))
            refine aw_cond2 (by simp (disch := first | decide | omega) only [binu_shr, binu_and_one, hbt, go_sem, ↓reduceIte]; rfl) ?_; first | refine .inl ⟨by first | rfl | exact decide_eq_true (by omega) | exact decide_eq_true (by assumption) | (simp (disch := first | decide | omega) only [if_pos_d, if_neg_d, decide_eq_true_eq, Bool.not_eq_true', decide_eq_false_iff_not]; omega), ?_⟩ | refine .inr ⟨by first | rfl | exact decide_eq_false (by omega) | exact decide_eq_false (by assumption) | (simp (disch := first | decide | omega) only [if_pos_d, if_neg_d, decide_eq_true_eq, Bool.not_eq_true', decide_eq_false_iff_not]; omega), ?_⟩
            (refine aw_exit ?_); (repeat with_reducible first | apply then_n | apply block_n | apply then_x | apply then_r | apply nog_n | apply nog_r | apply block_r | apply block_e (by decide) | apply block_x (by decide))
            (repeat (first | apply aw_seq | apply aw_block | apply aw_skip | apply aw_label | apply aw_exit | ((first | refine aw_region (hideO fun QQ hQQ => ?_) | refine aw_draw mixed (hideD fun QQ hQQ => ?_)); simp (maxSteps := 400000) (disch := first | decide | omega) only [binu_shr, binu_and_one, hbt, go_sem, ↓reduceIte]; try (first | with_reducible refine unhide hQQ ?_ | refine ⟨by kernel_rfl, unhide hQQ ?_⟩); clear hQQ QQ) | with_reducible first | apply then_n | apply block_n | apply then_x | apply then_r | apply nog_n | apply nog_r | apply block_r | apply block_e (by decide) | apply block_x (by decide)))
            refine ⟨⟨m + 1, by omega⟩, ?_, weak_round ?_ (by first | rfl | (simp only [binu_shr, binu_and_one, hbt, go_sem, ↓reduceIte]))⟩
            rotate_left
            · simp only [e2]
              (simp only [binu_shr, binu_and_one, hbt, go_sem, ↓reduceIte]; try rfl)
            · simp only; omega
          · have hbt : ((set >>> m % 2 : Nat) : Int) = 1 := by rw [bit_t hb]; rfl
            have e2 : F2 i most strays calls set (m + 1) = putC i (F2 i most strays calls set m) (calls.getD m (0, 0, 0, 0)) := by
              show (if _ then _ else _) = _
              rw [hb]; rfl
            rcases hcc.1 with hk | ⟨hk | hk, hk2⟩
            · have hA : (i : Int) = ((cntA i (calls.getD m (0, 0, 0, 0)) : Nat) : Int) := by unfold cntA; rw [if_neg (by omega), if_neg (by omega)]
              have hZ : (0 : Int) = ((cntZ i (calls.getD m (0, 0, 0, 0)) : Nat) : Int) := by unfold cntZ; rw [if_neg (by omega), if_neg (by omega)]; rfl
              have hcnt := ok_counts2 i most strays calls (calls.getD m (0, 0, 0, 0)) hk
              simp only [ydP, row4] at hcnt
              (repeat (first | apply aw_seq | apply aw_block | apply aw_skip | apply aw_label | apply aw_exit | ((first | refine aw_region (hideO fun QQ hQQ => ?_) | refine aw_draw mixed (hideD fun QQ hQQ => ?_)); simp (maxSteps := 400000) (disch := first | decide | omega) only [binu_shr, binu_and_one, hbt, go_sem, ↓reduceIte]; try (first | with_reducible refine unhide hQQ ?_ | refine ⟨by kernel_rfl, unhide hQQ ?_⟩); clear hQQ QQ) | with_reducible first | apply then_n | apply block_n | apply then_x | apply then_r | apply nog_n | apply nog_r | apply block_r | apply block_e (by decide) | apply block_x (by decide)))
              refine aw_cond2 (by simp (disch := first | decide | omega) only [binu_shr, binu_and_one, hbt, go_sem, ↓reduceIte]; rfl) ?_; first | refine .inl ⟨by first | rfl | exact decide_eq_true (by omega) | exact decide_eq_true (by assumption) | (simp (disch := first | decide | omega) only [if_pos_d, if_neg_d, decide_eq_true_eq, Bool.not_eq_true', decide_eq_false_iff_not]; omega), ?_⟩ | refine .inr ⟨by first | rfl | exact decide_eq_false (by omega) | exact decide_eq_false (by assumption) | (simp (disch := first | decide | omega) only [if_pos_d, if_neg_d, decide_eq_true_eq, Bool.not_eq_true', decide_eq_false_iff_not]; omega), ?_⟩
              (repeat (first | apply aw_seq | apply aw_block | apply aw_skip | apply aw_label | apply aw_exit | ((first | refine aw_region (hideO fun QQ hQQ => ?_) | refine aw_draw mixed (hideD fun QQ hQQ => ?_)); simp (maxSteps := 400000) (disch := first | decide | omega) only [binu_shr, binu_and_one, hbt, go_sem, ↓reduceIte]; try (first | with_reducible refine unhide hQQ ?_ | refine ⟨by kernel_rfl, unhide hQQ ?_⟩); clear hQQ QQ) | with_reducible first | apply then_n | apply block_n | apply then_x | apply then_r | apply nog_n | apply nog_r | apply block_r | apply block_e (by decide) | apply block_x (by decide)))
              refine aw_cond2 (by simp (disch := first | decide | omega) only [binu_shr, binu_and_one, hbt, go_sem, ↓reduceIte]; rfl) ?_; first | refine .inl ⟨by first | rfl | exact decide_eq_true (by omega) | exact decide_eq_true (by assumption) | (simp (disch := first | decide | omega) only [if_pos_d, if_neg_d, decide_eq_true_eq, Bool.not_eq_true', decide_eq_false_iff_not]; omega), ?_⟩ | refine .inr ⟨by first | rfl | exact decide_eq_false (by omega) | exact decide_eq_false (by assumption) | (simp (disch := first | decide | omega) only [if_pos_d, if_neg_d, decide_eq_true_eq, Bool.not_eq_true', decide_eq_false_iff_not]; omega), ?_⟩
              (repeat (first | apply aw_seq | apply aw_block | apply aw_skip | apply aw_label | apply aw_exit | ((first | refine aw_region (hideO fun QQ hQQ => ?_) | refine aw_draw mixed (hideD fun QQ hQQ => ?_)); simp (maxSteps := 400000) (disch := first | decide | omega) only [binu_shr, binu_and_one, hbt, go_sem, ↓reduceIte]; try (first | with_reducible refine unhide hQQ ?_ | refine ⟨by kernel_rfl, unhide hQQ ?_⟩); clear hQQ QQ) | with_reducible first | apply then_n | apply block_n | apply then_x | apply then_r | apply nog_n | apply nog_r | apply block_r | apply block_e (by decide) | apply block_x (by decide)))
              (refine callD_ok rfl rfl 71 true rfl (by simp (disch := first | decide | omega) only [binu_shr, binu_and_one, hbt, go_sem, ↓reduceIte]; try rfl) (fun _ => rfl) (hcnt) Try.func71 rfl (by decide) ?_); simp (maxSteps := 400000) (disch := first | decide | omega) only [binu_shr, binu_and_one, hbt, go_sem, ↓reduceIte]; (try (refine ⟨by kernel_rfl, unhide hQQ ?_⟩; clear hQQ QQ; (repeat with_reducible first | apply then_n | apply block_n | apply then_x | apply then_r | apply nog_n | apply nog_r | apply block_r | apply block_e (by decide) | apply block_x (by decide))))
              (refine callD_S [0, 1, 8] (s_by0 i most strays calls (keepI (tabF i most strays calls)) 0 i _ _) rfl rfl (by simp (disch := first | decide | omega) only [binu_shr, binu_and_one, hbt, go_sem, ↓reduceIte]; try rfl) (by simp (disch := first | decide | omega) only [binu_shr, binu_and_one, hbt, go_sem, ↓reduceIte]; try rfl) Try.func112 rfl (by decide) (by rfl) (by repeat' (first | trivial | apply And.intro | (simp (disch := first | decide | omega) only [binu_shr, binu_and_one, hbt, go_sem, ↓reduceIte]; first | done | rfl))) (by decide) (by decide) (by first | rfl | (simp (disch := first | decide | omega) only [binu_shr, binu_and_one, hbt, go_sem, ↓reduceIte]; try rfl)) ?_); simp (maxSteps := 400000) (disch := first | decide | omega) only [binu_shr, binu_and_one, hbt, go_sem, ↓reduceIte]; (try (refine ⟨by kernel_rfl, unhide hQQ ?_⟩; clear hQQ QQ; (repeat with_reducible first | apply then_n | apply block_n | apply then_x | apply then_r | apply nog_n | apply nog_r | apply block_r | apply block_e (by decide) | apply block_x (by decide))))
              (refine callD_turn rfl rfl [5] _ _ _ (by exact HY _ _ _ _ _ 88 95 _ (F2 i most strays calls set m) (cntA i (calls.getD m (0, 0, 0, 0))) (cntZ i (calls.getD m (0, 0, 0, 0))) _ _ _ _ (by exact rfl) (by exact rfl) (by simp (disch := first | decide | omega) only [binu_shr, binu_and_one, hbt, go_sem, ↓reduceIte]) (by simp (disch := first | decide | omega) only [binu_shr, binu_and_one, hbt, go_sem, ↓reduceIte]; try rfl) hA hZ (by omega) (by omega) (by omega) (by omega) (hfar) (by simp (disch := first | decide | omega) only [binu_shr, binu_and_one, hbt, go_sem, ↓reduceIte]) (by simp (disch := first | decide | omega) only [binu_shr, binu_and_one, hbt, go_sem, ↓reduceIte]; try rfl) (by simp (disch := first | decide | omega) only [binu_shr, binu_and_one, hbt, go_sem, ↓reduceIte]) (by simp (disch := first | decide | omega) only [binu_shr, binu_and_one, hbt, go_sem, ↓reduceIte]) (by dsimp only; omega)) ?_); simp (maxSteps := 400000) (disch := first | decide | omega) only [binu_shr, binu_and_one, hbt, go_sem, ↓reduceIte]; (try (refine ⟨by kernel_rfl, unhide hQQ ?_⟩; clear hQQ QQ; (repeat with_reducible first | apply then_n | apply block_n | apply then_x | apply then_r | apply nog_n | apply nog_r | apply block_r | apply block_e (by decide) | apply block_x (by decide))))
              (repeat (first | apply aw_seq | apply aw_block | apply aw_skip | apply aw_label | apply aw_exit | ((first | refine aw_region (hideO fun QQ hQQ => ?_) | refine aw_draw mixed (hideD fun QQ hQQ => ?_)); simp (maxSteps := 400000) (disch := first | decide | omega) only [binu_shr, binu_and_one, hbt, go_sem, ↓reduceIte]; try (first | with_reducible refine unhide hQQ ?_ | refine ⟨by kernel_rfl, unhide hQQ ?_⟩); clear hQQ QQ) | with_reducible first | apply then_n | apply block_n | apply then_x | apply then_r | apply nog_n | apply nog_r | apply block_r | apply block_e (by decide) | apply block_x (by decide)))
              refine aw_cond2 (by simp (disch := first | decide | omega) only [binu_shr, binu_and_one, hbt, go_sem, ↓reduceIte]; rfl) ?_; first | refine .inl ⟨by first | rfl | exact decide_eq_true (by omega) | exact decide_eq_true (by assumption) | (simp (disch := first | decide | omega) only [if_pos_d, if_neg_d, decide_eq_true_eq, Bool.not_eq_true', decide_eq_false_iff_not]; omega), ?_⟩ | refine .inr ⟨by first | rfl | exact decide_eq_false (by omega) | exact decide_eq_false (by assumption) | (simp (disch := first | decide | omega) only [if_pos_d, if_neg_d, decide_eq_true_eq, Bool.not_eq_true', decide_eq_false_iff_not]; omega), ?_⟩
              (repeat (first | apply aw_seq | apply aw_block | apply aw_skip | apply aw_label | apply aw_exit | ((first | refine aw_region (hideO fun QQ hQQ => ?_) | refine aw_draw mixed (hideD fun QQ hQQ => ?_)); simp (maxSteps := 400000) (disch := first | decide | omega) only [binu_shr, binu_and_one, hbt, go_sem, ↓reduceIte]; try (first | with_reducible refine unhide hQQ ?_ | refine ⟨by kernel_rfl, unhide hQQ ?_⟩); clear hQQ QQ) | with_reducible first | apply then_n | apply block_n | apply then_x | apply then_r | apply nog_n | apply nog_r | apply block_r | apply block_e (by decide) | apply block_x (by decide)))
              refine ⟨⟨m + 1, by omega⟩, ?_, weak_round ?_ (by first | rfl | (simp only [binu_shr, binu_and_one, hbt, go_sem, ↓reduceIte]))⟩
              rotate_left
              · simp only [e2]
                (simp only [binu_shr, binu_and_one, hbt, go_sem, ↓reduceIte]; try rfl)
              · simp only; omega
            · have hA : (calls.getD m (0, 0, 0, 0)).2.1 + 1 = ((cntA i (calls.getD m (0, 0, 0, 0)) : Nat) : Int) := by unfold cntA; rw [if_pos hk]; omega
              have hZ : (calls.getD m (0, 0, 0, 0)).2.1 = ((cntZ i (calls.getD m (0, 0, 0, 0)) : Nat) : Int) := by unfold cntZ; rw [if_pos hk]; omega
              have hcnt := ok_counts0 i most strays calls (calls.getD m (0, 0, 0, 0)) (by omega) hk
              simp only [ydP, row4] at hcnt
              (repeat (first | apply aw_seq | apply aw_block | apply aw_skip | apply aw_label | apply aw_exit | ((first | refine aw_region (hideO fun QQ hQQ => ?_) | refine aw_draw mixed (hideD fun QQ hQQ => ?_)); simp (maxSteps := 400000) (disch := first | decide | omega) only [binu_shr, binu_and_one, hbt, go_sem, ↓reduceIte]; try (first | with_reducible refine unhide hQQ ?_ | refine ⟨by kernel_rfl, unhide hQQ ?_⟩); clear hQQ QQ) | with_reducible first | apply then_n | apply block_n | apply then_x | apply then_r | apply nog_n | apply nog_r | apply block_r | apply block_e (by decide) | apply block_x (by decide)))
              refine aw_cond2 (by simp (disch := first | decide | omega) only [binu_shr, binu_and_one, hbt, go_sem, ↓reduceIte]; rfl) ?_; first | refine .inl ⟨by first | rfl | exact decide_eq_true (by omega) | exact decide_eq_true (by assumption) | (simp (disch := first | decide | omega) only [if_pos_d, if_neg_d, decide_eq_true_eq, Bool.not_eq_true', decide_eq_false_iff_not]; omega), ?_⟩ | refine .inr ⟨by first | rfl | exact decide_eq_false (by omega) | exact decide_eq_false (by assumption) | (simp (disch := first | decide | omega) only [if_pos_d, if_neg_d, decide_eq_true_eq, Bool.not_eq_true', decide_eq_false_iff_not]; omega), ?_⟩
              (repeat (first | apply aw_seq | apply aw_block | apply aw_skip | apply aw_label | apply aw_exit | ((first | refine aw_region (hideO fun QQ hQQ => ?_) | refine aw_draw mixed (hideD fun QQ hQQ => ?_)); simp (maxSteps := 400000) (disch := first | decide | omega) only [binu_shr, binu_and_one, hbt, go_sem, ↓reduceIte]; try (first | with_reducible refine unhide hQQ ?_ | refine ⟨by kernel_rfl, unhide hQQ ?_⟩); clear hQQ QQ) | with_reducible first | apply then_n | apply block_n | apply then_x | apply then_r | apply nog_n | apply nog_r | apply block_r | apply block_e (by decide) | apply block_x (by decide)))
              refine aw_cond2 (by simp (disch := first | decide | omega) only [binu_shr, binu_and_one, hbt, go_sem, ↓reduceIte]; rfl) ?_; first | refine .inl ⟨by first | rfl | exact decide_eq_true (by omega) | exact decide_eq_true (by assumption) | (simp (disch := first | decide | omega) only [if_pos_d, if_neg_d, decide_eq_true_eq, Bool.not_eq_true', decide_eq_false_iff_not]; omega), ?_⟩ | refine .inr ⟨by first | rfl | exact decide_eq_false (by omega) | exact decide_eq_false (by assumption) | (simp (disch := first | decide | omega) only [if_pos_d, if_neg_d, decide_eq_true_eq, Bool.not_eq_true', decide_eq_false_iff_not]; omega), ?_⟩
              (repeat (first | apply aw_seq | apply aw_block | apply aw_skip | apply aw_label | apply aw_exit | ((first | refine aw_region (hideO fun QQ hQQ => ?_) | refine aw_draw mixed (hideD fun QQ hQQ => ?_)); simp (maxSteps := 400000) (disch := first | decide | omega) only [binu_shr, binu_and_one, hbt, go_sem, ↓reduceIte]; try (first | with_reducible refine unhide hQQ ?_ | refine ⟨by kernel_rfl, unhide hQQ ?_⟩); clear hQQ QQ) | with_reducible first | apply then_n | apply block_n | apply then_x | apply then_r | apply nog_n | apply nog_r | apply block_r | apply block_e (by decide) | apply block_x (by decide)))
              (refine callD_ok rfl rfl 71 true rfl (by simp (disch := first | decide | omega) only [binu_shr, binu_and_one, hbt, go_sem, ↓reduceIte]; try rfl) (fun _ => rfl) (hcnt) Try.func71 rfl (by decide) ?_); simp (maxSteps := 400000) (disch := first | decide | omega) only [binu_shr, binu_and_one, hbt, go_sem, ↓reduceIte]; (try (refine ⟨by kernel_rfl, unhide hQQ ?_⟩; clear hQQ QQ; (repeat with_reducible first | apply then_n | apply block_n | apply then_x | apply then_r | apply nog_n | apply nog_r | apply block_r | apply block_e (by decide) | apply block_x (by decide))))
              (refine callD_S [0, 1, 8] (s_by0 i most strays calls (keepI (tabF i most strays calls)) (calls.getD m (0, 0, 0, 0)).2.1 ((calls.getD m (0, 0, 0, 0)).2.1 + 1) _ _) rfl rfl (by simp (disch := first | decide | omega) only [binu_shr, binu_and_one, hbt, go_sem, ↓reduceIte]; try rfl) (by simp (disch := first | decide | omega) only [binu_shr, binu_and_one, hbt, go_sem, ↓reduceIte]; try rfl) Try.func112 rfl (by decide) (by rfl) (by repeat' (first | trivial | apply And.intro | (simp (disch := first | decide | omega) only [binu_shr, binu_and_one, hbt, go_sem, ↓reduceIte]; first | done | rfl))) (by decide) (by decide) (by first | rfl | (simp (disch := first | decide | omega) only [binu_shr, binu_and_one, hbt, go_sem, ↓reduceIte]; try rfl)) ?_); simp (maxSteps := 400000) (disch := first | decide | omega) only [binu_shr, binu_and_one, hbt, go_sem, ↓reduceIte]; (try (refine ⟨by kernel_rfl, unhide hQQ ?_⟩; clear hQQ QQ; (repeat with_reducible first | apply then_n | apply block_n | apply then_x | apply then_r | apply nog_n | apply nog_r | apply block_r | apply block_e (by decide) | apply block_x (by decide))))
              (refine callD_turn rfl rfl [5] _ _ _ (by exact HY _ _ _ _ _ 88 95 _ (F2 i most strays calls set m) (cntA i (calls.getD m (0, 0, 0, 0))) (cntZ i (calls.getD m (0, 0, 0, 0))) _ _ _ _ (by exact rfl) (by exact rfl) (by simp (disch := first | decide | omega) only [binu_shr, binu_and_one, hbt, go_sem, ↓reduceIte]) (by simp (disch := first | decide | omega) only [binu_shr, binu_and_one, hbt, go_sem, ↓reduceIte]; try rfl) hA hZ (by omega) (by omega) (by omega) (by omega) (hfar) (by simp (disch := first | decide | omega) only [binu_shr, binu_and_one, hbt, go_sem, ↓reduceIte]) (by simp (disch := first | decide | omega) only [binu_shr, binu_and_one, hbt, go_sem, ↓reduceIte]; try rfl) (by simp (disch := first | decide | omega) only [binu_shr, binu_and_one, hbt, go_sem, ↓reduceIte]) (by simp (disch := first | decide | omega) only [binu_shr, binu_and_one, hbt, go_sem, ↓reduceIte]) (by dsimp only; omega)) ?_); simp (maxSteps := 400000) (disch := first | decide | omega) only [binu_shr, binu_and_one, hbt, go_sem, ↓reduceIte]; (try (refine ⟨by kernel_rfl, unhide hQQ ?_⟩; clear hQQ QQ; (repeat with_reducible first | apply then_n | apply block_n | apply then_x | apply then_r | apply nog_n | apply nog_r | apply block_r | apply block_e (by decide) | apply block_x (by decide))))
              (repeat (first | apply aw_seq | apply aw_block | apply aw_skip | apply aw_label | apply aw_exit | ((first | refine aw_region (hideO fun QQ hQQ => ?_) | refine aw_draw mixed (hideD fun QQ hQQ => ?_)); simp (maxSteps := 400000) (disch := first | decide | omega) only [binu_shr, binu_and_one, hbt, go_sem, ↓reduceIte]; try (first | with_reducible refine unhide hQQ ?_ | refine ⟨by kernel_rfl, unhide hQQ ?_⟩); clear hQQ QQ) | with_reducible first | apply then_n | apply block_n | apply then_x | apply then_r | apply nog_n | apply nog_r | apply block_r | apply block_e (by decide) | apply block_x (by decide)))
              refine aw_cond2 (by simp (disch := first | decide | omega) only [binu_shr, binu_and_one, hbt, go_sem, ↓reduceIte]; rfl) ?_; first | refine .inl ⟨by first | rfl | exact decide_eq_true (by omega) | exact decide_eq_true (by assumption) | (simp (disch := first | decide | omega) only [if_pos_d, if_neg_d, decide_eq_true_eq, Bool.not_eq_true', decide_eq_false_iff_not]; omega), ?_⟩ | refine .inr ⟨by first | rfl | exact decide_eq_false (by omega) | exact decide_eq_false (by assumption) | (simp (disch := first | decide | omega) only [if_pos_d, if_neg_d, decide_eq_true_eq, Bool.not_eq_true', decide_eq_false_iff_not]; omega), ?_⟩
              (repeat (first | apply aw_seq | apply aw_block | apply aw_skip | apply aw_label | apply aw_exit | ((first | refine aw_region (hideO fun QQ hQQ => ?_) | refine aw_draw mixed (hideD fun QQ hQQ => ?_)); simp (maxSteps := 400000) (disch := first | decide | omega) only [binu_shr, binu_and_one, hbt, go_sem, ↓reduceIte]; try (first | with_reducible refine unhide hQQ ?_ | refine ⟨by kernel_rfl, unhide hQQ ?_⟩); clear hQQ QQ) | with_reducible first | apply then_n | apply block_n | apply then_x | apply then_r | apply nog_n | apply nog_r | apply block_r | apply block_e (by decide) | apply block_x (by decide)))
              refine ⟨⟨m + 1, by omega⟩, ?_, weak_round ?_ (by first | rfl | (simp only [binu_shr, binu_and_one, hbt, go_sem, ↓reduceIte]))⟩
              rotate_left
              · simp only [e2]
                (simp only [binu_shr, binu_and_one, hbt, go_sem, ↓reduceIte]; try rfl)
              · simp only; omega
            · have hA : posN i ((calls.getD m (0, 0, 0, 0)).2.1 + 1) = ((cntA i (calls.getD m (0, 0, 0, 0)) : Nat) : Int) := by
                unfold cntA; rw [if_neg (by omega), if_pos hk, ← posM_cast]; congr 1; omega
              have hZ : posN i (calls.getD m (0, 0, 0, 0)).2.1 = ((cntZ i (calls.getD m (0, 0, 0, 0)) : Nat) : Int) := by
                unfold cntZ; rw [if_neg (by omega), if_pos hk, ← posM_cast]; congr 1; omega
              have hcnt := ok_counts1 i most strays calls (calls.getD m (0, 0, 0, 0)) (by omega) hk
              simp only [ydP, row4] at hcnt
              (repeat (first | apply aw_seq | apply aw_block | apply aw_skip | apply aw_label | apply aw_exit | ((first | refine aw_region (hideO fun QQ hQQ => ?_) | refine aw_draw mixed (hideD fun QQ hQQ => ?_)); simp (maxSteps := 400000) (disch := first | decide | omega) only [binu_shr, binu_and_one, hbt, go_sem, ↓reduceIte]; try (first | with_reducible refine unhide hQQ ?_ | refine ⟨by kernel_rfl, unhide hQQ ?_⟩); clear hQQ QQ) | with_reducible first | apply then_n | apply block_n | apply then_x | apply then_r | apply nog_n | apply nog_r | apply block_r | apply block_e (by decide) | apply block_x (by decide)))
              refine aw_cond2 (by simp (disch := first | decide | omega) only [binu_shr, binu_and_one, hbt, go_sem, ↓reduceIte]; rfl) ?_; first | refine .inl ⟨by first | rfl | exact decide_eq_true (by omega) | exact decide_eq_true (by assumption) | (simp (disch := first | decide | omega) only [if_pos_d, if_neg_d, decide_eq_true_eq, Bool.not_eq_true', decide_eq_false_iff_not]; omega), ?_⟩ | refine .inr ⟨by first | rfl | exact decide_eq_false (by omega) | exact decide_eq_false (by assumption) | (simp (disch := first | decide | omega) only [if_pos_d, if_neg_d, decide_eq_true_eq, Bool.not_eq_true', decide_eq_false_iff_not]; omega), ?_⟩
              (repeat (first | apply aw_seq | apply aw_block | apply aw_skip | apply aw_label | apply aw_exit | ((first | refine aw_region (hideO fun QQ hQQ => ?_) | refine aw_draw mixed (hideD fun QQ hQQ => ?_)); simp (maxSteps := 400000) (disch := first | decide | omega) only [binu_shr, binu_and_one, hbt, go_sem, ↓reduceIte]; try (first | with_reducible refine unhide hQQ ?_ | refine ⟨by kernel_rfl, unhide hQQ ?_⟩); clear hQQ QQ) | with_reducible first | apply then_n | apply block_n | apply then_x | apply then_r | apply nog_n | apply nog_r | apply block_r | apply block_e (by decide) | apply block_x (by decide)))
              refine aw_cond2 (by simp (disch := first | decide | omega) only [binu_shr, binu_and_one, hbt, go_sem, ↓reduceIte]; rfl) ?_; first | refine .inl ⟨by first | rfl | exact decide_eq_true (by omega) | exact decide_eq_true (by assumption) | (simp (disch := first | decide | omega) only [if_pos_d, if_neg_d, decide_eq_true_eq, Bool.not_eq_true', decide_eq_false_iff_not]; omega), ?_⟩ | refine .inr ⟨by first | rfl | exact decide_eq_false (by omega) | exact decide_eq_false (by assumption) | (simp (disch := first | decide | omega) only [if_pos_d, if_neg_d, decide_eq_true_eq, Bool.not_eq_true', decide_eq_false_iff_not]; omega), ?_⟩
              (repeat (first | apply aw_seq | apply aw_block | apply aw_skip | apply aw_label | apply aw_exit | ((first | refine aw_region (hideO fun QQ hQQ => ?_) | refine aw_draw mixed (hideD fun QQ hQQ => ?_)); simp (maxSteps := 400000) (disch := first | decide | omega) only [binu_shr, binu_and_one, hbt, go_sem, ↓reduceIte]; try (first | with_reducible refine unhide hQQ ?_ | refine ⟨by kernel_rfl, unhide hQQ ?_⟩); clear hQQ QQ) | with_reducible first | apply then_n | apply block_n | apply then_x | apply then_r | apply nog_n | apply nog_r | apply block_r | apply block_e (by decide) | apply block_x (by decide)))
              (refine callD_ok rfl rfl 71 true rfl (by simp (disch := first | decide | omega) only [binu_shr, binu_and_one, hbt, go_sem, ↓reduceIte]; try rfl) (fun _ => rfl) (hcnt) Try.func71 rfl (by decide) ?_); simp (maxSteps := 400000) (disch := first | decide | omega) only [binu_shr, binu_and_one, hbt, go_sem, ↓reduceIte]; (try (refine ⟨by kernel_rfl, unhide hQQ ?_⟩; clear hQQ QQ; (repeat with_reducible first | apply then_n | apply block_n | apply then_x | apply then_r | apply nog_n | apply nog_r | apply block_r | apply block_e (by decide) | apply block_x (by decide))))
              (refine callD_S [0, 1, 8] (s_by1 i most strays calls (keepI (tabF i most strays calls)) (calls.getD m (0, 0, 0, 0)).2.1 ((calls.getD m (0, 0, 0, 0)).2.1 + 1) _ _ (by omega) (by omega)) rfl rfl (by simp (disch := first | decide | omega) only [binu_shr, binu_and_one, hbt, go_sem, ↓reduceIte]; try rfl) (by simp (disch := first | decide | omega) only [binu_shr, binu_and_one, hbt, go_sem, ↓reduceIte]; try rfl) Try.func112 rfl (by decide) (by rfl) (by repeat' (first | trivial | apply And.intro | (simp (disch := first | decide | omega) only [binu_shr, binu_and_one, hbt, go_sem, ↓reduceIte]; first | done | rfl))) (by decide) (by decide) (by first | rfl | (simp (disch := first | decide | omega) only [binu_shr, binu_and_one, hbt, go_sem, ↓reduceIte]; try rfl)) ?_); simp (maxSteps := 400000) (disch := first | decide | omega) only [binu_shr, binu_and_one, hbt, go_sem, ↓reduceIte]; (try (refine ⟨by kernel_rfl, unhide hQQ ?_⟩; clear hQQ QQ; (repeat with_reducible first | apply then_n | apply block_n | apply then_x | apply then_r | apply nog_n | apply nog_r | apply block_r | apply block_e (by decide) | apply block_x (by decide))))
              (refine callD_turn rfl rfl [5] _ _ _ (by exact HY _ _ _ _ _ 88 95 _ (F2 i most strays calls set m) (cntA i (calls.getD m (0, 0, 0, 0))) (cntZ i (calls.getD m (0, 0, 0, 0))) _ _ _ _ (by exact rfl) (by exact rfl) (by simp (disch := first | decide | omega) only [binu_shr, binu_and_one, hbt, go_sem, ↓reduceIte]) (by simp (disch := first | decide | omega) only [binu_shr, binu_and_one, hbt, go_sem, ↓reduceIte]; try rfl) hA hZ (by omega) (by omega) (by omega) (by omega) (hfar) (by simp (disch := first | decide | omega) only [binu_shr, binu_and_one, hbt, go_sem, ↓reduceIte]) (by simp (disch := first | decide | omega) only [binu_shr, binu_and_one, hbt, go_sem, ↓reduceIte]; try rfl) (by simp (disch := first | decide | omega) only [binu_shr, binu_and_one, hbt, go_sem, ↓reduceIte]) (by simp (disch := first | decide | omega) only [binu_shr, binu_and_one, hbt, go_sem, ↓reduceIte]) (by dsimp only; omega)) ?_); simp (maxSteps := 400000) (disch := first | decide | omega) only [binu_shr, binu_and_one, hbt, go_sem, ↓reduceIte]; (try (refine ⟨by kernel_rfl, unhide hQQ ?_⟩; clear hQQ QQ; (repeat with_reducible first | apply then_n | apply block_n | apply then_x | apply then_r | apply nog_n | apply nog_r | apply block_r | apply block_e (by decide) | apply block_x (by decide))))
              (repeat (first | apply aw_seq | apply aw_block | apply aw_skip | apply aw_label | apply aw_exit | ((first | refine aw_region (hideO fun QQ hQQ => ?_) | refine aw_draw mixed (hideD fun QQ hQQ => ?_)); simp (maxSteps := 400000) (disch := first | decide | omega) only [binu_shr, binu_and_one, hbt, go_sem, ↓reduceIte]; try (first | with_reducible refine unhide hQQ ?_ | refine ⟨by kernel_rfl, unhide hQQ ?_⟩); clear hQQ QQ) | with_reducible first | apply then_n | apply block_n | apply then_x | apply then_r | apply nog_n | apply nog_r | apply block_r | apply block_e (by decide) | apply block_x (by decide)))
              refine aw_cond2 (by simp (disch := first | decide | omega) only [binu_shr, binu_and_one, hbt, go_sem, ↓reduceIte]; rfl) ?_; first | refine .inl ⟨by first | rfl | exact decide_eq_true (by omega) | exact decide_eq_true (by assumption) | (simp (disch := first | decide | omega) only [if_pos_d, if_neg_d, decide_eq_true_eq, Bool.not_eq_true', decide_eq_false_iff_not]; omega), ?_⟩ | refine .inr ⟨by first | rfl | exact decide_eq_false (by omega) | exact decide_eq_false (by assumption) | (simp (disch := first | decide | omega) only [if_pos_d, if_neg_d, decide_eq_true_eq, Bool.not_eq_true', decide_eq_false_iff_not]; omega), ?_⟩
              (repeat (first | apply aw_seq | apply aw_block | apply aw_skip | apply aw_label | apply aw_exit | ((first | refine aw_region (hideO fun QQ hQQ => ?_) | refine aw_draw mixed (hideD fun QQ hQQ => ?_)); simp (maxSteps := 400000) (disch := first | decide | omega) only [binu_shr, binu_and_one, hbt, go_sem, ↓reduceIte]; try (first | with_reducible refine unhide hQQ ?_ | refine ⟨by kernel_rfl, unhide hQQ ?_⟩); clear hQQ QQ) | with_reducible first | apply then_n | apply block_n | apply then_x | apply then_r | apply nog_n | apply nog_r | apply block_r | apply block_e (by decide) | apply block_x (by decide)))
              refine ⟨⟨m + 1, by omega⟩, ?_, weak_round ?_ (by first | rfl | (simp only [binu_shr, binu_and_one, hbt, go_sem, ↓reduceIte]))⟩
              rotate_left
              · simp only [e2]
                (simp only [binu_shr, binu_and_one, hbt, go_sem, ↓reduceIte]; try rfl)
              · simp only; omega
        · have hmN : m = calls.length := by omega
          subst hmN
          refine tw ?_; try with_reducible intro QQ hQQ
          refine ti ?_; try clear hQQ QQ
          refine tw ?_; try with_reducible intro QQ hQQ
          refine ⟨.inl rfl, by simp (disch := first | decide | omega) only [go_sem, ↓reduceIte], r, by simp (disch := first | decide | omega) only [go_sem, ↓reduceIte], by rw [hr1]; decide, ?_⟩
          rw [hr1p]
          (repeat (first | with_reducible refine then_n ?_ | with_reducible refine block_n ?_))
          show AW _ _ _ _
          refine tw ?_; try with_reducible intro QQ hQQ
          refine callD_turn rfl rfl [] _ _ _ (by exact turns_update rfl rfl key135 und87 (id := 1) (I := keepI (tabF i most strays calls)) (kv := .agg #[.int .u64 (set : Int)]) (by simp (disch := first | decide | omega) only [go_sem, ↓reduceIte]) (by simp (disch := first | decide | omega) only [go_sem, ↓reduceIte]; try rfl) (by simp (disch := first | decide | omega) only [go_sem, ↓reduceIte]; try rfl) (by simp (disch := first | decide | omega) only [go_sem, ↓reduceIte]; try rfl) hkey ⟨set, rfl, rfl⟩) ?_
          (refine td ?_; try clear hQQ QQ)
          refine tw ?_; try with_reducible intro QQ hQQ
          (refine aw_ret ⟨.inr rfl, (by simp (maxSteps := 400000) (disch := first | decide | omega) only [go_sem, ↓reduceIte]; try rfl), (by simp (maxSteps := 400000) (disch := first | decide | omega) only [go_sem, ↓reduceIte]; try rfl), (by simp only [List.mem_cons, List.mem_nil_iff, forall_eq_or_imp, forall_eq, false_imp_iff, implies_true, or_false, and_true]; simp (maxSteps := 400000) (disch := first | decide | omega) only [go_sem, ↓reduceIte]; try exact ⟨rfl, rfl⟩)⟩)
end
end Go.Proofs.Ytejbglbiefpagaa
