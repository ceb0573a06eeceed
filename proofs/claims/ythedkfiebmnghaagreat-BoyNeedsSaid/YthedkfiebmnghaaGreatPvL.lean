/- Texts of the proof, joined. -/
import Derived.Test.YthedkfiebmnghaaGreatKpv3
import Derived.Test.YthedkfiebmnghaaGreatProg
import Derived.KernelRfl
set_option linter.all false
namespace Go.Proofs.YthedkfiebmnghaaGreat
open Go Go.Pv
theorem ty_size3 : tySize Tryz.prog 3 = some (1) := by kernel_rfl
theorem ty_agg3 : tyAgg Tryz.prog 3 = some (false) := by kernel_rfl
theorem ty_bytes3 : tyBytes Tryz.prog 3 = some (8) := by kernel_rfl
theorem ty_zero3 : tyZero Tryz.prog 3 = some ([(AC.p (PV.v (Value.int IntKind.i64 0)))]) := by kernel_rfl
theorem ty_size22 : tySize Tryz.prog 22 = some (1) := by kernel_rfl
theorem ty_agg22 : tyAgg Tryz.prog 22 = some (false) := by kernel_rfl
theorem ty_elem22 : sliceElem Tryz.prog 22 = some (50) := by kernel_rfl
theorem ty_size23 : tySize Tryz.prog 23 = some (1) := by kernel_rfl
theorem ty_agg23 : tyAgg Tryz.prog 23 = some (false) := by kernel_rfl
theorem ty_bytes23 : tyBytes Tryz.prog 23 = some (24) := by kernel_rfl
theorem ty_elem23 : sliceElem Tryz.prog 23 = some (3) := by kernel_rfl
theorem ty_zero23 : tyZero Tryz.prog 23 = some ([AC.nil]) := by kernel_rfl
theorem ty_size25 : tySize Tryz.prog 25 = some (4) := by kernel_rfl
theorem ty_agg25 : tyAgg Tryz.prog 25 = some (true) := by kernel_rfl
theorem ty_allsz25 : allSz Tryz.prog 25 = true := by kernel_rfl
theorem ty_noarr25 : arrElem Tryz.prog 25 = none := by kernel_rfl
theorem ty_zero25 : tyZero Tryz.prog 25 = some ([AC.nil, AC.nil, (AC.p (PV.v (Value.int IntKind.i64 0))), (AC.p (PV.v (Value.int IntKind.i64 0)))]) := by kernel_rfl
theorem ty_fld25_0 : fldOf Tryz.prog 25 0 = some ((0, (1, false))) := by kernel_rfl
theorem ty_fld25_1 : fldOf Tryz.prog 25 1 = some ((1, (1, false))) := by kernel_rfl
theorem ty_fld25_2 : fldOf Tryz.prog 25 2 = some ((2, (1, false))) := by kernel_rfl
theorem ty_fld25_3 : fldOf Tryz.prog 25 3 = some ((3, (1, false))) := by kernel_rfl
theorem ty_size28 : tySize Tryz.prog 28 = some (1) := by kernel_rfl
theorem ty_agg28 : tyAgg Tryz.prog 28 = some (false) := by kernel_rfl
theorem ty_zero28 : tyZero Tryz.prog 28 = some ([(AC.p (PV.v (Value.int IntKind.i64 0)))]) := by kernel_rfl
theorem ty_elem41 : sliceElem Tryz.prog 41 = some (52) := by kernel_rfl
theorem ty_size43 : tySize Tryz.prog 43 = some (1) := by kernel_rfl
theorem ty_agg43 : tyAgg Tryz.prog 43 = some (false) := by kernel_rfl
theorem ty_elem43 : sliceElem Tryz.prog 43 = some (23) := by kernel_rfl
theorem ty_size45 : tySize Tryz.prog 45 = some (2) := by kernel_rfl
theorem ty_agg45 : tyAgg Tryz.prog 45 = some (true) := by kernel_rfl
theorem ty_allsz45 : allSz Tryz.prog 45 = true := by kernel_rfl
theorem ty_noarr45 : arrElem Tryz.prog 45 = none := by kernel_rfl
theorem ty_zero45 : tyZero Tryz.prog 45 = some ([(AC.p (PV.v (Value.int IntKind.i64 0))), (AC.p (PV.v (Value.int IntKind.i64 0)))]) := by kernel_rfl
theorem ty_fld45_0 : fldOf Tryz.prog 45 0 = some ((0, (1, false))) := by kernel_rfl
theorem ty_fld45_1 : fldOf Tryz.prog 45 1 = some ((1, (1, false))) := by kernel_rfl
theorem ty_size46 : tySize Tryz.prog 46 = some (6) := by kernel_rfl
theorem ty_agg46 : tyAgg Tryz.prog 46 = some (true) := by kernel_rfl
theorem ty_elem46 : sliceElem Tryz.prog 46 = none := by kernel_rfl
theorem ty_arr46 : arrElem Tryz.prog 46 = some ((3, 45)) := by kernel_rfl
theorem ty_zero46 : tyZero Tryz.prog 46 = some ([(AC.p (PV.v (Value.int IntKind.i64 0))), (AC.p (PV.v (Value.int IntKind.i64 0))), (AC.p (PV.v (Value.int IntKind.i64 0))), (AC.p (PV.v (Value.int IntKind.i64 0))), (AC.p (PV.v (Value.int IntKind.i64 0))), (AC.p (PV.v (Value.int IntKind.i64 0)))]) := by kernel_rfl
theorem ty_size47 : tySize Tryz.prog 47 = some (1) := by kernel_rfl
theorem ty_agg47 : tyAgg Tryz.prog 47 = some (false) := by kernel_rfl
theorem ty_elem47 : sliceElem Tryz.prog 47 = some (54) := by kernel_rfl
theorem ty_size48 : tySize Tryz.prog 48 = some (1) := by kernel_rfl
theorem ty_agg48 : tyAgg Tryz.prog 48 = some (false) := by kernel_rfl
theorem ty_elem48 : sliceElem Tryz.prog 48 = some (120) := by kernel_rfl
theorem ty_size50 : tySize Tryz.prog 50 = some (9) := by kernel_rfl
theorem ty_agg50 : tyAgg Tryz.prog 50 = some (true) := by kernel_rfl
theorem ty_bytes50 : tyBytes Tryz.prog 50 = some (120) := by kernel_rfl
theorem ty_allsz50 : allSz Tryz.prog 50 = true := by kernel_rfl
theorem ty_noarr50 : arrElem Tryz.prog 50 = none := by kernel_rfl
theorem ty_zero50 : tyZero Tryz.prog 50 = some ([(AC.p (PV.v (Value.int IntKind.i64 0))), (AC.p (PV.v (Value.int IntKind.i64 0))), (AC.p (PV.v (Value.int IntKind.i64 0))), (AC.p (PV.v (Value.int IntKind.i64 0))), (AC.p (PV.v (Value.int IntKind.i64 0))), (AC.p (PV.v (Value.int IntKind.i64 0))), AC.nil, AC.nil, AC.nil]) := by kernel_rfl
theorem ty_fld50_0 : fldOf Tryz.prog 50 0 = some ((0, (6, true))) := by kernel_rfl
theorem ty_fld50_1 : fldOf Tryz.prog 50 1 = some ((6, (1, false))) := by kernel_rfl
theorem ty_fld50_2 : fldOf Tryz.prog 50 2 = some ((7, (1, false))) := by kernel_rfl
theorem ty_fld50_3 : fldOf Tryz.prog 50 3 = some ((8, (1, false))) := by kernel_rfl
theorem ty_size51 : tySize Tryz.prog 51 = some (3) := by kernel_rfl
theorem ty_agg51 : tyAgg Tryz.prog 51 = some (true) := by kernel_rfl
theorem ty_elem51 : sliceElem Tryz.prog 51 = none := by kernel_rfl
theorem ty_arr51 : arrElem Tryz.prog 51 = some ((3, 3)) := by kernel_rfl
theorem ty_zero51 : tyZero Tryz.prog 51 = some ([(AC.p (PV.v (Value.int IntKind.i64 0))), (AC.p (PV.v (Value.int IntKind.i64 0))), (AC.p (PV.v (Value.int IntKind.i64 0)))]) := by kernel_rfl
theorem ty_size52 : tySize Tryz.prog 52 = some (1) := by kernel_rfl
theorem ty_agg52 : tyAgg Tryz.prog 52 = some (false) := by kernel_rfl
theorem ty_size54 : tySize Tryz.prog 54 = some (2) := by kernel_rfl
theorem ty_agg54 : tyAgg Tryz.prog 54 = some (true) := by kernel_rfl
theorem ty_allsz54 : allSz Tryz.prog 54 = true := by kernel_rfl
theorem ty_noarr54 : arrElem Tryz.prog 54 = none := by kernel_rfl
theorem ty_zero54 : tyZero Tryz.prog 54 = some ([(AC.p (PV.v (Value.int IntKind.i64 0))), (AC.p (PV.v (Value.int IntKind.i64 0)))]) := by kernel_rfl
theorem ty_fld54_0 : fldOf Tryz.prog 54 0 = some ((0, (1, false))) := by kernel_rfl
theorem ty_fld54_1 : fldOf Tryz.prog 54 1 = some ((1, (1, false))) := by kernel_rfl
theorem ty_size69 : tySize Tryz.prog 69 = some (1) := by kernel_rfl
theorem ty_agg69 : tyAgg Tryz.prog 69 = some (false) := by kernel_rfl
theorem ty_zero69 : tyZero Tryz.prog 69 = some ([(AC.p (PV.v (Value.pointer none)))]) := by kernel_rfl
theorem ty_size71 : tySize Tryz.prog 71 = some (1) := by kernel_rfl
theorem ty_agg71 : tyAgg Tryz.prog 71 = some (false) := by kernel_rfl
theorem ty_size73 : tySize Tryz.prog 73 = some (1) := by kernel_rfl
theorem ty_agg73 : tyAgg Tryz.prog 73 = some (false) := by kernel_rfl
theorem ty_allsz75 : allSz Tryz.prog 75 = true := by kernel_rfl
theorem ty_noarr75 : arrElem Tryz.prog 75 = none := by kernel_rfl
theorem ty_zero75 : tyZero Tryz.prog 75 = some ([AC.nil, AC.nil, (AC.p (PV.v (Value.int IntKind.i64 0))), (AC.p (PV.v (Value.int IntKind.i64 0))), AC.nil, (AC.p (PV.v (Value.map none)))]) := by kernel_rfl
theorem ty_fld75_0 : fldOf Tryz.prog 75 0 = some ((0, (4, true))) := by kernel_rfl
theorem ty_fld75_1 : fldOf Tryz.prog 75 1 = some ((4, (1, false))) := by kernel_rfl
theorem ty_fld75_2 : fldOf Tryz.prog 75 2 = some ((5, (1, false))) := by kernel_rfl
theorem ty_size84 : tySize Tryz.prog 84 = some (1) := by kernel_rfl
theorem ty_agg84 : tyAgg Tryz.prog 84 = some (false) := by kernel_rfl
theorem ty_elem84 : sliceElem Tryz.prog 84 = some (3) := by kernel_rfl
theorem ty_zero84 : tyZero Tryz.prog 84 = some ([AC.nil]) := by kernel_rfl
theorem ty_size94 : tySize Tryz.prog 94 = some (2) := by kernel_rfl
theorem ty_agg94 : tyAgg Tryz.prog 94 = some (true) := by kernel_rfl
theorem ty_bytes94 : tyBytes Tryz.prog 94 = some (16) := by kernel_rfl
theorem ty_allsz94 : allSz Tryz.prog 94 = true := by kernel_rfl
theorem ty_noarr94 : arrElem Tryz.prog 94 = none := by kernel_rfl
theorem ty_zero94 : tyZero Tryz.prog 94 = some ([(AC.p (PV.v (Value.int IntKind.i64 0))), (AC.p (PV.v (Value.int IntKind.i64 0)))]) := by kernel_rfl
theorem ty_fld94_0 : fldOf Tryz.prog 94 0 = some ((0, (1, false))) := by kernel_rfl
theorem ty_fld94_1 : fldOf Tryz.prog 94 1 = some ((1, (1, false))) := by kernel_rfl
theorem ty_size96 : tySize Tryz.prog 96 = some (1) := by kernel_rfl
theorem ty_agg96 : tyAgg Tryz.prog 96 = some (false) := by kernel_rfl
theorem ty_size106 : tySize Tryz.prog 106 = some (1) := by kernel_rfl
theorem ty_agg106 : tyAgg Tryz.prog 106 = some (true) := by kernel_rfl
theorem ty_allsz106 : allSz Tryz.prog 106 = true := by kernel_rfl
theorem ty_noarr106 : arrElem Tryz.prog 106 = none := by kernel_rfl
theorem ty_zero106 : tyZero Tryz.prog 106 = some ([(AC.p (PV.v (Value.int IntKind.i64 0)))]) := by kernel_rfl
theorem ty_fld106_0 : fldOf Tryz.prog 106 0 = some ((0, (1, false))) := by kernel_rfl
theorem ty_allsz108 : allSz Tryz.prog 108 = true := by kernel_rfl
theorem ty_noarr108 : arrElem Tryz.prog 108 = none := by kernel_rfl
theorem ty_zero108 : tyZero Tryz.prog 108 = some ([(AC.p (PV.v Value.nilFunc))]) := by kernel_rfl
theorem ty_fld108_0 : fldOf Tryz.prog 108 0 = some ((0, (1, false))) := by kernel_rfl
theorem ty_allsz110 : allSz Tryz.prog 110 = true := by kernel_rfl
theorem ty_noarr110 : arrElem Tryz.prog 110 = none := by kernel_rfl
theorem ty_zero110 : tyZero Tryz.prog 110 = some ([(AC.p (PV.v (Value.int IntKind.i64 0))), (AC.p (PV.v (Value.int IntKind.i64 0)))]) := by kernel_rfl
theorem ty_fld110_0 : fldOf Tryz.prog 110 0 = some ((0, (1, true))) := by kernel_rfl
theorem ty_fld110_1 : fldOf Tryz.prog 110 1 = some ((1, (1, false))) := by kernel_rfl
theorem ty_size120 : tySize Tryz.prog 120 = some (3) := by kernel_rfl
theorem ty_fld120_0 : fldOf Tryz.prog 120 0 = some ((0, (1, false))) := by kernel_rfl
theorem ty_fld120_1 : fldOf Tryz.prog 120 1 = some ((1, (2, true))) := by kernel_rfl
theorem ty_size130 : tySize Tryz.prog 130 = some (2) := by kernel_rfl
theorem ty_agg130 : tyAgg Tryz.prog 130 = some (true) := by kernel_rfl
theorem ty_zero130 : tyZero Tryz.prog 130 = some ([AC.nil, AC.nil]) := by kernel_rfl
theorem ty_fld130_0 : fldOf Tryz.prog 130 0 = some ((0, (1, false))) := by kernel_rfl
theorem ty_fld130_1 : fldOf Tryz.prog 130 1 = some ((1, (1, false))) := by kernel_rfl
theorem ty_elem135 : sliceElem Tryz.prog 135 = some (94) := by kernel_rfl
theorem ty_elem172 : sliceElem Tryz.prog 172 = some (84) := by kernel_rfl
theorem ty_size207 : tySize Tryz.prog 207 = some (1) := by kernel_rfl
theorem ty_agg207 : tyAgg Tryz.prog 207 = some (false) := by kernel_rfl
theorem ty_zero207 : tyZero Tryz.prog 207 = some ([(AC.p (PV.v (Value.int IntKind.u64 0)))]) := by kernel_rfl
attribute [go_sem] ty_size3 ty_agg3 ty_bytes3 ty_zero3 ty_size22 ty_agg22 ty_elem22 ty_size23 ty_agg23 ty_bytes23 ty_elem23 ty_zero23 ty_size25 ty_agg25 ty_allsz25 ty_noarr25 ty_zero25 ty_fld25_0 ty_fld25_1 ty_fld25_2 ty_fld25_3 ty_size28 ty_agg28 ty_zero28 ty_elem41 ty_size43 ty_agg43 ty_elem43 ty_size45 ty_agg45 ty_allsz45 ty_noarr45 ty_zero45 ty_fld45_0 ty_fld45_1 ty_size46 ty_agg46 ty_elem46 ty_arr46 ty_zero46 ty_size47 ty_agg47 ty_elem47 ty_size48 ty_agg48 ty_elem48 ty_size50 ty_agg50 ty_bytes50 ty_allsz50 ty_noarr50 ty_zero50 ty_fld50_0 ty_fld50_1 ty_fld50_2 ty_fld50_3 ty_size51 ty_agg51 ty_elem51 ty_arr51 ty_zero51 ty_size52 ty_agg52 ty_size54 ty_agg54 ty_allsz54 ty_noarr54 ty_zero54 ty_fld54_0 ty_fld54_1 ty_size69 ty_agg69 ty_zero69 ty_size71 ty_agg71 ty_size73 ty_agg73 ty_allsz75 ty_noarr75 ty_zero75 ty_fld75_0 ty_fld75_1 ty_fld75_2 ty_size84 ty_agg84 ty_elem84 ty_zero84 ty_size94 ty_agg94 ty_bytes94 ty_allsz94 ty_noarr94 ty_zero94 ty_fld94_0 ty_fld94_1 ty_size96 ty_agg96 ty_size106 ty_agg106 ty_allsz106 ty_noarr106 ty_zero106 ty_fld106_0 ty_allsz108 ty_noarr108 ty_zero108 ty_fld108_0 ty_allsz110 ty_noarr110 ty_zero110 ty_fld110_0 ty_fld110_1 ty_size120 ty_fld120_0 ty_fld120_1 ty_size130 ty_agg130 ty_zero130 ty_fld130_0 ty_fld130_1 ty_elem135 ty_elem172 ty_size207 ty_agg207 ty_zero207
attribute [go_sem] evOps_nil evOps_cons evDraw_nil evDraw_cons callNow isCallOp wantB stepOK stepSt stepWr afterA offA fitA fillOK fillT fillA_eq mapO Bool.and_true Bool.true_and Bool.and_false Bool.false_and Option.isSome_some Option.isSome_none Option.getD_some idsA Op.operands Call.operands wantedA dstOK opA evalA constA zeroAC AL.get_nil AL.get_eq AL.get_ne AL.set St.put St.upd cellsA plainOf plainC rowAtA loadA shiftA unshA fieldAddrA fieldA intOfA indexAddrA indexA lenA avR extractA spl storeA partsA buildA chunk toPV buildSliceA rowsOfA appendA capA nilCheckA plainsA plain1 cap1 part1 arg1 refs1 pvA rvA avRR fnA thenA blockA callPre Nat.zero_ne_one Nat.one_ne_zero true_and and_true Nat.lt_irrefl Nat.zero_add Nat.add_zero ne_eq not_false_eq_true not_true_eq_false Nat.le_refl decide_eq_true_eq Option.bind_some Option.bind_none Option.map_some Option.map_none Value.oneCell' if_true if_false Bool.false_eq_true decide_true decide_false List.getElem?_toArray List.getElem?_cons_zero List.getElem?_cons_succ List.take_succ_cons List.take_zero List.drop_succ_cons List.drop_zero List.drop_nil List.take_nil List.map_cons List.map_nil List.length_cons List.length_nil mapM_eq Option.pure_def Option.bind_eq_bind List.nil_append List.cons_append List.append_nil List.toList_toArray refsV refsC refsCC List.flatMap_cons List.flatMap_nil Array.toList_append List.append_toArray beq_self_eq_true if_pos_d if_neg_d dec_t dec_f get_some1 get_some2 get_some3 row1 row2 row3 List.getElem?_map Bool.not_true Bool.not_false bool_beq_true bool_beq_false bin_add bin_sub bin_mul bin_eql bin_neq bin_lss bin_leq bin_gtr bin_geq un_not un_neg min_two max_two max_three wrap_id Int.toNat_natCast List.length_map zeros_nil zeros_succ initV capV resV resV1 bne_self_eq_false Bool.or_false Bool.or_true Bool.false_or Bool.true_or restrict takeAL allRefs refsO List.all_cons List.all_nil Bool.and_self List.contains_cons List.contains_nil keep reachL slotRefs there keys ov ovL Option.getD_none acP cellPV datC dat1 Kx.callee Kx.calleeT Kx.iter Kx.round setPs looksH
attribute [go_sem] Nat.reduceLT Nat.reduceLeDiff Nat.reduceEqDiff Nat.reduceAdd Nat.reduceSub Nat.reduceMul Nat.reduceBEq reduceCtorEq Int.reduceToNat Int.reduceAdd Int.reduceSub Int.reduceMul Int.reduceLT Int.reduceLE Int.reduceNeg Int.reduceBEq Int.reduceBNe
end Go.Proofs.YthedkfiebmnghaaGreat
