/- Facts on the types of the translation, for the logic Pv. -/
import Derived.Test.YtgdhdikeicgndaaKpv2
import Derived.Test.YtgdhdikeicgndaaProg
import Derived.KernelRfl
namespace Go.Proofs.Ytgdhdikeicgndaa
open Go Go.Pv
theorem ty_size0 : tySize Try.prog 0 = some (1) := by kernel_rfl
theorem ty_agg0 : tyAgg Try.prog 0 = some (false) := by kernel_rfl
theorem ty_bytes0 : tyBytes Try.prog 0 = some (0) := by kernel_rfl
theorem ty_size1 : tySize Try.prog 1 = some (1) := by kernel_rfl
theorem ty_agg1 : tyAgg Try.prog 1 = some (false) := by kernel_rfl
theorem ty_bytes1 : tyBytes Try.prog 1 = some (8) := by kernel_rfl
theorem ty_zero1 : tyZero Try.prog 1 = some ([(AC.p (PV.v Value.nilFunc))]) := by kernel_rfl
theorem ty_size2 : tySize Try.prog 2 = some (1) := by kernel_rfl
theorem ty_agg2 : tyAgg Try.prog 2 = some (false) := by kernel_rfl
theorem ty_bytes2 : tyBytes Try.prog 2 = some (8) := by kernel_rfl
theorem ty_zero2 : tyZero Try.prog 2 = some ([(AC.p (PV.v (Value.int IntKind.i64 0)))]) := by kernel_rfl
theorem ty_size3 : tySize Try.prog 3 = some (1) := by kernel_rfl
theorem ty_agg3 : tyAgg Try.prog 3 = some (false) := by kernel_rfl
theorem ty_bytes3 : tyBytes Try.prog 3 = some (8) := by kernel_rfl
theorem ty_zero3 : tyZero Try.prog 3 = some ([(AC.p (PV.v (Value.int IntKind.i64 0)))]) := by kernel_rfl
theorem ty_size4 : tySize Try.prog 4 = some (1) := by kernel_rfl
theorem ty_agg4 : tyAgg Try.prog 4 = some (false) := by kernel_rfl
theorem ty_bytes4 : tyBytes Try.prog 4 = some (1) := by kernel_rfl
theorem ty_zero4 : tyZero Try.prog 4 = some ([(AC.p (PV.v (Value.bool false)))]) := by kernel_rfl
theorem ty_size5 : tySize Try.prog 5 = some (1) := by kernel_rfl
theorem ty_agg5 : tyAgg Try.prog 5 = some (false) := by kernel_rfl
theorem ty_bytes5 : tyBytes Try.prog 5 = some (1) := by kernel_rfl
theorem ty_zero5 : tyZero Try.prog 5 = some ([(AC.p (PV.v (Value.int IntKind.u8 0)))]) := by kernel_rfl
theorem ty_size6 : tySize Try.prog 6 = some (1) := by kernel_rfl
theorem ty_agg6 : tyAgg Try.prog 6 = some (false) := by kernel_rfl
theorem ty_bytes6 : tyBytes Try.prog 6 = some (1) := by kernel_rfl
theorem ty_zero6 : tyZero Try.prog 6 = some ([(AC.p (PV.v (Value.int IntKind.u8 0)))]) := by kernel_rfl
theorem ty_size7 : tySize Try.prog 7 = some (4) := by kernel_rfl
theorem ty_agg7 : tyAgg Try.prog 7 = some (true) := by kernel_rfl
theorem ty_bytes7 : tyBytes Try.prog 7 = some (24) := by kernel_rfl
theorem ty_allsz7 : allSz Try.prog 7 = true := by kernel_rfl
theorem ty_noarr7 : arrElem Try.prog 7 = none := by kernel_rfl
theorem ty_zero7 : tyZero Try.prog 7 = some ([(AC.p (PV.v (Value.int IntKind.i64 0))), (AC.p (PV.v (Value.int IntKind.i64 0))), (AC.p (PV.v (Value.bool false))), (AC.p (PV.v (Value.int IntKind.u8 0)))]) := by kernel_rfl
theorem ty_fld7_0 : fldOf Try.prog 7 0 = some ((0, (1, false))) := by kernel_rfl
theorem ty_fld7_1 : fldOf Try.prog 7 1 = some ((1, (1, false))) := by kernel_rfl
theorem ty_fld7_2 : fldOf Try.prog 7 2 = some ((2, (1, false))) := by kernel_rfl
theorem ty_fld7_3 : fldOf Try.prog 7 3 = some ((3, (1, false))) := by kernel_rfl
theorem ty_size8 : tySize Try.prog 8 = some (4) := by kernel_rfl
theorem ty_agg8 : tyAgg Try.prog 8 = some (true) := by kernel_rfl
theorem ty_bytes8 : tyBytes Try.prog 8 = some (24) := by kernel_rfl
theorem ty_allsz8 : allSz Try.prog 8 = true := by kernel_rfl
theorem ty_noarr8 : arrElem Try.prog 8 = none := by kernel_rfl
theorem ty_zero8 : tyZero Try.prog 8 = some ([(AC.p (PV.v (Value.int IntKind.i64 0))), (AC.p (PV.v (Value.int IntKind.i64 0))), (AC.p (PV.v (Value.bool false))), (AC.p (PV.v (Value.int IntKind.u8 0)))]) := by kernel_rfl
theorem ty_fld8_0 : fldOf Try.prog 8 0 = some ((0, (1, false))) := by kernel_rfl
theorem ty_fld8_1 : fldOf Try.prog 8 1 = some ((1, (1, false))) := by kernel_rfl
theorem ty_fld8_2 : fldOf Try.prog 8 2 = some ((2, (1, false))) := by kernel_rfl
theorem ty_fld8_3 : fldOf Try.prog 8 3 = some ((3, (1, false))) := by kernel_rfl
theorem ty_size9 : tySize Try.prog 9 = some (1) := by kernel_rfl
theorem ty_agg9 : tyAgg Try.prog 9 = some (false) := by kernel_rfl
theorem ty_bytes9 : tyBytes Try.prog 9 = some (16) := by kernel_rfl
theorem ty_size10 : tySize Try.prog 10 = some (1) := by kernel_rfl
theorem ty_agg10 : tyAgg Try.prog 10 = some (false) := by kernel_rfl
theorem ty_bytes10 : tyBytes Try.prog 10 = some (16) := by kernel_rfl
theorem ty_size11 : tySize Try.prog 11 = some (1) := by kernel_rfl
theorem ty_agg11 : tyAgg Try.prog 11 = some (false) := by kernel_rfl
theorem ty_bytes11 : tyBytes Try.prog 11 = some (16) := by kernel_rfl
theorem ty_size12 : tySize Try.prog 12 = some (1) := by kernel_rfl
theorem ty_agg12 : tyAgg Try.prog 12 = some (false) := by kernel_rfl
theorem ty_bytes12 : tyBytes Try.prog 12 = some (8) := by kernel_rfl
theorem ty_zero12 : tyZero Try.prog 12 = some ([(AC.p (PV.v (Value.int IntKind.u64 0)))]) := by kernel_rfl
theorem ty_size13 : tySize Try.prog 13 = some (2) := by kernel_rfl
theorem ty_agg13 : tyAgg Try.prog 13 = some (true) := by kernel_rfl
theorem ty_bytes13 : tyBytes Try.prog 13 = some (24) := by kernel_rfl
theorem ty_allsz13 : allSz Try.prog 13 = true := by kernel_rfl
theorem ty_noarr13 : arrElem Try.prog 13 = none := by kernel_rfl
theorem ty_fld13_0 : fldOf Try.prog 13 0 = some ((0, (1, false))) := by kernel_rfl
theorem ty_fld13_1 : fldOf Try.prog 13 1 = some ((1, (1, false))) := by kernel_rfl
theorem ty_size14 : tySize Try.prog 14 = some (2) := by kernel_rfl
theorem ty_agg14 : tyAgg Try.prog 14 = some (true) := by kernel_rfl
theorem ty_bytes14 : tyBytes Try.prog 14 = some (24) := by kernel_rfl
theorem ty_allsz14 : allSz Try.prog 14 = true := by kernel_rfl
theorem ty_noarr14 : arrElem Try.prog 14 = none := by kernel_rfl
theorem ty_fld14_0 : fldOf Try.prog 14 0 = some ((0, (1, false))) := by kernel_rfl
theorem ty_fld14_1 : fldOf Try.prog 14 1 = some ((1, (1, false))) := by kernel_rfl
theorem ty_size15 : tySize Try.prog 15 = some (1) := by kernel_rfl
theorem ty_agg15 : tyAgg Try.prog 15 = some (false) := by kernel_rfl
theorem ty_bytes15 : tyBytes Try.prog 15 = some (8) := by kernel_rfl
theorem ty_zero15 : tyZero Try.prog 15 = some ([(AC.p (PV.v (Value.pointer none)))]) := by kernel_rfl
theorem ty_size16 : tySize Try.prog 16 = some (1) := by kernel_rfl
theorem ty_agg16 : tyAgg Try.prog 16 = some (false) := by kernel_rfl
theorem ty_bytes16 : tyBytes Try.prog 16 = some (8) := by kernel_rfl
theorem ty_zero16 : tyZero Try.prog 16 = some ([(AC.p (PV.v (Value.pointer none)))]) := by kernel_rfl
theorem ty_size17 : tySize Try.prog 17 = some (1) := by kernel_rfl
theorem ty_agg17 : tyAgg Try.prog 17 = some (false) := by kernel_rfl
theorem ty_bytes17 : tyBytes Try.prog 17 = some (8) := by kernel_rfl
theorem ty_zero17 : tyZero Try.prog 17 = some ([(AC.p (PV.v (Value.pointer none)))]) := by kernel_rfl
theorem ty_size18 : tySize Try.prog 18 = some (1) := by kernel_rfl
theorem ty_agg18 : tyAgg Try.prog 18 = some (true) := by kernel_rfl
theorem ty_bytes18 : tyBytes Try.prog 18 = some (8) := by kernel_rfl
theorem ty_allsz18 : allSz Try.prog 18 = true := by kernel_rfl
theorem ty_noarr18 : arrElem Try.prog 18 = none := by kernel_rfl
theorem ty_zero18 : tyZero Try.prog 18 = some ([(AC.p (PV.v (Value.pointer none)))]) := by kernel_rfl
theorem ty_fld18_0 : fldOf Try.prog 18 0 = some ((0, (1, false))) := by kernel_rfl
theorem ty_size19 : tySize Try.prog 19 = some (1) := by kernel_rfl
theorem ty_agg19 : tyAgg Try.prog 19 = some (true) := by kernel_rfl
theorem ty_bytes19 : tyBytes Try.prog 19 = some (8) := by kernel_rfl
theorem ty_allsz19 : allSz Try.prog 19 = true := by kernel_rfl
theorem ty_noarr19 : arrElem Try.prog 19 = none := by kernel_rfl
theorem ty_zero19 : tyZero Try.prog 19 = some ([(AC.p (PV.v (Value.pointer none)))]) := by kernel_rfl
theorem ty_fld19_0 : fldOf Try.prog 19 0 = some ((0, (1, false))) := by kernel_rfl
theorem ty_size20 : tySize Try.prog 20 = some (1) := by kernel_rfl
theorem ty_agg20 : tyAgg Try.prog 20 = some (false) := by kernel_rfl
theorem ty_bytes20 : tyBytes Try.prog 20 = some (16) := by kernel_rfl
theorem ty_zero20 : tyZero Try.prog 20 = some ([(AC.p (PV.v Value.nilIface))]) := by kernel_rfl
theorem ty_size21 : tySize Try.prog 21 = some (1) := by kernel_rfl
theorem ty_agg21 : tyAgg Try.prog 21 = some (false) := by kernel_rfl
theorem ty_bytes21 : tyBytes Try.prog 21 = some (4) := by kernel_rfl
theorem ty_zero21 : tyZero Try.prog 21 = some ([(AC.p (PV.v (Value.int IntKind.i32 0)))]) := by kernel_rfl
theorem ty_size22 : tySize Try.prog 22 = some (1) := by kernel_rfl
theorem ty_agg22 : tyAgg Try.prog 22 = some (false) := by kernel_rfl
theorem ty_bytes22 : tyBytes Try.prog 22 = some (24) := by kernel_rfl
theorem ty_elem22 : sliceElem Try.prog 22 = some (44) := by kernel_rfl
theorem ty_zero22 : tyZero Try.prog 22 = some ([AC.nil]) := by kernel_rfl
theorem ty_size23 : tySize Try.prog 23 = some (4) := by kernel_rfl
theorem ty_agg23 : tyAgg Try.prog 23 = some (true) := by kernel_rfl
theorem ty_bytes23 : tyBytes Try.prog 23 = some (48) := by kernel_rfl
theorem ty_allsz23 : allSz Try.prog 23 = true := by kernel_rfl
theorem ty_noarr23 : arrElem Try.prog 23 = none := by kernel_rfl
theorem ty_zero23 : tyZero Try.prog 23 = some ([AC.nil, (AC.p (PV.v (Value.int IntKind.i64 0))), (AC.p (PV.v (Value.int IntKind.i64 0))), (AC.p (PV.v (Value.int IntKind.i64 0)))]) := by kernel_rfl
theorem ty_fld23_0 : fldOf Try.prog 23 0 = some ((0, (1, false))) := by kernel_rfl
theorem ty_fld23_1 : fldOf Try.prog 23 1 = some ((1, (1, false))) := by kernel_rfl
theorem ty_fld23_2 : fldOf Try.prog 23 2 = some ((2, (1, false))) := by kernel_rfl
theorem ty_fld23_3 : fldOf Try.prog 23 3 = some ((3, (1, false))) := by kernel_rfl
theorem ty_size24 : tySize Try.prog 24 = some (4) := by kernel_rfl
theorem ty_agg24 : tyAgg Try.prog 24 = some (true) := by kernel_rfl
theorem ty_bytes24 : tyBytes Try.prog 24 = some (48) := by kernel_rfl
theorem ty_allsz24 : allSz Try.prog 24 = true := by kernel_rfl
theorem ty_noarr24 : arrElem Try.prog 24 = none := by kernel_rfl
theorem ty_zero24 : tyZero Try.prog 24 = some ([AC.nil, (AC.p (PV.v (Value.int IntKind.i64 0))), (AC.p (PV.v (Value.int IntKind.i64 0))), (AC.p (PV.v (Value.int IntKind.i64 0)))]) := by kernel_rfl
theorem ty_fld24_0 : fldOf Try.prog 24 0 = some ((0, (1, false))) := by kernel_rfl
theorem ty_fld24_1 : fldOf Try.prog 24 1 = some ((1, (1, false))) := by kernel_rfl
theorem ty_fld24_2 : fldOf Try.prog 24 2 = some ((2, (1, false))) := by kernel_rfl
theorem ty_fld24_3 : fldOf Try.prog 24 3 = some ((3, (1, false))) := by kernel_rfl
theorem ty_size25 : tySize Try.prog 25 = some (1) := by kernel_rfl
theorem ty_agg25 : tyAgg Try.prog 25 = some (false) := by kernel_rfl
theorem ty_bytes25 : tyBytes Try.prog 25 = some (8) := by kernel_rfl
theorem ty_zero25 : tyZero Try.prog 25 = some ([(AC.p (PV.v Value.nilFunc))]) := by kernel_rfl
theorem ty_size26 : tySize Try.prog 26 = some (1) := by kernel_rfl
theorem ty_agg26 : tyAgg Try.prog 26 = some (false) := by kernel_rfl
theorem ty_bytes26 : tyBytes Try.prog 26 = some (8) := by kernel_rfl
theorem ty_zero26 : tyZero Try.prog 26 = some ([(AC.p (PV.v Value.nilFunc))]) := by kernel_rfl
theorem ty_size27 : tySize Try.prog 27 = some (2) := by kernel_rfl
theorem ty_agg27 : tyAgg Try.prog 27 = some (true) := by kernel_rfl
theorem ty_bytes27 : tyBytes Try.prog 27 = some (16) := by kernel_rfl
theorem ty_allsz27 : allSz Try.prog 27 = true := by kernel_rfl
theorem ty_noarr27 : arrElem Try.prog 27 = none := by kernel_rfl
theorem ty_zero27 : tyZero Try.prog 27 = some ([(AC.p (PV.v (Value.int IntKind.i64 0))), (AC.p (PV.v (Value.int IntKind.i64 0)))]) := by kernel_rfl
theorem ty_fld27_0 : fldOf Try.prog 27 0 = some ((0, (1, false))) := by kernel_rfl
theorem ty_fld27_1 : fldOf Try.prog 27 1 = some ((1, (1, false))) := by kernel_rfl
theorem ty_size28 : tySize Try.prog 28 = some (2) := by kernel_rfl
theorem ty_agg28 : tyAgg Try.prog 28 = some (true) := by kernel_rfl
theorem ty_bytes28 : tyBytes Try.prog 28 = some (16) := by kernel_rfl
theorem ty_allsz28 : allSz Try.prog 28 = true := by kernel_rfl
theorem ty_noarr28 : arrElem Try.prog 28 = none := by kernel_rfl
theorem ty_zero28 : tyZero Try.prog 28 = some ([(AC.p (PV.v (Value.int IntKind.i64 0))), (AC.p (PV.v (Value.int IntKind.i64 0)))]) := by kernel_rfl
theorem ty_fld28_0 : fldOf Try.prog 28 0 = some ((0, (1, false))) := by kernel_rfl
theorem ty_fld28_1 : fldOf Try.prog 28 1 = some ((1, (1, false))) := by kernel_rfl
theorem ty_size29 : tySize Try.prog 29 = some (1) := by kernel_rfl
theorem ty_agg29 : tyAgg Try.prog 29 = some (false) := by kernel_rfl
theorem ty_bytes29 : tyBytes Try.prog 29 = some (8) := by kernel_rfl
theorem ty_zero29 : tyZero Try.prog 29 = some ([(AC.p (PV.v (Value.int IntKind.i64 0)))]) := by kernel_rfl
theorem ty_size30 : tySize Try.prog 30 = some (1) := by kernel_rfl
theorem ty_agg30 : tyAgg Try.prog 30 = some (false) := by kernel_rfl
theorem ty_bytes30 : tyBytes Try.prog 30 = some (0) := by kernel_rfl
theorem ty_size31 : tySize Try.prog 31 = some (1) := by kernel_rfl
theorem ty_agg31 : tyAgg Try.prog 31 = some (false) := by kernel_rfl
theorem ty_bytes31 : tyBytes Try.prog 31 = some (8) := by kernel_rfl
theorem ty_zero31 : tyZero Try.prog 31 = some ([(AC.p (PV.v Value.nilFunc))]) := by kernel_rfl
theorem ty_size32 : tySize Try.prog 32 = some (1) := by kernel_rfl
theorem ty_agg32 : tyAgg Try.prog 32 = some (false) := by kernel_rfl
theorem ty_bytes32 : tyBytes Try.prog 32 = some (8) := by kernel_rfl
theorem ty_zero32 : tyZero Try.prog 32 = some ([(AC.p (PV.v Value.nilFunc))]) := by kernel_rfl
theorem ty_size33 : tySize Try.prog 33 = some (1) := by kernel_rfl
theorem ty_agg33 : tyAgg Try.prog 33 = some (false) := by kernel_rfl
theorem ty_bytes33 : tyBytes Try.prog 33 = some (0) := by kernel_rfl
theorem ty_size34 : tySize Try.prog 34 = some (1) := by kernel_rfl
theorem ty_agg34 : tyAgg Try.prog 34 = some (false) := by kernel_rfl
theorem ty_bytes34 : tyBytes Try.prog 34 = some (8) := by kernel_rfl
theorem ty_zero34 : tyZero Try.prog 34 = some ([(AC.p (PV.v Value.nilFunc))]) := by kernel_rfl
theorem ty_size35 : tySize Try.prog 35 = some (1) := by kernel_rfl
theorem ty_agg35 : tyAgg Try.prog 35 = some (false) := by kernel_rfl
theorem ty_bytes35 : tyBytes Try.prog 35 = some (8) := by kernel_rfl
theorem ty_zero35 : tyZero Try.prog 35 = some ([(AC.p (PV.v Value.nilFunc))]) := by kernel_rfl
theorem ty_size36 : tySize Try.prog 36 = some (1) := by kernel_rfl
theorem ty_agg36 : tyAgg Try.prog 36 = some (false) := by kernel_rfl
theorem ty_bytes36 : tyBytes Try.prog 36 = some (24) := by kernel_rfl
theorem ty_elem36 : sliceElem Try.prog 36 = some (127) := by kernel_rfl
theorem ty_zero36 : tyZero Try.prog 36 = some ([AC.nil]) := by kernel_rfl
theorem ty_size37 : tySize Try.prog 37 = some (1) := by kernel_rfl
theorem ty_agg37 : tyAgg Try.prog 37 = some (false) := by kernel_rfl
theorem ty_bytes37 : tyBytes Try.prog 37 = some (8) := by kernel_rfl
theorem ty_zero37 : tyZero Try.prog 37 = some ([(AC.p (PV.v Value.nilFunc))]) := by kernel_rfl
theorem ty_size38 : tySize Try.prog 38 = some (1) := by kernel_rfl
theorem ty_agg38 : tyAgg Try.prog 38 = some (false) := by kernel_rfl
theorem ty_bytes38 : tyBytes Try.prog 38 = some (24) := by kernel_rfl
theorem ty_elem38 : sliceElem Try.prog 38 = some (3) := by kernel_rfl
theorem ty_zero38 : tyZero Try.prog 38 = some ([AC.nil]) := by kernel_rfl
theorem ty_size39 : tySize Try.prog 39 = some (1) := by kernel_rfl
theorem ty_agg39 : tyAgg Try.prog 39 = some (false) := by kernel_rfl
theorem ty_bytes39 : tyBytes Try.prog 39 = some (0) := by kernel_rfl
theorem ty_size40 : tySize Try.prog 40 = some (1) := by kernel_rfl
theorem ty_agg40 : tyAgg Try.prog 40 = some (false) := by kernel_rfl
theorem ty_bytes40 : tyBytes Try.prog 40 = some (8) := by kernel_rfl
theorem ty_zero40 : tyZero Try.prog 40 = some ([(AC.p (PV.v Value.nilFunc))]) := by kernel_rfl
theorem ty_size41 : tySize Try.prog 41 = some (1) := by kernel_rfl
theorem ty_agg41 : tyAgg Try.prog 41 = some (false) := by kernel_rfl
theorem ty_bytes41 : tyBytes Try.prog 41 = some (8) := by kernel_rfl
theorem ty_zero41 : tyZero Try.prog 41 = some ([(AC.p (PV.v Value.nilFunc))]) := by kernel_rfl
theorem ty_size42 : tySize Try.prog 42 = some (1) := by kernel_rfl
theorem ty_agg42 : tyAgg Try.prog 42 = some (false) := by kernel_rfl
theorem ty_bytes42 : tyBytes Try.prog 42 = some (8) := by kernel_rfl
theorem ty_zero42 : tyZero Try.prog 42 = some ([(AC.p (PV.v Value.nilFunc))]) := by kernel_rfl
theorem ty_size43 : tySize Try.prog 43 = some (3) := by kernel_rfl
theorem ty_agg43 : tyAgg Try.prog 43 = some (true) := by kernel_rfl
theorem ty_bytes43 : tyBytes Try.prog 43 = some (24) := by kernel_rfl
theorem ty_allsz43 : allSz Try.prog 43 = true := by kernel_rfl
theorem ty_noarr43 : arrElem Try.prog 43 = none := by kernel_rfl
theorem ty_zero43 : tyZero Try.prog 43 = some ([(AC.p (PV.v (Value.int IntKind.i64 0))), (AC.p (PV.v (Value.int IntKind.i64 0))), (AC.p (PV.v (Value.int IntKind.i64 0)))]) := by kernel_rfl
theorem ty_fld43_0 : fldOf Try.prog 43 0 = some ((0, (1, false))) := by kernel_rfl
theorem ty_fld43_1 : fldOf Try.prog 43 1 = some ((1, (1, false))) := by kernel_rfl
theorem ty_fld43_2 : fldOf Try.prog 43 2 = some ((2, (1, false))) := by kernel_rfl
theorem ty_size44 : tySize Try.prog 44 = some (3) := by kernel_rfl
theorem ty_agg44 : tyAgg Try.prog 44 = some (true) := by kernel_rfl
theorem ty_bytes44 : tyBytes Try.prog 44 = some (24) := by kernel_rfl
theorem ty_allsz44 : allSz Try.prog 44 = true := by kernel_rfl
theorem ty_noarr44 : arrElem Try.prog 44 = none := by kernel_rfl
theorem ty_zero44 : tyZero Try.prog 44 = some ([(AC.p (PV.v (Value.int IntKind.i64 0))), (AC.p (PV.v (Value.int IntKind.i64 0))), (AC.p (PV.v (Value.int IntKind.i64 0)))]) := by kernel_rfl
theorem ty_fld44_0 : fldOf Try.prog 44 0 = some ((0, (1, false))) := by kernel_rfl
theorem ty_fld44_1 : fldOf Try.prog 44 1 = some ((1, (1, false))) := by kernel_rfl
theorem ty_fld44_2 : fldOf Try.prog 44 2 = some ((2, (1, false))) := by kernel_rfl
theorem ty_size45 : tySize Try.prog 45 = some (1) := by kernel_rfl
theorem ty_agg45 : tyAgg Try.prog 45 = some (false) := by kernel_rfl
theorem ty_bytes45 : tyBytes Try.prog 45 = some (0) := by kernel_rfl
theorem ty_size46 : tySize Try.prog 46 = some (1) := by kernel_rfl
theorem ty_agg46 : tyAgg Try.prog 46 = some (false) := by kernel_rfl
theorem ty_bytes46 : tyBytes Try.prog 46 = some (8) := by kernel_rfl
theorem ty_zero46 : tyZero Try.prog 46 = some ([(AC.p (PV.v Value.nilFunc))]) := by kernel_rfl
theorem ty_size47 : tySize Try.prog 47 = some (1) := by kernel_rfl
theorem ty_agg47 : tyAgg Try.prog 47 = some (false) := by kernel_rfl
theorem ty_bytes47 : tyBytes Try.prog 47 = some (8) := by kernel_rfl
theorem ty_zero47 : tyZero Try.prog 47 = some ([(AC.p (PV.v Value.nilFunc))]) := by kernel_rfl
theorem ty_size48 : tySize Try.prog 48 = some (1) := by kernel_rfl
theorem ty_agg48 : tyAgg Try.prog 48 = some (false) := by kernel_rfl
theorem ty_bytes48 : tyBytes Try.prog 48 = some (8) := by kernel_rfl
theorem ty_zero48 : tyZero Try.prog 48 = some ([(AC.p (PV.v Value.nilFunc))]) := by kernel_rfl
theorem ty_size49 : tySize Try.prog 49 = some (1) := by kernel_rfl
theorem ty_agg49 : tyAgg Try.prog 49 = some (false) := by kernel_rfl
theorem ty_bytes49 : tyBytes Try.prog 49 = some (8) := by kernel_rfl
theorem ty_zero49 : tyZero Try.prog 49 = some ([(AC.p (PV.v Value.nilFunc))]) := by kernel_rfl
theorem ty_size50 : tySize Try.prog 50 = some (1) := by kernel_rfl
theorem ty_agg50 : tyAgg Try.prog 50 = some (false) := by kernel_rfl
theorem ty_bytes50 : tyBytes Try.prog 50 = some (8) := by kernel_rfl
theorem ty_zero50 : tyZero Try.prog 50 = some ([(AC.p (PV.v Value.nilFunc))]) := by kernel_rfl
theorem ty_size51 : tySize Try.prog 51 = some (1) := by kernel_rfl
theorem ty_agg51 : tyAgg Try.prog 51 = some (false) := by kernel_rfl
theorem ty_bytes51 : tyBytes Try.prog 51 = some (8) := by kernel_rfl
theorem ty_zero51 : tyZero Try.prog 51 = some ([(AC.p (PV.v (Value.pointer none)))]) := by kernel_rfl
theorem ty_size52 : tySize Try.prog 52 = some (1) := by kernel_rfl
theorem ty_agg52 : tyAgg Try.prog 52 = some (false) := by kernel_rfl
theorem ty_bytes52 : tyBytes Try.prog 52 = some (8) := by kernel_rfl
theorem ty_zero52 : tyZero Try.prog 52 = some ([(AC.p (PV.v Value.nilFunc))]) := by kernel_rfl
theorem ty_size53 : tySize Try.prog 53 = some (1) := by kernel_rfl
theorem ty_agg53 : tyAgg Try.prog 53 = some (false) := by kernel_rfl
theorem ty_bytes53 : tyBytes Try.prog 53 = some (24) := by kernel_rfl
theorem ty_elem53 : sliceElem Try.prog 53 = some (24) := by kernel_rfl
theorem ty_zero53 : tyZero Try.prog 53 = some ([AC.nil]) := by kernel_rfl
theorem ty_size54 : tySize Try.prog 54 = some (1) := by kernel_rfl
theorem ty_agg54 : tyAgg Try.prog 54 = some (false) := by kernel_rfl
theorem ty_bytes54 : tyBytes Try.prog 54 = some (8) := by kernel_rfl
theorem ty_zero54 : tyZero Try.prog 54 = some ([(AC.p (PV.v Value.nilFunc))]) := by kernel_rfl
theorem ty_size55 : tySize Try.prog 55 = some (1) := by kernel_rfl
theorem ty_agg55 : tyAgg Try.prog 55 = some (false) := by kernel_rfl
theorem ty_bytes55 : tyBytes Try.prog 55 = some (8) := by kernel_rfl
theorem ty_zero55 : tyZero Try.prog 55 = some ([(AC.p (PV.v Value.nilFunc))]) := by kernel_rfl
theorem ty_size56 : tySize Try.prog 56 = some (1) := by kernel_rfl
theorem ty_agg56 : tyAgg Try.prog 56 = some (false) := by kernel_rfl
theorem ty_bytes56 : tyBytes Try.prog 56 = some (8) := by kernel_rfl
theorem ty_zero56 : tyZero Try.prog 56 = some ([(AC.p (PV.v Value.nilFunc))]) := by kernel_rfl
theorem ty_size57 : tySize Try.prog 57 = some (1) := by kernel_rfl
theorem ty_agg57 : tyAgg Try.prog 57 = some (false) := by kernel_rfl
theorem ty_bytes57 : tyBytes Try.prog 57 = some (8) := by kernel_rfl
theorem ty_zero57 : tyZero Try.prog 57 = some ([(AC.p (PV.v Value.nilFunc))]) := by kernel_rfl
theorem ty_size58 : tySize Try.prog 58 = some (1) := by kernel_rfl
theorem ty_agg58 : tyAgg Try.prog 58 = some (false) := by kernel_rfl
theorem ty_bytes58 : tyBytes Try.prog 58 = some (8) := by kernel_rfl
theorem ty_zero58 : tyZero Try.prog 58 = some ([(AC.p (PV.v (Value.pointer none)))]) := by kernel_rfl
theorem ty_size59 : tySize Try.prog 59 = some (1) := by kernel_rfl
theorem ty_agg59 : tyAgg Try.prog 59 = some (false) := by kernel_rfl
theorem ty_bytes59 : tyBytes Try.prog 59 = some (8) := by kernel_rfl
theorem ty_zero59 : tyZero Try.prog 59 = some ([(AC.p (PV.v (Value.pointer none)))]) := by kernel_rfl
theorem ty_size60 : tySize Try.prog 60 = some (1) := by kernel_rfl
theorem ty_agg60 : tyAgg Try.prog 60 = some (false) := by kernel_rfl
theorem ty_bytes60 : tyBytes Try.prog 60 = some (8) := by kernel_rfl
theorem ty_zero60 : tyZero Try.prog 60 = some ([(AC.p (PV.v Value.nilFunc))]) := by kernel_rfl
theorem ty_size61 : tySize Try.prog 61 = some (1) := by kernel_rfl
theorem ty_agg61 : tyAgg Try.prog 61 = some (false) := by kernel_rfl
theorem ty_bytes61 : tyBytes Try.prog 61 = some (8) := by kernel_rfl
theorem ty_zero61 : tyZero Try.prog 61 = some ([(AC.p (PV.v Value.nilFunc))]) := by kernel_rfl
theorem ty_size62 : tySize Try.prog 62 = some (1) := by kernel_rfl
theorem ty_agg62 : tyAgg Try.prog 62 = some (false) := by kernel_rfl
theorem ty_bytes62 : tyBytes Try.prog 62 = some (8) := by kernel_rfl
theorem ty_zero62 : tyZero Try.prog 62 = some ([(AC.p (PV.v Value.nilFunc))]) := by kernel_rfl
theorem ty_size63 : tySize Try.prog 63 = some (1) := by kernel_rfl
theorem ty_agg63 : tyAgg Try.prog 63 = some (false) := by kernel_rfl
theorem ty_bytes63 : tyBytes Try.prog 63 = some (24) := by kernel_rfl
theorem ty_elem63 : sliceElem Try.prog 63 = some (67) := by kernel_rfl
theorem ty_zero63 : tyZero Try.prog 63 = some ([AC.nil]) := by kernel_rfl
theorem ty_size64 : tySize Try.prog 64 = some (1) := by kernel_rfl
theorem ty_agg64 : tyAgg Try.prog 64 = some (false) := by kernel_rfl
theorem ty_bytes64 : tyBytes Try.prog 64 = some (0) := by kernel_rfl
theorem ty_size65 : tySize Try.prog 65 = some (1) := by kernel_rfl
theorem ty_agg65 : tyAgg Try.prog 65 = some (false) := by kernel_rfl
theorem ty_bytes65 : tyBytes Try.prog 65 = some (8) := by kernel_rfl
theorem ty_zero65 : tyZero Try.prog 65 = some ([(AC.p (PV.v Value.nilFunc))]) := by kernel_rfl
theorem ty_size66 : tySize Try.prog 66 = some (5) := by kernel_rfl
theorem ty_agg66 : tyAgg Try.prog 66 = some (true) := by kernel_rfl
theorem ty_bytes66 : tyBytes Try.prog 66 = some (40) := by kernel_rfl
theorem ty_allsz66 : allSz Try.prog 66 = true := by kernel_rfl
theorem ty_noarr66 : arrElem Try.prog 66 = none := by kernel_rfl
theorem ty_zero66 : tyZero Try.prog 66 = some ([(AC.p (PV.v (Value.int IntKind.i64 0))), (AC.p (PV.v (Value.int IntKind.i64 0))), (AC.p (PV.v (Value.int IntKind.i64 0))), (AC.p (PV.v (Value.bool false))), (AC.p (PV.v (Value.int IntKind.i64 0)))]) := by kernel_rfl
theorem ty_fld66_0 : fldOf Try.prog 66 0 = some ((0, (1, false))) := by kernel_rfl
theorem ty_fld66_1 : fldOf Try.prog 66 1 = some ((1, (1, false))) := by kernel_rfl
theorem ty_fld66_2 : fldOf Try.prog 66 2 = some ((2, (1, false))) := by kernel_rfl
theorem ty_fld66_3 : fldOf Try.prog 66 3 = some ((3, (1, false))) := by kernel_rfl
theorem ty_fld66_4 : fldOf Try.prog 66 4 = some ((4, (1, false))) := by kernel_rfl
theorem ty_size67 : tySize Try.prog 67 = some (5) := by kernel_rfl
theorem ty_agg67 : tyAgg Try.prog 67 = some (true) := by kernel_rfl
theorem ty_bytes67 : tyBytes Try.prog 67 = some (40) := by kernel_rfl
theorem ty_allsz67 : allSz Try.prog 67 = true := by kernel_rfl
theorem ty_noarr67 : arrElem Try.prog 67 = none := by kernel_rfl
theorem ty_zero67 : tyZero Try.prog 67 = some ([(AC.p (PV.v (Value.int IntKind.i64 0))), (AC.p (PV.v (Value.int IntKind.i64 0))), (AC.p (PV.v (Value.int IntKind.i64 0))), (AC.p (PV.v (Value.bool false))), (AC.p (PV.v (Value.int IntKind.i64 0)))]) := by kernel_rfl
theorem ty_fld67_0 : fldOf Try.prog 67 0 = some ((0, (1, false))) := by kernel_rfl
theorem ty_fld67_1 : fldOf Try.prog 67 1 = some ((1, (1, false))) := by kernel_rfl
theorem ty_fld67_2 : fldOf Try.prog 67 2 = some ((2, (1, false))) := by kernel_rfl
theorem ty_fld67_3 : fldOf Try.prog 67 3 = some ((3, (1, false))) := by kernel_rfl
theorem ty_fld67_4 : fldOf Try.prog 67 4 = some ((4, (1, false))) := by kernel_rfl
theorem ty_size68 : tySize Try.prog 68 = some (1) := by kernel_rfl
theorem ty_agg68 : tyAgg Try.prog 68 = some (false) := by kernel_rfl
theorem ty_bytes68 : tyBytes Try.prog 68 = some (8) := by kernel_rfl
theorem ty_zero68 : tyZero Try.prog 68 = some ([(AC.p (PV.v Value.nilFunc))]) := by kernel_rfl
theorem ty_size69 : tySize Try.prog 69 = some (1) := by kernel_rfl
theorem ty_agg69 : tyAgg Try.prog 69 = some (false) := by kernel_rfl
theorem ty_bytes69 : tyBytes Try.prog 69 = some (8) := by kernel_rfl
theorem ty_zero69 : tyZero Try.prog 69 = some ([(AC.p (PV.v Value.nilFunc))]) := by kernel_rfl
theorem ty_size70 : tySize Try.prog 70 = some (1) := by kernel_rfl
theorem ty_agg70 : tyAgg Try.prog 70 = some (false) := by kernel_rfl
theorem ty_bytes70 : tyBytes Try.prog 70 = some (8) := by kernel_rfl
theorem ty_zero70 : tyZero Try.prog 70 = some ([(AC.p (PV.v Value.nilFunc))]) := by kernel_rfl
theorem ty_size71 : tySize Try.prog 71 = some (1) := by kernel_rfl
theorem ty_agg71 : tyAgg Try.prog 71 = some (false) := by kernel_rfl
theorem ty_bytes71 : tyBytes Try.prog 71 = some (8) := by kernel_rfl
theorem ty_zero71 : tyZero Try.prog 71 = some ([(AC.p (PV.v (Value.int IntKind.u64 0)))]) := by kernel_rfl
theorem ty_size72 : tySize Try.prog 72 = some (1) := by kernel_rfl
theorem ty_agg72 : tyAgg Try.prog 72 = some (false) := by kernel_rfl
theorem ty_bytes72 : tyBytes Try.prog 72 = some (8) := by kernel_rfl
theorem ty_zero72 : tyZero Try.prog 72 = some ([(AC.p (PV.v Value.nilFunc))]) := by kernel_rfl
theorem ty_size73 : tySize Try.prog 73 = some (1) := by kernel_rfl
theorem ty_agg73 : tyAgg Try.prog 73 = some (false) := by kernel_rfl
theorem ty_bytes73 : tyBytes Try.prog 73 = some (8) := by kernel_rfl
theorem ty_zero73 : tyZero Try.prog 73 = some ([(AC.p (PV.v Value.nilFunc))]) := by kernel_rfl
theorem ty_size74 : tySize Try.prog 74 = some (1) := by kernel_rfl
theorem ty_agg74 : tyAgg Try.prog 74 = some (false) := by kernel_rfl
theorem ty_bytes74 : tyBytes Try.prog 74 = some (8) := by kernel_rfl
theorem ty_zero74 : tyZero Try.prog 74 = some ([(AC.p (PV.v Value.nilFunc))]) := by kernel_rfl
theorem ty_size75 : tySize Try.prog 75 = some (1) := by kernel_rfl
theorem ty_agg75 : tyAgg Try.prog 75 = some (false) := by kernel_rfl
theorem ty_bytes75 : tyBytes Try.prog 75 = some (8) := by kernel_rfl
theorem ty_zero75 : tyZero Try.prog 75 = some ([(AC.p (PV.v Value.nilFunc))]) := by kernel_rfl
theorem ty_size76 : tySize Try.prog 76 = some (1) := by kernel_rfl
theorem ty_agg76 : tyAgg Try.prog 76 = some (false) := by kernel_rfl
theorem ty_bytes76 : tyBytes Try.prog 76 = some (8) := by kernel_rfl
theorem ty_zero76 : tyZero Try.prog 76 = some ([(AC.p (PV.v Value.nilFunc))]) := by kernel_rfl
theorem ty_size77 : tySize Try.prog 77 = some (1) := by kernel_rfl
theorem ty_agg77 : tyAgg Try.prog 77 = some (true) := by kernel_rfl
theorem ty_bytes77 : tyBytes Try.prog 77 = some (8) := by kernel_rfl
theorem ty_allsz77 : allSz Try.prog 77 = true := by kernel_rfl
theorem ty_noarr77 : arrElem Try.prog 77 = none := by kernel_rfl
theorem ty_zero77 : tyZero Try.prog 77 = some ([(AC.p (PV.v Value.nilFunc))]) := by kernel_rfl
theorem ty_fld77_0 : fldOf Try.prog 77 0 = some ((0, (1, false))) := by kernel_rfl
theorem ty_size78 : tySize Try.prog 78 = some (1) := by kernel_rfl
theorem ty_agg78 : tyAgg Try.prog 78 = some (true) := by kernel_rfl
theorem ty_bytes78 : tyBytes Try.prog 78 = some (8) := by kernel_rfl
theorem ty_allsz78 : allSz Try.prog 78 = true := by kernel_rfl
theorem ty_noarr78 : arrElem Try.prog 78 = none := by kernel_rfl
theorem ty_zero78 : tyZero Try.prog 78 = some ([(AC.p (PV.v Value.nilFunc))]) := by kernel_rfl
theorem ty_fld78_0 : fldOf Try.prog 78 0 = some ((0, (1, false))) := by kernel_rfl
theorem ty_size79 : tySize Try.prog 79 = some (1) := by kernel_rfl
theorem ty_agg79 : tyAgg Try.prog 79 = some (false) := by kernel_rfl
theorem ty_bytes79 : tyBytes Try.prog 79 = some (8) := by kernel_rfl
theorem ty_zero79 : tyZero Try.prog 79 = some ([(AC.p (PV.v Value.nilFunc))]) := by kernel_rfl
theorem ty_size80 : tySize Try.prog 80 = some (1) := by kernel_rfl
theorem ty_agg80 : tyAgg Try.prog 80 = some (false) := by kernel_rfl
theorem ty_bytes80 : tyBytes Try.prog 80 = some (8) := by kernel_rfl
theorem ty_zero80 : tyZero Try.prog 80 = some ([(AC.p (PV.v Value.nilFunc))]) := by kernel_rfl
theorem ty_size81 : tySize Try.prog 81 = some (1) := by kernel_rfl
theorem ty_agg81 : tyAgg Try.prog 81 = some (false) := by kernel_rfl
theorem ty_bytes81 : tyBytes Try.prog 81 = some (8) := by kernel_rfl
theorem ty_zero81 : tyZero Try.prog 81 = some ([(AC.p (PV.v Value.nilFunc))]) := by kernel_rfl
theorem ty_size82 : tySize Try.prog 82 = some (1) := by kernel_rfl
theorem ty_agg82 : tyAgg Try.prog 82 = some (false) := by kernel_rfl
theorem ty_bytes82 : tyBytes Try.prog 82 = some (8) := by kernel_rfl
theorem ty_zero82 : tyZero Try.prog 82 = some ([(AC.p (PV.v (Value.map none)))]) := by kernel_rfl
theorem ty_size83 : tySize Try.prog 83 = some (5) := by kernel_rfl
theorem ty_agg83 : tyAgg Try.prog 83 = some (true) := by kernel_rfl
theorem ty_bytes83 : tyBytes Try.prog 83 = some (56) := by kernel_rfl
theorem ty_allsz83 : allSz Try.prog 83 = true := by kernel_rfl
theorem ty_noarr83 : arrElem Try.prog 83 = none := by kernel_rfl
theorem ty_zero83 : tyZero Try.prog 83 = some ([AC.nil, (AC.p (PV.v (Value.int IntKind.i64 0))), (AC.p (PV.v (Value.int IntKind.i64 0))), (AC.p (PV.v (Value.int IntKind.i64 0))), (AC.p (PV.v (Value.map none)))]) := by kernel_rfl
theorem ty_fld83_0 : fldOf Try.prog 83 0 = some ((0, (4, true))) := by kernel_rfl
theorem ty_fld83_1 : fldOf Try.prog 83 1 = some ((4, (1, false))) := by kernel_rfl
theorem ty_size84 : tySize Try.prog 84 = some (5) := by kernel_rfl
theorem ty_agg84 : tyAgg Try.prog 84 = some (true) := by kernel_rfl
theorem ty_bytes84 : tyBytes Try.prog 84 = some (56) := by kernel_rfl
theorem ty_allsz84 : allSz Try.prog 84 = true := by kernel_rfl
theorem ty_noarr84 : arrElem Try.prog 84 = none := by kernel_rfl
theorem ty_zero84 : tyZero Try.prog 84 = some ([AC.nil, (AC.p (PV.v (Value.int IntKind.i64 0))), (AC.p (PV.v (Value.int IntKind.i64 0))), (AC.p (PV.v (Value.int IntKind.i64 0))), (AC.p (PV.v (Value.map none)))]) := by kernel_rfl
theorem ty_fld84_0 : fldOf Try.prog 84 0 = some ((0, (4, true))) := by kernel_rfl
theorem ty_fld84_1 : fldOf Try.prog 84 1 = some ((4, (1, false))) := by kernel_rfl
theorem ty_size85 : tySize Try.prog 85 = some (1) := by kernel_rfl
theorem ty_agg85 : tyAgg Try.prog 85 = some (false) := by kernel_rfl
theorem ty_bytes85 : tyBytes Try.prog 85 = some (8) := by kernel_rfl
theorem ty_zero85 : tyZero Try.prog 85 = some ([(AC.p (PV.v Value.nilFunc))]) := by kernel_rfl
theorem ty_size86 : tySize Try.prog 86 = some (1) := by kernel_rfl
theorem ty_agg86 : tyAgg Try.prog 86 = some (false) := by kernel_rfl
theorem ty_bytes86 : tyBytes Try.prog 86 = some (8) := by kernel_rfl
theorem ty_zero86 : tyZero Try.prog 86 = some ([(AC.p (PV.v Value.nilFunc))]) := by kernel_rfl
theorem ty_size87 : tySize Try.prog 87 = some (31) := by kernel_rfl
theorem ty_agg87 : tyAgg Try.prog 87 = some (true) := by kernel_rfl
theorem ty_bytes87 : tyBytes Try.prog 87 = some (248) := by kernel_rfl
theorem ty_elem87 : sliceElem Try.prog 87 = none := by kernel_rfl
theorem ty_arr87 : arrElem Try.prog 87 = some ((31, 3)) := by kernel_rfl
theorem ty_size88 : tySize Try.prog 88 = some (31) := by kernel_rfl
theorem ty_agg88 : tyAgg Try.prog 88 = some (true) := by kernel_rfl
theorem ty_bytes88 : tyBytes Try.prog 88 = some (248) := by kernel_rfl
theorem ty_elem88 : sliceElem Try.prog 88 = none := by kernel_rfl
theorem ty_arr88 : arrElem Try.prog 88 = some ((31, 3)) := by kernel_rfl
theorem ty_size89 : tySize Try.prog 89 = some (1) := by kernel_rfl
theorem ty_agg89 : tyAgg Try.prog 89 = some (false) := by kernel_rfl
theorem ty_bytes89 : tyBytes Try.prog 89 = some (8) := by kernel_rfl
theorem ty_zero89 : tyZero Try.prog 89 = some ([(AC.p (PV.v Value.nilFunc))]) := by kernel_rfl
theorem ty_size90 : tySize Try.prog 90 = some (1) := by kernel_rfl
theorem ty_agg90 : tyAgg Try.prog 90 = some (false) := by kernel_rfl
theorem ty_bytes90 : tyBytes Try.prog 90 = some (8) := by kernel_rfl
theorem ty_zero90 : tyZero Try.prog 90 = some ([(AC.p (PV.v Value.nilFunc))]) := by kernel_rfl
theorem ty_size91 : tySize Try.prog 91 = some (1) := by kernel_rfl
theorem ty_agg91 : tyAgg Try.prog 91 = some (false) := by kernel_rfl
theorem ty_bytes91 : tyBytes Try.prog 91 = some (24) := by kernel_rfl
theorem ty_elem91 : sliceElem Try.prog 91 = some (71) := by kernel_rfl
theorem ty_zero91 : tyZero Try.prog 91 = some ([AC.nil]) := by kernel_rfl
theorem ty_size92 : tySize Try.prog 92 = some (1) := by kernel_rfl
theorem ty_agg92 : tyAgg Try.prog 92 = some (false) := by kernel_rfl
theorem ty_bytes92 : tyBytes Try.prog 92 = some (8) := by kernel_rfl
theorem ty_zero92 : tyZero Try.prog 92 = some ([(AC.p (PV.v Value.nilFunc))]) := by kernel_rfl
theorem ty_size93 : tySize Try.prog 93 = some (1) := by kernel_rfl
theorem ty_agg93 : tyAgg Try.prog 93 = some (false) := by kernel_rfl
theorem ty_bytes93 : tyBytes Try.prog 93 = some (8) := by kernel_rfl
theorem ty_zero93 : tyZero Try.prog 93 = some ([(AC.p (PV.v Value.nilFunc))]) := by kernel_rfl
theorem ty_size94 : tySize Try.prog 94 = some (1) := by kernel_rfl
theorem ty_agg94 : tyAgg Try.prog 94 = some (false) := by kernel_rfl
theorem ty_bytes94 : tyBytes Try.prog 94 = some (8) := by kernel_rfl
theorem ty_zero94 : tyZero Try.prog 94 = some ([(AC.p (PV.v Value.nilFunc))]) := by kernel_rfl
theorem ty_size95 : tySize Try.prog 95 = some (1) := by kernel_rfl
theorem ty_agg95 : tyAgg Try.prog 95 = some (true) := by kernel_rfl
theorem ty_bytes95 : tyBytes Try.prog 95 = some (8) := by kernel_rfl
theorem ty_allsz95 : allSz Try.prog 95 = true := by kernel_rfl
theorem ty_noarr95 : arrElem Try.prog 95 = none := by kernel_rfl
theorem ty_zero95 : tyZero Try.prog 95 = some ([(AC.p (PV.v Value.nilFunc))]) := by kernel_rfl
theorem ty_fld95_0 : fldOf Try.prog 95 0 = some ((0, (1, false))) := by kernel_rfl
theorem ty_size96 : tySize Try.prog 96 = some (1) := by kernel_rfl
theorem ty_agg96 : tyAgg Try.prog 96 = some (true) := by kernel_rfl
theorem ty_bytes96 : tyBytes Try.prog 96 = some (8) := by kernel_rfl
theorem ty_allsz96 : allSz Try.prog 96 = true := by kernel_rfl
theorem ty_noarr96 : arrElem Try.prog 96 = none := by kernel_rfl
theorem ty_zero96 : tyZero Try.prog 96 = some ([(AC.p (PV.v Value.nilFunc))]) := by kernel_rfl
theorem ty_fld96_0 : fldOf Try.prog 96 0 = some ((0, (1, false))) := by kernel_rfl
theorem ty_size97 : tySize Try.prog 97 = some (1) := by kernel_rfl
theorem ty_agg97 : tyAgg Try.prog 97 = some (false) := by kernel_rfl
theorem ty_bytes97 : tyBytes Try.prog 97 = some (8) := by kernel_rfl
theorem ty_zero97 : tyZero Try.prog 97 = some ([(AC.p (PV.v Value.nilFunc))]) := by kernel_rfl
theorem ty_size98 : tySize Try.prog 98 = some (1) := by kernel_rfl
theorem ty_agg98 : tyAgg Try.prog 98 = some (false) := by kernel_rfl
theorem ty_bytes98 : tyBytes Try.prog 98 = some (8) := by kernel_rfl
theorem ty_zero98 : tyZero Try.prog 98 = some ([(AC.p (PV.v Value.nilFunc))]) := by kernel_rfl
theorem ty_size99 : tySize Try.prog 99 = some (1) := by kernel_rfl
theorem ty_agg99 : tyAgg Try.prog 99 = some (false) := by kernel_rfl
theorem ty_bytes99 : tyBytes Try.prog 99 = some (8) := by kernel_rfl
theorem ty_zero99 : tyZero Try.prog 99 = some ([(AC.p (PV.v Value.nilFunc))]) := by kernel_rfl
theorem ty_size100 : tySize Try.prog 100 = some (1) := by kernel_rfl
theorem ty_agg100 : tyAgg Try.prog 100 = some (false) := by kernel_rfl
theorem ty_bytes100 : tyBytes Try.prog 100 = some (8) := by kernel_rfl
theorem ty_zero100 : tyZero Try.prog 100 = some ([(AC.p (PV.v (Value.int IntKind.i64 0)))]) := by kernel_rfl
theorem ty_size101 : tySize Try.prog 101 = some (1) := by kernel_rfl
theorem ty_agg101 : tyAgg Try.prog 101 = some (false) := by kernel_rfl
theorem ty_bytes101 : tyBytes Try.prog 101 = some (0) := by kernel_rfl
theorem ty_size102 : tySize Try.prog 102 = some (1) := by kernel_rfl
theorem ty_agg102 : tyAgg Try.prog 102 = some (false) := by kernel_rfl
theorem ty_bytes102 : tyBytes Try.prog 102 = some (8) := by kernel_rfl
theorem ty_zero102 : tyZero Try.prog 102 = some ([(AC.p (PV.v Value.nilFunc))]) := by kernel_rfl
theorem ty_size103 : tySize Try.prog 103 = some (14) := by kernel_rfl
theorem ty_agg103 : tyAgg Try.prog 103 = some (true) := by kernel_rfl
theorem ty_bytes103 : tyBytes Try.prog 103 = some (112) := by kernel_rfl
theorem ty_elem103 : sliceElem Try.prog 103 = none := by kernel_rfl
theorem ty_arr103 : arrElem Try.prog 103 = some ((7, 28)) := by kernel_rfl
theorem ty_zero103 : tyZero Try.prog 103 = some ([(AC.p (PV.v (Value.int IntKind.i64 0))), (AC.p (PV.v (Value.int IntKind.i64 0))), (AC.p (PV.v (Value.int IntKind.i64 0))), (AC.p (PV.v (Value.int IntKind.i64 0))), (AC.p (PV.v (Value.int IntKind.i64 0))), (AC.p (PV.v (Value.int IntKind.i64 0))), (AC.p (PV.v (Value.int IntKind.i64 0))), (AC.p (PV.v (Value.int IntKind.i64 0))), (AC.p (PV.v (Value.int IntKind.i64 0))), (AC.p (PV.v (Value.int IntKind.i64 0))), (AC.p (PV.v (Value.int IntKind.i64 0))), (AC.p (PV.v (Value.int IntKind.i64 0))), (AC.p (PV.v (Value.int IntKind.i64 0))), (AC.p (PV.v (Value.int IntKind.i64 0)))]) := by kernel_rfl
theorem ty_size104 : tySize Try.prog 104 = some (434) := by kernel_rfl
theorem ty_agg104 : tyAgg Try.prog 104 = some (true) := by kernel_rfl
theorem ty_bytes104 : tyBytes Try.prog 104 = some (3472) := by kernel_rfl
theorem ty_elem104 : sliceElem Try.prog 104 = none := by kernel_rfl
theorem ty_arr104 : arrElem Try.prog 104 = some ((31, 103)) := by kernel_rfl
theorem ty_size105 : tySize Try.prog 105 = some (434) := by kernel_rfl
theorem ty_agg105 : tyAgg Try.prog 105 = some (true) := by kernel_rfl
theorem ty_bytes105 : tyBytes Try.prog 105 = some (3472) := by kernel_rfl
theorem ty_elem105 : sliceElem Try.prog 105 = none := by kernel_rfl
theorem ty_arr105 : arrElem Try.prog 105 = some ((31, 103)) := by kernel_rfl
theorem ty_size106 : tySize Try.prog 106 = some (1) := by kernel_rfl
theorem ty_agg106 : tyAgg Try.prog 106 = some (true) := by kernel_rfl
theorem ty_bytes106 : tyBytes Try.prog 106 = some (8) := by kernel_rfl
theorem ty_allsz106 : allSz Try.prog 106 = true := by kernel_rfl
theorem ty_noarr106 : arrElem Try.prog 106 = none := by kernel_rfl
theorem ty_zero106 : tyZero Try.prog 106 = some ([(AC.p (PV.v (Value.int IntKind.i64 0)))]) := by kernel_rfl
theorem ty_fld106_0 : fldOf Try.prog 106 0 = some ((0, (1, false))) := by kernel_rfl
theorem ty_size107 : tySize Try.prog 107 = some (1) := by kernel_rfl
theorem ty_agg107 : tyAgg Try.prog 107 = some (true) := by kernel_rfl
theorem ty_bytes107 : tyBytes Try.prog 107 = some (8) := by kernel_rfl
theorem ty_allsz107 : allSz Try.prog 107 = true := by kernel_rfl
theorem ty_noarr107 : arrElem Try.prog 107 = none := by kernel_rfl
theorem ty_zero107 : tyZero Try.prog 107 = some ([(AC.p (PV.v (Value.int IntKind.i64 0)))]) := by kernel_rfl
theorem ty_fld107_0 : fldOf Try.prog 107 0 = some ((0, (1, false))) := by kernel_rfl
theorem ty_size108 : tySize Try.prog 108 = some (5) := by kernel_rfl
theorem ty_agg108 : tyAgg Try.prog 108 = some (true) := by kernel_rfl
theorem ty_bytes108 : tyBytes Try.prog 108 = some (40) := by kernel_rfl
theorem ty_allsz108 : allSz Try.prog 108 = true := by kernel_rfl
theorem ty_noarr108 : arrElem Try.prog 108 = none := by kernel_rfl
theorem ty_zero108 : tyZero Try.prog 108 = some ([(AC.p (PV.v (Value.int IntKind.i64 0))), (AC.p (PV.v (Value.int IntKind.i64 0))), (AC.p (PV.v (Value.int IntKind.i64 0))), (AC.p (PV.v (Value.int IntKind.i64 0))), (AC.p (PV.v (Value.bool false)))]) := by kernel_rfl
theorem ty_fld108_0 : fldOf Try.prog 108 0 = some ((0, (1, true))) := by kernel_rfl
theorem ty_fld108_1 : fldOf Try.prog 108 1 = some ((1, (3, true))) := by kernel_rfl
theorem ty_fld108_2 : fldOf Try.prog 108 2 = some ((4, (1, false))) := by kernel_rfl
theorem ty_size109 : tySize Try.prog 109 = some (5) := by kernel_rfl
theorem ty_agg109 : tyAgg Try.prog 109 = some (true) := by kernel_rfl
theorem ty_bytes109 : tyBytes Try.prog 109 = some (40) := by kernel_rfl
theorem ty_allsz109 : allSz Try.prog 109 = true := by kernel_rfl
theorem ty_noarr109 : arrElem Try.prog 109 = none := by kernel_rfl
theorem ty_zero109 : tyZero Try.prog 109 = some ([(AC.p (PV.v (Value.int IntKind.i64 0))), (AC.p (PV.v (Value.int IntKind.i64 0))), (AC.p (PV.v (Value.int IntKind.i64 0))), (AC.p (PV.v (Value.int IntKind.i64 0))), (AC.p (PV.v (Value.bool false)))]) := by kernel_rfl
theorem ty_fld109_0 : fldOf Try.prog 109 0 = some ((0, (1, true))) := by kernel_rfl
theorem ty_fld109_1 : fldOf Try.prog 109 1 = some ((1, (3, true))) := by kernel_rfl
theorem ty_fld109_2 : fldOf Try.prog 109 2 = some ((4, (1, false))) := by kernel_rfl
theorem ty_size110 : tySize Try.prog 110 = some (1) := by kernel_rfl
theorem ty_agg110 : tyAgg Try.prog 110 = some (false) := by kernel_rfl
theorem ty_bytes110 : tyBytes Try.prog 110 = some (8) := by kernel_rfl
theorem ty_zero110 : tyZero Try.prog 110 = some ([(AC.p (PV.v Value.nilFunc))]) := by kernel_rfl
theorem ty_size111 : tySize Try.prog 111 = some (1) := by kernel_rfl
theorem ty_agg111 : tyAgg Try.prog 111 = some (false) := by kernel_rfl
theorem ty_bytes111 : tyBytes Try.prog 111 = some (8) := by kernel_rfl
theorem ty_zero111 : tyZero Try.prog 111 = some ([(AC.p (PV.v Value.nilFunc))]) := by kernel_rfl
theorem ty_size112 : tySize Try.prog 112 = some (1) := by kernel_rfl
theorem ty_agg112 : tyAgg Try.prog 112 = some (false) := by kernel_rfl
theorem ty_bytes112 : tyBytes Try.prog 112 = some (24) := by kernel_rfl
theorem ty_elem112 : sliceElem Try.prog 112 = some (28) := by kernel_rfl
theorem ty_zero112 : tyZero Try.prog 112 = some ([AC.nil]) := by kernel_rfl
theorem ty_size113 : tySize Try.prog 113 = some (1) := by kernel_rfl
theorem ty_agg113 : tyAgg Try.prog 113 = some (false) := by kernel_rfl
theorem ty_bytes113 : tyBytes Try.prog 113 = some (8) := by kernel_rfl
theorem ty_zero113 : tyZero Try.prog 113 = some ([(AC.p (PV.v Value.nilFunc))]) := by kernel_rfl
theorem ty_size114 : tySize Try.prog 114 = some (1) := by kernel_rfl
theorem ty_agg114 : tyAgg Try.prog 114 = some (false) := by kernel_rfl
theorem ty_bytes114 : tyBytes Try.prog 114 = some (8) := by kernel_rfl
theorem ty_zero114 : tyZero Try.prog 114 = some ([(AC.p (PV.v Value.nilFunc))]) := by kernel_rfl
theorem ty_size115 : tySize Try.prog 115 = some (1) := by kernel_rfl
theorem ty_agg115 : tyAgg Try.prog 115 = some (false) := by kernel_rfl
theorem ty_bytes115 : tyBytes Try.prog 115 = some (8) := by kernel_rfl
theorem ty_zero115 : tyZero Try.prog 115 = some ([(AC.p (PV.v Value.nilFunc))]) := by kernel_rfl
theorem ty_size116 : tySize Try.prog 116 = some (1) := by kernel_rfl
theorem ty_agg116 : tyAgg Try.prog 116 = some (false) := by kernel_rfl
theorem ty_bytes116 : tyBytes Try.prog 116 = some (8) := by kernel_rfl
theorem ty_zero116 : tyZero Try.prog 116 = some ([(AC.p (PV.v Value.nilFunc))]) := by kernel_rfl
theorem ty_size117 : tySize Try.prog 117 = some (3) := by kernel_rfl
theorem ty_agg117 : tyAgg Try.prog 117 = some (true) := by kernel_rfl
theorem ty_bytes117 : tyBytes Try.prog 117 = some (24) := by kernel_rfl
theorem ty_allsz117 : allSz Try.prog 117 = true := by kernel_rfl
theorem ty_noarr117 : arrElem Try.prog 117 = none := by kernel_rfl
theorem ty_zero117 : tyZero Try.prog 117 = some ([(AC.p (PV.v (Value.int IntKind.u64 0))), (AC.p (PV.v (Value.int IntKind.i64 0))), (AC.p (PV.v (Value.bool false)))]) := by kernel_rfl
theorem ty_fld117_0 : fldOf Try.prog 117 0 = some ((0, (1, false))) := by kernel_rfl
theorem ty_fld117_1 : fldOf Try.prog 117 1 = some ((1, (1, false))) := by kernel_rfl
theorem ty_fld117_2 : fldOf Try.prog 117 2 = some ((2, (1, false))) := by kernel_rfl
theorem ty_size118 : tySize Try.prog 118 = some (3) := by kernel_rfl
theorem ty_agg118 : tyAgg Try.prog 118 = some (true) := by kernel_rfl
theorem ty_bytes118 : tyBytes Try.prog 118 = some (24) := by kernel_rfl
theorem ty_allsz118 : allSz Try.prog 118 = true := by kernel_rfl
theorem ty_noarr118 : arrElem Try.prog 118 = none := by kernel_rfl
theorem ty_zero118 : tyZero Try.prog 118 = some ([(AC.p (PV.v (Value.int IntKind.u64 0))), (AC.p (PV.v (Value.int IntKind.i64 0))), (AC.p (PV.v (Value.bool false)))]) := by kernel_rfl
theorem ty_fld118_0 : fldOf Try.prog 118 0 = some ((0, (1, false))) := by kernel_rfl
theorem ty_fld118_1 : fldOf Try.prog 118 1 = some ((1, (1, false))) := by kernel_rfl
theorem ty_fld118_2 : fldOf Try.prog 118 2 = some ((2, (1, false))) := by kernel_rfl
theorem ty_size119 : tySize Try.prog 119 = some (1) := by kernel_rfl
theorem ty_agg119 : tyAgg Try.prog 119 = some (false) := by kernel_rfl
theorem ty_bytes119 : tyBytes Try.prog 119 = some (8) := by kernel_rfl
theorem ty_zero119 : tyZero Try.prog 119 = some ([(AC.p (PV.v Value.nilFunc))]) := by kernel_rfl
theorem ty_size120 : tySize Try.prog 120 = some (1) := by kernel_rfl
theorem ty_agg120 : tyAgg Try.prog 120 = some (false) := by kernel_rfl
theorem ty_bytes120 : tyBytes Try.prog 120 = some (8) := by kernel_rfl
theorem ty_zero120 : tyZero Try.prog 120 = some ([(AC.p (PV.v Value.nilFunc))]) := by kernel_rfl
theorem ty_size121 : tySize Try.prog 121 = some (1) := by kernel_rfl
theorem ty_agg121 : tyAgg Try.prog 121 = some (false) := by kernel_rfl
theorem ty_bytes121 : tyBytes Try.prog 121 = some (8) := by kernel_rfl
theorem ty_zero121 : tyZero Try.prog 121 = some ([(AC.p (PV.v Value.nilFunc))]) := by kernel_rfl
theorem ty_size122 : tySize Try.prog 122 = some (1) := by kernel_rfl
theorem ty_agg122 : tyAgg Try.prog 122 = some (false) := by kernel_rfl
theorem ty_bytes122 : tyBytes Try.prog 122 = some (8) := by kernel_rfl
theorem ty_zero122 : tyZero Try.prog 122 = some ([(AC.p (PV.v Value.nilFunc))]) := by kernel_rfl
theorem ty_size123 : tySize Try.prog 123 = some (1) := by kernel_rfl
theorem ty_agg123 : tyAgg Try.prog 123 = some (false) := by kernel_rfl
theorem ty_bytes123 : tyBytes Try.prog 123 = some (4) := by kernel_rfl
theorem ty_zero123 : tyZero Try.prog 123 = some ([(AC.p (PV.v (Value.int IntKind.u32 0)))]) := by kernel_rfl
theorem ty_size124 : tySize Try.prog 124 = some (1) := by kernel_rfl
theorem ty_agg124 : tyAgg Try.prog 124 = some (false) := by kernel_rfl
theorem ty_bytes124 : tyBytes Try.prog 124 = some (8) := by kernel_rfl
theorem ty_zero124 : tyZero Try.prog 124 = some ([(AC.p (PV.v Value.nilFunc))]) := by kernel_rfl
theorem ty_size125 : tySize Try.prog 125 = some (1) := by kernel_rfl
theorem ty_agg125 : tyAgg Try.prog 125 = some (false) := by kernel_rfl
theorem ty_bytes125 : tyBytes Try.prog 125 = some (8) := by kernel_rfl
theorem ty_zero125 : tyZero Try.prog 125 = some ([(AC.p (PV.v (Value.int IntKind.u64 0)))]) := by kernel_rfl
theorem ty_size126 : tySize Try.prog 126 = some (1) := by kernel_rfl
theorem ty_agg126 : tyAgg Try.prog 126 = some (false) := by kernel_rfl
theorem ty_bytes126 : tyBytes Try.prog 126 = some (8) := by kernel_rfl
theorem ty_zero126 : tyZero Try.prog 126 = some ([(AC.p (PV.v Value.nilFunc))]) := by kernel_rfl
theorem ty_size127 : tySize Try.prog 127 = some (1) := by kernel_rfl
theorem ty_agg127 : tyAgg Try.prog 127 = some (false) := by kernel_rfl
theorem ty_bytes127 : tyBytes Try.prog 127 = some (2) := by kernel_rfl
theorem ty_zero127 : tyZero Try.prog 127 = some ([(AC.p (PV.v (Value.int IntKind.u16 0)))]) := by kernel_rfl
theorem ty_size128 : tySize Try.prog 128 = some (1) := by kernel_rfl
theorem ty_agg128 : tyAgg Try.prog 128 = some (false) := by kernel_rfl
theorem ty_bytes128 : tyBytes Try.prog 128 = some (8) := by kernel_rfl
theorem ty_zero128 : tyZero Try.prog 128 = some ([(AC.p (PV.v Value.nilFunc))]) := by kernel_rfl
theorem ty_size129 : tySize Try.prog 129 = some (1) := by kernel_rfl
theorem ty_agg129 : tyAgg Try.prog 129 = some (false) := by kernel_rfl
theorem ty_bytes129 : tyBytes Try.prog 129 = some (8) := by kernel_rfl
theorem ty_zero129 : tyZero Try.prog 129 = some ([(AC.p (PV.v Value.nilFunc))]) := by kernel_rfl
theorem ty_size130 : tySize Try.prog 130 = some (1) := by kernel_rfl
theorem ty_agg130 : tyAgg Try.prog 130 = some (false) := by kernel_rfl
theorem ty_bytes130 : tyBytes Try.prog 130 = some (0) := by kernel_rfl
theorem ty_size131 : tySize Try.prog 131 = some (1) := by kernel_rfl
theorem ty_agg131 : tyAgg Try.prog 131 = some (false) := by kernel_rfl
theorem ty_bytes131 : tyBytes Try.prog 131 = some (16) := by kernel_rfl
theorem ty_zero131 : tyZero Try.prog 131 = some ([(AC.p (PV.v Value.nilIface))]) := by kernel_rfl
theorem ty_size132 : tySize Try.prog 132 = some (1) := by kernel_rfl
theorem ty_agg132 : tyAgg Try.prog 132 = some (false) := by kernel_rfl
theorem ty_bytes132 : tyBytes Try.prog 132 = some (16) := by kernel_rfl
theorem ty_zero132 : tyZero Try.prog 132 = some ([(AC.p (PV.v Value.nilIface))]) := by kernel_rfl
theorem ty_size133 : tySize Try.prog 133 = some (1) := by kernel_rfl
theorem ty_agg133 : tyAgg Try.prog 133 = some (false) := by kernel_rfl
theorem ty_bytes133 : tyBytes Try.prog 133 = some (8) := by kernel_rfl
theorem ty_zero133 : tyZero Try.prog 133 = some ([(AC.p (PV.v Value.nilFunc))]) := by kernel_rfl
theorem ty_size134 : tySize Try.prog 134 = some (1) := by kernel_rfl
theorem ty_agg134 : tyAgg Try.prog 134 = some (false) := by kernel_rfl
theorem ty_bytes134 : tyBytes Try.prog 134 = some (8) := by kernel_rfl
theorem ty_zero134 : tyZero Try.prog 134 = some ([(AC.p (PV.v Value.nilFunc))]) := by kernel_rfl
theorem ty_size135 : tySize Try.prog 135 = some (1) := by kernel_rfl
theorem ty_agg135 : tyAgg Try.prog 135 = some (false) := by kernel_rfl
theorem ty_bytes135 : tyBytes Try.prog 135 = some (8) := by kernel_rfl
theorem ty_zero135 : tyZero Try.prog 135 = some ([(AC.p (PV.v Value.nilFunc))]) := by kernel_rfl
theorem ty_size136 : tySize Try.prog 136 = some (1) := by kernel_rfl
theorem ty_agg136 : tyAgg Try.prog 136 = some (false) := by kernel_rfl
theorem ty_bytes136 : tyBytes Try.prog 136 = some (8) := by kernel_rfl
theorem ty_zero136 : tyZero Try.prog 136 = some ([(AC.p (PV.v Value.nilFunc))]) := by kernel_rfl
theorem ty_size137 : tySize Try.prog 137 = some (1) := by kernel_rfl
theorem ty_agg137 : tyAgg Try.prog 137 = some (false) := by kernel_rfl
theorem ty_bytes137 : tyBytes Try.prog 137 = some (8) := by kernel_rfl
theorem ty_zero137 : tyZero Try.prog 137 = some ([(AC.p (PV.v Value.nilFunc))]) := by kernel_rfl
theorem ty_size138 : tySize Try.prog 138 = some (1) := by kernel_rfl
theorem ty_agg138 : tyAgg Try.prog 138 = some (false) := by kernel_rfl
theorem ty_bytes138 : tyBytes Try.prog 138 = some (8) := by kernel_rfl
theorem ty_zero138 : tyZero Try.prog 138 = some ([(AC.p (PV.v Value.nilFunc))]) := by kernel_rfl
theorem ty_size139 : tySize Try.prog 139 = some (4) := by kernel_rfl
theorem ty_agg139 : tyAgg Try.prog 139 = some (true) := by kernel_rfl
theorem ty_bytes139 : tyBytes Try.prog 139 = some (40) := by kernel_rfl
theorem ty_allsz139 : allSz Try.prog 139 = true := by kernel_rfl
theorem ty_noarr139 : arrElem Try.prog 139 = none := by kernel_rfl
theorem ty_fld139_0 : fldOf Try.prog 139 0 = some ((0, (1, false))) := by kernel_rfl
theorem ty_fld139_1 : fldOf Try.prog 139 1 = some ((1, (1, false))) := by kernel_rfl
theorem ty_fld139_2 : fldOf Try.prog 139 2 = some ((2, (1, false))) := by kernel_rfl
theorem ty_fld139_3 : fldOf Try.prog 139 3 = some ((3, (1, false))) := by kernel_rfl
theorem ty_size140 : tySize Try.prog 140 = some (4) := by kernel_rfl
theorem ty_agg140 : tyAgg Try.prog 140 = some (true) := by kernel_rfl
theorem ty_bytes140 : tyBytes Try.prog 140 = some (40) := by kernel_rfl
theorem ty_allsz140 : allSz Try.prog 140 = true := by kernel_rfl
theorem ty_noarr140 : arrElem Try.prog 140 = none := by kernel_rfl
theorem ty_fld140_0 : fldOf Try.prog 140 0 = some ((0, (1, false))) := by kernel_rfl
theorem ty_fld140_1 : fldOf Try.prog 140 1 = some ((1, (1, false))) := by kernel_rfl
theorem ty_fld140_2 : fldOf Try.prog 140 2 = some ((2, (1, false))) := by kernel_rfl
theorem ty_fld140_3 : fldOf Try.prog 140 3 = some ((3, (1, false))) := by kernel_rfl
theorem ty_size141 : tySize Try.prog 141 = some (0) := by kernel_rfl
theorem ty_agg141 : tyAgg Try.prog 141 = some (true) := by kernel_rfl
theorem ty_bytes141 : tyBytes Try.prog 141 = some (0) := by kernel_rfl
theorem ty_elem141 : sliceElem Try.prog 141 = none := by kernel_rfl
theorem ty_arr141 : arrElem Try.prog 141 = some ((0, 16)) := by kernel_rfl
theorem ty_zero141 : tyZero Try.prog 141 = some ([]) := by kernel_rfl
theorem ty_size142 : tySize Try.prog 142 = some (0) := by kernel_rfl
theorem ty_agg142 : tyAgg Try.prog 142 = some (true) := by kernel_rfl
theorem ty_bytes142 : tyBytes Try.prog 142 = some (0) := by kernel_rfl
theorem ty_allsz142 : allSz Try.prog 142 = true := by kernel_rfl
theorem ty_noarr142 : arrElem Try.prog 142 = none := by kernel_rfl
theorem ty_zero142 : tyZero Try.prog 142 = some ([]) := by kernel_rfl
theorem ty_fld142_0 : fldOf Try.prog 142 0 = some ((0, (0, true))) := by kernel_rfl
theorem ty_size143 : tySize Try.prog 143 = some (0) := by kernel_rfl
theorem ty_agg143 : tyAgg Try.prog 143 = some (true) := by kernel_rfl
theorem ty_bytes143 : tyBytes Try.prog 143 = some (0) := by kernel_rfl
theorem ty_allsz143 : allSz Try.prog 143 = true := by kernel_rfl
theorem ty_noarr143 : arrElem Try.prog 143 = none := by kernel_rfl
theorem ty_zero143 : tyZero Try.prog 143 = some ([]) := by kernel_rfl
theorem ty_fld143_0 : fldOf Try.prog 143 0 = some ((0, (0, true))) := by kernel_rfl
theorem ty_size144 : tySize Try.prog 144 = some (1) := by kernel_rfl
theorem ty_agg144 : tyAgg Try.prog 144 = some (false) := by kernel_rfl
theorem ty_bytes144 : tyBytes Try.prog 144 = some (1) := by kernel_rfl
theorem ty_zero144 : tyZero Try.prog 144 = some ([(AC.p (PV.v (Value.int IntKind.u8 0)))]) := by kernel_rfl
theorem ty_size145 : tySize Try.prog 145 = some (1) := by kernel_rfl
theorem ty_agg145 : tyAgg Try.prog 145 = some (false) := by kernel_rfl
theorem ty_bytes145 : tyBytes Try.prog 145 = some (1) := by kernel_rfl
theorem ty_zero145 : tyZero Try.prog 145 = some ([(AC.p (PV.v (Value.int IntKind.u8 0)))]) := by kernel_rfl
theorem ty_size146 : tySize Try.prog 146 = some (1) := by kernel_rfl
theorem ty_agg146 : tyAgg Try.prog 146 = some (false) := by kernel_rfl
theorem ty_bytes146 : tyBytes Try.prog 146 = some (8) := by kernel_rfl
theorem ty_zero146 : tyZero Try.prog 146 = some ([(AC.p (PV.v Value.nilFunc))]) := by kernel_rfl
theorem ty_size147 : tySize Try.prog 147 = some (1) := by kernel_rfl
theorem ty_agg147 : tyAgg Try.prog 147 = some (false) := by kernel_rfl
theorem ty_bytes147 : tyBytes Try.prog 147 = some (8) := by kernel_rfl
theorem ty_zero147 : tyZero Try.prog 147 = some ([(AC.p (PV.v (Value.pointer none)))]) := by kernel_rfl
theorem ty_size148 : tySize Try.prog 148 = some (1) := by kernel_rfl
theorem ty_agg148 : tyAgg Try.prog 148 = some (false) := by kernel_rfl
theorem ty_bytes148 : tyBytes Try.prog 148 = some (4) := by kernel_rfl
theorem ty_zero148 : tyZero Try.prog 148 = some ([(AC.p (PV.v (Value.int IntKind.i32 0)))]) := by kernel_rfl
theorem ty_size149 : tySize Try.prog 149 = some (1) := by kernel_rfl
theorem ty_agg149 : tyAgg Try.prog 149 = some (false) := by kernel_rfl
theorem ty_bytes149 : tyBytes Try.prog 149 = some (4) := by kernel_rfl
theorem ty_zero149 : tyZero Try.prog 149 = some ([(AC.p (PV.v (Value.int IntKind.i32 0)))]) := by kernel_rfl
theorem ty_size150 : tySize Try.prog 150 = some (11) := by kernel_rfl
theorem ty_agg150 : tyAgg Try.prog 150 = some (true) := by kernel_rfl
theorem ty_bytes150 : tyBytes Try.prog 150 = some (48) := by kernel_rfl
theorem ty_allsz150 : allSz Try.prog 150 = true := by kernel_rfl
theorem ty_noarr150 : arrElem Try.prog 150 = none := by kernel_rfl
theorem ty_zero150 : tyZero Try.prog 150 = some ([(AC.p (PV.v (Value.int IntKind.u64 0))), (AC.p (PV.v (Value.int IntKind.u64 0))), (AC.p (PV.v (Value.int IntKind.u32 0))), (AC.p (PV.v (Value.int IntKind.u8 0))), (AC.p (PV.v (Value.int IntKind.u8 0))), (AC.p (PV.v (Value.int IntKind.u8 0))), (AC.p (PV.v (Value.int IntKind.u8 0))), (AC.p (PV.v Value.nilFunc)), (AC.p (PV.v (Value.pointer none))), (AC.p (PV.v (Value.int IntKind.i32 0))), (AC.p (PV.v (Value.int IntKind.i32 0)))]) := by kernel_rfl
theorem ty_fld150_0 : fldOf Try.prog 150 0 = some ((0, (1, false))) := by kernel_rfl
theorem ty_fld150_1 : fldOf Try.prog 150 1 = some ((1, (1, false))) := by kernel_rfl
theorem ty_fld150_2 : fldOf Try.prog 150 2 = some ((2, (1, false))) := by kernel_rfl
theorem ty_fld150_3 : fldOf Try.prog 150 3 = some ((3, (1, false))) := by kernel_rfl
theorem ty_fld150_4 : fldOf Try.prog 150 4 = some ((4, (1, false))) := by kernel_rfl
theorem ty_fld150_5 : fldOf Try.prog 150 5 = some ((5, (1, false))) := by kernel_rfl
theorem ty_fld150_6 : fldOf Try.prog 150 6 = some ((6, (1, false))) := by kernel_rfl
theorem ty_fld150_7 : fldOf Try.prog 150 7 = some ((7, (1, false))) := by kernel_rfl
theorem ty_fld150_8 : fldOf Try.prog 150 8 = some ((8, (1, false))) := by kernel_rfl
theorem ty_fld150_9 : fldOf Try.prog 150 9 = some ((9, (1, false))) := by kernel_rfl
theorem ty_fld150_10 : fldOf Try.prog 150 10 = some ((10, (1, false))) := by kernel_rfl
theorem ty_size151 : tySize Try.prog 151 = some (11) := by kernel_rfl
theorem ty_agg151 : tyAgg Try.prog 151 = some (true) := by kernel_rfl
theorem ty_bytes151 : tyBytes Try.prog 151 = some (48) := by kernel_rfl
theorem ty_allsz151 : allSz Try.prog 151 = true := by kernel_rfl
theorem ty_noarr151 : arrElem Try.prog 151 = none := by kernel_rfl
theorem ty_zero151 : tyZero Try.prog 151 = some ([(AC.p (PV.v (Value.int IntKind.u64 0))), (AC.p (PV.v (Value.int IntKind.u64 0))), (AC.p (PV.v (Value.int IntKind.u32 0))), (AC.p (PV.v (Value.int IntKind.u8 0))), (AC.p (PV.v (Value.int IntKind.u8 0))), (AC.p (PV.v (Value.int IntKind.u8 0))), (AC.p (PV.v (Value.int IntKind.u8 0))), (AC.p (PV.v Value.nilFunc)), (AC.p (PV.v (Value.pointer none))), (AC.p (PV.v (Value.int IntKind.i32 0))), (AC.p (PV.v (Value.int IntKind.i32 0)))]) := by kernel_rfl
theorem ty_fld151_0 : fldOf Try.prog 151 0 = some ((0, (1, false))) := by kernel_rfl
theorem ty_fld151_1 : fldOf Try.prog 151 1 = some ((1, (1, false))) := by kernel_rfl
theorem ty_fld151_2 : fldOf Try.prog 151 2 = some ((2, (1, false))) := by kernel_rfl
theorem ty_fld151_3 : fldOf Try.prog 151 3 = some ((3, (1, false))) := by kernel_rfl
theorem ty_fld151_4 : fldOf Try.prog 151 4 = some ((4, (1, false))) := by kernel_rfl
theorem ty_fld151_5 : fldOf Try.prog 151 5 = some ((5, (1, false))) := by kernel_rfl
theorem ty_fld151_6 : fldOf Try.prog 151 6 = some ((6, (1, false))) := by kernel_rfl
theorem ty_fld151_7 : fldOf Try.prog 151 7 = some ((7, (1, false))) := by kernel_rfl
theorem ty_fld151_8 : fldOf Try.prog 151 8 = some ((8, (1, false))) := by kernel_rfl
theorem ty_fld151_9 : fldOf Try.prog 151 9 = some ((9, (1, false))) := by kernel_rfl
theorem ty_fld151_10 : fldOf Try.prog 151 10 = some ((10, (1, false))) := by kernel_rfl
theorem ty_size152 : tySize Try.prog 152 = some (1) := by kernel_rfl
theorem ty_agg152 : tyAgg Try.prog 152 = some (false) := by kernel_rfl
theorem ty_bytes152 : tyBytes Try.prog 152 = some (8) := by kernel_rfl
theorem ty_zero152 : tyZero Try.prog 152 = some ([(AC.p (PV.v (Value.pointer none)))]) := by kernel_rfl
attribute [go_sem] ty_size0 ty_agg0 ty_bytes0 ty_size1 ty_agg1 ty_bytes1 ty_zero1 ty_size2 ty_agg2 ty_bytes2 ty_zero2 ty_size3 ty_agg3 ty_bytes3 ty_zero3 ty_size4 ty_agg4 ty_bytes4 ty_zero4 ty_size5 ty_agg5 ty_bytes5 ty_zero5 ty_size6 ty_agg6 ty_bytes6 ty_zero6 ty_size7 ty_agg7 ty_bytes7 ty_allsz7 ty_noarr7 ty_zero7 ty_fld7_0 ty_fld7_1 ty_fld7_2 ty_fld7_3 ty_size8 ty_agg8 ty_bytes8 ty_allsz8 ty_noarr8 ty_zero8 ty_fld8_0 ty_fld8_1 ty_fld8_2 ty_fld8_3 ty_size9 ty_agg9 ty_bytes9 ty_size10 ty_agg10 ty_bytes10 ty_size11 ty_agg11 ty_bytes11 ty_size12 ty_agg12 ty_bytes12 ty_zero12 ty_size13 ty_agg13 ty_bytes13 ty_allsz13 ty_noarr13 ty_fld13_0 ty_fld13_1 ty_size14 ty_agg14 ty_bytes14 ty_allsz14 ty_noarr14 ty_fld14_0 ty_fld14_1 ty_size15 ty_agg15 ty_bytes15 ty_zero15 ty_size16 ty_agg16 ty_bytes16 ty_zero16 ty_size17 ty_agg17 ty_bytes17 ty_zero17 ty_size18 ty_agg18 ty_bytes18 ty_allsz18 ty_noarr18 ty_zero18 ty_fld18_0 ty_size19 ty_agg19 ty_bytes19 ty_allsz19 ty_noarr19 ty_zero19 ty_fld19_0 ty_size20 ty_agg20 ty_bytes20 ty_zero20 ty_size21 ty_agg21 ty_bytes21 ty_zero21 ty_size22 ty_agg22 ty_bytes22 ty_elem22 ty_zero22 ty_size23 ty_agg23 ty_bytes23 ty_allsz23 ty_noarr23 ty_zero23 ty_fld23_0 ty_fld23_1 ty_fld23_2 ty_fld23_3 ty_size24 ty_agg24 ty_bytes24 ty_allsz24 ty_noarr24 ty_zero24 ty_fld24_0 ty_fld24_1 ty_fld24_2 ty_fld24_3 ty_size25 ty_agg25 ty_bytes25 ty_zero25 ty_size26 ty_agg26 ty_bytes26 ty_zero26 ty_size27 ty_agg27 ty_bytes27 ty_allsz27 ty_noarr27 ty_zero27 ty_fld27_0 ty_fld27_1 ty_size28 ty_agg28 ty_bytes28 ty_allsz28 ty_noarr28 ty_zero28 ty_fld28_0 ty_fld28_1 ty_size29 ty_agg29 ty_bytes29 ty_zero29 ty_size30 ty_agg30 ty_bytes30 ty_size31 ty_agg31 ty_bytes31 ty_zero31 ty_size32 ty_agg32 ty_bytes32 ty_zero32 ty_size33 ty_agg33 ty_bytes33 ty_size34 ty_agg34 ty_bytes34 ty_zero34 ty_size35 ty_agg35 ty_bytes35 ty_zero35 ty_size36 ty_agg36 ty_bytes36 ty_elem36 ty_zero36 ty_size37 ty_agg37 ty_bytes37 ty_zero37 ty_size38 ty_agg38 ty_bytes38 ty_elem38 ty_zero38 ty_size39 ty_agg39 ty_bytes39 ty_size40 ty_agg40 ty_bytes40 ty_zero40 ty_size41 ty_agg41 ty_bytes41 ty_zero41 ty_size42 ty_agg42 ty_bytes42 ty_zero42 ty_size43 ty_agg43 ty_bytes43 ty_allsz43 ty_noarr43 ty_zero43 ty_fld43_0 ty_fld43_1 ty_fld43_2 ty_size44 ty_agg44 ty_bytes44 ty_allsz44 ty_noarr44 ty_zero44 ty_fld44_0 ty_fld44_1 ty_fld44_2 ty_size45 ty_agg45 ty_bytes45 ty_size46 ty_agg46 ty_bytes46 ty_zero46 ty_size47 ty_agg47 ty_bytes47 ty_zero47 ty_size48 ty_agg48 ty_bytes48 ty_zero48 ty_size49 ty_agg49 ty_bytes49 ty_zero49 ty_size50 ty_agg50 ty_bytes50 ty_zero50 ty_size51 ty_agg51 ty_bytes51 ty_zero51 ty_size52 ty_agg52 ty_bytes52 ty_zero52 ty_size53 ty_agg53 ty_bytes53 ty_elem53 ty_zero53 ty_size54 ty_agg54 ty_bytes54 ty_zero54 ty_size55 ty_agg55 ty_bytes55 ty_zero55 ty_size56 ty_agg56 ty_bytes56 ty_zero56 ty_size57 ty_agg57 ty_bytes57 ty_zero57 ty_size58 ty_agg58 ty_bytes58 ty_zero58 ty_size59 ty_agg59 ty_bytes59 ty_zero59 ty_size60 ty_agg60 ty_bytes60 ty_zero60 ty_size61 ty_agg61 ty_bytes61 ty_zero61 ty_size62 ty_agg62 ty_bytes62 ty_zero62 ty_size63 ty_agg63 ty_bytes63 ty_elem63 ty_zero63 ty_size64 ty_agg64 ty_bytes64 ty_size65 ty_agg65 ty_bytes65 ty_zero65 ty_size66 ty_agg66 ty_bytes66 ty_allsz66 ty_noarr66 ty_zero66 ty_fld66_0 ty_fld66_1 ty_fld66_2 ty_fld66_3 ty_fld66_4 ty_size67 ty_agg67 ty_bytes67 ty_allsz67 ty_noarr67 ty_zero67 ty_fld67_0 ty_fld67_1 ty_fld67_2 ty_fld67_3 ty_fld67_4 ty_size68 ty_agg68 ty_bytes68 ty_zero68 ty_size69 ty_agg69 ty_bytes69 ty_zero69 ty_size70 ty_agg70 ty_bytes70 ty_zero70 ty_size71 ty_agg71 ty_bytes71 ty_zero71 ty_size72 ty_agg72 ty_bytes72 ty_zero72 ty_size73 ty_agg73 ty_bytes73 ty_zero73 ty_size74 ty_agg74 ty_bytes74 ty_zero74 ty_size75 ty_agg75 ty_bytes75 ty_zero75 ty_size76 ty_agg76 ty_bytes76 ty_zero76 ty_size77 ty_agg77 ty_bytes77 ty_allsz77 ty_noarr77 ty_zero77 ty_fld77_0 ty_size78 ty_agg78 ty_bytes78 ty_allsz78 ty_noarr78 ty_zero78 ty_fld78_0 ty_size79 ty_agg79 ty_bytes79 ty_zero79 ty_size80 ty_agg80 ty_bytes80 ty_zero80 ty_size81 ty_agg81 ty_bytes81 ty_zero81 ty_size82 ty_agg82 ty_bytes82 ty_zero82 ty_size83 ty_agg83 ty_bytes83 ty_allsz83 ty_noarr83 ty_zero83 ty_fld83_0 ty_fld83_1 ty_size84 ty_agg84 ty_bytes84 ty_allsz84 ty_noarr84 ty_zero84 ty_fld84_0 ty_fld84_1 ty_size85 ty_agg85 ty_bytes85 ty_zero85 ty_size86 ty_agg86 ty_bytes86 ty_zero86 ty_size87 ty_agg87 ty_bytes87 ty_elem87 ty_arr87 ty_size88 ty_agg88 ty_bytes88 ty_elem88 ty_arr88 ty_size89 ty_agg89 ty_bytes89 ty_zero89 ty_size90 ty_agg90 ty_bytes90 ty_zero90 ty_size91 ty_agg91 ty_bytes91 ty_elem91 ty_zero91 ty_size92 ty_agg92 ty_bytes92 ty_zero92 ty_size93 ty_agg93 ty_bytes93 ty_zero93 ty_size94 ty_agg94 ty_bytes94 ty_zero94 ty_size95 ty_agg95 ty_bytes95 ty_allsz95 ty_noarr95 ty_zero95 ty_fld95_0 ty_size96 ty_agg96 ty_bytes96 ty_allsz96 ty_noarr96 ty_zero96 ty_fld96_0 ty_size97 ty_agg97 ty_bytes97 ty_zero97 ty_size98 ty_agg98 ty_bytes98 ty_zero98 ty_size99 ty_agg99 ty_bytes99 ty_zero99 ty_size100 ty_agg100 ty_bytes100 ty_zero100 ty_size101 ty_agg101 ty_bytes101 ty_size102 ty_agg102 ty_bytes102 ty_zero102 ty_size103 ty_agg103 ty_bytes103 ty_elem103 ty_arr103 ty_zero103 ty_size104 ty_agg104 ty_bytes104 ty_elem104 ty_arr104 ty_size105 ty_agg105 ty_bytes105 ty_elem105 ty_arr105 ty_size106 ty_agg106 ty_bytes106 ty_allsz106 ty_noarr106 ty_zero106 ty_fld106_0 ty_size107 ty_agg107 ty_bytes107 ty_allsz107 ty_noarr107 ty_zero107 ty_fld107_0 ty_size108 ty_agg108 ty_bytes108 ty_allsz108 ty_noarr108 ty_zero108 ty_fld108_0 ty_fld108_1 ty_fld108_2 ty_size109 ty_agg109 ty_bytes109 ty_allsz109 ty_noarr109 ty_zero109 ty_fld109_0 ty_fld109_1 ty_fld109_2 ty_size110 ty_agg110 ty_bytes110 ty_zero110 ty_size111 ty_agg111 ty_bytes111 ty_zero111 ty_size112 ty_agg112 ty_bytes112 ty_elem112 ty_zero112 ty_size113 ty_agg113 ty_bytes113 ty_zero113 ty_size114 ty_agg114 ty_bytes114 ty_zero114 ty_size115 ty_agg115 ty_bytes115 ty_zero115 ty_size116 ty_agg116 ty_bytes116 ty_zero116 ty_size117 ty_agg117 ty_bytes117 ty_allsz117 ty_noarr117 ty_zero117 ty_fld117_0 ty_fld117_1 ty_fld117_2 ty_size118 ty_agg118 ty_bytes118 ty_allsz118 ty_noarr118 ty_zero118 ty_fld118_0 ty_fld118_1 ty_fld118_2 ty_size119 ty_agg119 ty_bytes119 ty_zero119 ty_size120 ty_agg120 ty_bytes120 ty_zero120 ty_size121 ty_agg121 ty_bytes121 ty_zero121 ty_size122 ty_agg122 ty_bytes122 ty_zero122 ty_size123 ty_agg123 ty_bytes123 ty_zero123 ty_size124 ty_agg124 ty_bytes124 ty_zero124 ty_size125 ty_agg125 ty_bytes125 ty_zero125 ty_size126 ty_agg126 ty_bytes126 ty_zero126 ty_size127 ty_agg127 ty_bytes127 ty_zero127 ty_size128 ty_agg128 ty_bytes128 ty_zero128 ty_size129 ty_agg129 ty_bytes129 ty_zero129 ty_size130 ty_agg130 ty_bytes130 ty_size131 ty_agg131 ty_bytes131 ty_zero131 ty_size132 ty_agg132 ty_bytes132 ty_zero132 ty_size133 ty_agg133 ty_bytes133 ty_zero133 ty_size134 ty_agg134 ty_bytes134 ty_zero134 ty_size135 ty_agg135 ty_bytes135 ty_zero135 ty_size136 ty_agg136 ty_bytes136 ty_zero136 ty_size137 ty_agg137 ty_bytes137 ty_zero137 ty_size138 ty_agg138 ty_bytes138 ty_zero138 ty_size139 ty_agg139 ty_bytes139 ty_allsz139 ty_noarr139 ty_fld139_0 ty_fld139_1 ty_fld139_2 ty_fld139_3 ty_size140 ty_agg140 ty_bytes140 ty_allsz140 ty_noarr140 ty_fld140_0 ty_fld140_1 ty_fld140_2 ty_fld140_3 ty_size141 ty_agg141 ty_bytes141 ty_elem141 ty_arr141 ty_zero141 ty_size142 ty_agg142 ty_bytes142 ty_allsz142 ty_noarr142 ty_zero142 ty_fld142_0 ty_size143 ty_agg143 ty_bytes143 ty_allsz143 ty_noarr143 ty_zero143 ty_fld143_0 ty_size144 ty_agg144 ty_bytes144 ty_zero144 ty_size145 ty_agg145 ty_bytes145 ty_zero145 ty_size146 ty_agg146 ty_bytes146 ty_zero146 ty_size147 ty_agg147 ty_bytes147 ty_zero147 ty_size148 ty_agg148 ty_bytes148 ty_zero148 ty_size149 ty_agg149 ty_bytes149 ty_zero149 ty_size150 ty_agg150 ty_bytes150 ty_allsz150 ty_noarr150 ty_zero150 ty_fld150_0 ty_fld150_1 ty_fld150_2 ty_fld150_3 ty_fld150_4 ty_fld150_5 ty_fld150_6 ty_fld150_7 ty_fld150_8 ty_fld150_9 ty_fld150_10 ty_size151 ty_agg151 ty_bytes151 ty_allsz151 ty_noarr151 ty_zero151 ty_fld151_0 ty_fld151_1 ty_fld151_2 ty_fld151_3 ty_fld151_4 ty_fld151_5 ty_fld151_6 ty_fld151_7 ty_fld151_8 ty_fld151_9 ty_fld151_10 ty_size152 ty_agg152 ty_bytes152 ty_zero152
attribute [go_sem] evOps_nil evOps_cons evDraw_nil evDraw_cons callNow isCallOp wantB stepOK stepSt stepWr afterA offA fitA fillOK fillT fillA_eq mapO Bool.and_true Bool.true_and Bool.and_false Bool.false_and Option.isSome_some Option.isSome_none Option.getD_some idsA Op.operands Call.operands wantedA dstOK opA evalA constA zeroAC AL.get_nil AL.get_eq AL.get_ne AL.set St.put St.upd cellsA plainOf plainC rowAtA loadA shiftA unshA fieldAddrA fieldA intOfA indexAddrA indexA lenA avR extractA spl storeA partsA buildA chunk toPV buildSliceA rowsOfA appendA capA nilCheckA plainsA plain1 cap1 part1 arg1 refs1 pvA rvA avRR fnA thenA blockA callPre Nat.zero_ne_one Nat.one_ne_zero true_and and_true Nat.lt_irrefl Nat.zero_add Nat.add_zero ne_eq not_false_eq_true not_true_eq_false Nat.le_refl decide_eq_true_eq Option.bind_some Option.bind_none Option.map_some Option.map_none Value.oneCell' if_true if_false Bool.false_eq_true decide_true decide_false List.getElem?_toArray List.getElem?_cons_zero List.getElem?_cons_succ List.take_succ_cons List.take_zero List.drop_succ_cons List.drop_zero List.drop_nil List.take_nil List.map_cons List.map_nil List.length_cons List.length_nil mapM_eq Option.pure_def Option.bind_eq_bind List.nil_append List.cons_append List.append_nil List.toList_toArray refsV refsC refsCC List.flatMap_cons List.flatMap_nil Array.toList_append List.append_toArray beq_self_eq_true if_pos_d if_neg_d dec_t dec_f get_some1 get_some2 get_some3 row1 row2 row3 List.getElem?_map Bool.not_true Bool.not_false bool_beq_true bool_beq_false bin_add bin_sub bin_mul bin_eql bin_neq bin_lss bin_leq bin_gtr bin_geq un_not un_neg min_two max_two max_three wrap_id Int.toNat_natCast List.length_map zeros_nil zeros_succ initV capV resV resV1 bne_self_eq_false Bool.or_false Bool.or_true Bool.false_or Bool.true_or restrict takeAL allRefs refsO List.all_cons List.all_nil Bool.and_self List.contains_cons List.contains_nil keep reachL slotRefs there keys ov ovL Option.getD_none acP cellPV datC dat1 Kx.callee Kx.calleeT Kx.iter Kx.round setPs looksH
attribute [go_sem] Nat.reduceLT Nat.reduceLeDiff Nat.reduceEqDiff Nat.reduceAdd Nat.reduceSub Nat.reduceMul Nat.reduceBEq reduceCtorEq Int.reduceToNat Int.reduceAdd Int.reduceSub Int.reduceMul Int.reduceLT Int.reduceLE Int.reduceNeg Int.reduceBEq Int.reduceBNe
end Go.Proofs.Ytgdhdikeicgndaa
