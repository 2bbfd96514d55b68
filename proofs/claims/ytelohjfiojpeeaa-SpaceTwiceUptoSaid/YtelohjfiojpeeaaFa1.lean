/- Fa1: a part of the proofs about the tuple space (layer 8). -/
import Derived.Test.YtelohjfiojpeeaaWl
import Derived.Test.YtelohjfiojpeeaaProg
set_option linter.all false
set_option maxRecDepth 100000
set_option maxHeartbeats 0
namespace Go.Abs
open Go
open Go.Proofs.Try (prog)

theorem wfp : WF prog := wf_of_table (by kernel_rfl)
theorem hmix : prog.follows .mixedOrders = true := by kernel_rfl
@[push_cast] def bodyOf (f : Func) : Code := f.body.getD .skip
@[push_cast] theorem sh_2 : shapeT prog 2 = .int .i64 := by kernel_rfl
@[push_cast] theorem ok_2 : okT prog 2 = true := by kernel_rfl
@[push_cast] theorem zo_2 : zOK prog 2 = true := by kernel_rfl
@[push_cast] theorem za_2 : zeroAV prog 2 = .int .i64 0 := by kernel_rfl
@[push_cast] theorem ce_2 : prog.cellsOf 2 = 1 := by kernel_rfl
@[push_cast] theorem ro_2 (k : Nat) : roomOK prog 2 k = decide (k ≤ 4294967296) := room_of (by kernel_rfl) zo_2
@[push_cast] theorem sh_3 : shapeT prog 3 = .int .i64 := by kernel_rfl
@[push_cast] theorem ok_3 : okT prog 3 = true := by kernel_rfl
@[push_cast] theorem zo_3 : zOK prog 3 = true := by kernel_rfl
@[push_cast] theorem za_3 : zeroAV prog 3 = .int .i64 0 := by kernel_rfl
@[push_cast] theorem ce_3 : prog.cellsOf 3 = 1 := by kernel_rfl
@[push_cast] theorem ro_3 (k : Nat) : roomOK prog 3 k = decide (k ≤ 4294967296) := room_of (by kernel_rfl) zo_3
@[push_cast] theorem sh_4 : shapeT prog 4 = .bool := by kernel_rfl
@[push_cast] theorem ok_4 : okT prog 4 = true := by kernel_rfl
@[push_cast] theorem zo_4 : zOK prog 4 = true := by kernel_rfl
@[push_cast] theorem za_4 : zeroAV prog 4 = .bool false := by kernel_rfl
@[push_cast] theorem ce_4 : prog.cellsOf 4 = 1 := by kernel_rfl
@[push_cast] theorem ro_4 (k : Nat) : roomOK prog 4 k = decide (k ≤ 4294967296) := room_of (by kernel_rfl) zo_4
@[push_cast] theorem sh_9 : shapeT prog 9 = .str := by kernel_rfl
@[push_cast] theorem ok_9 : okT prog 9 = true := by kernel_rfl
@[push_cast] theorem zo_9 : zOK prog 9 = true := by kernel_rfl
@[push_cast] theorem za_9 : zeroAV prog 9 = .str ByteArray.empty := by kernel_rfl
@[push_cast] theorem ce_9 : prog.cellsOf 9 = 1 := by kernel_rfl
@[push_cast] theorem ro_9 (k : Nat) : roomOK prog 9 k = decide (k ≤ 4294967296) := room_of (by kernel_rfl) zo_9
@[push_cast] theorem sh_22 : shapeT prog 22 = .slice 3 := by kernel_rfl
@[push_cast] theorem sh_23 : shapeT prog 23 = .slice 25 := by kernel_rfl
@[push_cast] theorem ok_23 : okT prog 23 = true := by kernel_rfl
@[push_cast] theorem zo_23 : zOK prog 23 = true := by kernel_rfl
@[push_cast] theorem za_23 : zeroAV prog 23 = .nils := by kernel_rfl
@[push_cast] theorem ce_23 : prog.cellsOf 23 = 1 := by kernel_rfl
@[push_cast] theorem ro_23 (k : Nat) : roomOK prog 23 k = decide (k ≤ 4294967296) := room_of (by kernel_rfl) zo_23
@[push_cast] theorem sh_25 : shapeT prog 25 = .struct := by kernel_rfl
@[push_cast] theorem fl_25 : fieldsT prog 25 = [(3, 0), (2, 1), (9, 2)] := by kernel_rfl
@[push_cast] theorem po_25 : partsOK prog 25 = true := by kernel_rfl
@[push_cast] theorem ok_25 : okT prog 25 = true := by kernel_rfl
@[push_cast] theorem zo_25 : zOK prog 25 = true := by kernel_rfl
@[push_cast] theorem za_25 : zeroAV prog 25 = .agg 25 [.int .i64 0, .int .i64 0, .str ByteArray.empty] := by kernel_rfl
@[push_cast] theorem ce_25 : prog.cellsOf 25 = 3 := by kernel_rfl
@[push_cast] theorem ro_25 (k : Nat) : roomOK prog 25 k = decide (k ≤ 4294967296) := room_of (by kernel_rfl) zo_25
@[push_cast] theorem sh_27 : shapeT prog 27 = .slice 74 := by kernel_rfl
@[push_cast] theorem ok_27 : okT prog 27 = true := by kernel_rfl
@[push_cast] theorem zo_27 : zOK prog 27 = true := by kernel_rfl
@[push_cast] theorem za_27 : zeroAV prog 27 = .nils := by kernel_rfl
@[push_cast] theorem ce_27 : prog.cellsOf 27 = 1 := by kernel_rfl
@[push_cast] theorem ro_27 (k : Nat) : roomOK prog 27 k = decide (k ≤ 4294967296) := room_of (by kernel_rfl) zo_27
@[push_cast] theorem sh_28 : shapeT prog 28 = .slice 50 := by kernel_rfl
@[push_cast] theorem ok_28 : okT prog 28 = true := by kernel_rfl
@[push_cast] theorem zo_28 : zOK prog 28 = true := by kernel_rfl
@[push_cast] theorem za_28 : zeroAV prog 28 = .nils := by kernel_rfl
@[push_cast] theorem ce_28 : prog.cellsOf 28 = 1 := by kernel_rfl
@[push_cast] theorem ro_28 (k : Nat) : roomOK prog 28 k = decide (k ≤ 4294967296) := room_of (by kernel_rfl) zo_28
@[push_cast] theorem sh_30 : shapeT prog 30 = .struct := by kernel_rfl
@[push_cast] theorem fl_30 : fieldsT prog 30 = [(3, 0), (3, 1), (3, 2), (23, 3), (4, 4)] := by kernel_rfl
@[push_cast] theorem po_30 : partsOK prog 30 = true := by kernel_rfl
@[push_cast] theorem ok_30 : okT prog 30 = true := by kernel_rfl
@[push_cast] theorem zo_30 : zOK prog 30 = true := by kernel_rfl
@[push_cast] theorem za_30 : zeroAV prog 30 = .agg 30 [.int .i64 0, .int .i64 0, .int .i64 0, .nils, .bool false] := by kernel_rfl
@[push_cast] theorem ce_30 : prog.cellsOf 30 = 5 := by kernel_rfl
@[push_cast] theorem ro_30 (k : Nat) : roomOK prog 30 k = decide (k ≤ 4294967296) := room_of (by kernel_rfl) zo_30
@[push_cast] theorem sh_31 : shapeT prog 31 = .arr 4 30 := by kernel_rfl
@[push_cast] theorem po_31 : partsOK prog 31 = true := by kernel_rfl
@[push_cast] theorem ok_31 : okT prog 31 = true := by kernel_rfl
@[push_cast] theorem zo_31 : zOK prog 31 = true := by kernel_rfl
@[push_cast] theorem za_31 : zeroAV prog 31 = .agg 31 [.agg 30 [.int .i64 0, .int .i64 0, .int .i64 0, .nils, .bool false], .agg 30 [.int .i64 0, .int .i64 0, .int .i64 0, .nils, .bool false], .agg 30 [.int .i64 0, .int .i64 0, .int .i64 0, .nils, .bool false], .agg 30 [.int .i64 0, .int .i64 0, .int .i64 0, .nils, .bool false]] := by kernel_rfl
@[push_cast] theorem ce_31 : prog.cellsOf 31 = 20 := by kernel_rfl
@[push_cast] theorem ro_31 (k : Nat) : roomOK prog 31 k = decide (k ≤ 4294967296) := room_of (by kernel_rfl) zo_31
@[push_cast] theorem sh_33 : shapeT prog 33 = .struct := by kernel_rfl
@[push_cast] theorem fl_33 : fieldsT prog 33 = [(3, 0), (27, 1), (28, 2), (3, 3), (3, 4), (31, 5)] := by kernel_rfl
@[push_cast] theorem po_33 : partsOK prog 33 = true := by kernel_rfl
@[push_cast] theorem ok_33 : okT prog 33 = true := by kernel_rfl
@[push_cast] theorem zo_33 : zOK prog 33 = true := by kernel_rfl
@[push_cast] theorem za_33 : zeroAV prog 33 = .agg 33 [.int .i64 0, .nils, .nils, .int .i64 0, .int .i64 0, .agg 31 [.agg 30 [.int .i64 0, .int .i64 0, .int .i64 0, .nils, .bool false], .agg 30 [.int .i64 0, .int .i64 0, .int .i64 0, .nils, .bool false], .agg 30 [.int .i64 0, .int .i64 0, .int .i64 0, .nils, .bool false], .agg 30 [.int .i64 0, .int .i64 0, .int .i64 0, .nils, .bool false]]] := by kernel_rfl
@[push_cast] theorem ce_33 : prog.cellsOf 33 = 25 := by kernel_rfl
@[push_cast] theorem ro_33 (k : Nat) : roomOK prog 33 k = decide (k ≤ 4294967296) := room_of (by kernel_rfl) zo_33
@[push_cast] theorem sh_34 : shapeT prog 34 = .slice 30 := by kernel_rfl
@[push_cast] theorem ok_34 : okT prog 34 = true := by kernel_rfl
@[push_cast] theorem zo_34 : zOK prog 34 = true := by kernel_rfl
@[push_cast] theorem za_34 : zeroAV prog 34 = .nils := by kernel_rfl
@[push_cast] theorem ce_34 : prog.cellsOf 34 = 1 := by kernel_rfl
@[push_cast] theorem ro_34 (k : Nat) : roomOK prog 34 k = decide (k ≤ 4294967296) := room_of (by kernel_rfl) zo_34
@[push_cast] theorem sh_39 : shapeT prog 39 = .struct := by kernel_rfl
@[push_cast] theorem fl_39 : fieldsT prog 39 = [(3, 0), (3, 1), (3, 2), (23, 3), (23, 4), (3, 5)] := by kernel_rfl
@[push_cast] theorem po_39 : partsOK prog 39 = true := by kernel_rfl
@[push_cast] theorem ok_39 : okT prog 39 = true := by kernel_rfl
@[push_cast] theorem zo_39 : zOK prog 39 = true := by kernel_rfl
@[push_cast] theorem za_39 : zeroAV prog 39 = .agg 39 [.int .i64 0, .int .i64 0, .int .i64 0, .nils, .nils, .int .i64 0] := by kernel_rfl
@[push_cast] theorem ce_39 : prog.cellsOf 39 = 6 := by kernel_rfl
@[push_cast] theorem ro_39 (k : Nat) : roomOK prog 39 k = decide (k ≤ 4294967296) := room_of (by kernel_rfl) zo_39
@[push_cast] theorem sh_43 : shapeT prog 43 = .slice 46 := by kernel_rfl
@[push_cast] theorem ok_43 : okT prog 43 = true := by kernel_rfl
@[push_cast] theorem zo_43 : zOK prog 43 = true := by kernel_rfl
@[push_cast] theorem za_43 : zeroAV prog 43 = .nils := by kernel_rfl
@[push_cast] theorem ce_43 : prog.cellsOf 43 = 1 := by kernel_rfl
@[push_cast] theorem ro_43 (k : Nat) : roomOK prog 43 k = decide (k ≤ 4294967296) := room_of (by kernel_rfl) zo_43
@[push_cast] theorem sh_46 : shapeT prog 46 = .struct := by kernel_rfl
@[push_cast] theorem fl_46 : fieldsT prog 46 = [(39, 0), (3, 6)] := by kernel_rfl
@[push_cast] theorem po_46 : partsOK prog 46 = true := by kernel_rfl
@[push_cast] theorem ok_46 : okT prog 46 = true := by kernel_rfl
@[push_cast] theorem zo_46 : zOK prog 46 = true := by kernel_rfl
@[push_cast] theorem za_46 : zeroAV prog 46 = .agg 46 [.agg 39 [.int .i64 0, .int .i64 0, .int .i64 0, .nils, .nils, .int .i64 0], .int .i64 0] := by kernel_rfl
@[push_cast] theorem ce_46 : prog.cellsOf 46 = 7 := by kernel_rfl
@[push_cast] theorem ro_46 (k : Nat) : roomOK prog 46 k = decide (k ≤ 4294967296) := room_of (by kernel_rfl) zo_46
@[push_cast] theorem sh_47 : shapeT prog 47 = .int .u64 := by kernel_rfl
@[push_cast] theorem ok_47 : okT prog 47 = true := by kernel_rfl
@[push_cast] theorem zo_47 : zOK prog 47 = true := by kernel_rfl
@[push_cast] theorem za_47 : zeroAV prog 47 = .int .u64 0 := by kernel_rfl
@[push_cast] theorem ce_47 : prog.cellsOf 47 = 1 := by kernel_rfl
@[push_cast] theorem ro_47 (k : Nat) : roomOK prog 47 k = decide (k ≤ 4294967296) := room_of (by kernel_rfl) zo_47
@[push_cast] theorem sh_50 : shapeT prog 50 = .struct := by kernel_rfl
@[push_cast] theorem fl_50 : fieldsT prog 50 = [(3, 0), (3, 1), (4, 2), (23, 3)] := by kernel_rfl
@[push_cast] theorem po_50 : partsOK prog 50 = true := by kernel_rfl
@[push_cast] theorem ok_50 : okT prog 50 = true := by kernel_rfl
@[push_cast] theorem zo_50 : zOK prog 50 = true := by kernel_rfl
@[push_cast] theorem za_50 : zeroAV prog 50 = .agg 50 [.int .i64 0, .int .i64 0, .bool false, .nils] := by kernel_rfl
@[push_cast] theorem ce_50 : prog.cellsOf 50 = 4 := by kernel_rfl
@[push_cast] theorem ro_50 (k : Nat) : roomOK prog 50 k = decide (k ≤ 4294967296) := room_of (by kernel_rfl) zo_50
@[push_cast] theorem sh_54 : shapeT prog 54 = .slice 4 := by kernel_rfl
@[push_cast] theorem sh_65 : shapeT prog 65 = .func := by kernel_rfl
@[push_cast] theorem ok_65 : okT prog 65 = true := by kernel_rfl
@[push_cast] theorem zo_65 : zOK prog 65 = true := by kernel_rfl
@[push_cast] theorem za_65 : zeroAV prog 65 = .nilfn := by kernel_rfl
@[push_cast] theorem ce_65 : prog.cellsOf 65 = 1 := by kernel_rfl
@[push_cast] theorem ro_65 (k : Nat) : roomOK prog 65 k = decide (k ≤ 4294967296) := room_of (by kernel_rfl) zo_65
@[push_cast] theorem sh_69 : shapeT prog 69 = .ptr 71 := by kernel_rfl
@[push_cast] theorem ok_69 : okT prog 69 = true := by kernel_rfl
@[push_cast] theorem zo_69 : zOK prog 69 = true := by kernel_rfl
@[push_cast] theorem za_69 : zeroAV prog 69 = .nilptr := by kernel_rfl
@[push_cast] theorem ce_69 : prog.cellsOf 69 = 1 := by kernel_rfl
@[push_cast] theorem ro_69 (k : Nat) : roomOK prog 69 k = decide (k ≤ 4294967296) := room_of (by kernel_rfl) zo_69
@[push_cast] theorem sh_71 : shapeT prog 71 = .struct := by kernel_rfl
@[push_cast] theorem fl_71 : fieldsT prog 71 = [(33, 0), (39, 25), (34, 31)] := by kernel_rfl
@[push_cast] theorem po_71 : partsOK prog 71 = true := by kernel_rfl
@[push_cast] theorem ok_71 : okT prog 71 = true := by kernel_rfl
@[push_cast] theorem zo_71 : zOK prog 71 = true := by kernel_rfl
@[push_cast] theorem za_71 : zeroAV prog 71 = .agg 71 [.agg 33 [.int .i64 0, .nils, .nils, .int .i64 0, .int .i64 0, .agg 31 [.agg 30 [.int .i64 0, .int .i64 0, .int .i64 0, .nils, .bool false], .agg 30 [.int .i64 0, .int .i64 0, .int .i64 0, .nils, .bool false], .agg 30 [.int .i64 0, .int .i64 0, .int .i64 0, .nils, .bool false], .agg 30 [.int .i64 0, .int .i64 0, .int .i64 0, .nils, .bool false]]], .agg 39 [.int .i64 0, .int .i64 0, .int .i64 0, .nils, .nils, .int .i64 0], .nils] := by kernel_rfl
@[push_cast] theorem ce_71 : prog.cellsOf 71 = 32 := by kernel_rfl
@[push_cast] theorem ro_71 (k : Nat) : roomOK prog 71 k = decide (k ≤ 4294967296) := room_of (by kernel_rfl) zo_71
@[push_cast] theorem sh_74 : shapeT prog 74 = .struct := by kernel_rfl
@[push_cast] theorem fl_74 : fieldsT prog 74 = [(3, 0), (3, 1), (23, 2)] := by kernel_rfl
@[push_cast] theorem po_74 : partsOK prog 74 = true := by kernel_rfl
@[push_cast] theorem ok_74 : okT prog 74 = true := by kernel_rfl
@[push_cast] theorem zo_74 : zOK prog 74 = true := by kernel_rfl
@[push_cast] theorem za_74 : zeroAV prog 74 = .agg 74 [.int .i64 0, .int .i64 0, .nils] := by kernel_rfl
@[push_cast] theorem ce_74 : prog.cellsOf 74 = 3 := by kernel_rfl
@[push_cast] theorem ro_74 (k : Nat) : roomOK prog 74 k = decide (k ≤ 4294967296) := room_of (by kernel_rfl) zo_74
@[push_cast] theorem sh_76 : shapeT prog 76 = .func := by kernel_rfl
@[push_cast] theorem ok_76 : okT prog 76 = true := by kernel_rfl
@[push_cast] theorem zo_76 : zOK prog 76 = true := by kernel_rfl
@[push_cast] theorem za_76 : zeroAV prog 76 = .nilfn := by kernel_rfl
@[push_cast] theorem ce_76 : prog.cellsOf 76 = 1 := by kernel_rfl
@[push_cast] theorem ro_76 (k : Nat) : roomOK prog 76 k = decide (k ≤ 4294967296) := room_of (by kernel_rfl) zo_76
@[push_cast] theorem sh_80 : shapeT prog 80 = .arr 4 3 := by kernel_rfl
@[push_cast] theorem po_80 : partsOK prog 80 = true := by kernel_rfl
@[push_cast] theorem ok_80 : okT prog 80 = true := by kernel_rfl
@[push_cast] theorem zo_80 : zOK prog 80 = true := by kernel_rfl
@[push_cast] theorem za_80 : zeroAV prog 80 = .agg 80 [.int .i64 0, .int .i64 0, .int .i64 0, .int .i64 0] := by kernel_rfl
@[push_cast] theorem ce_80 : prog.cellsOf 80 = 4 := by kernel_rfl
@[push_cast] theorem ro_80 (k : Nat) : roomOK prog 80 k = decide (k ≤ 4294967296) := room_of (by kernel_rfl) zo_80
@[push_cast] theorem sh_86 : shapeT prog 86 = .func := by kernel_rfl
@[push_cast] theorem ok_86 : okT prog 86 = true := by kernel_rfl
@[push_cast] theorem zo_86 : zOK prog 86 = true := by kernel_rfl
@[push_cast] theorem za_86 : zeroAV prog 86 = .nilfn := by kernel_rfl
@[push_cast] theorem ce_86 : prog.cellsOf 86 = 1 := by kernel_rfl
@[push_cast] theorem ro_86 (k : Nat) : roomOK prog 86 k = decide (k ≤ 4294967296) := room_of (by kernel_rfl) zo_86
@[push_cast] theorem sh_88 : shapeT prog 88 = .func := by kernel_rfl
@[push_cast] theorem ok_88 : okT prog 88 = true := by kernel_rfl
@[push_cast] theorem zo_88 : zOK prog 88 = true := by kernel_rfl
@[push_cast] theorem za_88 : zeroAV prog 88 = .nilfn := by kernel_rfl
@[push_cast] theorem ce_88 : prog.cellsOf 88 = 1 := by kernel_rfl
@[push_cast] theorem ro_88 (k : Nat) : roomOK prog 88 k = decide (k ≤ 4294967296) := room_of (by kernel_rfl) zo_88
@[push_cast] theorem sh_100 : shapeT prog 100 = .func := by kernel_rfl
@[push_cast] theorem ok_100 : okT prog 100 = true := by kernel_rfl
@[push_cast] theorem zo_100 : zOK prog 100 = true := by kernel_rfl
@[push_cast] theorem za_100 : zeroAV prog 100 = .nilfn := by kernel_rfl
@[push_cast] theorem ce_100 : prog.cellsOf 100 = 1 := by kernel_rfl
@[push_cast] theorem ro_100 (k : Nat) : roomOK prog 100 k = decide (k ≤ 4294967296) := room_of (by kernel_rfl) zo_100
@[push_cast] theorem sh_102 : shapeT prog 102 = .func := by kernel_rfl
@[push_cast] theorem ok_102 : okT prog 102 = true := by kernel_rfl
@[push_cast] theorem zo_102 : zOK prog 102 = true := by kernel_rfl
@[push_cast] theorem za_102 : zeroAV prog 102 = .nilfn := by kernel_rfl
@[push_cast] theorem ce_102 : prog.cellsOf 102 = 1 := by kernel_rfl
@[push_cast] theorem ro_102 (k : Nat) : roomOK prog 102 k = decide (k ≤ 4294967296) := room_of (by kernel_rfl) zo_102
theorem run_4 {args : List AV} {R : AV → Prop} (hn : args.length = 1) (hw : ∀ h, Rn prog [.code (bodyOf Go.Proofs.Try.f4)] .normal (env0 0 args [2, 3, 4, 5, 6, 15, 24, 61, 66, 77]) h (Fin prog [.tmp 2] h R)) : Pure prog 4 args R :=
  fn_run wfp [2, 3, 4, 5, 6, 15, 24, 61, 66, 77] Go.Proofs.Try.func4 _ rfl (by kernel_rfl) (by kernel_rfl) (by kernel_rfl) Go.Proofs.Try.ntmps4 (by rw [hn]; decide) hw
theorem run_5 {args : List AV} {R : AV → Prop} (hn : args.length = 4) (hw : ∀ h, Rn prog [.code (bodyOf Go.Proofs.Try.f5)] .normal (env0 0 args [8, 9, 10, 11, 12, 13, 15, 16, 17, 20, 83]) h (Fin prog [.tmp 8] h R)) : Pure prog 5 args R :=
  fn_run wfp [8, 9, 10, 11, 12, 13, 15, 16, 17, 20, 83] Go.Proofs.Try.func5 _ rfl (by kernel_rfl) (by kernel_rfl) (by kernel_rfl) Go.Proofs.Try.ntmps5 (by rw [hn]; decide) hw
theorem run_10 {args : List AV} {R : AV → Prop} (hn : args.length = 3) (hw : ∀ h, Rn prog [.code (bodyOf Go.Proofs.Try.f10)] .normal (env0 0 args [6, 7, 8, 10, 11, 12, 13, 14, 15, 16, 19]) h (Fin prog [.tmp 6] h R)) : Pure prog 10 args R :=
  fn_run wfp [6, 7, 8, 10, 11, 12, 13, 14, 15, 16, 19] Go.Proofs.Try.func10 _ rfl (by kernel_rfl) (by kernel_rfl) (by kernel_rfl) Go.Proofs.Try.ntmps10 (by rw [hn]; decide) hw
theorem run_13 {args : List AV} {R : AV → Prop} (hn : args.length = 3) (hw : ∀ h, Rn prog [.code (bodyOf Go.Proofs.Try.f13)] .normal (env0 0 args [4, 6, 7, 8, 9, 10, 11, 12, 13, 14, 15, 16, 17, 18, 19, 27, 36, 45, 65, 145]) h (Fin prog [.tmp 6] h R)) : Pure prog 13 args R :=
  fn_run wfp [4, 6, 7, 8, 9, 10, 11, 12, 13, 14, 15, 16, 17, 18, 19, 27, 36, 45, 65, 145] Go.Proofs.Try.func13 _ rfl (by kernel_rfl) (by kernel_rfl) (by kernel_rfl) Go.Proofs.Try.ntmps13 (by rw [hn]; decide) hw
theorem run_15 {args : List AV} {R : AV → Prop} (hn : args.length = 0) (hw : ∀ h, Rn prog [.code (bodyOf Go.Proofs.Try.f15)] .normal (env0 0 args [0, 1, 2, 3, 4, 5, 6, 7, 8, 9]) h (Fin prog [.tmp 0] h R)) : Pure prog 15 args R :=
  fn_run wfp [0, 1, 2, 3, 4, 5, 6, 7, 8, 9] Go.Proofs.Try.func15 _ rfl (by kernel_rfl) (by kernel_rfl) (by kernel_rfl) Go.Proofs.Try.ntmps15 (by rw [hn]; decide) hw
theorem frun_16 {args : List AV} {h : List Entry} {K : AV → List Entry → Prop} (hn : args.length = 3) (hw : Rn prog [.code (bodyOf Go.Proofs.Try.f16)] .normal (env0 0 args [3, 4, 5, 6, 7, 8, 9, 27, 64, 77]) h (FinK prog [.cell 6 33, .tmp 7] K)) : FSpec prog 16 args h K :=
  fs_run wfp [3, 4, 5, 6, 7, 8, 9, 27, 64, 77] Go.Proofs.Try.func16 _ rfl (by kernel_rfl) (by kernel_rfl) (by kernel_rfl) Go.Proofs.Try.ntmps16 (by rw [hn]; decide) hw
theorem run_17 {args : List AV} {R : AV → Prop} (hn : args.length = 2) (hw : ∀ h, Rn prog [.code (bodyOf Go.Proofs.Try.f17)] .normal (env0 0 args [4, 5, 6, 12, 13]) h (Fin prog [.cell 4 33] h R)) : Pure prog 17 args R :=
  fn_run wfp [4, 5, 6, 12, 13] Go.Proofs.Try.func17 _ rfl (by kernel_rfl) (by kernel_rfl) (by kernel_rfl) Go.Proofs.Try.ntmps17 (by rw [hn]; decide) hw
theorem run_18 {args : List AV} {R : AV → Prop} (hn : args.length = 2) (hw : ∀ h, Rn prog [.code (bodyOf Go.Proofs.Try.f18)] .normal (env0 0 args [4, 5, 10, 14, 25]) h (Fin prog [.tmp 4] h R)) : Pure prog 18 args R :=
  fn_run wfp [4, 5, 10, 14, 25] Go.Proofs.Try.func18 _ rfl (by kernel_rfl) (by kernel_rfl) (by kernel_rfl) Go.Proofs.Try.ntmps18 (by rw [hn]; decide) hw
theorem run_19 {args : List AV} {R : AV → Prop} (hn : args.length = 2) (hw : ∀ h, Rn prog [.code (bodyOf Go.Proofs.Try.f19)] .normal (env0 0 args [2, 3, 4]) h (Fin prog [.tmp 4] h R)) : Pure prog 19 args R :=
  fn_run wfp [2, 3, 4] Go.Proofs.Try.func19 _ rfl (by kernel_rfl) (by kernel_rfl) (by kernel_rfl) Go.Proofs.Try.ntmps19 (by rw [hn]; decide) hw
theorem run_20 {args : List AV} {R : AV → Prop} (hn : args.length = 1) (hw : ∀ h, Rn prog [.code (bodyOf Go.Proofs.Try.f20)] .normal (env0 0 args [1, 2]) h (Fin prog [.tmp 2] h R)) : Pure prog 20 args R :=
  fn_run wfp [1, 2] Go.Proofs.Try.func20 _ rfl (by kernel_rfl) (by kernel_rfl) (by kernel_rfl) Go.Proofs.Try.ntmps20 (by rw [hn]; decide) hw
theorem run_21 {args : List AV} {R : AV → Prop} (hn : args.length = 1) (hw : ∀ h, Rn prog [.code (bodyOf Go.Proofs.Try.f21)] .normal (env0 0 args [1, 2, 3, 5, 7, 8, 9, 41, 43, 44, 45, 46, 53, 64, 67, 68, 69, 70, 92, 95, 96, 97, 103]) h (Fin prog [.tmp 2] h R)) : Pure prog 21 args R :=
  fn_run wfp [1, 2, 3, 5, 7, 8, 9, 41, 43, 44, 45, 46, 53, 64, 67, 68, 69, 70, 92, 95, 96, 97, 103] Go.Proofs.Try.func21 _ rfl (by kernel_rfl) (by kernel_rfl) (by kernel_rfl) Go.Proofs.Try.ntmps21 (by rw [hn]; decide) hw
theorem run_22 {args : List AV} {R : AV → Prop} (hn : args.length = 1) (hw : ∀ h, Rn prog [.code (bodyOf Go.Proofs.Try.f22)] .normal (env0 0 args [2]) h (Fin prog [.tmp 2] h R)) : Pure prog 22 args R :=
  fn_run wfp [2] Go.Proofs.Try.func22 _ rfl (by kernel_rfl) (by kernel_rfl) (by kernel_rfl) Go.Proofs.Try.ntmps22 (by rw [hn]; decide) hw
theorem run_24 {args : List AV} {R : AV → Prop} (hn : args.length = 2) (hw : ∀ h, Rn prog [.code (bodyOf Go.Proofs.Try.f24)] .normal (env0 0 args [2, 3, 4]) h (Fin prog [.tmp 4] h R)) : Pure prog 24 args R :=
  fn_run wfp [2, 3, 4] Go.Proofs.Try.func24 _ rfl (by kernel_rfl) (by kernel_rfl) (by kernel_rfl) Go.Proofs.Try.ntmps24 (by rw [hn]; decide) hw
theorem run_31 {args : List AV} {R : AV → Prop} (hn : args.length = 1) (hw : ∀ h, Rn prog [.code (bodyOf Go.Proofs.Try.f31)] .normal (env0 0 args [1, 2, 3, 31, 76, 79]) h (Fin prog [.tmp 2] h R)) : Pure prog 31 args R :=
  fn_run wfp [1, 2, 3, 31, 76, 79] Go.Proofs.Try.func31 _ rfl (by kernel_rfl) (by kernel_rfl) (by kernel_rfl) Go.Proofs.Try.ntmps31 (by rw [hn]; decide) hw
theorem frun_32 {args : List AV} {h : List Entry} {K : AV → List Entry → Prop} (hn : args.length = 4) (hw : Rn prog [.code (bodyOf Go.Proofs.Try.f32)] .normal (env0 0 args [8, 9, 10, 11, 12, 24]) h (FinK prog [.cell 8 33, .tmp 9] K)) : FSpec prog 32 args h K :=
  fs_run wfp [8, 9, 10, 11, 12, 24] Go.Proofs.Try.func32 _ rfl (by kernel_rfl) (by kernel_rfl) (by kernel_rfl) Go.Proofs.Try.ntmps32 (by rw [hn]; decide) hw
theorem run_33 {args : List AV} {R : AV → Prop} (hn : args.length = 2) (hw : ∀ h, Rn prog [.code (bodyOf Go.Proofs.Try.f33)] .normal (env0 0 args [2, 3, 4]) h (Fin prog [.tmp 4] h R)) : Pure prog 33 args R :=
  fn_run wfp [2, 3, 4] Go.Proofs.Try.func33 _ rfl (by kernel_rfl) (by kernel_rfl) (by kernel_rfl) Go.Proofs.Try.ntmps33 (by rw [hn]; decide) hw
theorem run_34 {args : List AV} {R : AV → Prop} (hn : args.length = 1) (hw : ∀ h, Rn prog [.code (bodyOf Go.Proofs.Try.f34)] .normal (env0 0 args [2]) h (Fin prog [.tmp 2] h R)) : Pure prog 34 args R :=
  fn_run wfp [2] Go.Proofs.Try.func34 _ rfl (by kernel_rfl) (by kernel_rfl) (by kernel_rfl) Go.Proofs.Try.ntmps34 (by rw [hn]; decide) hw
theorem run_36 {args : List AV} {R : AV → Prop} (hn : args.length = 1) (hw : ∀ h, Rn prog [.code (bodyOf Go.Proofs.Try.f36)] .normal (env0 0 args [1, 2, 3, 4, 32, 44, 64]) h (Fin prog [.tmp 2] h R)) : Pure prog 36 args R :=
  fn_run wfp [1, 2, 3, 4, 32, 44, 64] Go.Proofs.Try.func36 _ rfl (by kernel_rfl) (by kernel_rfl) (by kernel_rfl) Go.Proofs.Try.ntmps36 (by rw [hn]; decide) hw
theorem frun_37 {args : List AV} {h : List Entry} {K : AV → List Entry → Prop} (hn : args.length = 2) (hw : Rn prog [.code (bodyOf Go.Proofs.Try.f37)] .normal (env0 0 args [4, 5, 6, 7, 12, 19, 29]) h (FinK prog [.tmp 4] K)) : FSpec prog 37 args h K :=
  fs_run wfp [4, 5, 6, 7, 12, 19, 29] Go.Proofs.Try.func37 _ rfl (by kernel_rfl) (by kernel_rfl) (by kernel_rfl) Go.Proofs.Try.ntmps37 (by rw [hn]; decide) hw
theorem frun_38 {args : List AV} {h : List Entry} {K : AV → List Entry → Prop} (hn : args.length = 1) (hw : Rn prog [.code (bodyOf Go.Proofs.Try.f38)] .normal (env0 0 args [2, 4]) h (FinK prog [.tmp 2] K)) : FSpec prog 38 args h K :=
  fs_run wfp [2, 4] Go.Proofs.Try.func38 _ rfl (by kernel_rfl) (by kernel_rfl) (by kernel_rfl) Go.Proofs.Try.ntmps38 (by rw [hn]; decide) hw
theorem run_39 {args : List AV} {R : AV → Prop} (hn : args.length = 2) (hw : ∀ h, Rn prog [.code (bodyOf Go.Proofs.Try.f39)] .normal (env0 0 args [2, 3]) h (Fin prog [.tmp 3] h R)) : Pure prog 39 args R :=
  fn_run wfp [2, 3] Go.Proofs.Try.func39 _ rfl (by kernel_rfl) (by kernel_rfl) (by kernel_rfl) Go.Proofs.Try.ntmps39 (by rw [hn]; decide) hw
theorem frun_40 {args : List AV} {h : List Entry} {K : AV → List Entry → Prop} (hn : args.length = 1) (hw : Rn prog [.code (bodyOf Go.Proofs.Try.f40)] .normal (env0 0 args [2, 4]) h (FinK prog [.tmp 2] K)) : FSpec prog 40 args h K :=
  fs_run wfp [2, 4] Go.Proofs.Try.func40 _ rfl (by kernel_rfl) (by kernel_rfl) (by kernel_rfl) Go.Proofs.Try.ntmps40 (by rw [hn]; decide) hw
theorem frun_41 {args : List AV} {h : List Entry} {K : AV → List Entry → Prop} (hn : args.length = 2) (hw : Rn prog [.code (bodyOf Go.Proofs.Try.f41)] .normal (env0 0 args [3]) h (FinK prog [] K)) : FSpec prog 41 args h K :=
  fs_run wfp [3] Go.Proofs.Try.func41 _ rfl (by kernel_rfl) (by kernel_rfl) (by kernel_rfl) Go.Proofs.Try.ntmps41 (by rw [hn]; decide) hw
theorem frun_42 {args : List AV} {h : List Entry} {K : AV → List Entry → Prop} (hn : args.length = 1) (hw : Rn prog [.code (bodyOf Go.Proofs.Try.f42)] .normal (env0 0 args [2, 44, 51, 54, 58, 93, 105, 110]) h (FinK prog [] K)) : FSpec prog 42 args h K :=
  fs_run wfp [2, 44, 51, 54, 58, 93, 105, 110] Go.Proofs.Try.func42 _ rfl (by kernel_rfl) (by kernel_rfl) (by kernel_rfl) Go.Proofs.Try.ntmps42 (by rw [hn]; decide) hw
theorem run_43 {args : List AV} {R : AV → Prop} (hn : args.length = 2) (hw : ∀ h, Rn prog [.code (bodyOf Go.Proofs.Try.f43)] .normal (env0 0 args [4, 5, 7, 8, 9, 16]) h (Fin prog [.tmp 4] h R)) : Pure prog 43 args R :=
  fn_run wfp [4, 5, 7, 8, 9, 16] Go.Proofs.Try.func43 _ rfl (by kernel_rfl) (by kernel_rfl) (by kernel_rfl) Go.Proofs.Try.ntmps43 (by rw [hn]; decide) hw
theorem run_44 {args : List AV} {R : AV → Prop} (hn : args.length = 2) (hw : ∀ h, Rn prog [.code (bodyOf Go.Proofs.Try.f44)] .normal (env0 0 args [2, 3]) h (Fin prog [.tmp 3] h R)) : Pure prog 44 args R :=
  fn_run wfp [2, 3] Go.Proofs.Try.func44 _ rfl (by kernel_rfl) (by kernel_rfl) (by kernel_rfl) Go.Proofs.Try.ntmps44 (by rw [hn]; decide) hw
theorem run_45 {args : List AV} {R : AV → Prop} (hn : args.length = 2) (hw : ∀ h, Rn prog [.code (bodyOf Go.Proofs.Try.f45)] .normal (env0 0 args [4]) h (Fin prog [.tmp 4] h R)) : Pure prog 45 args R :=
  fn_run wfp [4] Go.Proofs.Try.func45 _ rfl (by kernel_rfl) (by kernel_rfl) (by kernel_rfl) Go.Proofs.Try.ntmps45 (by rw [hn]; decide) hw
theorem run_46 {args : List AV} {R : AV → Prop} (hn : args.length = 1) (hw : ∀ h, Rn prog [.code (bodyOf Go.Proofs.Try.f46)] .normal (env0 0 args [2, 3, 6, 10, 19]) h (Fin prog [.tmp 2] h R)) : Pure prog 46 args R :=
  fn_run wfp [2, 3, 6, 10, 19] Go.Proofs.Try.func46 _ rfl (by kernel_rfl) (by kernel_rfl) (by kernel_rfl) Go.Proofs.Try.ntmps46 (by rw [hn]; decide) hw
theorem run_47 {args : List AV} {R : AV → Prop} (hn : args.length = 2) (hw : ∀ h, Rn prog [.code (bodyOf Go.Proofs.Try.f47)] .normal (env0 0 args [2, 4]) h (Fin prog [.tmp 4] h R)) : Pure prog 47 args R :=
  fn_run wfp [2, 4] Go.Proofs.Try.func47 _ rfl (by kernel_rfl) (by kernel_rfl) (by kernel_rfl) Go.Proofs.Try.ntmps47 (by rw [hn]; decide) hw
theorem run_48 {args : List AV} {R : AV → Prop} (hn : args.length = 1) (hw : ∀ h, Rn prog [.code (bodyOf Go.Proofs.Try.f48)] .normal (env0 0 args [2]) h (Fin prog [.tmp 2] h R)) : Pure prog 48 args R :=
  fn_run wfp [2] Go.Proofs.Try.func48 _ rfl (by kernel_rfl) (by kernel_rfl) (by kernel_rfl) Go.Proofs.Try.ntmps48 (by rw [hn]; decide) hw
theorem run_49 {args : List AV} {R : AV → Prop} (hn : args.length = 1) (hw : ∀ h, Rn prog [.code (bodyOf Go.Proofs.Try.f49)] .normal (env0 0 args [2]) h (Fin prog [.tmp 2] h R)) : Pure prog 49 args R :=
  fn_run wfp [2] Go.Proofs.Try.func49 _ rfl (by kernel_rfl) (by kernel_rfl) (by kernel_rfl) Go.Proofs.Try.ntmps49 (by rw [hn]; decide) hw
theorem run_50 {args : List AV} {R : AV → Prop} (hn : args.length = 2) (hw : ∀ h, Rn prog [.code (bodyOf Go.Proofs.Try.f50)] .normal (env0 0 args [2, 4, 18, 21, 38]) h (Fin prog [.tmp 4] h R)) : Pure prog 50 args R :=
  fn_run wfp [2, 4, 18, 21, 38] Go.Proofs.Try.func50 _ rfl (by kernel_rfl) (by kernel_rfl) (by kernel_rfl) Go.Proofs.Try.ntmps50 (by rw [hn]; decide) hw
theorem run_51 {args : List AV} {R : AV → Prop} (hn : args.length = 2) (hw : ∀ h, Rn prog [.code (bodyOf Go.Proofs.Try.f51)] .normal (env0 0 args [4, 5, 6, 14, 18, 59]) h (Fin prog [.tmp 4] h R)) : Pure prog 51 args R :=
  fn_run wfp [4, 5, 6, 14, 18, 59] Go.Proofs.Try.func51 _ rfl (by kernel_rfl) (by kernel_rfl) (by kernel_rfl) Go.Proofs.Try.ntmps51 (by rw [hn]; decide) hw
theorem run_53 {args : List AV} {R : AV → Prop} (hn : args.length = 1) (hw : ∀ h, Rn prog [.code (bodyOf Go.Proofs.Try.f53)] .normal (env0 0 args [2]) h (Fin prog [.tmp 2] h R)) : Pure prog 53 args R :=
  fn_run wfp [2] Go.Proofs.Try.func53 _ rfl (by kernel_rfl) (by kernel_rfl) (by kernel_rfl) Go.Proofs.Try.ntmps53 (by rw [hn]; decide) hw
theorem run_55 {args : List AV} {R : AV → Prop} (hn : args.length = 3) (hw : ∀ h, Rn prog [.code (bodyOf Go.Proofs.Try.f55)] .normal (env0 0 args [6, 7, 8, 9, 14, 15, 16, 17, 18, 30]) h (Fin prog [.tmp 6] h R)) : Pure prog 55 args R :=
  fn_run wfp [6, 7, 8, 9, 14, 15, 16, 17, 18, 30] Go.Proofs.Try.func55 _ rfl (by kernel_rfl) (by kernel_rfl) (by kernel_rfl) Go.Proofs.Try.ntmps55 (by rw [hn]; decide) hw
theorem run_56 {args : List AV} {R : AV → Prop} (hn : args.length = 2) (hw : ∀ h, Rn prog [.code (bodyOf Go.Proofs.Try.f56)] .normal (env0 0 args [2, 3, 4]) h (Fin prog [.tmp 4] h R)) : Pure prog 56 args R :=
  fn_run wfp [2, 3, 4] Go.Proofs.Try.func56 _ rfl (by kernel_rfl) (by kernel_rfl) (by kernel_rfl) Go.Proofs.Try.ntmps56 (by rw [hn]; decide) hw
theorem run_57 {args : List AV} {R : AV → Prop} (hn : args.length = 3) (hw : ∀ h, Rn prog [.code (bodyOf Go.Proofs.Try.f57)] .normal (env0 0 args [6, 7, 8, 9, 14, 15, 16, 17, 18, 30]) h (Fin prog [.tmp 6] h R)) : Pure prog 57 args R :=
  fn_run wfp [6, 7, 8, 9, 14, 15, 16, 17, 18, 30] Go.Proofs.Try.func57 _ rfl (by kernel_rfl) (by kernel_rfl) (by kernel_rfl) Go.Proofs.Try.ntmps57 (by rw [hn]; decide) hw
theorem run_58 {args : List AV} {R : AV → Prop} (hn : args.length = 2) (hw : ∀ h, Rn prog [.code (bodyOf Go.Proofs.Try.f58)] .normal (env0 0 args [2, 3, 4]) h (Fin prog [.tmp 4] h R)) : Pure prog 58 args R :=
  fn_run wfp [2, 3, 4] Go.Proofs.Try.func58 _ rfl (by kernel_rfl) (by kernel_rfl) (by kernel_rfl) Go.Proofs.Try.ntmps58 (by rw [hn]; decide) hw
theorem run_59 {args : List AV} {R : AV → Prop} (hn : args.length = 3) (hw : ∀ h, Rn prog [.code (bodyOf Go.Proofs.Try.f59)] .normal (env0 0 args [6, 7, 8, 9, 14, 15, 16, 17, 18, 30]) h (Fin prog [.tmp 6] h R)) : Pure prog 59 args R :=
  fn_run wfp [6, 7, 8, 9, 14, 15, 16, 17, 18, 30] Go.Proofs.Try.func59 _ rfl (by kernel_rfl) (by kernel_rfl) (by kernel_rfl) Go.Proofs.Try.ntmps59 (by rw [hn]; decide) hw
theorem run_60 {args : List AV} {R : AV → Prop} (hn : args.length = 2) (hw : ∀ h, Rn prog [.code (bodyOf Go.Proofs.Try.f60)] .normal (env0 0 args [2, 3, 4]) h (Fin prog [.tmp 4] h R)) : Pure prog 60 args R :=
  fn_run wfp [2, 3, 4] Go.Proofs.Try.func60 _ rfl (by kernel_rfl) (by kernel_rfl) (by kernel_rfl) Go.Proofs.Try.ntmps60 (by rw [hn]; decide) hw
theorem run_66 {args : List AV} {R : AV → Prop} (hn : args.length = 2) (hw : ∀ h, Rn prog [.code (bodyOf Go.Proofs.Try.f66)] .normal (env0 0 args [4]) h (Fin prog [.tmp 4] h R)) : Pure prog 66 args R :=
  fn_run wfp [4] Go.Proofs.Try.func66 _ rfl (by kernel_rfl) (by kernel_rfl) (by kernel_rfl) Go.Proofs.Try.ntmps66 (by rw [hn]; decide) hw
theorem run_67 {args : List AV} {R : AV → Prop} (hn : args.length = 1) (hw : ∀ h, Rn prog [.code (bodyOf Go.Proofs.Try.f67)] .normal (env0 0 args [2]) h (Fin prog [.tmp 2] h R)) : Pure prog 67 args R :=
  fn_run wfp [2] Go.Proofs.Try.func67 _ rfl (by kernel_rfl) (by kernel_rfl) (by kernel_rfl) Go.Proofs.Try.ntmps67 (by rw [hn]; decide) hw
theorem run_68 {args : List AV} {R : AV → Prop} (hn : args.length = 1) (hw : ∀ h, Rn prog [.code (bodyOf Go.Proofs.Try.f68)] .normal (env0 0 args [2]) h (Fin prog [.tmp 2] h R)) : Pure prog 68 args R :=
  fn_run wfp [2] Go.Proofs.Try.func68 _ rfl (by kernel_rfl) (by kernel_rfl) (by kernel_rfl) Go.Proofs.Try.ntmps68 (by rw [hn]; decide) hw
theorem run_69 {args : List AV} {R : AV → Prop} (hn : args.length = 1) (hw : ∀ h, Rn prog [.code (bodyOf Go.Proofs.Try.f69)] .normal (env0 0 args [2, 4]) h (Fin prog [.tmp 2] h R)) : Pure prog 69 args R :=
  fn_run wfp [2, 4] Go.Proofs.Try.func69 _ rfl (by kernel_rfl) (by kernel_rfl) (by kernel_rfl) Go.Proofs.Try.ntmps69 (by rw [hn]; decide) hw
theorem run_70 {args : List AV} {R : AV → Prop} (hn : args.length = 1) (hw : ∀ h, Rn prog [.code (bodyOf Go.Proofs.Try.f70)] .normal (env0 0 args [2]) h (Fin prog [.tmp 2] h R)) : Pure prog 70 args R :=
  fn_run wfp [2] Go.Proofs.Try.func70 _ rfl (by kernel_rfl) (by kernel_rfl) (by kernel_rfl) Go.Proofs.Try.ntmps70 (by rw [hn]; decide) hw
theorem frun_71 {args : List AV} {h : List Entry} {K : AV → List Entry → Prop} (hn : args.length = 3) (hw : Rn prog [.code (bodyOf Go.Proofs.Try.f71)] .normal (env0 0 args []) h (FinK prog [] K)) : FSpec prog 71 args h K :=
  fs_run wfp [] Go.Proofs.Try.func71 _ rfl (by kernel_rfl) (by kernel_rfl) (by kernel_rfl) Go.Proofs.Try.ntmps71 (by rw [hn]; decide) hw
theorem frun_72 {args : List AV} {h : List Entry} {K : AV → List Entry → Prop} (hn : args.length = 1) (hw : Rn prog [.code (bodyOf Go.Proofs.Try.f72)] .normal (env0 0 args [3]) h (FinK prog [] K)) : FSpec prog 72 args h K :=
  fs_run wfp [3] Go.Proofs.Try.func72 _ rfl (by kernel_rfl) (by kernel_rfl) (by kernel_rfl) Go.Proofs.Try.ntmps72 (by rw [hn]; decide) hw
theorem frun_73 {args : List AV} {h : List Entry} {K : AV → List Entry → Prop} (hn : args.length = 3) (hw : Rn prog [.code (bodyOf Go.Proofs.Try.f73)] .normal (env0 0 args [6, 48, 62, 66, 71]) h (FinK prog [] K)) : FSpec prog 73 args h K :=
  fs_run wfp [6, 48, 62, 66, 71] Go.Proofs.Try.func73 _ rfl (by kernel_rfl) (by kernel_rfl) (by kernel_rfl) Go.Proofs.Try.ntmps73 (by rw [hn]; decide) hw
theorem frun_74 {args : List AV} {h : List Entry} {K : AV → List Entry → Prop} (hn : args.length = 1) (hw : Rn prog [.code (bodyOf Go.Proofs.Try.f74)] .normal (env0 0 args [2, 29, 34]) h (FinK prog [] K)) : FSpec prog 74 args h K :=
  fs_run wfp [2, 29, 34] Go.Proofs.Try.func74 _ rfl (by kernel_rfl) (by kernel_rfl) (by kernel_rfl) Go.Proofs.Try.ntmps74 (by rw [hn]; decide) hw
theorem run_75 {args : List AV} {R : AV → Prop} (hn : args.length = 3) (hw : ∀ h, Rn prog [.code (bodyOf Go.Proofs.Try.f75)] .normal (env0 0 args [6, 7, 8, 9, 14, 15, 16, 17, 18, 30]) h (Fin prog [.tmp 6] h R)) : Pure prog 75 args R :=
  fn_run wfp [6, 7, 8, 9, 14, 15, 16, 17, 18, 30] Go.Proofs.Try.func75 _ rfl (by kernel_rfl) (by kernel_rfl) (by kernel_rfl) Go.Proofs.Try.ntmps75 (by rw [hn]; decide) hw
theorem run_76 {args : List AV} {R : AV → Prop} (hn : args.length = 2) (hw : ∀ h, Rn prog [.code (bodyOf Go.Proofs.Try.f76)] .normal (env0 0 args [2, 3, 4, 6, 7, 12, 17]) h (Fin prog [.tmp 4] h R)) : Pure prog 76 args R :=
  fn_run wfp [2, 3, 4, 6, 7, 12, 17] Go.Proofs.Try.func76 _ rfl (by kernel_rfl) (by kernel_rfl) (by kernel_rfl) Go.Proofs.Try.ntmps76 (by rw [hn]; decide) hw
theorem run_77 {args : List AV} {R : AV → Prop} (hn : args.length = 2) (hw : ∀ h, Rn prog [.code (bodyOf Go.Proofs.Try.f77)] .normal (env0 0 args [3, 4]) h (Fin prog [.tmp 4] h R)) : Pure prog 77 args R :=
  fn_run wfp [3, 4] Go.Proofs.Try.func77 _ rfl (by kernel_rfl) (by kernel_rfl) (by kernel_rfl) Go.Proofs.Try.ntmps77 (by rw [hn]; decide) hw
theorem run_78 {args : List AV} {R : AV → Prop} (hn : args.length = 1) (hw : ∀ h, Rn prog [.code (bodyOf Go.Proofs.Try.f78)] .normal (env0 0 args [1, 2, 4, 5]) h (Fin prog [.tmp 2] h R)) : Pure prog 78 args R :=
  fn_run wfp [1, 2, 4, 5] Go.Proofs.Try.func78 _ rfl (by kernel_rfl) (by kernel_rfl) (by kernel_rfl) Go.Proofs.Try.ntmps78 (by rw [hn]; decide) hw
theorem run_79 {args : List AV} {R : AV → Prop} (hn : args.length = 2) (hw : ∀ h, Rn prog [.code (bodyOf Go.Proofs.Try.f79)] .normal (env0 0 args [4]) h (Fin prog [.tmp 4] h R)) : Pure prog 79 args R :=
  fn_run wfp [4] Go.Proofs.Try.func79 _ rfl (by kernel_rfl) (by kernel_rfl) (by kernel_rfl) Go.Proofs.Try.ntmps79 (by rw [hn]; decide) hw
theorem run_82 {args : List AV} {R : AV → Prop} (hn : args.length = 1) (hw : ∀ h, Rn prog [.code (bodyOf Go.Proofs.Try.f82)] .normal (env0 0 args [1, 2, 4, 5, 10]) h (Fin prog [.tmp 2] h R)) : Pure prog 82 args R :=
  fn_run wfp [1, 2, 4, 5, 10] Go.Proofs.Try.func82 _ rfl (by kernel_rfl) (by kernel_rfl) (by kernel_rfl) Go.Proofs.Try.ntmps82 (by rw [hn]; decide) hw
theorem frun_83 {args : List AV} {h : List Entry} {K : AV → List Entry → Prop} (hn : args.length = 2) (hw : Rn prog [.code (bodyOf Go.Proofs.Try.f83)] .normal (env0 0 args [3]) h (FinK prog [] K)) : FSpec prog 83 args h K :=
  fs_run wfp [3] Go.Proofs.Try.func83 _ rfl (by kernel_rfl) (by kernel_rfl) (by kernel_rfl) Go.Proofs.Try.ntmps83 (by rw [hn]; decide) hw
theorem run_84 {args : List AV} {R : AV → Prop} (hn : args.length = 2) (hw : ∀ h, Rn prog [.code (bodyOf Go.Proofs.Try.f84)] .normal (env0 0 args [4, 5, 6, 7, 8, 13, 14, 15, 16, 22, 32]) h (Fin prog [.tmp 4] h R)) : Pure prog 84 args R :=
  fn_run wfp [4, 5, 6, 7, 8, 13, 14, 15, 16, 22, 32] Go.Proofs.Try.func84 _ rfl (by kernel_rfl) (by kernel_rfl) (by kernel_rfl) Go.Proofs.Try.ntmps84 (by rw [hn]; decide) hw
theorem frun_85 {args : List AV} {h : List Entry} {K : AV → List Entry → Prop} (hn : args.length = 1) (hw : Rn prog [.code (bodyOf Go.Proofs.Try.f85)] .normal (env0 0 args [2, 3, 4, 5, 13, 30, 67, 75, 93]) h (FinK prog [] K)) : FSpec prog 85 args h K :=
  fs_run wfp [2, 3, 4, 5, 13, 30, 67, 75, 93] Go.Proofs.Try.func85 _ rfl (by kernel_rfl) (by kernel_rfl) (by kernel_rfl) Go.Proofs.Try.ntmps85 (by rw [hn]; decide) hw
theorem frun_86 {args : List AV} {h : List Entry} {K : AV → List Entry → Prop} (hn : args.length = 2) (hw : Rn prog [.code (bodyOf Go.Proofs.Try.f86)] .normal (env0 0 args []) h (FinK prog [] K)) : FSpec prog 86 args h K :=
  fs_run wfp [] Go.Proofs.Try.func86 _ rfl (by kernel_rfl) (by kernel_rfl) (by kernel_rfl) Go.Proofs.Try.ntmps86 (by rw [hn]; decide) hw
theorem run_87 {args : List AV} {R : AV → Prop} (hn : args.length = 2) (hw : ∀ h, Rn prog [.code (bodyOf Go.Proofs.Try.f87)] .normal (env0 0 args [4]) h (Fin prog [.tmp 4] h R)) : Pure prog 87 args R :=
  fn_run wfp [4] Go.Proofs.Try.func87 _ rfl (by kernel_rfl) (by kernel_rfl) (by kernel_rfl) Go.Proofs.Try.ntmps87 (by rw [hn]; decide) hw
theorem run_88 {args : List AV} {R : AV → Prop} (hn : args.length = 2) (hw : ∀ h, Rn prog [.code (bodyOf Go.Proofs.Try.f88)] .normal (env0 0 args [2, 3]) h (Fin prog [.tmp 3] h R)) : Pure prog 88 args R :=
  fn_run wfp [2, 3] Go.Proofs.Try.func88 _ rfl (by kernel_rfl) (by kernel_rfl) (by kernel_rfl) Go.Proofs.Try.ntmps88 (by rw [hn]; decide) hw
theorem run_89 {args : List AV} {R : AV → Prop} (hn : args.length = 2) (hw : ∀ h, Rn prog [.code (bodyOf Go.Proofs.Try.f89)] .normal (env0 0 args [4, 5, 10, 12, 13, 14, 24]) h (Fin prog [.tmp 4] h R)) : Pure prog 89 args R :=
  fn_run wfp [4, 5, 10, 12, 13, 14, 24] Go.Proofs.Try.func89 _ rfl (by kernel_rfl) (by kernel_rfl) (by kernel_rfl) Go.Proofs.Try.ntmps89 (by rw [hn]; decide) hw
theorem frun_90 {args : List AV} {h : List Entry} {K : AV → List Entry → Prop} (hn : args.length = 3) (hw : Rn prog [.code (bodyOf Go.Proofs.Try.f90)] .normal (env0 0 args [6, 7, 16]) h (FinK prog [.tmp 6] K)) : FSpec prog 90 args h K :=
  fs_run wfp [6, 7, 16] Go.Proofs.Try.func90 _ rfl (by kernel_rfl) (by kernel_rfl) (by kernel_rfl) Go.Proofs.Try.ntmps90 (by rw [hn]; decide) hw
theorem frun_91 {args : List AV} {h : List Entry} {K : AV → List Entry → Prop} (hn : args.length = 3) (hw : Rn prog [.code (bodyOf Go.Proofs.Try.f91)] .normal (env0 0 args [6, 7, 16]) h (FinK prog [.tmp 6] K)) : FSpec prog 91 args h K :=
  fs_run wfp [6, 7, 16] Go.Proofs.Try.func91 _ rfl (by kernel_rfl) (by kernel_rfl) (by kernel_rfl) Go.Proofs.Try.ntmps91 (by rw [hn]; decide) hw
theorem run_92 {args : List AV} {R : AV → Prop} (hn : args.length = 2) (hw : ∀ h, Rn prog [.code (bodyOf Go.Proofs.Try.f92)] .normal (env0 0 args [4, 5, 7, 8, 9, 16]) h (Fin prog [.tmp 4] h R)) : Pure prog 92 args R :=
  fn_run wfp [4, 5, 7, 8, 9, 16] Go.Proofs.Try.func92 _ rfl (by kernel_rfl) (by kernel_rfl) (by kernel_rfl) Go.Proofs.Try.ntmps92 (by rw [hn]; decide) hw
end Go.Abs
