/- Fa1: a part of the proofs about the tuple space (layer 8). -/
import Derived.Test.YtelohjfiojpeeaaWl
import Derived.Test.YtelohjfiojpeeaaProg
set_option linter.all false
set_option maxRecDepth 100000
set_option maxHeartbeats 0
namespace Go.Abs
open Go
open Go.Proofs.Try (prog)

theorem wfp : WF prog := wf_of_table (by kernel_rfl)
theorem hmix : prog.follows .mixedOrders = true := by kernel_rfl
@[push_cast] def bodyOf (f : Func) : Code := f.body.getD .skip
@[push_cast] theorem sh_1 : shapeT prog 1 = .func := by kernel_rfl
@[push_cast] theorem ok_1 : okT prog 1 = true := by kernel_rfl
@[push_cast] theorem zo_1 : zOK prog 1 = true := by kernel_rfl
@[push_cast] theorem za_1 : zeroAV prog 1 = .nilfn := by kernel_rfl
@[push_cast] theorem ce_1 : prog.cellsOf 1 = 1 := by kernel_rfl
@[push_cast] theorem ro_1 (k : Nat) : roomOK prog 1 k = decide (k ≤ 4294967296) := room_of (by kernel_rfl) zo_1
@[push_cast] theorem sh_2 : shapeT prog 2 = .int .i64 := by kernel_rfl
@[push_cast] theorem ok_2 : okT prog 2 = true := by kernel_rfl
@[push_cast] theorem zo_2 : zOK prog 2 = true := by kernel_rfl
@[push_cast] theorem za_2 : zeroAV prog 2 = .int .i64 0 := by kernel_rfl
@[push_cast] theorem ce_2 : prog.cellsOf 2 = 1 := by kernel_rfl
@[push_cast] theorem ro_2 (k : Nat) : roomOK prog 2 k = decide (k ≤ 4294967296) := room_of (by kernel_rfl) zo_2
@[push_cast] theorem sh_3 : shapeT prog 3 = .int .i64 := by kernel_rfl
@[push_cast] theorem ok_3 : okT prog 3 = true := by kernel_rfl
@[push_cast] theorem zo_3 : zOK prog 3 = true := by kernel_rfl
@[push_cast] theorem za_3 : zeroAV prog 3 = .int .i64 0 := by kernel_rfl
@[push_cast] theorem ce_3 : prog.cellsOf 3 = 1 := by kernel_rfl
@[push_cast] theorem ro_3 (k : Nat) : roomOK prog 3 k = decide (k ≤ 4294967296) := room_of (by kernel_rfl) zo_3
@[push_cast] theorem sh_4 : shapeT prog 4 = .bool := by kernel_rfl
@[push_cast] theorem ok_4 : okT prog 4 = true := by kernel_rfl
@[push_cast] theorem zo_4 : zOK prog 4 = true := by kernel_rfl
@[push_cast] theorem za_4 : zeroAV prog 4 = .bool false := by kernel_rfl
@[push_cast] theorem ce_4 : prog.cellsOf 4 = 1 := by kernel_rfl
@[push_cast] theorem ro_4 (k : Nat) : roomOK prog 4 k = decide (k ≤ 4294967296) := room_of (by kernel_rfl) zo_4
@[push_cast] theorem sh_5 : shapeT prog 5 = .int .u8 := by kernel_rfl
@[push_cast] theorem ok_5 : okT prog 5 = true := by kernel_rfl
@[push_cast] theorem zo_5 : zOK prog 5 = true := by kernel_rfl
@[push_cast] theorem za_5 : zeroAV prog 5 = .int .u8 0 := by kernel_rfl
@[push_cast] theorem ce_5 : prog.cellsOf 5 = 1 := by kernel_rfl
@[push_cast] theorem ro_5 (k : Nat) : roomOK prog 5 k = decide (k ≤ 4294967296) := room_of (by kernel_rfl) zo_5
@[push_cast] theorem sh_6 : shapeT prog 6 = .int .u8 := by kernel_rfl
@[push_cast] theorem ok_6 : okT prog 6 = true := by kernel_rfl
@[push_cast] theorem zo_6 : zOK prog 6 = true := by kernel_rfl
@[push_cast] theorem za_6 : zeroAV prog 6 = .int .u8 0 := by kernel_rfl
@[push_cast] theorem ce_6 : prog.cellsOf 6 = 1 := by kernel_rfl
@[push_cast] theorem ro_6 (k : Nat) : roomOK prog 6 k = decide (k ≤ 4294967296) := room_of (by kernel_rfl) zo_6
@[push_cast] theorem sh_7 : shapeT prog 7 = .struct := by kernel_rfl
@[push_cast] theorem fl_7 : fieldsT prog 7 = [(2, 0), (3, 1), (4, 2), (6, 3)] := by kernel_rfl
@[push_cast] theorem po_7 : partsOK prog 7 = true := by kernel_rfl
@[push_cast] theorem ok_7 : okT prog 7 = true := by kernel_rfl
@[push_cast] theorem zo_7 : zOK prog 7 = true := by kernel_rfl
@[push_cast] theorem za_7 : zeroAV prog 7 = .agg 7 [.int .i64 0, .int .i64 0, .bool false, .int .u8 0] := by kernel_rfl
@[push_cast] theorem ce_7 : prog.cellsOf 7 = 4 := by kernel_rfl
@[push_cast] theorem ro_7 (k : Nat) : roomOK prog 7 k = decide (k ≤ 4294967296) := room_of (by kernel_rfl) zo_7
@[push_cast] theorem sh_8 : shapeT prog 8 = .struct := by kernel_rfl
@[push_cast] theorem fl_8 : fieldsT prog 8 = [(2, 0), (3, 1), (4, 2), (6, 3)] := by kernel_rfl
@[push_cast] theorem po_8 : partsOK prog 8 = true := by kernel_rfl
@[push_cast] theorem ok_8 : okT prog 8 = true := by kernel_rfl
@[push_cast] theorem zo_8 : zOK prog 8 = true := by kernel_rfl
@[push_cast] theorem za_8 : zeroAV prog 8 = .agg 8 [.int .i64 0, .int .i64 0, .bool false, .int .u8 0] := by kernel_rfl
@[push_cast] theorem ce_8 : prog.cellsOf 8 = 4 := by kernel_rfl
@[push_cast] theorem ro_8 (k : Nat) : roomOK prog 8 k = decide (k ≤ 4294967296) := room_of (by kernel_rfl) zo_8
@[push_cast] theorem sh_9 : shapeT prog 9 = .str := by kernel_rfl
@[push_cast] theorem ok_9 : okT prog 9 = true := by kernel_rfl
@[push_cast] theorem zo_9 : zOK prog 9 = true := by kernel_rfl
@[push_cast] theorem za_9 : zeroAV prog 9 = .str ByteArray.empty := by kernel_rfl
@[push_cast] theorem ce_9 : prog.cellsOf 9 = 1 := by kernel_rfl
@[push_cast] theorem ro_9 (k : Nat) : roomOK prog 9 k = decide (k ≤ 4294967296) := room_of (by kernel_rfl) zo_9
@[push_cast] theorem sh_10 : shapeT prog 10 = .str := by kernel_rfl
@[push_cast] theorem ok_10 : okT prog 10 = true := by kernel_rfl
@[push_cast] theorem zo_10 : zOK prog 10 = true := by kernel_rfl
@[push_cast] theorem za_10 : zeroAV prog 10 = .str ByteArray.empty := by kernel_rfl
@[push_cast] theorem ce_10 : prog.cellsOf 10 = 1 := by kernel_rfl
@[push_cast] theorem ro_10 (k : Nat) : roomOK prog 10 k = decide (k ≤ 4294967296) := room_of (by kernel_rfl) zo_10
@[push_cast] theorem sh_11 : shapeT prog 11 = .str := by kernel_rfl
@[push_cast] theorem ok_11 : okT prog 11 = true := by kernel_rfl
@[push_cast] theorem zo_11 : zOK prog 11 = true := by kernel_rfl
@[push_cast] theorem za_11 : zeroAV prog 11 = .str ByteArray.empty := by kernel_rfl
@[push_cast] theorem ce_11 : prog.cellsOf 11 = 1 := by kernel_rfl
@[push_cast] theorem ro_11 (k : Nat) : roomOK prog 11 k = decide (k ≤ 4294967296) := room_of (by kernel_rfl) zo_11
@[push_cast] theorem sh_12 : shapeT prog 12 = .int .u64 := by kernel_rfl
@[push_cast] theorem ok_12 : okT prog 12 = true := by kernel_rfl
@[push_cast] theorem zo_12 : zOK prog 12 = true := by kernel_rfl
@[push_cast] theorem za_12 : zeroAV prog 12 = .int .u64 0 := by kernel_rfl
@[push_cast] theorem ce_12 : prog.cellsOf 12 = 1 := by kernel_rfl
@[push_cast] theorem ro_12 (k : Nat) : roomOK prog 12 k = decide (k ≤ 4294967296) := room_of (by kernel_rfl) zo_12
@[push_cast] theorem sh_13 : shapeT prog 13 = .struct := by kernel_rfl
@[push_cast] theorem fl_13 : fieldsT prog 13 = [(9, 0), (12, 1)] := by kernel_rfl
@[push_cast] theorem po_13 : partsOK prog 13 = true := by kernel_rfl
@[push_cast] theorem ok_13 : okT prog 13 = true := by kernel_rfl
@[push_cast] theorem zo_13 : zOK prog 13 = true := by kernel_rfl
@[push_cast] theorem za_13 : zeroAV prog 13 = .agg 13 [.str ByteArray.empty, .int .u64 0] := by kernel_rfl
@[push_cast] theorem ce_13 : prog.cellsOf 13 = 2 := by kernel_rfl
@[push_cast] theorem ro_13 (k : Nat) : roomOK prog 13 k = decide (k ≤ 4294967296) := room_of (by kernel_rfl) zo_13
@[push_cast] theorem sh_14 : shapeT prog 14 = .struct := by kernel_rfl
@[push_cast] theorem fl_14 : fieldsT prog 14 = [(9, 0), (12, 1)] := by kernel_rfl
@[push_cast] theorem po_14 : partsOK prog 14 = true := by kernel_rfl
@[push_cast] theorem ok_14 : okT prog 14 = true := by kernel_rfl
@[push_cast] theorem zo_14 : zOK prog 14 = true := by kernel_rfl
@[push_cast] theorem za_14 : zeroAV prog 14 = .agg 14 [.str ByteArray.empty, .int .u64 0] := by kernel_rfl
@[push_cast] theorem ce_14 : prog.cellsOf 14 = 2 := by kernel_rfl
@[push_cast] theorem ro_14 (k : Nat) : roomOK prog 14 k = decide (k ≤ 4294967296) := room_of (by kernel_rfl) zo_14
@[push_cast] theorem sh_15 : shapeT prog 15 = .ptr 110 := by kernel_rfl
@[push_cast] theorem ok_15 : okT prog 15 = true := by kernel_rfl
@[push_cast] theorem zo_15 : zOK prog 15 = true := by kernel_rfl
@[push_cast] theorem za_15 : zeroAV prog 15 = .nilptr := by kernel_rfl
@[push_cast] theorem ce_15 : prog.cellsOf 15 = 1 := by kernel_rfl
@[push_cast] theorem ro_15 (k : Nat) : roomOK prog 15 k = decide (k ≤ 4294967296) := room_of (by kernel_rfl) zo_15
@[push_cast] theorem sh_16 : shapeT prog 16 = .ptr 113 := by kernel_rfl
@[push_cast] theorem ok_16 : okT prog 16 = true := by kernel_rfl
@[push_cast] theorem zo_16 : zOK prog 16 = true := by kernel_rfl
@[push_cast] theorem za_16 : zeroAV prog 16 = .nilptr := by kernel_rfl
@[push_cast] theorem ce_16 : prog.cellsOf 16 = 1 := by kernel_rfl
@[push_cast] theorem ro_16 (k : Nat) : roomOK prog 16 k = decide (k ≤ 4294967296) := room_of (by kernel_rfl) zo_16
@[push_cast] theorem sh_17 : shapeT prog 17 = .ptr 123 := by kernel_rfl
@[push_cast] theorem ok_17 : okT prog 17 = true := by kernel_rfl
@[push_cast] theorem zo_17 : zOK prog 17 = true := by kernel_rfl
@[push_cast] theorem za_17 : zeroAV prog 17 = .nilptr := by kernel_rfl
@[push_cast] theorem ce_17 : prog.cellsOf 17 = 1 := by kernel_rfl
@[push_cast] theorem ro_17 (k : Nat) : roomOK prog 17 k = decide (k ≤ 4294967296) := room_of (by kernel_rfl) zo_17
@[push_cast] theorem sh_18 : shapeT prog 18 = .struct := by kernel_rfl
@[push_cast] theorem fl_18 : fieldsT prog 18 = [(17, 0)] := by kernel_rfl
@[push_cast] theorem po_18 : partsOK prog 18 = true := by kernel_rfl
@[push_cast] theorem ok_18 : okT prog 18 = true := by kernel_rfl
@[push_cast] theorem zo_18 : zOK prog 18 = true := by kernel_rfl
@[push_cast] theorem za_18 : zeroAV prog 18 = .agg 18 [.nilptr] := by kernel_rfl
@[push_cast] theorem ce_18 : prog.cellsOf 18 = 1 := by kernel_rfl
@[push_cast] theorem ro_18 (k : Nat) : roomOK prog 18 k = decide (k ≤ 4294967296) := room_of (by kernel_rfl) zo_18
@[push_cast] theorem sh_19 : shapeT prog 19 = .struct := by kernel_rfl
@[push_cast] theorem fl_19 : fieldsT prog 19 = [(17, 0)] := by kernel_rfl
@[push_cast] theorem po_19 : partsOK prog 19 = true := by kernel_rfl
@[push_cast] theorem ok_19 : okT prog 19 = true := by kernel_rfl
@[push_cast] theorem zo_19 : zOK prog 19 = true := by kernel_rfl
@[push_cast] theorem za_19 : zeroAV prog 19 = .agg 19 [.nilptr] := by kernel_rfl
@[push_cast] theorem ce_19 : prog.cellsOf 19 = 1 := by kernel_rfl
@[push_cast] theorem ro_19 (k : Nat) : roomOK prog 19 k = decide (k ≤ 4294967296) := room_of (by kernel_rfl) zo_19
@[push_cast] theorem sh_21 : shapeT prog 21 = .int .i32 := by kernel_rfl
@[push_cast] theorem ok_21 : okT prog 21 = true := by kernel_rfl
@[push_cast] theorem zo_21 : zOK prog 21 = true := by kernel_rfl
@[push_cast] theorem za_21 : zeroAV prog 21 = .int .i32 0 := by kernel_rfl
@[push_cast] theorem ce_21 : prog.cellsOf 21 = 1 := by kernel_rfl
@[push_cast] theorem ro_21 (k : Nat) : roomOK prog 21 k = decide (k ≤ 4294967296) := room_of (by kernel_rfl) zo_21
@[push_cast] theorem sh_22 : shapeT prog 22 = .slice 3 := by kernel_rfl
@[push_cast] theorem ok_22 : okT prog 22 = true := by kernel_rfl
@[push_cast] theorem zo_22 : zOK prog 22 = true := by kernel_rfl
@[push_cast] theorem za_22 : zeroAV prog 22 = .nils := by kernel_rfl
@[push_cast] theorem ce_22 : prog.cellsOf 22 = 1 := by kernel_rfl
@[push_cast] theorem ro_22 (k : Nat) : roomOK prog 22 k = decide (k ≤ 4294967296) := room_of (by kernel_rfl) zo_22
@[push_cast] theorem sh_23 : shapeT prog 23 = .slice 25 := by kernel_rfl
@[push_cast] theorem ok_23 : okT prog 23 = true := by kernel_rfl
@[push_cast] theorem zo_23 : zOK prog 23 = true := by kernel_rfl
@[push_cast] theorem za_23 : zeroAV prog 23 = .nils := by kernel_rfl
@[push_cast] theorem ce_23 : prog.cellsOf 23 = 1 := by kernel_rfl
@[push_cast] theorem ro_23 (k : Nat) : roomOK prog 23 k = decide (k ≤ 4294967296) := room_of (by kernel_rfl) zo_23
@[push_cast] theorem sh_24 : shapeT prog 24 = .struct := by kernel_rfl
@[push_cast] theorem fl_24 : fieldsT prog 24 = [(3, 0), (2, 1), (9, 2)] := by kernel_rfl
@[push_cast] theorem po_24 : partsOK prog 24 = true := by kernel_rfl
@[push_cast] theorem ok_24 : okT prog 24 = true := by kernel_rfl
@[push_cast] theorem zo_24 : zOK prog 24 = true := by kernel_rfl
@[push_cast] theorem za_24 : zeroAV prog 24 = .agg 24 [.int .i64 0, .int .i64 0, .str ByteArray.empty] := by kernel_rfl
@[push_cast] theorem ce_24 : prog.cellsOf 24 = 3 := by kernel_rfl
@[push_cast] theorem ro_24 (k : Nat) : roomOK prog 24 k = decide (k ≤ 4294967296) := room_of (by kernel_rfl) zo_24
@[push_cast] theorem sh_25 : shapeT prog 25 = .struct := by kernel_rfl
@[push_cast] theorem fl_25 : fieldsT prog 25 = [(3, 0), (2, 1), (9, 2)] := by kernel_rfl
@[push_cast] theorem po_25 : partsOK prog 25 = true := by kernel_rfl
@[push_cast] theorem ok_25 : okT prog 25 = true := by kernel_rfl
@[push_cast] theorem zo_25 : zOK prog 25 = true := by kernel_rfl
@[push_cast] theorem za_25 : zeroAV prog 25 = .agg 25 [.int .i64 0, .int .i64 0, .str ByteArray.empty] := by kernel_rfl
@[push_cast] theorem ce_25 : prog.cellsOf 25 = 3 := by kernel_rfl
@[push_cast] theorem ro_25 (k : Nat) : roomOK prog 25 k = decide (k ≤ 4294967296) := room_of (by kernel_rfl) zo_25
@[push_cast] theorem sh_26 : shapeT prog 26 = .func := by kernel_rfl
@[push_cast] theorem ok_26 : okT prog 26 = true := by kernel_rfl
@[push_cast] theorem zo_26 : zOK prog 26 = true := by kernel_rfl
@[push_cast] theorem za_26 : zeroAV prog 26 = .nilfn := by kernel_rfl
@[push_cast] theorem ce_26 : prog.cellsOf 26 = 1 := by kernel_rfl
@[push_cast] theorem ro_26 (k : Nat) : roomOK prog 26 k = decide (k ≤ 4294967296) := room_of (by kernel_rfl) zo_26
@[push_cast] theorem sh_27 : shapeT prog 27 = .slice 74 := by kernel_rfl
@[push_cast] theorem ok_27 : okT prog 27 = true := by kernel_rfl
@[push_cast] theorem zo_27 : zOK prog 27 = true := by kernel_rfl
@[push_cast] theorem za_27 : zeroAV prog 27 = .nils := by kernel_rfl
@[push_cast] theorem ce_27 : prog.cellsOf 27 = 1 := by kernel_rfl
@[push_cast] theorem ro_27 (k : Nat) : roomOK prog 27 k = decide (k ≤ 4294967296) := room_of (by kernel_rfl) zo_27
@[push_cast] theorem sh_28 : shapeT prog 28 = .slice 50 := by kernel_rfl
@[push_cast] theorem ok_28 : okT prog 28 = true := by kernel_rfl
@[push_cast] theorem zo_28 : zOK prog 28 = true := by kernel_rfl
@[push_cast] theorem za_28 : zeroAV prog 28 = .nils := by kernel_rfl
@[push_cast] theorem ce_28 : prog.cellsOf 28 = 1 := by kernel_rfl
@[push_cast] theorem ro_28 (k : Nat) : roomOK prog 28 k = decide (k ≤ 4294967296) := room_of (by kernel_rfl) zo_28
@[push_cast] theorem sh_29 : shapeT prog 29 = .struct := by kernel_rfl
@[push_cast] theorem fl_29 : fieldsT prog 29 = [(3, 0), (3, 1), (3, 2), (23, 3), (4, 4)] := by kernel_rfl
@[push_cast] theorem po_29 : partsOK prog 29 = true := by kernel_rfl
@[push_cast] theorem ok_29 : okT prog 29 = true := by kernel_rfl
@[push_cast] theorem zo_29 : zOK prog 29 = true := by kernel_rfl
@[push_cast] theorem za_29 : zeroAV prog 29 = .agg 29 [.int .i64 0, .int .i64 0, .int .i64 0, .nils, .bool false] := by kernel_rfl
@[push_cast] theorem ce_29 : prog.cellsOf 29 = 5 := by kernel_rfl
@[push_cast] theorem ro_29 (k : Nat) : roomOK prog 29 k = decide (k ≤ 4294967296) := room_of (by kernel_rfl) zo_29
@[push_cast] theorem sh_30 : shapeT prog 30 = .struct := by kernel_rfl
@[push_cast] theorem fl_30 : fieldsT prog 30 = [(3, 0), (3, 1), (3, 2), (23, 3), (4, 4)] := by kernel_rfl
@[push_cast] theorem po_30 : partsOK prog 30 = true := by kernel_rfl
@[push_cast] theorem ok_30 : okT prog 30 = true := by kernel_rfl
@[push_cast] theorem zo_30 : zOK prog 30 = true := by kernel_rfl
@[push_cast] theorem za_30 : zeroAV prog 30 = .agg 30 [.int .i64 0, .int .i64 0, .int .i64 0, .nils, .bool false] := by kernel_rfl
@[push_cast] theorem ce_30 : prog.cellsOf 30 = 5 := by kernel_rfl
@[push_cast] theorem ro_30 (k : Nat) : roomOK prog 30 k = decide (k ≤ 4294967296) := room_of (by kernel_rfl) zo_30
@[push_cast] theorem sh_31 : shapeT prog 31 = .arr 4 30 := by kernel_rfl
@[push_cast] theorem po_31 : partsOK prog 31 = true := by kernel_rfl
@[push_cast] theorem ok_31 : okT prog 31 = true := by kernel_rfl
@[push_cast] theorem zo_31 : zOK prog 31 = true := by kernel_rfl
@[push_cast] theorem za_31 : zeroAV prog 31 = .agg 31 [.agg 30 [.int .i64 0, .int .i64 0, .int .i64 0, .nils, .bool false], .agg 30 [.int .i64 0, .int .i64 0, .int .i64 0, .nils, .bool false], .agg 30 [.int .i64 0, .int .i64 0, .int .i64 0, .nils, .bool false], .agg 30 [.int .i64 0, .int .i64 0, .int .i64 0, .nils, .bool false]] := by kernel_rfl
@[push_cast] theorem ce_31 : prog.cellsOf 31 = 20 := by kernel_rfl
@[push_cast] theorem ro_31 (k : Nat) : roomOK prog 31 k = decide (k ≤ 4294967296) := room_of (by kernel_rfl) zo_31
@[push_cast] theorem sh_32 : shapeT prog 32 = .struct := by kernel_rfl
@[push_cast] theorem fl_32 : fieldsT prog 32 = [(3, 0), (27, 1), (28, 2), (3, 3), (3, 4), (31, 5)] := by kernel_rfl
@[push_cast] theorem po_32 : partsOK prog 32 = true := by kernel_rfl
@[push_cast] theorem ok_32 : okT prog 32 = true := by kernel_rfl
@[push_cast] theorem zo_32 : zOK prog 32 = true := by kernel_rfl
@[push_cast] theorem za_32 : zeroAV prog 32 = .agg 32 [.int .i64 0, .nils, .nils, .int .i64 0, .int .i64 0, .agg 31 [.agg 30 [.int .i64 0, .int .i64 0, .int .i64 0, .nils, .bool false], .agg 30 [.int .i64 0, .int .i64 0, .int .i64 0, .nils, .bool false], .agg 30 [.int .i64 0, .int .i64 0, .int .i64 0, .nils, .bool false], .agg 30 [.int .i64 0, .int .i64 0, .int .i64 0, .nils, .bool false]]] := by kernel_rfl
@[push_cast] theorem ce_32 : prog.cellsOf 32 = 25 := by kernel_rfl
@[push_cast] theorem ro_32 (k : Nat) : roomOK prog 32 k = decide (k ≤ 4294967296) := room_of (by kernel_rfl) zo_32
@[push_cast] theorem sh_33 : shapeT prog 33 = .struct := by kernel_rfl
@[push_cast] theorem fl_33 : fieldsT prog 33 = [(3, 0), (27, 1), (28, 2), (3, 3), (3, 4), (31, 5)] := by kernel_rfl
@[push_cast] theorem po_33 : partsOK prog 33 = true := by kernel_rfl
@[push_cast] theorem ok_33 : okT prog 33 = true := by kernel_rfl
@[push_cast] theorem zo_33 : zOK prog 33 = true := by kernel_rfl
@[push_cast] theorem za_33 : zeroAV prog 33 = .agg 33 [.int .i64 0, .nils, .nils, .int .i64 0, .int .i64 0, .agg 31 [.agg 30 [.int .i64 0, .int .i64 0, .int .i64 0, .nils, .bool false], .agg 30 [.int .i64 0, .int .i64 0, .int .i64 0, .nils, .bool false], .agg 30 [.int .i64 0, .int .i64 0, .int .i64 0, .nils, .bool false], .agg 30 [.int .i64 0, .int .i64 0, .int .i64 0, .nils, .bool false]]] := by kernel_rfl
@[push_cast] theorem ce_33 : prog.cellsOf 33 = 25 := by kernel_rfl
@[push_cast] theorem ro_33 (k : Nat) : roomOK prog 33 k = decide (k ≤ 4294967296) := room_of (by kernel_rfl) zo_33
@[push_cast] theorem sh_34 : shapeT prog 34 = .slice 30 := by kernel_rfl
@[push_cast] theorem ok_34 : okT prog 34 = true := by kernel_rfl
@[push_cast] theorem zo_34 : zOK prog 34 = true := by kernel_rfl
@[push_cast] theorem za_34 : zeroAV prog 34 = .nils := by kernel_rfl
@[push_cast] theorem ce_34 : prog.cellsOf 34 = 1 := by kernel_rfl
@[push_cast] theorem ro_34 (k : Nat) : roomOK prog 34 k = decide (k ≤ 4294967296) := room_of (by kernel_rfl) zo_34
@[push_cast] theorem sh_36 : shapeT prog 36 = .func := by kernel_rfl
@[push_cast] theorem ok_36 : okT prog 36 = true := by kernel_rfl
@[push_cast] theorem zo_36 : zOK prog 36 = true := by kernel_rfl
@[push_cast] theorem za_36 : zeroAV prog 36 = .nilfn := by kernel_rfl
@[push_cast] theorem ce_36 : prog.cellsOf 36 = 1 := by kernel_rfl
@[push_cast] theorem ro_36 (k : Nat) : roomOK prog 36 k = decide (k ≤ 4294967296) := room_of (by kernel_rfl) zo_36
@[push_cast] theorem sh_37 : shapeT prog 37 = .func := by kernel_rfl
@[push_cast] theorem ok_37 : okT prog 37 = true := by kernel_rfl
@[push_cast] theorem zo_37 : zOK prog 37 = true := by kernel_rfl
@[push_cast] theorem za_37 : zeroAV prog 37 = .nilfn := by kernel_rfl
@[push_cast] theorem ce_37 : prog.cellsOf 37 = 1 := by kernel_rfl
@[push_cast] theorem ro_37 (k : Nat) : roomOK prog 37 k = decide (k ≤ 4294967296) := room_of (by kernel_rfl) zo_37
@[push_cast] theorem sh_38 : shapeT prog 38 = .struct := by kernel_rfl
@[push_cast] theorem fl_38 : fieldsT prog 38 = [(3, 0), (3, 1), (3, 2), (23, 3), (23, 4), (3, 5)] := by kernel_rfl
@[push_cast] theorem po_38 : partsOK prog 38 = true := by kernel_rfl
@[push_cast] theorem ok_38 : okT prog 38 = true := by kernel_rfl
@[push_cast] theorem zo_38 : zOK prog 38 = true := by kernel_rfl
@[push_cast] theorem za_38 : zeroAV prog 38 = .agg 38 [.int .i64 0, .int .i64 0, .int .i64 0, .nils, .nils, .int .i64 0] := by kernel_rfl
@[push_cast] theorem ce_38 : prog.cellsOf 38 = 6 := by kernel_rfl
@[push_cast] theorem ro_38 (k : Nat) : roomOK prog 38 k = decide (k ≤ 4294967296) := room_of (by kernel_rfl) zo_38
@[push_cast] theorem sh_39 : shapeT prog 39 = .struct := by kernel_rfl
@[push_cast] theorem fl_39 : fieldsT prog 39 = [(3, 0), (3, 1), (3, 2), (23, 3), (23, 4), (3, 5)] := by kernel_rfl
@[push_cast] theorem po_39 : partsOK prog 39 = true := by kernel_rfl
@[push_cast] theorem ok_39 : okT prog 39 = true := by kernel_rfl
@[push_cast] theorem zo_39 : zOK prog 39 = true := by kernel_rfl
@[push_cast] theorem za_39 : zeroAV prog 39 = .agg 39 [.int .i64 0, .int .i64 0, .int .i64 0, .nils, .nils, .int .i64 0] := by kernel_rfl
@[push_cast] theorem ce_39 : prog.cellsOf 39 = 6 := by kernel_rfl
@[push_cast] theorem ro_39 (k : Nat) : roomOK prog 39 k = decide (k ≤ 4294967296) := room_of (by kernel_rfl) zo_39
@[push_cast] theorem sh_40 : shapeT prog 40 = .func := by kernel_rfl
@[push_cast] theorem ok_40 : okT prog 40 = true := by kernel_rfl
@[push_cast] theorem zo_40 : zOK prog 40 = true := by kernel_rfl
@[push_cast] theorem za_40 : zeroAV prog 40 = .nilfn := by kernel_rfl
@[push_cast] theorem ce_40 : prog.cellsOf 40 = 1 := by kernel_rfl
@[push_cast] theorem ro_40 (k : Nat) : roomOK prog 40 k = decide (k ≤ 4294967296) := room_of (by kernel_rfl) zo_40
@[push_cast] theorem sh_41 : shapeT prog 41 = .func := by kernel_rfl
@[push_cast] theorem ok_41 : okT prog 41 = true := by kernel_rfl
@[push_cast] theorem zo_41 : zOK prog 41 = true := by kernel_rfl
@[push_cast] theorem za_41 : zeroAV prog 41 = .nilfn := by kernel_rfl
@[push_cast] theorem ce_41 : prog.cellsOf 41 = 1 := by kernel_rfl
@[push_cast] theorem ro_41 (k : Nat) : roomOK prog 41 k = decide (k ≤ 4294967296) := room_of (by kernel_rfl) zo_41
@[push_cast] theorem sh_42 : shapeT prog 42 = .func := by kernel_rfl
@[push_cast] theorem ok_42 : okT prog 42 = true := by kernel_rfl
@[push_cast] theorem zo_42 : zOK prog 42 = true := by kernel_rfl
@[push_cast] theorem za_42 : zeroAV prog 42 = .nilfn := by kernel_rfl
@[push_cast] theorem ce_42 : prog.cellsOf 42 = 1 := by kernel_rfl
@[push_cast] theorem ro_42 (k : Nat) : roomOK prog 42 k = decide (k ≤ 4294967296) := room_of (by kernel_rfl) zo_42
@[push_cast] theorem sh_43 : shapeT prog 43 = .slice 46 := by kernel_rfl
@[push_cast] theorem ok_43 : okT prog 43 = true := by kernel_rfl
@[push_cast] theorem zo_43 : zOK prog 43 = true := by kernel_rfl
@[push_cast] theorem za_43 : zeroAV prog 43 = .nils := by kernel_rfl
@[push_cast] theorem ce_43 : prog.cellsOf 43 = 1 := by kernel_rfl
@[push_cast] theorem ro_43 (k : Nat) : roomOK prog 43 k = decide (k ≤ 4294967296) := room_of (by kernel_rfl) zo_43
@[push_cast] theorem sh_44 : shapeT prog 44 = .func := by kernel_rfl
@[push_cast] theorem ok_44 : okT prog 44 = true := by kernel_rfl
@[push_cast] theorem zo_44 : zOK prog 44 = true := by kernel_rfl
@[push_cast] theorem za_44 : zeroAV prog 44 = .nilfn := by kernel_rfl
@[push_cast] theorem ce_44 : prog.cellsOf 44 = 1 := by kernel_rfl
@[push_cast] theorem ro_44 (k : Nat) : roomOK prog 44 k = decide (k ≤ 4294967296) := room_of (by kernel_rfl) zo_44
@[push_cast] theorem sh_45 : shapeT prog 45 = .struct := by kernel_rfl
@[push_cast] theorem fl_45 : fieldsT prog 45 = [(39, 0), (3, 6)] := by kernel_rfl
@[push_cast] theorem po_45 : partsOK prog 45 = true := by kernel_rfl
@[push_cast] theorem ok_45 : okT prog 45 = true := by kernel_rfl
@[push_cast] theorem zo_45 : zOK prog 45 = true := by kernel_rfl
@[push_cast] theorem za_45 : zeroAV prog 45 = .agg 45 [.agg 39 [.int .i64 0, .int .i64 0, .int .i64 0, .nils, .nils, .int .i64 0], .int .i64 0] := by kernel_rfl
@[push_cast] theorem ce_45 : prog.cellsOf 45 = 7 := by kernel_rfl
@[push_cast] theorem ro_45 (k : Nat) : roomOK prog 45 k = decide (k ≤ 4294967296) := room_of (by kernel_rfl) zo_45
@[push_cast] theorem sh_46 : shapeT prog 46 = .struct := by kernel_rfl
@[push_cast] theorem fl_46 : fieldsT prog 46 = [(39, 0), (3, 6)] := by kernel_rfl
@[push_cast] theorem po_46 : partsOK prog 46 = true := by kernel_rfl
@[push_cast] theorem ok_46 : okT prog 46 = true := by kernel_rfl
@[push_cast] theorem zo_46 : zOK prog 46 = true := by kernel_rfl
@[push_cast] theorem za_46 : zeroAV prog 46 = .agg 46 [.agg 39 [.int .i64 0, .int .i64 0, .int .i64 0, .nils, .nils, .int .i64 0], .int .i64 0] := by kernel_rfl
@[push_cast] theorem ce_46 : prog.cellsOf 46 = 7 := by kernel_rfl
@[push_cast] theorem ro_46 (k : Nat) : roomOK prog 46 k = decide (k ≤ 4294967296) := room_of (by kernel_rfl) zo_46
@[push_cast] theorem sh_47 : shapeT prog 47 = .int .u64 := by kernel_rfl
@[push_cast] theorem ok_47 : okT prog 47 = true := by kernel_rfl
@[push_cast] theorem zo_47 : zOK prog 47 = true := by kernel_rfl
@[push_cast] theorem za_47 : zeroAV prog 47 = .int .u64 0 := by kernel_rfl
@[push_cast] theorem ce_47 : prog.cellsOf 47 = 1 := by kernel_rfl
@[push_cast] theorem ro_47 (k : Nat) : roomOK prog 47 k = decide (k ≤ 4294967296) := room_of (by kernel_rfl) zo_47
@[push_cast] theorem sh_48 : shapeT prog 48 = .func := by kernel_rfl
@[push_cast] theorem ok_48 : okT prog 48 = true := by kernel_rfl
@[push_cast] theorem zo_48 : zOK prog 48 = true := by kernel_rfl
@[push_cast] theorem za_48 : zeroAV prog 48 = .nilfn := by kernel_rfl
@[push_cast] theorem ce_48 : prog.cellsOf 48 = 1 := by kernel_rfl
@[push_cast] theorem ro_48 (k : Nat) : roomOK prog 48 k = decide (k ≤ 4294967296) := room_of (by kernel_rfl) zo_48
@[push_cast] theorem sh_49 : shapeT prog 49 = .struct := by kernel_rfl
@[push_cast] theorem fl_49 : fieldsT prog 49 = [(3, 0), (3, 1), (4, 2), (23, 3)] := by kernel_rfl
@[push_cast] theorem po_49 : partsOK prog 49 = true := by kernel_rfl
@[push_cast] theorem ok_49 : okT prog 49 = true := by kernel_rfl
@[push_cast] theorem zo_49 : zOK prog 49 = true := by kernel_rfl
@[push_cast] theorem za_49 : zeroAV prog 49 = .agg 49 [.int .i64 0, .int .i64 0, .bool false, .nils] := by kernel_rfl
@[push_cast] theorem ce_49 : prog.cellsOf 49 = 4 := by kernel_rfl
@[push_cast] theorem ro_49 (k : Nat) : roomOK prog 49 k = decide (k ≤ 4294967296) := room_of (by kernel_rfl) zo_49
@[push_cast] theorem sh_50 : shapeT prog 50 = .struct := by kernel_rfl
@[push_cast] theorem fl_50 : fieldsT prog 50 = [(3, 0), (3, 1), (4, 2), (23, 3)] := by kernel_rfl
@[push_cast] theorem po_50 : partsOK prog 50 = true := by kernel_rfl
@[push_cast] theorem ok_50 : okT prog 50 = true := by kernel_rfl
@[push_cast] theorem zo_50 : zOK prog 50 = true := by kernel_rfl
@[push_cast] theorem za_50 : zeroAV prog 50 = .agg 50 [.int .i64 0, .int .i64 0, .bool false, .nils] := by kernel_rfl
@[push_cast] theorem ce_50 : prog.cellsOf 50 = 4 := by kernel_rfl
@[push_cast] theorem ro_50 (k : Nat) : roomOK prog 50 k = decide (k ≤ 4294967296) := room_of (by kernel_rfl) zo_50
@[push_cast] theorem sh_51 : shapeT prog 51 = .func := by kernel_rfl
@[push_cast] theorem ok_51 : okT prog 51 = true := by kernel_rfl
@[push_cast] theorem zo_51 : zOK prog 51 = true := by kernel_rfl
@[push_cast] theorem za_51 : zeroAV prog 51 = .nilfn := by kernel_rfl
@[push_cast] theorem ce_51 : prog.cellsOf 51 = 1 := by kernel_rfl
@[push_cast] theorem ro_51 (k : Nat) : roomOK prog 51 k = decide (k ≤ 4294967296) := room_of (by kernel_rfl) zo_51
@[push_cast] theorem sh_52 : shapeT prog 52 = .func := by kernel_rfl
@[push_cast] theorem ok_52 : okT prog 52 = true := by kernel_rfl
@[push_cast] theorem zo_52 : zOK prog 52 = true := by kernel_rfl
@[push_cast] theorem za_52 : zeroAV prog 52 = .nilfn := by kernel_rfl
@[push_cast] theorem ce_52 : prog.cellsOf 52 = 1 := by kernel_rfl
@[push_cast] theorem ro_52 (k : Nat) : roomOK prog 52 k = decide (k ≤ 4294967296) := room_of (by kernel_rfl) zo_52
@[push_cast] theorem sh_53 : shapeT prog 53 = .func := by kernel_rfl
@[push_cast] theorem ok_53 : okT prog 53 = true := by kernel_rfl
@[push_cast] theorem zo_53 : zOK prog 53 = true := by kernel_rfl
@[push_cast] theorem za_53 : zeroAV prog 53 = .nilfn := by kernel_rfl
@[push_cast] theorem ce_53 : prog.cellsOf 53 = 1 := by kernel_rfl
@[push_cast] theorem ro_53 (k : Nat) : roomOK prog 53 k = decide (k ≤ 4294967296) := room_of (by kernel_rfl) zo_53
@[push_cast] theorem sh_54 : shapeT prog 54 = .slice 4 := by kernel_rfl
@[push_cast] theorem ok_54 : okT prog 54 = true := by kernel_rfl
@[push_cast] theorem zo_54 : zOK prog 54 = true := by kernel_rfl
@[push_cast] theorem za_54 : zeroAV prog 54 = .nils := by kernel_rfl
@[push_cast] theorem ce_54 : prog.cellsOf 54 = 1 := by kernel_rfl
@[push_cast] theorem ro_54 (k : Nat) : roomOK prog 54 k = decide (k ≤ 4294967296) := room_of (by kernel_rfl) zo_54
@[push_cast] theorem sh_55 : shapeT prog 55 = .func := by kernel_rfl
@[push_cast] theorem ok_55 : okT prog 55 = true := by kernel_rfl
@[push_cast] theorem zo_55 : zOK prog 55 = true := by kernel_rfl
@[push_cast] theorem za_55 : zeroAV prog 55 = .nilfn := by kernel_rfl
@[push_cast] theorem ce_55 : prog.cellsOf 55 = 1 := by kernel_rfl
@[push_cast] theorem ro_55 (k : Nat) : roomOK prog 55 k = decide (k ≤ 4294967296) := room_of (by kernel_rfl) zo_55
@[push_cast] theorem sh_56 : shapeT prog 56 = .func := by kernel_rfl
@[push_cast] theorem ok_56 : okT prog 56 = true := by kernel_rfl
@[push_cast] theorem zo_56 : zOK prog 56 = true := by kernel_rfl
@[push_cast] theorem za_56 : zeroAV prog 56 = .nilfn := by kernel_rfl
@[push_cast] theorem ce_56 : prog.cellsOf 56 = 1 := by kernel_rfl
@[push_cast] theorem ro_56 (k : Nat) : roomOK prog 56 k = decide (k ≤ 4294967296) := room_of (by kernel_rfl) zo_56
@[push_cast] theorem sh_57 : shapeT prog 57 = .func := by kernel_rfl
@[push_cast] theorem ok_57 : okT prog 57 = true := by kernel_rfl
@[push_cast] theorem zo_57 : zOK prog 57 = true := by kernel_rfl
@[push_cast] theorem za_57 : zeroAV prog 57 = .nilfn := by kernel_rfl
@[push_cast] theorem ce_57 : prog.cellsOf 57 = 1 := by kernel_rfl
@[push_cast] theorem ro_57 (k : Nat) : roomOK prog 57 k = decide (k ≤ 4294967296) := room_of (by kernel_rfl) zo_57
@[push_cast] theorem sh_58 : shapeT prog 58 = .func := by kernel_rfl
@[push_cast] theorem ok_58 : okT prog 58 = true := by kernel_rfl
@[push_cast] theorem zo_58 : zOK prog 58 = true := by kernel_rfl
@[push_cast] theorem za_58 : zeroAV prog 58 = .nilfn := by kernel_rfl
@[push_cast] theorem ce_58 : prog.cellsOf 58 = 1 := by kernel_rfl
@[push_cast] theorem ro_58 (k : Nat) : roomOK prog 58 k = decide (k ≤ 4294967296) := room_of (by kernel_rfl) zo_58
@[push_cast] theorem sh_59 : shapeT prog 59 = .func := by kernel_rfl
@[push_cast] theorem ok_59 : okT prog 59 = true := by kernel_rfl
@[push_cast] theorem zo_59 : zOK prog 59 = true := by kernel_rfl
@[push_cast] theorem za_59 : zeroAV prog 59 = .nilfn := by kernel_rfl
@[push_cast] theorem ce_59 : prog.cellsOf 59 = 1 := by kernel_rfl
@[push_cast] theorem ro_59 (k : Nat) : roomOK prog 59 k = decide (k ≤ 4294967296) := room_of (by kernel_rfl) zo_59
@[push_cast] theorem sh_60 : shapeT prog 60 = .func := by kernel_rfl
@[push_cast] theorem ok_60 : okT prog 60 = true := by kernel_rfl
@[push_cast] theorem zo_60 : zOK prog 60 = true := by kernel_rfl
@[push_cast] theorem za_60 : zeroAV prog 60 = .nilfn := by kernel_rfl
@[push_cast] theorem ce_60 : prog.cellsOf 60 = 1 := by kernel_rfl
@[push_cast] theorem ro_60 (k : Nat) : roomOK prog 60 k = decide (k ≤ 4294967296) := room_of (by kernel_rfl) zo_60
@[push_cast] theorem sh_61 : shapeT prog 61 = .func := by kernel_rfl
@[push_cast] theorem ok_61 : okT prog 61 = true := by kernel_rfl
@[push_cast] theorem zo_61 : zOK prog 61 = true := by kernel_rfl
@[push_cast] theorem za_61 : zeroAV prog 61 = .nilfn := by kernel_rfl
@[push_cast] theorem ce_61 : prog.cellsOf 61 = 1 := by kernel_rfl
@[push_cast] theorem ro_61 (k : Nat) : roomOK prog 61 k = decide (k ≤ 4294967296) := room_of (by kernel_rfl) zo_61
@[push_cast] theorem sh_62 : shapeT prog 62 = .func := by kernel_rfl
@[push_cast] theorem ok_62 : okT prog 62 = true := by kernel_rfl
@[push_cast] theorem zo_62 : zOK prog 62 = true := by kernel_rfl
@[push_cast] theorem za_62 : zeroAV prog 62 = .nilfn := by kernel_rfl
@[push_cast] theorem ce_62 : prog.cellsOf 62 = 1 := by kernel_rfl
@[push_cast] theorem ro_62 (k : Nat) : roomOK prog 62 k = decide (k ≤ 4294967296) := room_of (by kernel_rfl) zo_62
@[push_cast] theorem sh_64 : shapeT prog 64 = .func := by kernel_rfl
@[push_cast] theorem ok_64 : okT prog 64 = true := by kernel_rfl
@[push_cast] theorem zo_64 : zOK prog 64 = true := by kernel_rfl
@[push_cast] theorem za_64 : zeroAV prog 64 = .nilfn := by kernel_rfl
@[push_cast] theorem ce_64 : prog.cellsOf 64 = 1 := by kernel_rfl
@[push_cast] theorem ro_64 (k : Nat) : roomOK prog 64 k = decide (k ≤ 4294967296) := room_of (by kernel_rfl) zo_64
@[push_cast] theorem sh_65 : shapeT prog 65 = .func := by kernel_rfl
@[push_cast] theorem ok_65 : okT prog 65 = true := by kernel_rfl
@[push_cast] theorem zo_65 : zOK prog 65 = true := by kernel_rfl
@[push_cast] theorem za_65 : zeroAV prog 65 = .nilfn := by kernel_rfl
@[push_cast] theorem ce_65 : prog.cellsOf 65 = 1 := by kernel_rfl
@[push_cast] theorem ro_65 (k : Nat) : roomOK prog 65 k = decide (k ≤ 4294967296) := room_of (by kernel_rfl) zo_65
@[push_cast] theorem sh_66 : shapeT prog 66 = .func := by kernel_rfl
@[push_cast] theorem ok_66 : okT prog 66 = true := by kernel_rfl
@[push_cast] theorem zo_66 : zOK prog 66 = true := by kernel_rfl
@[push_cast] theorem za_66 : zeroAV prog 66 = .nilfn := by kernel_rfl
@[push_cast] theorem ce_66 : prog.cellsOf 66 = 1 := by kernel_rfl
@[push_cast] theorem ro_66 (k : Nat) : roomOK prog 66 k = decide (k ≤ 4294967296) := room_of (by kernel_rfl) zo_66
@[push_cast] theorem sh_67 : shapeT prog 67 = .func := by kernel_rfl
@[push_cast] theorem ok_67 : okT prog 67 = true := by kernel_rfl
@[push_cast] theorem zo_67 : zOK prog 67 = true := by kernel_rfl
@[push_cast] theorem za_67 : zeroAV prog 67 = .nilfn := by kernel_rfl
@[push_cast] theorem ce_67 : prog.cellsOf 67 = 1 := by kernel_rfl
@[push_cast] theorem ro_67 (k : Nat) : roomOK prog 67 k = decide (k ≤ 4294967296) := room_of (by kernel_rfl) zo_67
@[push_cast] theorem sh_68 : shapeT prog 68 = .func := by kernel_rfl
@[push_cast] theorem ok_68 : okT prog 68 = true := by kernel_rfl
@[push_cast] theorem zo_68 : zOK prog 68 = true := by kernel_rfl
@[push_cast] theorem za_68 : zeroAV prog 68 = .nilfn := by kernel_rfl
@[push_cast] theorem ce_68 : prog.cellsOf 68 = 1 := by kernel_rfl
@[push_cast] theorem ro_68 (k : Nat) : roomOK prog 68 k = decide (k ≤ 4294967296) := room_of (by kernel_rfl) zo_68
@[push_cast] theorem sh_69 : shapeT prog 69 = .ptr 71 := by kernel_rfl
@[push_cast] theorem ok_69 : okT prog 69 = true := by kernel_rfl
@[push_cast] theorem zo_69 : zOK prog 69 = true := by kernel_rfl
@[push_cast] theorem za_69 : zeroAV prog 69 = .nilptr := by kernel_rfl
@[push_cast] theorem ce_69 : prog.cellsOf 69 = 1 := by kernel_rfl
@[push_cast] theorem ro_69 (k : Nat) : roomOK prog 69 k = decide (k ≤ 4294967296) := room_of (by kernel_rfl) zo_69
@[push_cast] theorem sh_70 : shapeT prog 70 = .struct := by kernel_rfl
@[push_cast] theorem fl_70 : fieldsT prog 70 = [(33, 0), (39, 25), (34, 31)] := by kernel_rfl
@[push_cast] theorem po_70 : partsOK prog 70 = true := by kernel_rfl
@[push_cast] theorem ok_70 : okT prog 70 = true := by kernel_rfl
@[push_cast] theorem zo_70 : zOK prog 70 = true := by kernel_rfl
@[push_cast] theorem za_70 : zeroAV prog 70 = .agg 70 [.agg 33 [.int .i64 0, .nils, .nils, .int .i64 0, .int .i64 0, .agg 31 [.agg 30 [.int .i64 0, .int .i64 0, .int .i64 0, .nils, .bool false], .agg 30 [.int .i64 0, .int .i64 0, .int .i64 0, .nils, .bool false], .agg 30 [.int .i64 0, .int .i64 0, .int .i64 0, .nils, .bool false], .agg 30 [.int .i64 0, .int .i64 0, .int .i64 0, .nils, .bool false]]], .agg 39 [.int .i64 0, .int .i64 0, .int .i64 0, .nils, .nils, .int .i64 0], .nils] := by kernel_rfl
@[push_cast] theorem ce_70 : prog.cellsOf 70 = 32 := by kernel_rfl
@[push_cast] theorem ro_70 (k : Nat) : roomOK prog 70 k = decide (k ≤ 4294967296) := room_of (by kernel_rfl) zo_70
@[push_cast] theorem sh_71 : shapeT prog 71 = .struct := by kernel_rfl
@[push_cast] theorem fl_71 : fieldsT prog 71 = [(33, 0), (39, 25), (34, 31)] := by kernel_rfl
@[push_cast] theorem po_71 : partsOK prog 71 = true := by kernel_rfl
@[push_cast] theorem ok_71 : okT prog 71 = true := by kernel_rfl
@[push_cast] theorem zo_71 : zOK prog 71 = true := by kernel_rfl
@[push_cast] theorem za_71 : zeroAV prog 71 = .agg 71 [.agg 33 [.int .i64 0, .nils, .nils, .int .i64 0, .int .i64 0, .agg 31 [.agg 30 [.int .i64 0, .int .i64 0, .int .i64 0, .nils, .bool false], .agg 30 [.int .i64 0, .int .i64 0, .int .i64 0, .nils, .bool false], .agg 30 [.int .i64 0, .int .i64 0, .int .i64 0, .nils, .bool false], .agg 30 [.int .i64 0, .int .i64 0, .int .i64 0, .nils, .bool false]]], .agg 39 [.int .i64 0, .int .i64 0, .int .i64 0, .nils, .nils, .int .i64 0], .nils] := by kernel_rfl
@[push_cast] theorem ce_71 : prog.cellsOf 71 = 32 := by kernel_rfl
@[push_cast] theorem ro_71 (k : Nat) : roomOK prog 71 k = decide (k ≤ 4294967296) := room_of (by kernel_rfl) zo_71
@[push_cast] theorem sh_72 : shapeT prog 72 = .func := by kernel_rfl
@[push_cast] theorem ok_72 : okT prog 72 = true := by kernel_rfl
@[push_cast] theorem zo_72 : zOK prog 72 = true := by kernel_rfl
@[push_cast] theorem za_72 : zeroAV prog 72 = .nilfn := by kernel_rfl
@[push_cast] theorem ce_72 : prog.cellsOf 72 = 1 := by kernel_rfl
@[push_cast] theorem ro_72 (k : Nat) : roomOK prog 72 k = decide (k ≤ 4294967296) := room_of (by kernel_rfl) zo_72
@[push_cast] theorem sh_73 : shapeT prog 73 = .struct := by kernel_rfl
@[push_cast] theorem fl_73 : fieldsT prog 73 = [(3, 0), (3, 1), (23, 2)] := by kernel_rfl
@[push_cast] theorem po_73 : partsOK prog 73 = true := by kernel_rfl
@[push_cast] theorem ok_73 : okT prog 73 = true := by kernel_rfl
@[push_cast] theorem zo_73 : zOK prog 73 = true := by kernel_rfl
@[push_cast] theorem za_73 : zeroAV prog 73 = .agg 73 [.int .i64 0, .int .i64 0, .nils] := by kernel_rfl
@[push_cast] theorem ce_73 : prog.cellsOf 73 = 3 := by kernel_rfl
@[push_cast] theorem ro_73 (k : Nat) : roomOK prog 73 k = decide (k ≤ 4294967296) := room_of (by kernel_rfl) zo_73
@[push_cast] theorem sh_74 : shapeT prog 74 = .struct := by kernel_rfl
@[push_cast] theorem fl_74 : fieldsT prog 74 = [(3, 0), (3, 1), (23, 2)] := by kernel_rfl
@[push_cast] theorem po_74 : partsOK prog 74 = true := by kernel_rfl
@[push_cast] theorem ok_74 : okT prog 74 = true := by kernel_rfl
@[push_cast] theorem zo_74 : zOK prog 74 = true := by kernel_rfl
@[push_cast] theorem za_74 : zeroAV prog 74 = .agg 74 [.int .i64 0, .int .i64 0, .nils] := by kernel_rfl
@[push_cast] theorem ce_74 : prog.cellsOf 74 = 3 := by kernel_rfl
@[push_cast] theorem ro_74 (k : Nat) : roomOK prog 74 k = decide (k ≤ 4294967296) := room_of (by kernel_rfl) zo_74
@[push_cast] theorem sh_75 : shapeT prog 75 = .func := by kernel_rfl
@[push_cast] theorem ok_75 : okT prog 75 = true := by kernel_rfl
@[push_cast] theorem zo_75 : zOK prog 75 = true := by kernel_rfl
@[push_cast] theorem za_75 : zeroAV prog 75 = .nilfn := by kernel_rfl
@[push_cast] theorem ce_75 : prog.cellsOf 75 = 1 := by kernel_rfl
@[push_cast] theorem ro_75 (k : Nat) : roomOK prog 75 k = decide (k ≤ 4294967296) := room_of (by kernel_rfl) zo_75
@[push_cast] theorem sh_76 : shapeT prog 76 = .func := by kernel_rfl
@[push_cast] theorem ok_76 : okT prog 76 = true := by kernel_rfl
@[push_cast] theorem zo_76 : zOK prog 76 = true := by kernel_rfl
@[push_cast] theorem za_76 : zeroAV prog 76 = .nilfn := by kernel_rfl
@[push_cast] theorem ce_76 : prog.cellsOf 76 = 1 := by kernel_rfl
@[push_cast] theorem ro_76 (k : Nat) : roomOK prog 76 k = decide (k ≤ 4294967296) := room_of (by kernel_rfl) zo_76
@[push_cast] theorem sh_77 : shapeT prog 77 = .func := by kernel_rfl
@[push_cast] theorem ok_77 : okT prog 77 = true := by kernel_rfl
@[push_cast] theorem zo_77 : zOK prog 77 = true := by kernel_rfl
@[push_cast] theorem za_77 : zeroAV prog 77 = .nilfn := by kernel_rfl
@[push_cast] theorem ce_77 : prog.cellsOf 77 = 1 := by kernel_rfl
@[push_cast] theorem ro_77 (k : Nat) : roomOK prog 77 k = decide (k ≤ 4294967296) := room_of (by kernel_rfl) zo_77
@[push_cast] theorem sh_78 : shapeT prog 78 = .func := by kernel_rfl
@[push_cast] theorem ok_78 : okT prog 78 = true := by kernel_rfl
@[push_cast] theorem zo_78 : zOK prog 78 = true := by kernel_rfl
@[push_cast] theorem za_78 : zeroAV prog 78 = .nilfn := by kernel_rfl
@[push_cast] theorem ce_78 : prog.cellsOf 78 = 1 := by kernel_rfl
@[push_cast] theorem ro_78 (k : Nat) : roomOK prog 78 k = decide (k ≤ 4294967296) := room_of (by kernel_rfl) zo_78
@[push_cast] theorem sh_79 : shapeT prog 79 = .func := by kernel_rfl
@[push_cast] theorem ok_79 : okT prog 79 = true := by kernel_rfl
@[push_cast] theorem zo_79 : zOK prog 79 = true := by kernel_rfl
@[push_cast] theorem za_79 : zeroAV prog 79 = .nilfn := by kernel_rfl
@[push_cast] theorem ce_79 : prog.cellsOf 79 = 1 := by kernel_rfl
@[push_cast] theorem ro_79 (k : Nat) : roomOK prog 79 k = decide (k ≤ 4294967296) := room_of (by kernel_rfl) zo_79
@[push_cast] theorem sh_80 : shapeT prog 80 = .arr 4 3 := by kernel_rfl
@[push_cast] theorem po_80 : partsOK prog 80 = true := by kernel_rfl
@[push_cast] theorem ok_80 : okT prog 80 = true := by kernel_rfl
@[push_cast] theorem zo_80 : zOK prog 80 = true := by kernel_rfl
@[push_cast] theorem za_80 : zeroAV prog 80 = .agg 80 [.int .i64 0, .int .i64 0, .int .i64 0, .int .i64 0] := by kernel_rfl
@[push_cast] theorem ce_80 : prog.cellsOf 80 = 4 := by kernel_rfl
@[push_cast] theorem ro_80 (k : Nat) : roomOK prog 80 k = decide (k ≤ 4294967296) := room_of (by kernel_rfl) zo_80
@[push_cast] theorem sh_81 : shapeT prog 81 = .func := by kernel_rfl
@[push_cast] theorem ok_81 : okT prog 81 = true := by kernel_rfl
@[push_cast] theorem zo_81 : zOK prog 81 = true := by kernel_rfl
@[push_cast] theorem za_81 : zeroAV prog 81 = .nilfn := by kernel_rfl
@[push_cast] theorem ce_81 : prog.cellsOf 81 = 1 := by kernel_rfl
@[push_cast] theorem ro_81 (k : Nat) : roomOK prog 81 k = decide (k ≤ 4294967296) := room_of (by kernel_rfl) zo_81
@[push_cast] theorem sh_82 : shapeT prog 82 = .func := by kernel_rfl
@[push_cast] theorem ok_82 : okT prog 82 = true := by kernel_rfl
@[push_cast] theorem zo_82 : zOK prog 82 = true := by kernel_rfl
@[push_cast] theorem za_82 : zeroAV prog 82 = .nilfn := by kernel_rfl
@[push_cast] theorem ce_82 : prog.cellsOf 82 = 1 := by kernel_rfl
@[push_cast] theorem ro_82 (k : Nat) : roomOK prog 82 k = decide (k ≤ 4294967296) := room_of (by kernel_rfl) zo_82
@[push_cast] theorem sh_83 : shapeT prog 83 = .func := by kernel_rfl
@[push_cast] theorem ok_83 : okT prog 83 = true := by kernel_rfl
@[push_cast] theorem zo_83 : zOK prog 83 = true := by kernel_rfl
@[push_cast] theorem za_83 : zeroAV prog 83 = .nilfn := by kernel_rfl
@[push_cast] theorem ce_83 : prog.cellsOf 83 = 1 := by kernel_rfl
@[push_cast] theorem ro_83 (k : Nat) : roomOK prog 83 k = decide (k ≤ 4294967296) := room_of (by kernel_rfl) zo_83
@[push_cast] theorem sh_84 : shapeT prog 84 = .func := by kernel_rfl
@[push_cast] theorem ok_84 : okT prog 84 = true := by kernel_rfl
@[push_cast] theorem zo_84 : zOK prog 84 = true := by kernel_rfl
@[push_cast] theorem za_84 : zeroAV prog 84 = .nilfn := by kernel_rfl
@[push_cast] theorem ce_84 : prog.cellsOf 84 = 1 := by kernel_rfl
@[push_cast] theorem ro_84 (k : Nat) : roomOK prog 84 k = decide (k ≤ 4294967296) := room_of (by kernel_rfl) zo_84
@[push_cast] theorem sh_85 : shapeT prog 85 = .func := by kernel_rfl
@[push_cast] theorem ok_85 : okT prog 85 = true := by kernel_rfl
@[push_cast] theorem zo_85 : zOK prog 85 = true := by kernel_rfl
@[push_cast] theorem za_85 : zeroAV prog 85 = .nilfn := by kernel_rfl
@[push_cast] theorem ce_85 : prog.cellsOf 85 = 1 := by kernel_rfl
@[push_cast] theorem ro_85 (k : Nat) : roomOK prog 85 k = decide (k ≤ 4294967296) := room_of (by kernel_rfl) zo_85
@[push_cast] theorem sh_86 : shapeT prog 86 = .func := by kernel_rfl
@[push_cast] theorem ok_86 : okT prog 86 = true := by kernel_rfl
@[push_cast] theorem zo_86 : zOK prog 86 = true := by kernel_rfl
@[push_cast] theorem za_86 : zeroAV prog 86 = .nilfn := by kernel_rfl
@[push_cast] theorem ce_86 : prog.cellsOf 86 = 1 := by kernel_rfl
@[push_cast] theorem ro_86 (k : Nat) : roomOK prog 86 k = decide (k ≤ 4294967296) := room_of (by kernel_rfl) zo_86
@[push_cast] theorem sh_87 : shapeT prog 87 = .func := by kernel_rfl
@[push_cast] theorem ok_87 : okT prog 87 = true := by kernel_rfl
@[push_cast] theorem zo_87 : zOK prog 87 = true := by kernel_rfl
@[push_cast] theorem za_87 : zeroAV prog 87 = .nilfn := by kernel_rfl
@[push_cast] theorem ce_87 : prog.cellsOf 87 = 1 := by kernel_rfl
@[push_cast] theorem ro_87 (k : Nat) : roomOK prog 87 k = decide (k ≤ 4294967296) := room_of (by kernel_rfl) zo_87
@[push_cast] theorem sh_88 : shapeT prog 88 = .func := by kernel_rfl
@[push_cast] theorem ok_88 : okT prog 88 = true := by kernel_rfl
@[push_cast] theorem zo_88 : zOK prog 88 = true := by kernel_rfl
@[push_cast] theorem za_88 : zeroAV prog 88 = .nilfn := by kernel_rfl
@[push_cast] theorem ce_88 : prog.cellsOf 88 = 1 := by kernel_rfl
@[push_cast] theorem ro_88 (k : Nat) : roomOK prog 88 k = decide (k ≤ 4294967296) := room_of (by kernel_rfl) zo_88
@[push_cast] theorem sh_89 : shapeT prog 89 = .func := by kernel_rfl
@[push_cast] theorem ok_89 : okT prog 89 = true := by kernel_rfl
@[push_cast] theorem zo_89 : zOK prog 89 = true := by kernel_rfl
@[push_cast] theorem za_89 : zeroAV prog 89 = .nilfn := by kernel_rfl
@[push_cast] theorem ce_89 : prog.cellsOf 89 = 1 := by kernel_rfl
@[push_cast] theorem ro_89 (k : Nat) : roomOK prog 89 k = decide (k ≤ 4294967296) := room_of (by kernel_rfl) zo_89
@[push_cast] theorem sh_90 : shapeT prog 90 = .ptr 92 := by kernel_rfl
@[push_cast] theorem ok_90 : okT prog 90 = true := by kernel_rfl
@[push_cast] theorem zo_90 : zOK prog 90 = true := by kernel_rfl
@[push_cast] theorem za_90 : zeroAV prog 90 = .nilptr := by kernel_rfl
@[push_cast] theorem ce_90 : prog.cellsOf 90 = 1 := by kernel_rfl
@[push_cast] theorem ro_90 (k : Nat) : roomOK prog 90 k = decide (k ≤ 4294967296) := room_of (by kernel_rfl) zo_90
@[push_cast] theorem sh_91 : shapeT prog 91 = .struct := by kernel_rfl
@[push_cast] theorem fl_91 : fieldsT prog 91 = [(33, 0), (34, 25)] := by kernel_rfl
@[push_cast] theorem po_91 : partsOK prog 91 = true := by kernel_rfl
@[push_cast] theorem ok_91 : okT prog 91 = true := by kernel_rfl
@[push_cast] theorem zo_91 : zOK prog 91 = true := by kernel_rfl
@[push_cast] theorem za_91 : zeroAV prog 91 = .agg 91 [.agg 33 [.int .i64 0, .nils, .nils, .int .i64 0, .int .i64 0, .agg 31 [.agg 30 [.int .i64 0, .int .i64 0, .int .i64 0, .nils, .bool false], .agg 30 [.int .i64 0, .int .i64 0, .int .i64 0, .nils, .bool false], .agg 30 [.int .i64 0, .int .i64 0, .int .i64 0, .nils, .bool false], .agg 30 [.int .i64 0, .int .i64 0, .int .i64 0, .nils, .bool false]]], .nils] := by kernel_rfl
@[push_cast] theorem ce_91 : prog.cellsOf 91 = 26 := by kernel_rfl
@[push_cast] theorem ro_91 (k : Nat) : roomOK prog 91 k = decide (k ≤ 4294967296) := room_of (by kernel_rfl) zo_91
@[push_cast] theorem sh_92 : shapeT prog 92 = .struct := by kernel_rfl
@[push_cast] theorem fl_92 : fieldsT prog 92 = [(33, 0), (34, 25)] := by kernel_rfl
@[push_cast] theorem po_92 : partsOK prog 92 = true := by kernel_rfl
@[push_cast] theorem ok_92 : okT prog 92 = true := by kernel_rfl
@[push_cast] theorem zo_92 : zOK prog 92 = true := by kernel_rfl
@[push_cast] theorem za_92 : zeroAV prog 92 = .agg 92 [.agg 33 [.int .i64 0, .nils, .nils, .int .i64 0, .int .i64 0, .agg 31 [.agg 30 [.int .i64 0, .int .i64 0, .int .i64 0, .nils, .bool false], .agg 30 [.int .i64 0, .int .i64 0, .int .i64 0, .nils, .bool false], .agg 30 [.int .i64 0, .int .i64 0, .int .i64 0, .nils, .bool false], .agg 30 [.int .i64 0, .int .i64 0, .int .i64 0, .nils, .bool false]]], .nils] := by kernel_rfl
@[push_cast] theorem ce_92 : prog.cellsOf 92 = 26 := by kernel_rfl
@[push_cast] theorem ro_92 (k : Nat) : roomOK prog 92 k = decide (k ≤ 4294967296) := room_of (by kernel_rfl) zo_92
@[push_cast] theorem sh_93 : shapeT prog 93 = .func := by kernel_rfl
@[push_cast] theorem ok_93 : okT prog 93 = true := by kernel_rfl
@[push_cast] theorem zo_93 : zOK prog 93 = true := by kernel_rfl
@[push_cast] theorem za_93 : zeroAV prog 93 = .nilfn := by kernel_rfl
@[push_cast] theorem ce_93 : prog.cellsOf 93 = 1 := by kernel_rfl
@[push_cast] theorem ro_93 (k : Nat) : roomOK prog 93 k = decide (k ≤ 4294967296) := room_of (by kernel_rfl) zo_93
@[push_cast] theorem sh_94 : shapeT prog 94 = .func := by kernel_rfl
@[push_cast] theorem ok_94 : okT prog 94 = true := by kernel_rfl
@[push_cast] theorem zo_94 : zOK prog 94 = true := by kernel_rfl
@[push_cast] theorem za_94 : zeroAV prog 94 = .nilfn := by kernel_rfl
@[push_cast] theorem ce_94 : prog.cellsOf 94 = 1 := by kernel_rfl
@[push_cast] theorem ro_94 (k : Nat) : roomOK prog 94 k = decide (k ≤ 4294967296) := room_of (by kernel_rfl) zo_94
@[push_cast] theorem sh_95 : shapeT prog 95 = .func := by kernel_rfl
@[push_cast] theorem ok_95 : okT prog 95 = true := by kernel_rfl
@[push_cast] theorem zo_95 : zOK prog 95 = true := by kernel_rfl
@[push_cast] theorem za_95 : zeroAV prog 95 = .nilfn := by kernel_rfl
@[push_cast] theorem ce_95 : prog.cellsOf 95 = 1 := by kernel_rfl
@[push_cast] theorem ro_95 (k : Nat) : roomOK prog 95 k = decide (k ≤ 4294967296) := room_of (by kernel_rfl) zo_95
@[push_cast] theorem sh_96 : shapeT prog 96 = .func := by kernel_rfl
@[push_cast] theorem ok_96 : okT prog 96 = true := by kernel_rfl
@[push_cast] theorem zo_96 : zOK prog 96 = true := by kernel_rfl
@[push_cast] theorem za_96 : zeroAV prog 96 = .nilfn := by kernel_rfl
@[push_cast] theorem ce_96 : prog.cellsOf 96 = 1 := by kernel_rfl
@[push_cast] theorem ro_96 (k : Nat) : roomOK prog 96 k = decide (k ≤ 4294967296) := room_of (by kernel_rfl) zo_96
@[push_cast] theorem sh_97 : shapeT prog 97 = .func := by kernel_rfl
@[push_cast] theorem ok_97 : okT prog 97 = true := by kernel_rfl
@[push_cast] theorem zo_97 : zOK prog 97 = true := by kernel_rfl
@[push_cast] theorem za_97 : zeroAV prog 97 = .nilfn := by kernel_rfl
@[push_cast] theorem ce_97 : prog.cellsOf 97 = 1 := by kernel_rfl
@[push_cast] theorem ro_97 (k : Nat) : roomOK prog 97 k = decide (k ≤ 4294967296) := room_of (by kernel_rfl) zo_97
@[push_cast] theorem sh_98 : shapeT prog 98 = .func := by kernel_rfl
@[push_cast] theorem ok_98 : okT prog 98 = true := by kernel_rfl
@[push_cast] theorem zo_98 : zOK prog 98 = true := by kernel_rfl
@[push_cast] theorem za_98 : zeroAV prog 98 = .nilfn := by kernel_rfl
@[push_cast] theorem ce_98 : prog.cellsOf 98 = 1 := by kernel_rfl
@[push_cast] theorem ro_98 (k : Nat) : roomOK prog 98 k = decide (k ≤ 4294967296) := room_of (by kernel_rfl) zo_98
@[push_cast] theorem sh_99 : shapeT prog 99 = .func := by kernel_rfl
@[push_cast] theorem ok_99 : okT prog 99 = true := by kernel_rfl
@[push_cast] theorem zo_99 : zOK prog 99 = true := by kernel_rfl
@[push_cast] theorem za_99 : zeroAV prog 99 = .nilfn := by kernel_rfl
@[push_cast] theorem ce_99 : prog.cellsOf 99 = 1 := by kernel_rfl
@[push_cast] theorem ro_99 (k : Nat) : roomOK prog 99 k = decide (k ≤ 4294967296) := room_of (by kernel_rfl) zo_99
@[push_cast] theorem sh_100 : shapeT prog 100 = .func := by kernel_rfl
@[push_cast] theorem ok_100 : okT prog 100 = true := by kernel_rfl
@[push_cast] theorem zo_100 : zOK prog 100 = true := by kernel_rfl
@[push_cast] theorem za_100 : zeroAV prog 100 = .nilfn := by kernel_rfl
@[push_cast] theorem ce_100 : prog.cellsOf 100 = 1 := by kernel_rfl
@[push_cast] theorem ro_100 (k : Nat) : roomOK prog 100 k = decide (k ≤ 4294967296) := room_of (by kernel_rfl) zo_100
@[push_cast] theorem sh_101 : shapeT prog 101 = .func := by kernel_rfl
@[push_cast] theorem ok_101 : okT prog 101 = true := by kernel_rfl
@[push_cast] theorem zo_101 : zOK prog 101 = true := by kernel_rfl
@[push_cast] theorem za_101 : zeroAV prog 101 = .nilfn := by kernel_rfl
@[push_cast] theorem ce_101 : prog.cellsOf 101 = 1 := by kernel_rfl
@[push_cast] theorem ro_101 (k : Nat) : roomOK prog 101 k = decide (k ≤ 4294967296) := room_of (by kernel_rfl) zo_101
@[push_cast] theorem sh_102 : shapeT prog 102 = .func := by kernel_rfl
@[push_cast] theorem ok_102 : okT prog 102 = true := by kernel_rfl
@[push_cast] theorem zo_102 : zOK prog 102 = true := by kernel_rfl
@[push_cast] theorem za_102 : zeroAV prog 102 = .nilfn := by kernel_rfl
@[push_cast] theorem ce_102 : prog.cellsOf 102 = 1 := by kernel_rfl
@[push_cast] theorem ro_102 (k : Nat) : roomOK prog 102 k = decide (k ≤ 4294967296) := room_of (by kernel_rfl) zo_102
@[push_cast] theorem sh_103 : shapeT prog 103 = .func := by kernel_rfl
@[push_cast] theorem ok_103 : okT prog 103 = true := by kernel_rfl
@[push_cast] theorem zo_103 : zOK prog 103 = true := by kernel_rfl
@[push_cast] theorem za_103 : zeroAV prog 103 = .nilfn := by kernel_rfl
@[push_cast] theorem ce_103 : prog.cellsOf 103 = 1 := by kernel_rfl
@[push_cast] theorem ro_103 (k : Nat) : roomOK prog 103 k = decide (k ≤ 4294967296) := room_of (by kernel_rfl) zo_103
@[push_cast] theorem sh_104 : shapeT prog 104 = .func := by kernel_rfl
@[push_cast] theorem ok_104 : okT prog 104 = true := by kernel_rfl
@[push_cast] theorem zo_104 : zOK prog 104 = true := by kernel_rfl
@[push_cast] theorem za_104 : zeroAV prog 104 = .nilfn := by kernel_rfl
@[push_cast] theorem ce_104 : prog.cellsOf 104 = 1 := by kernel_rfl
@[push_cast] theorem ro_104 (k : Nat) : roomOK prog 104 k = decide (k ≤ 4294967296) := room_of (by kernel_rfl) zo_104
@[push_cast] theorem sh_105 : shapeT prog 105 = .func := by kernel_rfl
@[push_cast] theorem ok_105 : okT prog 105 = true := by kernel_rfl
@[push_cast] theorem zo_105 : zOK prog 105 = true := by kernel_rfl
@[push_cast] theorem za_105 : zeroAV prog 105 = .nilfn := by kernel_rfl
@[push_cast] theorem ce_105 : prog.cellsOf 105 = 1 := by kernel_rfl
@[push_cast] theorem ro_105 (k : Nat) : roomOK prog 105 k = decide (k ≤ 4294967296) := room_of (by kernel_rfl) zo_105
@[push_cast] theorem sh_106 : shapeT prog 106 = .func := by kernel_rfl
@[push_cast] theorem ok_106 : okT prog 106 = true := by kernel_rfl
@[push_cast] theorem zo_106 : zOK prog 106 = true := by kernel_rfl
@[push_cast] theorem za_106 : zeroAV prog 106 = .nilfn := by kernel_rfl
@[push_cast] theorem ce_106 : prog.cellsOf 106 = 1 := by kernel_rfl
@[push_cast] theorem ro_106 (k : Nat) : roomOK prog 106 k = decide (k ≤ 4294967296) := room_of (by kernel_rfl) zo_106
@[push_cast] theorem sh_107 : shapeT prog 107 = .func := by kernel_rfl
@[push_cast] theorem ok_107 : okT prog 107 = true := by kernel_rfl
@[push_cast] theorem zo_107 : zOK prog 107 = true := by kernel_rfl
@[push_cast] theorem za_107 : zeroAV prog 107 = .nilfn := by kernel_rfl
@[push_cast] theorem ce_107 : prog.cellsOf 107 = 1 := by kernel_rfl
@[push_cast] theorem ro_107 (k : Nat) : roomOK prog 107 k = decide (k ≤ 4294967296) := room_of (by kernel_rfl) zo_107
@[push_cast] theorem sh_108 : shapeT prog 108 = .func := by kernel_rfl
@[push_cast] theorem ok_108 : okT prog 108 = true := by kernel_rfl
@[push_cast] theorem zo_108 : zOK prog 108 = true := by kernel_rfl
@[push_cast] theorem za_108 : zeroAV prog 108 = .nilfn := by kernel_rfl
@[push_cast] theorem ce_108 : prog.cellsOf 108 = 1 := by kernel_rfl
@[push_cast] theorem ro_108 (k : Nat) : roomOK prog 108 k = decide (k ≤ 4294967296) := room_of (by kernel_rfl) zo_108
@[push_cast] theorem sh_109 : shapeT prog 109 = .struct := by kernel_rfl
@[push_cast] theorem fl_109 : fieldsT prog 109 = [(17, 0), (17, 1), (17, 2), (9, 3)] := by kernel_rfl
@[push_cast] theorem po_109 : partsOK prog 109 = true := by kernel_rfl
@[push_cast] theorem ok_109 : okT prog 109 = true := by kernel_rfl
@[push_cast] theorem zo_109 : zOK prog 109 = true := by kernel_rfl
@[push_cast] theorem za_109 : zeroAV prog 109 = .agg 109 [.nilptr, .nilptr, .nilptr, .str ByteArray.empty] := by kernel_rfl
@[push_cast] theorem ce_109 : prog.cellsOf 109 = 4 := by kernel_rfl
@[push_cast] theorem ro_109 (k : Nat) : roomOK prog 109 k = decide (k ≤ 4294967296) := room_of (by kernel_rfl) zo_109
@[push_cast] theorem sh_110 : shapeT prog 110 = .struct := by kernel_rfl
@[push_cast] theorem fl_110 : fieldsT prog 110 = [(17, 0), (17, 1), (17, 2), (9, 3)] := by kernel_rfl
@[push_cast] theorem po_110 : partsOK prog 110 = true := by kernel_rfl
@[push_cast] theorem ok_110 : okT prog 110 = true := by kernel_rfl
@[push_cast] theorem zo_110 : zOK prog 110 = true := by kernel_rfl
@[push_cast] theorem za_110 : zeroAV prog 110 = .agg 110 [.nilptr, .nilptr, .nilptr, .str ByteArray.empty] := by kernel_rfl
@[push_cast] theorem ce_110 : prog.cellsOf 110 = 4 := by kernel_rfl
@[push_cast] theorem ro_110 (k : Nat) : roomOK prog 110 k = decide (k ≤ 4294967296) := room_of (by kernel_rfl) zo_110
@[push_cast] theorem sh_114 : shapeT prog 114 = .func := by kernel_rfl
@[push_cast] theorem ok_114 : okT prog 114 = true := by kernel_rfl
@[push_cast] theorem zo_114 : zOK prog 114 = true := by kernel_rfl
@[push_cast] theorem za_114 : zeroAV prog 114 = .nilfn := by kernel_rfl
@[push_cast] theorem ce_114 : prog.cellsOf 114 = 1 := by kernel_rfl
@[push_cast] theorem ro_114 (k : Nat) : roomOK prog 114 k = decide (k ≤ 4294967296) := room_of (by kernel_rfl) zo_114
@[push_cast] theorem sh_115 : shapeT prog 115 = .int .u32 := by kernel_rfl
@[push_cast] theorem ok_115 : okT prog 115 = true := by kernel_rfl
@[push_cast] theorem zo_115 : zOK prog 115 = true := by kernel_rfl
@[push_cast] theorem za_115 : zeroAV prog 115 = .int .u32 0 := by kernel_rfl
@[push_cast] theorem ce_115 : prog.cellsOf 115 = 1 := by kernel_rfl
@[push_cast] theorem ro_115 (k : Nat) : roomOK prog 115 k = decide (k ≤ 4294967296) := room_of (by kernel_rfl) zo_115
@[push_cast] theorem sh_116 : shapeT prog 116 = .int .u8 := by kernel_rfl
@[push_cast] theorem ok_116 : okT prog 116 = true := by kernel_rfl
@[push_cast] theorem zo_116 : zOK prog 116 = true := by kernel_rfl
@[push_cast] theorem za_116 : zeroAV prog 116 = .int .u8 0 := by kernel_rfl
@[push_cast] theorem ce_116 : prog.cellsOf 116 = 1 := by kernel_rfl
@[push_cast] theorem ro_116 (k : Nat) : roomOK prog 116 k = decide (k ≤ 4294967296) := room_of (by kernel_rfl) zo_116
@[push_cast] theorem sh_117 : shapeT prog 117 = .int .u8 := by kernel_rfl
@[push_cast] theorem ok_117 : okT prog 117 = true := by kernel_rfl
@[push_cast] theorem zo_117 : zOK prog 117 = true := by kernel_rfl
@[push_cast] theorem za_117 : zeroAV prog 117 = .int .u8 0 := by kernel_rfl
@[push_cast] theorem ce_117 : prog.cellsOf 117 = 1 := by kernel_rfl
@[push_cast] theorem ro_117 (k : Nat) : roomOK prog 117 k = decide (k ≤ 4294967296) := room_of (by kernel_rfl) zo_117
@[push_cast] theorem sh_118 : shapeT prog 118 = .func := by kernel_rfl
@[push_cast] theorem ok_118 : okT prog 118 = true := by kernel_rfl
@[push_cast] theorem zo_118 : zOK prog 118 = true := by kernel_rfl
@[push_cast] theorem za_118 : zeroAV prog 118 = .nilfn := by kernel_rfl
@[push_cast] theorem ce_118 : prog.cellsOf 118 = 1 := by kernel_rfl
@[push_cast] theorem ro_118 (k : Nat) : roomOK prog 118 k = decide (k ≤ 4294967296) := room_of (by kernel_rfl) zo_118
@[push_cast] theorem sh_119 : shapeT prog 119 = .ptr 5 := by kernel_rfl
@[push_cast] theorem ok_119 : okT prog 119 = true := by kernel_rfl
@[push_cast] theorem zo_119 : zOK prog 119 = true := by kernel_rfl
@[push_cast] theorem za_119 : zeroAV prog 119 = .nilptr := by kernel_rfl
@[push_cast] theorem ce_119 : prog.cellsOf 119 = 1 := by kernel_rfl
@[push_cast] theorem ro_119 (k : Nat) : roomOK prog 119 k = decide (k ≤ 4294967296) := room_of (by kernel_rfl) zo_119
@[push_cast] theorem sh_120 : shapeT prog 120 = .int .i32 := by kernel_rfl
@[push_cast] theorem ok_120 : okT prog 120 = true := by kernel_rfl
@[push_cast] theorem zo_120 : zOK prog 120 = true := by kernel_rfl
@[push_cast] theorem za_120 : zeroAV prog 120 = .int .i32 0 := by kernel_rfl
@[push_cast] theorem ce_120 : prog.cellsOf 120 = 1 := by kernel_rfl
@[push_cast] theorem ro_120 (k : Nat) : roomOK prog 120 k = decide (k ≤ 4294967296) := room_of (by kernel_rfl) zo_120
@[push_cast] theorem sh_121 : shapeT prog 121 = .int .i32 := by kernel_rfl
@[push_cast] theorem ok_121 : okT prog 121 = true := by kernel_rfl
@[push_cast] theorem zo_121 : zOK prog 121 = true := by kernel_rfl
@[push_cast] theorem za_121 : zeroAV prog 121 = .int .i32 0 := by kernel_rfl
@[push_cast] theorem ce_121 : prog.cellsOf 121 = 1 := by kernel_rfl
@[push_cast] theorem ro_121 (k : Nat) : roomOK prog 121 k = decide (k ≤ 4294967296) := room_of (by kernel_rfl) zo_121
@[push_cast] theorem sh_122 : shapeT prog 122 = .struct := by kernel_rfl
@[push_cast] theorem fl_122 : fieldsT prog 122 = [(12, 0), (12, 1), (115, 2), (116, 3), (5, 4), (5, 5), (117, 6), (118, 7), (119, 8), (120, 9), (121, 10)] := by kernel_rfl
@[push_cast] theorem po_122 : partsOK prog 122 = true := by kernel_rfl
@[push_cast] theorem ok_122 : okT prog 122 = true := by kernel_rfl
@[push_cast] theorem zo_122 : zOK prog 122 = true := by kernel_rfl
@[push_cast] theorem za_122 : zeroAV prog 122 = .agg 122 [.int .u64 0, .int .u64 0, .int .u32 0, .int .u8 0, .int .u8 0, .int .u8 0, .int .u8 0, .nilfn, .nilptr, .int .i32 0, .int .i32 0] := by kernel_rfl
@[push_cast] theorem ce_122 : prog.cellsOf 122 = 11 := by kernel_rfl
@[push_cast] theorem ro_122 (k : Nat) : roomOK prog 122 k = decide (k ≤ 4294967296) := room_of (by kernel_rfl) zo_122
@[push_cast] theorem sh_123 : shapeT prog 123 = .struct := by kernel_rfl
@[push_cast] theorem fl_123 : fieldsT prog 123 = [(12, 0), (12, 1), (115, 2), (116, 3), (5, 4), (5, 5), (117, 6), (118, 7), (119, 8), (120, 9), (121, 10)] := by kernel_rfl
@[push_cast] theorem po_123 : partsOK prog 123 = true := by kernel_rfl
@[push_cast] theorem ok_123 : okT prog 123 = true := by kernel_rfl
@[push_cast] theorem zo_123 : zOK prog 123 = true := by kernel_rfl
@[push_cast] theorem za_123 : zeroAV prog 123 = .agg 123 [.int .u64 0, .int .u64 0, .int .u32 0, .int .u8 0, .int .u8 0, .int .u8 0, .int .u8 0, .nilfn, .nilptr, .int .i32 0, .int .i32 0] := by kernel_rfl
@[push_cast] theorem ce_123 : prog.cellsOf 123 = 11 := by kernel_rfl
@[push_cast] theorem ro_123 (k : Nat) : roomOK prog 123 k = decide (k ≤ 4294967296) := room_of (by kernel_rfl) zo_123
theorem run_3 {args : List AV} {R : AV → Prop} (hn : args.length = 1) (hw : ∀ h, Rn prog [.code (bodyOf Go.Proofs.Try.f3)] .normal (env0 0 args [2, 3, 4, 5, 6, 8, 9, 10, 11, 19, 32, 47, 83, 90]) h (Fin prog [.tmp 2] h R)) : Pure prog 3 args R :=
  fn_run wfp [2, 3, 4, 5, 6, 8, 9, 10, 11, 19, 32, 47, 83, 90] Go.Proofs.Try.func3 _ rfl (by kernel_rfl) (by kernel_rfl) (by kernel_rfl) Go.Proofs.Try.ntmps3 (by rw [hn]; decide) hw
theorem frun_3 {args : List AV} {h : List Entry} {K : AV → List Entry → Prop} (hn : args.length = 1) (hw : Rn prog [.code (bodyOf Go.Proofs.Try.f3)] .normal (env0 0 args [2, 3, 4, 5, 6, 8, 9, 10, 11, 19, 32, 47, 83, 90]) h (FinK prog [.tmp 2] K)) : FSpec prog 3 args h K :=
  fs_run wfp [2, 3, 4, 5, 6, 8, 9, 10, 11, 19, 32, 47, 83, 90] Go.Proofs.Try.func3 _ rfl (by kernel_rfl) (by kernel_rfl) (by kernel_rfl) Go.Proofs.Try.ntmps3 (by rw [hn]; decide) hw
theorem run_4 {args : List AV} {R : AV → Prop} (hn : args.length = 1) (hw : ∀ h, Rn prog [.code (bodyOf Go.Proofs.Try.f4)] .normal (env0 0 args [2, 3, 4, 5, 6, 15, 24, 61, 66, 77]) h (Fin prog [.tmp 2] h R)) : Pure prog 4 args R :=
  fn_run wfp [2, 3, 4, 5, 6, 15, 24, 61, 66, 77] Go.Proofs.Try.func4 _ rfl (by kernel_rfl) (by kernel_rfl) (by kernel_rfl) Go.Proofs.Try.ntmps4 (by rw [hn]; decide) hw
theorem frun_4 {args : List AV} {h : List Entry} {K : AV → List Entry → Prop} (hn : args.length = 1) (hw : Rn prog [.code (bodyOf Go.Proofs.Try.f4)] .normal (env0 0 args [2, 3, 4, 5, 6, 15, 24, 61, 66, 77]) h (FinK prog [.tmp 2] K)) : FSpec prog 4 args h K :=
  fs_run wfp [2, 3, 4, 5, 6, 15, 24, 61, 66, 77] Go.Proofs.Try.func4 _ rfl (by kernel_rfl) (by kernel_rfl) (by kernel_rfl) Go.Proofs.Try.ntmps4 (by rw [hn]; decide) hw
theorem run_5 {args : List AV} {R : AV → Prop} (hn : args.length = 4) (hw : ∀ h, Rn prog [.code (bodyOf Go.Proofs.Try.f5)] .normal (env0 0 args [8, 9, 10, 11, 12, 13, 15, 16, 17, 20, 83]) h (Fin prog [.tmp 8] h R)) : Pure prog 5 args R :=
  fn_run wfp [8, 9, 10, 11, 12, 13, 15, 16, 17, 20, 83] Go.Proofs.Try.func5 _ rfl (by kernel_rfl) (by kernel_rfl) (by kernel_rfl) Go.Proofs.Try.ntmps5 (by rw [hn]; decide) hw
theorem frun_5 {args : List AV} {h : List Entry} {K : AV → List Entry → Prop} (hn : args.length = 4) (hw : Rn prog [.code (bodyOf Go.Proofs.Try.f5)] .normal (env0 0 args [8, 9, 10, 11, 12, 13, 15, 16, 17, 20, 83]) h (FinK prog [.tmp 8] K)) : FSpec prog 5 args h K :=
  fs_run wfp [8, 9, 10, 11, 12, 13, 15, 16, 17, 20, 83] Go.Proofs.Try.func5 _ rfl (by kernel_rfl) (by kernel_rfl) (by kernel_rfl) Go.Proofs.Try.ntmps5 (by rw [hn]; decide) hw
theorem run_6 {args : List AV} {R : AV → Prop} (hn : args.length = 2) (hw : ∀ h, Rn prog [.code (bodyOf Go.Proofs.Try.f6)] .normal (env0 0 args [4, 5, 6, 7, 8, 9, 10, 11, 12, 13, 14, 15, 16, 23, 56, 67, 84, 95, 139, 147]) h (Fin prog [.tmp 4] h R)) : Pure prog 6 args R :=
  fn_run wfp [4, 5, 6, 7, 8, 9, 10, 11, 12, 13, 14, 15, 16, 23, 56, 67, 84, 95, 139, 147] Go.Proofs.Try.func6 _ rfl (by kernel_rfl) (by kernel_rfl) (by kernel_rfl) Go.Proofs.Try.ntmps6 (by rw [hn]; decide) hw
theorem frun_6 {args : List AV} {h : List Entry} {K : AV → List Entry → Prop} (hn : args.length = 2) (hw : Rn prog [.code (bodyOf Go.Proofs.Try.f6)] .normal (env0 0 args [4, 5, 6, 7, 8, 9, 10, 11, 12, 13, 14, 15, 16, 23, 56, 67, 84, 95, 139, 147]) h (FinK prog [.tmp 4] K)) : FSpec prog 6 args h K :=
  fs_run wfp [4, 5, 6, 7, 8, 9, 10, 11, 12, 13, 14, 15, 16, 23, 56, 67, 84, 95, 139, 147] Go.Proofs.Try.func6 _ rfl (by kernel_rfl) (by kernel_rfl) (by kernel_rfl) Go.Proofs.Try.ntmps6 (by rw [hn]; decide) hw
theorem run_7 {args : List AV} {R : AV → Prop} (hn : args.length = 2) (hw : ∀ h, Rn prog [.code (bodyOf Go.Proofs.Try.f7)] .normal (env0 0 args [4, 5, 6, 7, 8, 9, 10, 11, 12, 13, 14, 15, 16, 17, 18, 27, 33, 63, 71, 100, 107, 160, 207]) h (Fin prog [.tmp 4] h R)) : Pure prog 7 args R :=
  fn_run wfp [4, 5, 6, 7, 8, 9, 10, 11, 12, 13, 14, 15, 16, 17, 18, 27, 33, 63, 71, 100, 107, 160, 207] Go.Proofs.Try.func7 _ rfl (by kernel_rfl) (by kernel_rfl) (by kernel_rfl) Go.Proofs.Try.ntmps7 (by rw [hn]; decide) hw
theorem frun_7 {args : List AV} {h : List Entry} {K : AV → List Entry → Prop} (hn : args.length = 2) (hw : Rn prog [.code (bodyOf Go.Proofs.Try.f7)] .normal (env0 0 args [4, 5, 6, 7, 8, 9, 10, 11, 12, 13, 14, 15, 16, 17, 18, 27, 33, 63, 71, 100, 107, 160, 207]) h (FinK prog [.tmp 4] K)) : FSpec prog 7 args h K :=
  fs_run wfp [4, 5, 6, 7, 8, 9, 10, 11, 12, 13, 14, 15, 16, 17, 18, 27, 33, 63, 71, 100, 107, 160, 207] Go.Proofs.Try.func7 _ rfl (by kernel_rfl) (by kernel_rfl) (by kernel_rfl) Go.Proofs.Try.ntmps7 (by rw [hn]; decide) hw
theorem run_8 {args : List AV} {R : AV → Prop} (hn : args.length = 2) (hw : ∀ h, Rn prog [.code (bodyOf Go.Proofs.Try.f8)] .normal (env0 0 args [4, 5, 6, 7, 8, 9, 10, 11, 12, 13, 14, 15, 31, 56, 73, 77, 88, 90, 126]) h (Fin prog [.tmp 4] h R)) : Pure prog 8 args R :=
  fn_run wfp [4, 5, 6, 7, 8, 9, 10, 11, 12, 13, 14, 15, 31, 56, 73, 77, 88, 90, 126] Go.Proofs.Try.func8 _ rfl (by kernel_rfl) (by kernel_rfl) (by kernel_rfl) Go.Proofs.Try.ntmps8 (by rw [hn]; decide) hw
theorem frun_8 {args : List AV} {h : List Entry} {K : AV → List Entry → Prop} (hn : args.length = 2) (hw : Rn prog [.code (bodyOf Go.Proofs.Try.f8)] .normal (env0 0 args [4, 5, 6, 7, 8, 9, 10, 11, 12, 13, 14, 15, 31, 56, 73, 77, 88, 90, 126]) h (FinK prog [.tmp 4] K)) : FSpec prog 8 args h K :=
  fs_run wfp [4, 5, 6, 7, 8, 9, 10, 11, 12, 13, 14, 15, 31, 56, 73, 77, 88, 90, 126] Go.Proofs.Try.func8 _ rfl (by kernel_rfl) (by kernel_rfl) (by kernel_rfl) Go.Proofs.Try.ntmps8 (by rw [hn]; decide) hw
theorem run_9 {args : List AV} {R : AV → Prop} (hn : args.length = 3) (hw : ∀ h, Rn prog [.code (bodyOf Go.Proofs.Try.f9)] .normal (env0 0 args [6, 7, 8, 9, 10, 11, 12, 13, 14, 15, 16, 24, 29, 44, 69, 76, 103]) h (Fin prog [.tmp 6] h R)) : Pure prog 9 args R :=
  fn_run wfp [6, 7, 8, 9, 10, 11, 12, 13, 14, 15, 16, 24, 29, 44, 69, 76, 103] Go.Proofs.Try.func9 _ rfl (by kernel_rfl) (by kernel_rfl) (by kernel_rfl) Go.Proofs.Try.ntmps9 (by rw [hn]; decide) hw
theorem frun_9 {args : List AV} {h : List Entry} {K : AV → List Entry → Prop} (hn : args.length = 3) (hw : Rn prog [.code (bodyOf Go.Proofs.Try.f9)] .normal (env0 0 args [6, 7, 8, 9, 10, 11, 12, 13, 14, 15, 16, 24, 29, 44, 69, 76, 103]) h (FinK prog [.tmp 6] K)) : FSpec prog 9 args h K :=
  fs_run wfp [6, 7, 8, 9, 10, 11, 12, 13, 14, 15, 16, 24, 29, 44, 69, 76, 103] Go.Proofs.Try.func9 _ rfl (by kernel_rfl) (by kernel_rfl) (by kernel_rfl) Go.Proofs.Try.ntmps9 (by rw [hn]; decide) hw
theorem run_10 {args : List AV} {R : AV → Prop} (hn : args.length = 3) (hw : ∀ h, Rn prog [.code (bodyOf Go.Proofs.Try.f10)] .normal (env0 0 args [6, 7, 8, 10, 11, 12, 13, 14, 15, 16, 19]) h (Fin prog [.tmp 6] h R)) : Pure prog 10 args R :=
  fn_run wfp [6, 7, 8, 10, 11, 12, 13, 14, 15, 16, 19] Go.Proofs.Try.func10 _ rfl (by kernel_rfl) (by kernel_rfl) (by kernel_rfl) Go.Proofs.Try.ntmps10 (by rw [hn]; decide) hw
theorem frun_10 {args : List AV} {h : List Entry} {K : AV → List Entry → Prop} (hn : args.length = 3) (hw : Rn prog [.code (bodyOf Go.Proofs.Try.f10)] .normal (env0 0 args [6, 7, 8, 10, 11, 12, 13, 14, 15, 16, 19]) h (FinK prog [.tmp 6] K)) : FSpec prog 10 args h K :=
  fs_run wfp [6, 7, 8, 10, 11, 12, 13, 14, 15, 16, 19] Go.Proofs.Try.func10 _ rfl (by kernel_rfl) (by kernel_rfl) (by kernel_rfl) Go.Proofs.Try.ntmps10 (by rw [hn]; decide) hw
theorem run_11 {args : List AV} {R : AV → Prop} (hn : args.length = 4) (hw : ∀ h, Rn prog [.code (bodyOf Go.Proofs.Try.f11)] .normal (env0 0 args [4, 5, 7, 8, 9, 10, 11, 12, 25]) h (Fin prog [.tmp 8] h R)) : Pure prog 11 args R :=
  fn_run wfp [4, 5, 7, 8, 9, 10, 11, 12, 25] Go.Proofs.Try.func11 _ rfl (by kernel_rfl) (by kernel_rfl) (by kernel_rfl) Go.Proofs.Try.ntmps11 (by rw [hn]; decide) hw
theorem frun_11 {args : List AV} {h : List Entry} {K : AV → List Entry → Prop} (hn : args.length = 4) (hw : Rn prog [.code (bodyOf Go.Proofs.Try.f11)] .normal (env0 0 args [4, 5, 7, 8, 9, 10, 11, 12, 25]) h (FinK prog [.tmp 8] K)) : FSpec prog 11 args h K :=
  fs_run wfp [4, 5, 7, 8, 9, 10, 11, 12, 25] Go.Proofs.Try.func11 _ rfl (by kernel_rfl) (by kernel_rfl) (by kernel_rfl) Go.Proofs.Try.ntmps11 (by rw [hn]; decide) hw
theorem run_12 {args : List AV} {R : AV → Prop} (hn : args.length = 3) (hw : ∀ h, Rn prog [.code (bodyOf Go.Proofs.Try.f12)] .normal (env0 0 args [6, 7, 8, 9, 10, 11, 12, 13, 14, 17, 28, 37, 80]) h (Fin prog [.tmp 6] h R)) : Pure prog 12 args R :=
  fn_run wfp [6, 7, 8, 9, 10, 11, 12, 13, 14, 17, 28, 37, 80] Go.Proofs.Try.func12 _ rfl (by kernel_rfl) (by kernel_rfl) (by kernel_rfl) Go.Proofs.Try.ntmps12 (by rw [hn]; decide) hw
theorem frun_12 {args : List AV} {h : List Entry} {K : AV → List Entry → Prop} (hn : args.length = 3) (hw : Rn prog [.code (bodyOf Go.Proofs.Try.f12)] .normal (env0 0 args [6, 7, 8, 9, 10, 11, 12, 13, 14, 17, 28, 37, 80]) h (FinK prog [.tmp 6] K)) : FSpec prog 12 args h K :=
  fs_run wfp [6, 7, 8, 9, 10, 11, 12, 13, 14, 17, 28, 37, 80] Go.Proofs.Try.func12 _ rfl (by kernel_rfl) (by kernel_rfl) (by kernel_rfl) Go.Proofs.Try.ntmps12 (by rw [hn]; decide) hw
theorem run_13 {args : List AV} {R : AV → Prop} (hn : args.length = 3) (hw : ∀ h, Rn prog [.code (bodyOf Go.Proofs.Try.f13)] .normal (env0 0 args [4, 6, 7, 8, 9, 10, 11, 12, 13, 14, 15, 16, 17, 18, 19, 27, 36, 45, 65, 145]) h (Fin prog [.tmp 6] h R)) : Pure prog 13 args R :=
  fn_run wfp [4, 6, 7, 8, 9, 10, 11, 12, 13, 14, 15, 16, 17, 18, 19, 27, 36, 45, 65, 145] Go.Proofs.Try.func13 _ rfl (by kernel_rfl) (by kernel_rfl) (by kernel_rfl) Go.Proofs.Try.ntmps13 (by rw [hn]; decide) hw
theorem frun_13 {args : List AV} {h : List Entry} {K : AV → List Entry → Prop} (hn : args.length = 3) (hw : Rn prog [.code (bodyOf Go.Proofs.Try.f13)] .normal (env0 0 args [4, 6, 7, 8, 9, 10, 11, 12, 13, 14, 15, 16, 17, 18, 19, 27, 36, 45, 65, 145]) h (FinK prog [.tmp 6] K)) : FSpec prog 13 args h K :=
  fs_run wfp [4, 6, 7, 8, 9, 10, 11, 12, 13, 14, 15, 16, 17, 18, 19, 27, 36, 45, 65, 145] Go.Proofs.Try.func13 _ rfl (by kernel_rfl) (by kernel_rfl) (by kernel_rfl) Go.Proofs.Try.ntmps13 (by rw [hn]; decide) hw
theorem run_14 {args : List AV} {R : AV → Prop} (hn : args.length = 4) (hw : ∀ h, Rn prog [.code (bodyOf Go.Proofs.Try.f14)] .normal (env0 0 args [5, 8, 9, 10, 12, 13, 14, 15, 18, 27, 36, 51, 102, 104]) h (Fin prog [.tmp 8] h R)) : Pure prog 14 args R :=
  fn_run wfp [5, 8, 9, 10, 12, 13, 14, 15, 18, 27, 36, 51, 102, 104] Go.Proofs.Try.func14 _ rfl (by kernel_rfl) (by kernel_rfl) (by kernel_rfl) Go.Proofs.Try.ntmps14 (by rw [hn]; decide) hw
theorem frun_14 {args : List AV} {h : List Entry} {K : AV → List Entry → Prop} (hn : args.length = 4) (hw : Rn prog [.code (bodyOf Go.Proofs.Try.f14)] .normal (env0 0 args [5, 8, 9, 10, 12, 13, 14, 15, 18, 27, 36, 51, 102, 104]) h (FinK prog [.tmp 8] K)) : FSpec prog 14 args h K :=
  fs_run wfp [5, 8, 9, 10, 12, 13, 14, 15, 18, 27, 36, 51, 102, 104] Go.Proofs.Try.func14 _ rfl (by kernel_rfl) (by kernel_rfl) (by kernel_rfl) Go.Proofs.Try.ntmps14 (by rw [hn]; decide) hw
theorem run_15 {args : List AV} {R : AV → Prop} (hn : args.length = 0) (hw : ∀ h, Rn prog [.code (bodyOf Go.Proofs.Try.f15)] .normal (env0 0 args [0, 1, 2, 3, 4, 5, 6, 7, 8, 9]) h (Fin prog [.tmp 0] h R)) : Pure prog 15 args R :=
  fn_run wfp [0, 1, 2, 3, 4, 5, 6, 7, 8, 9] Go.Proofs.Try.func15 _ rfl (by kernel_rfl) (by kernel_rfl) (by kernel_rfl) Go.Proofs.Try.ntmps15 (by rw [hn]; decide) hw
theorem frun_15 {args : List AV} {h : List Entry} {K : AV → List Entry → Prop} (hn : args.length = 0) (hw : Rn prog [.code (bodyOf Go.Proofs.Try.f15)] .normal (env0 0 args [0, 1, 2, 3, 4, 5, 6, 7, 8, 9]) h (FinK prog [.tmp 0] K)) : FSpec prog 15 args h K :=
  fs_run wfp [0, 1, 2, 3, 4, 5, 6, 7, 8, 9] Go.Proofs.Try.func15 _ rfl (by kernel_rfl) (by kernel_rfl) (by kernel_rfl) Go.Proofs.Try.ntmps15 (by rw [hn]; decide) hw
theorem run_16 {args : List AV} {R : AV → Prop} (hn : args.length = 3) (hw : ∀ h, Rn prog [.code (bodyOf Go.Proofs.Try.f16)] .normal (env0 0 args [3, 4, 5, 6, 7, 8, 9, 27, 64, 77]) h (Fin prog [.cell 6 33, .tmp 7] h R)) : Pure prog 16 args R :=
  fn_run wfp [3, 4, 5, 6, 7, 8, 9, 27, 64, 77] Go.Proofs.Try.func16 _ rfl (by kernel_rfl) (by kernel_rfl) (by kernel_rfl) Go.Proofs.Try.ntmps16 (by rw [hn]; decide) hw
theorem frun_16 {args : List AV} {h : List Entry} {K : AV → List Entry → Prop} (hn : args.length = 3) (hw : Rn prog [.code (bodyOf Go.Proofs.Try.f16)] .normal (env0 0 args [3, 4, 5, 6, 7, 8, 9, 27, 64, 77]) h (FinK prog [.cell 6 33, .tmp 7] K)) : FSpec prog 16 args h K :=
  fs_run wfp [3, 4, 5, 6, 7, 8, 9, 27, 64, 77] Go.Proofs.Try.func16 _ rfl (by kernel_rfl) (by kernel_rfl) (by kernel_rfl) Go.Proofs.Try.ntmps16 (by rw [hn]; decide) hw
theorem run_17 {args : List AV} {R : AV → Prop} (hn : args.length = 2) (hw : ∀ h, Rn prog [.code (bodyOf Go.Proofs.Try.f17)] .normal (env0 0 args [4, 5, 6, 12, 13]) h (Fin prog [.cell 4 33] h R)) : Pure prog 17 args R :=
  fn_run wfp [4, 5, 6, 12, 13] Go.Proofs.Try.func17 _ rfl (by kernel_rfl) (by kernel_rfl) (by kernel_rfl) Go.Proofs.Try.ntmps17 (by rw [hn]; decide) hw
theorem frun_17 {args : List AV} {h : List Entry} {K : AV → List Entry → Prop} (hn : args.length = 2) (hw : Rn prog [.code (bodyOf Go.Proofs.Try.f17)] .normal (env0 0 args [4, 5, 6, 12, 13]) h (FinK prog [.cell 4 33] K)) : FSpec prog 17 args h K :=
  fs_run wfp [4, 5, 6, 12, 13] Go.Proofs.Try.func17 _ rfl (by kernel_rfl) (by kernel_rfl) (by kernel_rfl) Go.Proofs.Try.ntmps17 (by rw [hn]; decide) hw
theorem run_18 {args : List AV} {R : AV → Prop} (hn : args.length = 2) (hw : ∀ h, Rn prog [.code (bodyOf Go.Proofs.Try.f18)] .normal (env0 0 args [4, 5, 10, 14, 25]) h (Fin prog [.tmp 4] h R)) : Pure prog 18 args R :=
  fn_run wfp [4, 5, 10, 14, 25] Go.Proofs.Try.func18 _ rfl (by kernel_rfl) (by kernel_rfl) (by kernel_rfl) Go.Proofs.Try.ntmps18 (by rw [hn]; decide) hw
theorem frun_18 {args : List AV} {h : List Entry} {K : AV → List Entry → Prop} (hn : args.length = 2) (hw : Rn prog [.code (bodyOf Go.Proofs.Try.f18)] .normal (env0 0 args [4, 5, 10, 14, 25]) h (FinK prog [.tmp 4] K)) : FSpec prog 18 args h K :=
  fs_run wfp [4, 5, 10, 14, 25] Go.Proofs.Try.func18 _ rfl (by kernel_rfl) (by kernel_rfl) (by kernel_rfl) Go.Proofs.Try.ntmps18 (by rw [hn]; decide) hw
theorem run_19 {args : List AV} {R : AV → Prop} (hn : args.length = 2) (hw : ∀ h, Rn prog [.code (bodyOf Go.Proofs.Try.f19)] .normal (env0 0 args [2, 3, 4]) h (Fin prog [.tmp 4] h R)) : Pure prog 19 args R :=
  fn_run wfp [2, 3, 4] Go.Proofs.Try.func19 _ rfl (by kernel_rfl) (by kernel_rfl) (by kernel_rfl) Go.Proofs.Try.ntmps19 (by rw [hn]; decide) hw
theorem frun_19 {args : List AV} {h : List Entry} {K : AV → List Entry → Prop} (hn : args.length = 2) (hw : Rn prog [.code (bodyOf Go.Proofs.Try.f19)] .normal (env0 0 args [2, 3, 4]) h (FinK prog [.tmp 4] K)) : FSpec prog 19 args h K :=
  fs_run wfp [2, 3, 4] Go.Proofs.Try.func19 _ rfl (by kernel_rfl) (by kernel_rfl) (by kernel_rfl) Go.Proofs.Try.ntmps19 (by rw [hn]; decide) hw
theorem run_20 {args : List AV} {R : AV → Prop} (hn : args.length = 1) (hw : ∀ h, Rn prog [.code (bodyOf Go.Proofs.Try.f20)] .normal (env0 0 args [1, 2]) h (Fin prog [.tmp 2] h R)) : Pure prog 20 args R :=
  fn_run wfp [1, 2] Go.Proofs.Try.func20 _ rfl (by kernel_rfl) (by kernel_rfl) (by kernel_rfl) Go.Proofs.Try.ntmps20 (by rw [hn]; decide) hw
theorem frun_20 {args : List AV} {h : List Entry} {K : AV → List Entry → Prop} (hn : args.length = 1) (hw : Rn prog [.code (bodyOf Go.Proofs.Try.f20)] .normal (env0 0 args [1, 2]) h (FinK prog [.tmp 2] K)) : FSpec prog 20 args h K :=
  fs_run wfp [1, 2] Go.Proofs.Try.func20 _ rfl (by kernel_rfl) (by kernel_rfl) (by kernel_rfl) Go.Proofs.Try.ntmps20 (by rw [hn]; decide) hw
theorem run_21 {args : List AV} {R : AV → Prop} (hn : args.length = 1) (hw : ∀ h, Rn prog [.code (bodyOf Go.Proofs.Try.f21)] .normal (env0 0 args [1, 2, 3, 5, 7, 8, 9, 41, 43, 44, 45, 46, 53, 64, 67, 68, 69, 70, 92, 95, 96, 97, 103]) h (Fin prog [.tmp 2] h R)) : Pure prog 21 args R :=
  fn_run wfp [1, 2, 3, 5, 7, 8, 9, 41, 43, 44, 45, 46, 53, 64, 67, 68, 69, 70, 92, 95, 96, 97, 103] Go.Proofs.Try.func21 _ rfl (by kernel_rfl) (by kernel_rfl) (by kernel_rfl) Go.Proofs.Try.ntmps21 (by rw [hn]; decide) hw
theorem frun_21 {args : List AV} {h : List Entry} {K : AV → List Entry → Prop} (hn : args.length = 1) (hw : Rn prog [.code (bodyOf Go.Proofs.Try.f21)] .normal (env0 0 args [1, 2, 3, 5, 7, 8, 9, 41, 43, 44, 45, 46, 53, 64, 67, 68, 69, 70, 92, 95, 96, 97, 103]) h (FinK prog [.tmp 2] K)) : FSpec prog 21 args h K :=
  fs_run wfp [1, 2, 3, 5, 7, 8, 9, 41, 43, 44, 45, 46, 53, 64, 67, 68, 69, 70, 92, 95, 96, 97, 103] Go.Proofs.Try.func21 _ rfl (by kernel_rfl) (by kernel_rfl) (by kernel_rfl) Go.Proofs.Try.ntmps21 (by rw [hn]; decide) hw
theorem run_22 {args : List AV} {R : AV → Prop} (hn : args.length = 1) (hw : ∀ h, Rn prog [.code (bodyOf Go.Proofs.Try.f22)] .normal (env0 0 args [2]) h (Fin prog [.tmp 2] h R)) : Pure prog 22 args R :=
  fn_run wfp [2] Go.Proofs.Try.func22 _ rfl (by kernel_rfl) (by kernel_rfl) (by kernel_rfl) Go.Proofs.Try.ntmps22 (by rw [hn]; decide) hw
theorem frun_22 {args : List AV} {h : List Entry} {K : AV → List Entry → Prop} (hn : args.length = 1) (hw : Rn prog [.code (bodyOf Go.Proofs.Try.f22)] .normal (env0 0 args [2]) h (FinK prog [.tmp 2] K)) : FSpec prog 22 args h K :=
  fs_run wfp [2] Go.Proofs.Try.func22 _ rfl (by kernel_rfl) (by kernel_rfl) (by kernel_rfl) Go.Proofs.Try.ntmps22 (by rw [hn]; decide) hw
theorem run_23 {args : List AV} {R : AV → Prop} (hn : args.length = 1) (hw : ∀ h, Rn prog [.code (bodyOf Go.Proofs.Try.f23)] .normal (env0 0 args [1, 2, 3, 4, 5, 6, 7, 47, 52, 97, 102, 133, 135, 144]) h (Fin prog [.tmp 2] h R)) : Pure prog 23 args R :=
  fn_run wfp [1, 2, 3, 4, 5, 6, 7, 47, 52, 97, 102, 133, 135, 144] Go.Proofs.Try.func23 _ rfl (by kernel_rfl) (by kernel_rfl) (by kernel_rfl) Go.Proofs.Try.ntmps23 (by rw [hn]; decide) hw
theorem frun_23 {args : List AV} {h : List Entry} {K : AV → List Entry → Prop} (hn : args.length = 1) (hw : Rn prog [.code (bodyOf Go.Proofs.Try.f23)] .normal (env0 0 args [1, 2, 3, 4, 5, 6, 7, 47, 52, 97, 102, 133, 135, 144]) h (FinK prog [.tmp 2] K)) : FSpec prog 23 args h K :=
  fs_run wfp [1, 2, 3, 4, 5, 6, 7, 47, 52, 97, 102, 133, 135, 144] Go.Proofs.Try.func23 _ rfl (by kernel_rfl) (by kernel_rfl) (by kernel_rfl) Go.Proofs.Try.ntmps23 (by rw [hn]; decide) hw
theorem run_24 {args : List AV} {R : AV → Prop} (hn : args.length = 2) (hw : ∀ h, Rn prog [.code (bodyOf Go.Proofs.Try.f24)] .normal (env0 0 args [2, 3, 4]) h (Fin prog [.tmp 4] h R)) : Pure prog 24 args R :=
  fn_run wfp [2, 3, 4] Go.Proofs.Try.func24 _ rfl (by kernel_rfl) (by kernel_rfl) (by kernel_rfl) Go.Proofs.Try.ntmps24 (by rw [hn]; decide) hw
theorem frun_24 {args : List AV} {h : List Entry} {K : AV → List Entry → Prop} (hn : args.length = 2) (hw : Rn prog [.code (bodyOf Go.Proofs.Try.f24)] .normal (env0 0 args [2, 3, 4]) h (FinK prog [.tmp 4] K)) : FSpec prog 24 args h K :=
  fs_run wfp [2, 3, 4] Go.Proofs.Try.func24 _ rfl (by kernel_rfl) (by kernel_rfl) (by kernel_rfl) Go.Proofs.Try.ntmps24 (by rw [hn]; decide) hw
theorem run_25 {args : List AV} {R : AV → Prop} (hn : args.length = 1) (hw : ∀ h, Rn prog [.code (bodyOf Go.Proofs.Try.f25)] .normal (env0 0 args [1, 2, 3, 4, 5, 15, 20, 31, 36, 47, 49, 59]) h (Fin prog [.tmp 2] h R)) : Pure prog 25 args R :=
  fn_run wfp [1, 2, 3, 4, 5, 15, 20, 31, 36, 47, 49, 59] Go.Proofs.Try.func25 _ rfl (by kernel_rfl) (by kernel_rfl) (by kernel_rfl) Go.Proofs.Try.ntmps25 (by rw [hn]; decide) hw
theorem frun_25 {args : List AV} {h : List Entry} {K : AV → List Entry → Prop} (hn : args.length = 1) (hw : Rn prog [.code (bodyOf Go.Proofs.Try.f25)] .normal (env0 0 args [1, 2, 3, 4, 5, 15, 20, 31, 36, 47, 49, 59]) h (FinK prog [.tmp 2] K)) : FSpec prog 25 args h K :=
  fs_run wfp [1, 2, 3, 4, 5, 15, 20, 31, 36, 47, 49, 59] Go.Proofs.Try.func25 _ rfl (by kernel_rfl) (by kernel_rfl) (by kernel_rfl) Go.Proofs.Try.ntmps25 (by rw [hn]; decide) hw
theorem run_26 {args : List AV} {R : AV → Prop} (hn : args.length = 3) (hw : ∀ h, Rn prog [.code (bodyOf Go.Proofs.Try.f26)] .normal (env0 0 args [3, 5, 6, 7, 8, 9, 10, 11, 12, 30, 36, 55, 83, 96, 105, 131, 138, 145, 152, 160]) h (Fin prog [.cell 6 33, .tmp 7] h R)) : Pure prog 26 args R :=
  fn_run wfp [3, 5, 6, 7, 8, 9, 10, 11, 12, 30, 36, 55, 83, 96, 105, 131, 138, 145, 152, 160] Go.Proofs.Try.func26 _ rfl (by kernel_rfl) (by kernel_rfl) (by kernel_rfl) Go.Proofs.Try.ntmps26 (by rw [hn]; decide) hw
theorem frun_26 {args : List AV} {h : List Entry} {K : AV → List Entry → Prop} (hn : args.length = 3) (hw : Rn prog [.code (bodyOf Go.Proofs.Try.f26)] .normal (env0 0 args [3, 5, 6, 7, 8, 9, 10, 11, 12, 30, 36, 55, 83, 96, 105, 131, 138, 145, 152, 160]) h (FinK prog [.cell 6 33, .tmp 7] K)) : FSpec prog 26 args h K :=
  fs_run wfp [3, 5, 6, 7, 8, 9, 10, 11, 12, 30, 36, 55, 83, 96, 105, 131, 138, 145, 152, 160] Go.Proofs.Try.func26 _ rfl (by kernel_rfl) (by kernel_rfl) (by kernel_rfl) Go.Proofs.Try.ntmps26 (by rw [hn]; decide) hw
theorem run_27 {args : List AV} {R : AV → Prop} (hn : args.length = 2) (hw : ∀ h, Rn prog [.code (bodyOf Go.Proofs.Try.f27)] .normal (env0 0 args [2, 3, 4, 5, 6, 7, 8, 9, 10, 11, 48, 53, 85, 90, 129, 131, 143]) h (Fin prog [.tmp 4] h R)) : Pure prog 27 args R :=
  fn_run wfp [2, 3, 4, 5, 6, 7, 8, 9, 10, 11, 48, 53, 85, 90, 129, 131, 143] Go.Proofs.Try.func27 _ rfl (by kernel_rfl) (by kernel_rfl) (by kernel_rfl) Go.Proofs.Try.ntmps27 (by rw [hn]; decide) hw
theorem frun_27 {args : List AV} {h : List Entry} {K : AV → List Entry → Prop} (hn : args.length = 2) (hw : Rn prog [.code (bodyOf Go.Proofs.Try.f27)] .normal (env0 0 args [2, 3, 4, 5, 6, 7, 8, 9, 10, 11, 48, 53, 85, 90, 129, 131, 143]) h (FinK prog [.tmp 4] K)) : FSpec prog 27 args h K :=
  fs_run wfp [2, 3, 4, 5, 6, 7, 8, 9, 10, 11, 48, 53, 85, 90, 129, 131, 143] Go.Proofs.Try.func27 _ rfl (by kernel_rfl) (by kernel_rfl) (by kernel_rfl) Go.Proofs.Try.ntmps27 (by rw [hn]; decide) hw
theorem run_28 {args : List AV} {R : AV → Prop} (hn : args.length = 2) (hw : ∀ h, Rn prog [.code (bodyOf Go.Proofs.Try.f28)] .normal (env0 0 args [4, 5, 10, 14, 26]) h (Fin prog [.tmp 4] h R)) : Pure prog 28 args R :=
  fn_run wfp [4, 5, 10, 14, 26] Go.Proofs.Try.func28 _ rfl (by kernel_rfl) (by kernel_rfl) (by kernel_rfl) Go.Proofs.Try.ntmps28 (by rw [hn]; decide) hw
theorem frun_28 {args : List AV} {h : List Entry} {K : AV → List Entry → Prop} (hn : args.length = 2) (hw : Rn prog [.code (bodyOf Go.Proofs.Try.f28)] .normal (env0 0 args [4, 5, 10, 14, 26]) h (FinK prog [.tmp 4] K)) : FSpec prog 28 args h K :=
  fs_run wfp [4, 5, 10, 14, 26] Go.Proofs.Try.func28 _ rfl (by kernel_rfl) (by kernel_rfl) (by kernel_rfl) Go.Proofs.Try.ntmps28 (by rw [hn]; decide) hw
theorem run_29 {args : List AV} {R : AV → Prop} (hn : args.length = 2) (hw : ∀ h, Rn prog [.code (bodyOf Go.Proofs.Try.f29)] .normal (env0 0 args [2, 4, 5, 10, 20]) h (Fin prog [.tmp 4] h R)) : Pure prog 29 args R :=
  fn_run wfp [2, 4, 5, 10, 20] Go.Proofs.Try.func29 _ rfl (by kernel_rfl) (by kernel_rfl) (by kernel_rfl) Go.Proofs.Try.ntmps29 (by rw [hn]; decide) hw
theorem frun_29 {args : List AV} {h : List Entry} {K : AV → List Entry → Prop} (hn : args.length = 2) (hw : Rn prog [.code (bodyOf Go.Proofs.Try.f29)] .normal (env0 0 args [2, 4, 5, 10, 20]) h (FinK prog [.tmp 4] K)) : FSpec prog 29 args h K :=
  fs_run wfp [2, 4, 5, 10, 20] Go.Proofs.Try.func29 _ rfl (by kernel_rfl) (by kernel_rfl) (by kernel_rfl) Go.Proofs.Try.ntmps29 (by rw [hn]; decide) hw
theorem run_30 {args : List AV} {R : AV → Prop} (hn : args.length = 2) (hw : ∀ h, Rn prog [.code (bodyOf Go.Proofs.Try.f30)] .normal (env0 0 args [4, 5, 6, 13]) h (Fin prog [.cell 4 33] h R)) : Pure prog 30 args R :=
  fn_run wfp [4, 5, 6, 13] Go.Proofs.Try.func30 _ rfl (by kernel_rfl) (by kernel_rfl) (by kernel_rfl) Go.Proofs.Try.ntmps30 (by rw [hn]; decide) hw
theorem frun_30 {args : List AV} {h : List Entry} {K : AV → List Entry → Prop} (hn : args.length = 2) (hw : Rn prog [.code (bodyOf Go.Proofs.Try.f30)] .normal (env0 0 args [4, 5, 6, 13]) h (FinK prog [.cell 4 33] K)) : FSpec prog 30 args h K :=
  fs_run wfp [4, 5, 6, 13] Go.Proofs.Try.func30 _ rfl (by kernel_rfl) (by kernel_rfl) (by kernel_rfl) Go.Proofs.Try.ntmps30 (by rw [hn]; decide) hw
theorem run_31 {args : List AV} {R : AV → Prop} (hn : args.length = 1) (hw : ∀ h, Rn prog [.code (bodyOf Go.Proofs.Try.f31)] .normal (env0 0 args [1, 2, 3, 31, 76, 79]) h (Fin prog [.tmp 2] h R)) : Pure prog 31 args R :=
  fn_run wfp [1, 2, 3, 31, 76, 79] Go.Proofs.Try.func31 _ rfl (by kernel_rfl) (by kernel_rfl) (by kernel_rfl) Go.Proofs.Try.ntmps31 (by rw [hn]; decide) hw
theorem frun_31 {args : List AV} {h : List Entry} {K : AV → List Entry → Prop} (hn : args.length = 1) (hw : Rn prog [.code (bodyOf Go.Proofs.Try.f31)] .normal (env0 0 args [1, 2, 3, 31, 76, 79]) h (FinK prog [.tmp 2] K)) : FSpec prog 31 args h K :=
  fs_run wfp [1, 2, 3, 31, 76, 79] Go.Proofs.Try.func31 _ rfl (by kernel_rfl) (by kernel_rfl) (by kernel_rfl) Go.Proofs.Try.ntmps31 (by rw [hn]; decide) hw
theorem run_32 {args : List AV} {R : AV → Prop} (hn : args.length = 4) (hw : ∀ h, Rn prog [.code (bodyOf Go.Proofs.Try.f32)] .normal (env0 0 args [8, 9, 10, 11, 12, 24]) h (Fin prog [.cell 8 33, .tmp 9] h R)) : Pure prog 32 args R :=
  fn_run wfp [8, 9, 10, 11, 12, 24] Go.Proofs.Try.func32 _ rfl (by kernel_rfl) (by kernel_rfl) (by kernel_rfl) Go.Proofs.Try.ntmps32 (by rw [hn]; decide) hw
theorem frun_32 {args : List AV} {h : List Entry} {K : AV → List Entry → Prop} (hn : args.length = 4) (hw : Rn prog [.code (bodyOf Go.Proofs.Try.f32)] .normal (env0 0 args [8, 9, 10, 11, 12, 24]) h (FinK prog [.cell 8 33, .tmp 9] K)) : FSpec prog 32 args h K :=
  fs_run wfp [8, 9, 10, 11, 12, 24] Go.Proofs.Try.func32 _ rfl (by kernel_rfl) (by kernel_rfl) (by kernel_rfl) Go.Proofs.Try.ntmps32 (by rw [hn]; decide) hw
theorem run_33 {args : List AV} {R : AV → Prop} (hn : args.length = 2) (hw : ∀ h, Rn prog [.code (bodyOf Go.Proofs.Try.f33)] .normal (env0 0 args [2, 3, 4]) h (Fin prog [.tmp 4] h R)) : Pure prog 33 args R :=
  fn_run wfp [2, 3, 4] Go.Proofs.Try.func33 _ rfl (by kernel_rfl) (by kernel_rfl) (by kernel_rfl) Go.Proofs.Try.ntmps33 (by rw [hn]; decide) hw
theorem frun_33 {args : List AV} {h : List Entry} {K : AV → List Entry → Prop} (hn : args.length = 2) (hw : Rn prog [.code (bodyOf Go.Proofs.Try.f33)] .normal (env0 0 args [2, 3, 4]) h (FinK prog [.tmp 4] K)) : FSpec prog 33 args h K :=
  fs_run wfp [2, 3, 4] Go.Proofs.Try.func33 _ rfl (by kernel_rfl) (by kernel_rfl) (by kernel_rfl) Go.Proofs.Try.ntmps33 (by rw [hn]; decide) hw
theorem run_34 {args : List AV} {R : AV → Prop} (hn : args.length = 1) (hw : ∀ h, Rn prog [.code (bodyOf Go.Proofs.Try.f34)] .normal (env0 0 args [2]) h (Fin prog [.tmp 2] h R)) : Pure prog 34 args R :=
  fn_run wfp [2] Go.Proofs.Try.func34 _ rfl (by kernel_rfl) (by kernel_rfl) (by kernel_rfl) Go.Proofs.Try.ntmps34 (by rw [hn]; decide) hw
theorem frun_34 {args : List AV} {h : List Entry} {K : AV → List Entry → Prop} (hn : args.length = 1) (hw : Rn prog [.code (bodyOf Go.Proofs.Try.f34)] .normal (env0 0 args [2]) h (FinK prog [.tmp 2] K)) : FSpec prog 34 args h K :=
  fs_run wfp [2] Go.Proofs.Try.func34 _ rfl (by kernel_rfl) (by kernel_rfl) (by kernel_rfl) Go.Proofs.Try.ntmps34 (by rw [hn]; decide) hw
theorem run_35 {args : List AV} {R : AV → Prop} (hn : args.length = 1) (hw : ∀ h, Rn prog [.code (bodyOf Go.Proofs.Try.f35)] .normal (env0 0 args [2]) h (Fin prog [.tmp 2] h R)) : Pure prog 35 args R :=
  fn_run wfp [2] Go.Proofs.Try.func35 _ rfl (by kernel_rfl) (by kernel_rfl) (by kernel_rfl) Go.Proofs.Try.ntmps35 (by rw [hn]; decide) hw
theorem frun_35 {args : List AV} {h : List Entry} {K : AV → List Entry → Prop} (hn : args.length = 1) (hw : Rn prog [.code (bodyOf Go.Proofs.Try.f35)] .normal (env0 0 args [2]) h (FinK prog [.tmp 2] K)) : FSpec prog 35 args h K :=
  fs_run wfp [2] Go.Proofs.Try.func35 _ rfl (by kernel_rfl) (by kernel_rfl) (by kernel_rfl) Go.Proofs.Try.ntmps35 (by rw [hn]; decide) hw
theorem run_36 {args : List AV} {R : AV → Prop} (hn : args.length = 1) (hw : ∀ h, Rn prog [.code (bodyOf Go.Proofs.Try.f36)] .normal (env0 0 args [1, 2, 3, 4, 32, 44, 64]) h (Fin prog [.tmp 2] h R)) : Pure prog 36 args R :=
  fn_run wfp [1, 2, 3, 4, 32, 44, 64] Go.Proofs.Try.func36 _ rfl (by kernel_rfl) (by kernel_rfl) (by kernel_rfl) Go.Proofs.Try.ntmps36 (by rw [hn]; decide) hw
theorem frun_36 {args : List AV} {h : List Entry} {K : AV → List Entry → Prop} (hn : args.length = 1) (hw : Rn prog [.code (bodyOf Go.Proofs.Try.f36)] .normal (env0 0 args [1, 2, 3, 4, 32, 44, 64]) h (FinK prog [.tmp 2] K)) : FSpec prog 36 args h K :=
  fs_run wfp [1, 2, 3, 4, 32, 44, 64] Go.Proofs.Try.func36 _ rfl (by kernel_rfl) (by kernel_rfl) (by kernel_rfl) Go.Proofs.Try.ntmps36 (by rw [hn]; decide) hw
theorem run_37 {args : List AV} {R : AV → Prop} (hn : args.length = 2) (hw : ∀ h, Rn prog [.code (bodyOf Go.Proofs.Try.f37)] .normal (env0 0 args [4, 5, 6, 7, 12, 19, 29]) h (Fin prog [.tmp 4] h R)) : Pure prog 37 args R :=
  fn_run wfp [4, 5, 6, 7, 12, 19, 29] Go.Proofs.Try.func37 _ rfl (by kernel_rfl) (by kernel_rfl) (by kernel_rfl) Go.Proofs.Try.ntmps37 (by rw [hn]; decide) hw
theorem frun_37 {args : List AV} {h : List Entry} {K : AV → List Entry → Prop} (hn : args.length = 2) (hw : Rn prog [.code (bodyOf Go.Proofs.Try.f37)] .normal (env0 0 args [4, 5, 6, 7, 12, 19, 29]) h (FinK prog [.tmp 4] K)) : FSpec prog 37 args h K :=
  fs_run wfp [4, 5, 6, 7, 12, 19, 29] Go.Proofs.Try.func37 _ rfl (by kernel_rfl) (by kernel_rfl) (by kernel_rfl) Go.Proofs.Try.ntmps37 (by rw [hn]; decide) hw
theorem run_38 {args : List AV} {R : AV → Prop} (hn : args.length = 1) (hw : ∀ h, Rn prog [.code (bodyOf Go.Proofs.Try.f38)] .normal (env0 0 args [2, 4]) h (Fin prog [.tmp 2] h R)) : Pure prog 38 args R :=
  fn_run wfp [2, 4] Go.Proofs.Try.func38 _ rfl (by kernel_rfl) (by kernel_rfl) (by kernel_rfl) Go.Proofs.Try.ntmps38 (by rw [hn]; decide) hw
theorem frun_38 {args : List AV} {h : List Entry} {K : AV → List Entry → Prop} (hn : args.length = 1) (hw : Rn prog [.code (bodyOf Go.Proofs.Try.f38)] .normal (env0 0 args [2, 4]) h (FinK prog [.tmp 2] K)) : FSpec prog 38 args h K :=
  fs_run wfp [2, 4] Go.Proofs.Try.func38 _ rfl (by kernel_rfl) (by kernel_rfl) (by kernel_rfl) Go.Proofs.Try.ntmps38 (by rw [hn]; decide) hw
theorem run_39 {args : List AV} {R : AV → Prop} (hn : args.length = 2) (hw : ∀ h, Rn prog [.code (bodyOf Go.Proofs.Try.f39)] .normal (env0 0 args [2, 3]) h (Fin prog [.tmp 3] h R)) : Pure prog 39 args R :=
  fn_run wfp [2, 3] Go.Proofs.Try.func39 _ rfl (by kernel_rfl) (by kernel_rfl) (by kernel_rfl) Go.Proofs.Try.ntmps39 (by rw [hn]; decide) hw
theorem frun_39 {args : List AV} {h : List Entry} {K : AV → List Entry → Prop} (hn : args.length = 2) (hw : Rn prog [.code (bodyOf Go.Proofs.Try.f39)] .normal (env0 0 args [2, 3]) h (FinK prog [.tmp 3] K)) : FSpec prog 39 args h K :=
  fs_run wfp [2, 3] Go.Proofs.Try.func39 _ rfl (by kernel_rfl) (by kernel_rfl) (by kernel_rfl) Go.Proofs.Try.ntmps39 (by rw [hn]; decide) hw
theorem run_40 {args : List AV} {R : AV → Prop} (hn : args.length = 1) (hw : ∀ h, Rn prog [.code (bodyOf Go.Proofs.Try.f40)] .normal (env0 0 args [2, 4]) h (Fin prog [.tmp 2] h R)) : Pure prog 40 args R :=
  fn_run wfp [2, 4] Go.Proofs.Try.func40 _ rfl (by kernel_rfl) (by kernel_rfl) (by kernel_rfl) Go.Proofs.Try.ntmps40 (by rw [hn]; decide) hw
theorem frun_40 {args : List AV} {h : List Entry} {K : AV → List Entry → Prop} (hn : args.length = 1) (hw : Rn prog [.code (bodyOf Go.Proofs.Try.f40)] .normal (env0 0 args [2, 4]) h (FinK prog [.tmp 2] K)) : FSpec prog 40 args h K :=
  fs_run wfp [2, 4] Go.Proofs.Try.func40 _ rfl (by kernel_rfl) (by kernel_rfl) (by kernel_rfl) Go.Proofs.Try.ntmps40 (by rw [hn]; decide) hw
theorem run_41 {args : List AV} {R : AV → Prop} (hn : args.length = 2) (hw : ∀ h, Rn prog [.code (bodyOf Go.Proofs.Try.f41)] .normal (env0 0 args [3]) h (Fin prog [] h R)) : Pure prog 41 args R :=
  fn_run wfp [3] Go.Proofs.Try.func41 _ rfl (by kernel_rfl) (by kernel_rfl) (by kernel_rfl) Go.Proofs.Try.ntmps41 (by rw [hn]; decide) hw
theorem frun_41 {args : List AV} {h : List Entry} {K : AV → List Entry → Prop} (hn : args.length = 2) (hw : Rn prog [.code (bodyOf Go.Proofs.Try.f41)] .normal (env0 0 args [3]) h (FinK prog [] K)) : FSpec prog 41 args h K :=
  fs_run wfp [3] Go.Proofs.Try.func41 _ rfl (by kernel_rfl) (by kernel_rfl) (by kernel_rfl) Go.Proofs.Try.ntmps41 (by rw [hn]; decide) hw
theorem run_42 {args : List AV} {R : AV → Prop} (hn : args.length = 1) (hw : ∀ h, Rn prog [.code (bodyOf Go.Proofs.Try.f42)] .normal (env0 0 args [2, 44, 51, 54, 58, 93, 105, 110]) h (Fin prog [] h R)) : Pure prog 42 args R :=
  fn_run wfp [2, 44, 51, 54, 58, 93, 105, 110] Go.Proofs.Try.func42 _ rfl (by kernel_rfl) (by kernel_rfl) (by kernel_rfl) Go.Proofs.Try.ntmps42 (by rw [hn]; decide) hw
theorem frun_42 {args : List AV} {h : List Entry} {K : AV → List Entry → Prop} (hn : args.length = 1) (hw : Rn prog [.code (bodyOf Go.Proofs.Try.f42)] .normal (env0 0 args [2, 44, 51, 54, 58, 93, 105, 110]) h (FinK prog [] K)) : FSpec prog 42 args h K :=
  fs_run wfp [2, 44, 51, 54, 58, 93, 105, 110] Go.Proofs.Try.func42 _ rfl (by kernel_rfl) (by kernel_rfl) (by kernel_rfl) Go.Proofs.Try.ntmps42 (by rw [hn]; decide) hw
theorem run_43 {args : List AV} {R : AV → Prop} (hn : args.length = 2) (hw : ∀ h, Rn prog [.code (bodyOf Go.Proofs.Try.f43)] .normal (env0 0 args [4, 5, 7, 8, 9, 16]) h (Fin prog [.tmp 4] h R)) : Pure prog 43 args R :=
  fn_run wfp [4, 5, 7, 8, 9, 16] Go.Proofs.Try.func43 _ rfl (by kernel_rfl) (by kernel_rfl) (by kernel_rfl) Go.Proofs.Try.ntmps43 (by rw [hn]; decide) hw
theorem frun_43 {args : List AV} {h : List Entry} {K : AV → List Entry → Prop} (hn : args.length = 2) (hw : Rn prog [.code (bodyOf Go.Proofs.Try.f43)] .normal (env0 0 args [4, 5, 7, 8, 9, 16]) h (FinK prog [.tmp 4] K)) : FSpec prog 43 args h K :=
  fs_run wfp [4, 5, 7, 8, 9, 16] Go.Proofs.Try.func43 _ rfl (by kernel_rfl) (by kernel_rfl) (by kernel_rfl) Go.Proofs.Try.ntmps43 (by rw [hn]; decide) hw
theorem run_44 {args : List AV} {R : AV → Prop} (hn : args.length = 2) (hw : ∀ h, Rn prog [.code (bodyOf Go.Proofs.Try.f44)] .normal (env0 0 args [2, 3]) h (Fin prog [.tmp 3] h R)) : Pure prog 44 args R :=
  fn_run wfp [2, 3] Go.Proofs.Try.func44 _ rfl (by kernel_rfl) (by kernel_rfl) (by kernel_rfl) Go.Proofs.Try.ntmps44 (by rw [hn]; decide) hw
theorem frun_44 {args : List AV} {h : List Entry} {K : AV → List Entry → Prop} (hn : args.length = 2) (hw : Rn prog [.code (bodyOf Go.Proofs.Try.f44)] .normal (env0 0 args [2, 3]) h (FinK prog [.tmp 3] K)) : FSpec prog 44 args h K :=
  fs_run wfp [2, 3] Go.Proofs.Try.func44 _ rfl (by kernel_rfl) (by kernel_rfl) (by kernel_rfl) Go.Proofs.Try.ntmps44 (by rw [hn]; decide) hw
theorem run_45 {args : List AV} {R : AV → Prop} (hn : args.length = 2) (hw : ∀ h, Rn prog [.code (bodyOf Go.Proofs.Try.f45)] .normal (env0 0 args [4]) h (Fin prog [.tmp 4] h R)) : Pure prog 45 args R :=
  fn_run wfp [4] Go.Proofs.Try.func45 _ rfl (by kernel_rfl) (by kernel_rfl) (by kernel_rfl) Go.Proofs.Try.ntmps45 (by rw [hn]; decide) hw
theorem frun_45 {args : List AV} {h : List Entry} {K : AV → List Entry → Prop} (hn : args.length = 2) (hw : Rn prog [.code (bodyOf Go.Proofs.Try.f45)] .normal (env0 0 args [4]) h (FinK prog [.tmp 4] K)) : FSpec prog 45 args h K :=
  fs_run wfp [4] Go.Proofs.Try.func45 _ rfl (by kernel_rfl) (by kernel_rfl) (by kernel_rfl) Go.Proofs.Try.ntmps45 (by rw [hn]; decide) hw
theorem run_46 {args : List AV} {R : AV → Prop} (hn : args.length = 1) (hw : ∀ h, Rn prog [.code (bodyOf Go.Proofs.Try.f46)] .normal (env0 0 args [2, 3, 6, 10, 19]) h (Fin prog [.tmp 2] h R)) : Pure prog 46 args R :=
  fn_run wfp [2, 3, 6, 10, 19] Go.Proofs.Try.func46 _ rfl (by kernel_rfl) (by kernel_rfl) (by kernel_rfl) Go.Proofs.Try.ntmps46 (by rw [hn]; decide) hw
theorem frun_46 {args : List AV} {h : List Entry} {K : AV → List Entry → Prop} (hn : args.length = 1) (hw : Rn prog [.code (bodyOf Go.Proofs.Try.f46)] .normal (env0 0 args [2, 3, 6, 10, 19]) h (FinK prog [.tmp 2] K)) : FSpec prog 46 args h K :=
  fs_run wfp [2, 3, 6, 10, 19] Go.Proofs.Try.func46 _ rfl (by kernel_rfl) (by kernel_rfl) (by kernel_rfl) Go.Proofs.Try.ntmps46 (by rw [hn]; decide) hw
theorem run_47 {args : List AV} {R : AV → Prop} (hn : args.length = 2) (hw : ∀ h, Rn prog [.code (bodyOf Go.Proofs.Try.f47)] .normal (env0 0 args [2, 4]) h (Fin prog [.tmp 4] h R)) : Pure prog 47 args R :=
  fn_run wfp [2, 4] Go.Proofs.Try.func47 _ rfl (by kernel_rfl) (by kernel_rfl) (by kernel_rfl) Go.Proofs.Try.ntmps47 (by rw [hn]; decide) hw
theorem frun_47 {args : List AV} {h : List Entry} {K : AV → List Entry → Prop} (hn : args.length = 2) (hw : Rn prog [.code (bodyOf Go.Proofs.Try.f47)] .normal (env0 0 args [2, 4]) h (FinK prog [.tmp 4] K)) : FSpec prog 47 args h K :=
  fs_run wfp [2, 4] Go.Proofs.Try.func47 _ rfl (by kernel_rfl) (by kernel_rfl) (by kernel_rfl) Go.Proofs.Try.ntmps47 (by rw [hn]; decide) hw
theorem run_48 {args : List AV} {R : AV → Prop} (hn : args.length = 1) (hw : ∀ h, Rn prog [.code (bodyOf Go.Proofs.Try.f48)] .normal (env0 0 args [2]) h (Fin prog [.tmp 2] h R)) : Pure prog 48 args R :=
  fn_run wfp [2] Go.Proofs.Try.func48 _ rfl (by kernel_rfl) (by kernel_rfl) (by kernel_rfl) Go.Proofs.Try.ntmps48 (by rw [hn]; decide) hw
theorem frun_48 {args : List AV} {h : List Entry} {K : AV → List Entry → Prop} (hn : args.length = 1) (hw : Rn prog [.code (bodyOf Go.Proofs.Try.f48)] .normal (env0 0 args [2]) h (FinK prog [.tmp 2] K)) : FSpec prog 48 args h K :=
  fs_run wfp [2] Go.Proofs.Try.func48 _ rfl (by kernel_rfl) (by kernel_rfl) (by kernel_rfl) Go.Proofs.Try.ntmps48 (by rw [hn]; decide) hw
theorem run_49 {args : List AV} {R : AV → Prop} (hn : args.length = 1) (hw : ∀ h, Rn prog [.code (bodyOf Go.Proofs.Try.f49)] .normal (env0 0 args [2]) h (Fin prog [.tmp 2] h R)) : Pure prog 49 args R :=
  fn_run wfp [2] Go.Proofs.Try.func49 _ rfl (by kernel_rfl) (by kernel_rfl) (by kernel_rfl) Go.Proofs.Try.ntmps49 (by rw [hn]; decide) hw
theorem frun_49 {args : List AV} {h : List Entry} {K : AV → List Entry → Prop} (hn : args.length = 1) (hw : Rn prog [.code (bodyOf Go.Proofs.Try.f49)] .normal (env0 0 args [2]) h (FinK prog [.tmp 2] K)) : FSpec prog 49 args h K :=
  fs_run wfp [2] Go.Proofs.Try.func49 _ rfl (by kernel_rfl) (by kernel_rfl) (by kernel_rfl) Go.Proofs.Try.ntmps49 (by rw [hn]; decide) hw
theorem run_50 {args : List AV} {R : AV → Prop} (hn : args.length = 2) (hw : ∀ h, Rn prog [.code (bodyOf Go.Proofs.Try.f50)] .normal (env0 0 args [2, 4, 18, 21, 38]) h (Fin prog [.tmp 4] h R)) : Pure prog 50 args R :=
  fn_run wfp [2, 4, 18, 21, 38] Go.Proofs.Try.func50 _ rfl (by kernel_rfl) (by kernel_rfl) (by kernel_rfl) Go.Proofs.Try.ntmps50 (by rw [hn]; decide) hw
theorem frun_50 {args : List AV} {h : List Entry} {K : AV → List Entry → Prop} (hn : args.length = 2) (hw : Rn prog [.code (bodyOf Go.Proofs.Try.f50)] .normal (env0 0 args [2, 4, 18, 21, 38]) h (FinK prog [.tmp 4] K)) : FSpec prog 50 args h K :=
  fs_run wfp [2, 4, 18, 21, 38] Go.Proofs.Try.func50 _ rfl (by kernel_rfl) (by kernel_rfl) (by kernel_rfl) Go.Proofs.Try.ntmps50 (by rw [hn]; decide) hw
theorem run_51 {args : List AV} {R : AV → Prop} (hn : args.length = 2) (hw : ∀ h, Rn prog [.code (bodyOf Go.Proofs.Try.f51)] .normal (env0 0 args [4, 5, 6, 14, 18, 59]) h (Fin prog [.tmp 4] h R)) : Pure prog 51 args R :=
  fn_run wfp [4, 5, 6, 14, 18, 59] Go.Proofs.Try.func51 _ rfl (by kernel_rfl) (by kernel_rfl) (by kernel_rfl) Go.Proofs.Try.ntmps51 (by rw [hn]; decide) hw
theorem frun_51 {args : List AV} {h : List Entry} {K : AV → List Entry → Prop} (hn : args.length = 2) (hw : Rn prog [.code (bodyOf Go.Proofs.Try.f51)] .normal (env0 0 args [4, 5, 6, 14, 18, 59]) h (FinK prog [.tmp 4] K)) : FSpec prog 51 args h K :=
  fs_run wfp [4, 5, 6, 14, 18, 59] Go.Proofs.Try.func51 _ rfl (by kernel_rfl) (by kernel_rfl) (by kernel_rfl) Go.Proofs.Try.ntmps51 (by rw [hn]; decide) hw
theorem run_52 {args : List AV} {R : AV → Prop} (hn : args.length = 2) (hw : ∀ h, Rn prog [.code (bodyOf Go.Proofs.Try.f52)] .normal (env0 0 args [2, 4, 5, 6, 11, 21]) h (Fin prog [.tmp 4] h R)) : Pure prog 52 args R :=
  fn_run wfp [2, 4, 5, 6, 11, 21] Go.Proofs.Try.func52 _ rfl (by kernel_rfl) (by kernel_rfl) (by kernel_rfl) Go.Proofs.Try.ntmps52 (by rw [hn]; decide) hw
theorem frun_52 {args : List AV} {h : List Entry} {K : AV → List Entry → Prop} (hn : args.length = 2) (hw : Rn prog [.code (bodyOf Go.Proofs.Try.f52)] .normal (env0 0 args [2, 4, 5, 6, 11, 21]) h (FinK prog [.tmp 4] K)) : FSpec prog 52 args h K :=
  fs_run wfp [2, 4, 5, 6, 11, 21] Go.Proofs.Try.func52 _ rfl (by kernel_rfl) (by kernel_rfl) (by kernel_rfl) Go.Proofs.Try.ntmps52 (by rw [hn]; decide) hw
theorem run_53 {args : List AV} {R : AV → Prop} (hn : args.length = 1) (hw : ∀ h, Rn prog [.code (bodyOf Go.Proofs.Try.f53)] .normal (env0 0 args [2]) h (Fin prog [.tmp 2] h R)) : Pure prog 53 args R :=
  fn_run wfp [2] Go.Proofs.Try.func53 _ rfl (by kernel_rfl) (by kernel_rfl) (by kernel_rfl) Go.Proofs.Try.ntmps53 (by rw [hn]; decide) hw
theorem frun_53 {args : List AV} {h : List Entry} {K : AV → List Entry → Prop} (hn : args.length = 1) (hw : Rn prog [.code (bodyOf Go.Proofs.Try.f53)] .normal (env0 0 args [2]) h (FinK prog [.tmp 2] K)) : FSpec prog 53 args h K :=
  fs_run wfp [2] Go.Proofs.Try.func53 _ rfl (by kernel_rfl) (by kernel_rfl) (by kernel_rfl) Go.Proofs.Try.ntmps53 (by rw [hn]; decide) hw
theorem run_54 {args : List AV} {R : AV → Prop} (hn : args.length = 2) (hw : ∀ h, Rn prog [.code (bodyOf Go.Proofs.Try.f54)] .normal (env0 0 args [2, 4, 18, 21, 43, 46]) h (Fin prog [.tmp 4] h R)) : Pure prog 54 args R :=
  fn_run wfp [2, 4, 18, 21, 43, 46] Go.Proofs.Try.func54 _ rfl (by kernel_rfl) (by kernel_rfl) (by kernel_rfl) Go.Proofs.Try.ntmps54 (by rw [hn]; decide) hw
theorem frun_54 {args : List AV} {h : List Entry} {K : AV → List Entry → Prop} (hn : args.length = 2) (hw : Rn prog [.code (bodyOf Go.Proofs.Try.f54)] .normal (env0 0 args [2, 4, 18, 21, 43, 46]) h (FinK prog [.tmp 4] K)) : FSpec prog 54 args h K :=
  fs_run wfp [2, 4, 18, 21, 43, 46] Go.Proofs.Try.func54 _ rfl (by kernel_rfl) (by kernel_rfl) (by kernel_rfl) Go.Proofs.Try.ntmps54 (by rw [hn]; decide) hw
theorem run_55 {args : List AV} {R : AV → Prop} (hn : args.length = 3) (hw : ∀ h, Rn prog [.code (bodyOf Go.Proofs.Try.f55)] .normal (env0 0 args [6, 7, 8, 9, 14, 15, 16, 17, 18, 30]) h (Fin prog [.tmp 6] h R)) : Pure prog 55 args R :=
  fn_run wfp [6, 7, 8, 9, 14, 15, 16, 17, 18, 30] Go.Proofs.Try.func55 _ rfl (by kernel_rfl) (by kernel_rfl) (by kernel_rfl) Go.Proofs.Try.ntmps55 (by rw [hn]; decide) hw
theorem frun_55 {args : List AV} {h : List Entry} {K : AV → List Entry → Prop} (hn : args.length = 3) (hw : Rn prog [.code (bodyOf Go.Proofs.Try.f55)] .normal (env0 0 args [6, 7, 8, 9, 14, 15, 16, 17, 18, 30]) h (FinK prog [.tmp 6] K)) : FSpec prog 55 args h K :=
  fs_run wfp [6, 7, 8, 9, 14, 15, 16, 17, 18, 30] Go.Proofs.Try.func55 _ rfl (by kernel_rfl) (by kernel_rfl) (by kernel_rfl) Go.Proofs.Try.ntmps55 (by rw [hn]; decide) hw
theorem run_56 {args : List AV} {R : AV → Prop} (hn : args.length = 2) (hw : ∀ h, Rn prog [.code (bodyOf Go.Proofs.Try.f56)] .normal (env0 0 args [2, 3, 4]) h (Fin prog [.tmp 4] h R)) : Pure prog 56 args R :=
  fn_run wfp [2, 3, 4] Go.Proofs.Try.func56 _ rfl (by kernel_rfl) (by kernel_rfl) (by kernel_rfl) Go.Proofs.Try.ntmps56 (by rw [hn]; decide) hw
theorem frun_56 {args : List AV} {h : List Entry} {K : AV → List Entry → Prop} (hn : args.length = 2) (hw : Rn prog [.code (bodyOf Go.Proofs.Try.f56)] .normal (env0 0 args [2, 3, 4]) h (FinK prog [.tmp 4] K)) : FSpec prog 56 args h K :=
  fs_run wfp [2, 3, 4] Go.Proofs.Try.func56 _ rfl (by kernel_rfl) (by kernel_rfl) (by kernel_rfl) Go.Proofs.Try.ntmps56 (by rw [hn]; decide) hw
theorem run_57 {args : List AV} {R : AV → Prop} (hn : args.length = 3) (hw : ∀ h, Rn prog [.code (bodyOf Go.Proofs.Try.f57)] .normal (env0 0 args [6, 7, 8, 9, 14, 15, 16, 17, 18, 30]) h (Fin prog [.tmp 6] h R)) : Pure prog 57 args R :=
  fn_run wfp [6, 7, 8, 9, 14, 15, 16, 17, 18, 30] Go.Proofs.Try.func57 _ rfl (by kernel_rfl) (by kernel_rfl) (by kernel_rfl) Go.Proofs.Try.ntmps57 (by rw [hn]; decide) hw
theorem frun_57 {args : List AV} {h : List Entry} {K : AV → List Entry → Prop} (hn : args.length = 3) (hw : Rn prog [.code (bodyOf Go.Proofs.Try.f57)] .normal (env0 0 args [6, 7, 8, 9, 14, 15, 16, 17, 18, 30]) h (FinK prog [.tmp 6] K)) : FSpec prog 57 args h K :=
  fs_run wfp [6, 7, 8, 9, 14, 15, 16, 17, 18, 30] Go.Proofs.Try.func57 _ rfl (by kernel_rfl) (by kernel_rfl) (by kernel_rfl) Go.Proofs.Try.ntmps57 (by rw [hn]; decide) hw
theorem run_58 {args : List AV} {R : AV → Prop} (hn : args.length = 2) (hw : ∀ h, Rn prog [.code (bodyOf Go.Proofs.Try.f58)] .normal (env0 0 args [2, 3, 4]) h (Fin prog [.tmp 4] h R)) : Pure prog 58 args R :=
  fn_run wfp [2, 3, 4] Go.Proofs.Try.func58 _ rfl (by kernel_rfl) (by kernel_rfl) (by kernel_rfl) Go.Proofs.Try.ntmps58 (by rw [hn]; decide) hw
theorem frun_58 {args : List AV} {h : List Entry} {K : AV → List Entry → Prop} (hn : args.length = 2) (hw : Rn prog [.code (bodyOf Go.Proofs.Try.f58)] .normal (env0 0 args [2, 3, 4]) h (FinK prog [.tmp 4] K)) : FSpec prog 58 args h K :=
  fs_run wfp [2, 3, 4] Go.Proofs.Try.func58 _ rfl (by kernel_rfl) (by kernel_rfl) (by kernel_rfl) Go.Proofs.Try.ntmps58 (by rw [hn]; decide) hw
theorem run_59 {args : List AV} {R : AV → Prop} (hn : args.length = 3) (hw : ∀ h, Rn prog [.code (bodyOf Go.Proofs.Try.f59)] .normal (env0 0 args [6, 7, 8, 9, 14, 15, 16, 17, 18, 30]) h (Fin prog [.tmp 6] h R)) : Pure prog 59 args R :=
  fn_run wfp [6, 7, 8, 9, 14, 15, 16, 17, 18, 30] Go.Proofs.Try.func59 _ rfl (by kernel_rfl) (by kernel_rfl) (by kernel_rfl) Go.Proofs.Try.ntmps59 (by rw [hn]; decide) hw
theorem frun_59 {args : List AV} {h : List Entry} {K : AV → List Entry → Prop} (hn : args.length = 3) (hw : Rn prog [.code (bodyOf Go.Proofs.Try.f59)] .normal (env0 0 args [6, 7, 8, 9, 14, 15, 16, 17, 18, 30]) h (FinK prog [.tmp 6] K)) : FSpec prog 59 args h K :=
  fs_run wfp [6, 7, 8, 9, 14, 15, 16, 17, 18, 30] Go.Proofs.Try.func59 _ rfl (by kernel_rfl) (by kernel_rfl) (by kernel_rfl) Go.Proofs.Try.ntmps59 (by rw [hn]; decide) hw
theorem run_60 {args : List AV} {R : AV → Prop} (hn : args.length = 2) (hw : ∀ h, Rn prog [.code (bodyOf Go.Proofs.Try.f60)] .normal (env0 0 args [2, 3, 4]) h (Fin prog [.tmp 4] h R)) : Pure prog 60 args R :=
  fn_run wfp [2, 3, 4] Go.Proofs.Try.func60 _ rfl (by kernel_rfl) (by kernel_rfl) (by kernel_rfl) Go.Proofs.Try.ntmps60 (by rw [hn]; decide) hw
theorem frun_60 {args : List AV} {h : List Entry} {K : AV → List Entry → Prop} (hn : args.length = 2) (hw : Rn prog [.code (bodyOf Go.Proofs.Try.f60)] .normal (env0 0 args [2, 3, 4]) h (FinK prog [.tmp 4] K)) : FSpec prog 60 args h K :=
  fs_run wfp [2, 3, 4] Go.Proofs.Try.func60 _ rfl (by kernel_rfl) (by kernel_rfl) (by kernel_rfl) Go.Proofs.Try.ntmps60 (by rw [hn]; decide) hw
theorem run_61 {args : List AV} {R : AV → Prop} (hn : args.length = 4) (hw : ∀ h, Rn prog [.code (bodyOf Go.Proofs.Try.f61)] .normal (env0 0 args [5, 8]) h (Fin prog [] h R)) : Pure prog 61 args R :=
  fn_run wfp [5, 8] Go.Proofs.Try.func61 _ rfl (by kernel_rfl) (by kernel_rfl) (by kernel_rfl) Go.Proofs.Try.ntmps61 (by rw [hn]; decide) hw
theorem frun_61 {args : List AV} {h : List Entry} {K : AV → List Entry → Prop} (hn : args.length = 4) (hw : Rn prog [.code (bodyOf Go.Proofs.Try.f61)] .normal (env0 0 args [5, 8]) h (FinK prog [] K)) : FSpec prog 61 args h K :=
  fs_run wfp [5, 8] Go.Proofs.Try.func61 _ rfl (by kernel_rfl) (by kernel_rfl) (by kernel_rfl) Go.Proofs.Try.ntmps61 (by rw [hn]; decide) hw
theorem run_62 {args : List AV} {R : AV → Prop} (hn : args.length = 2) (hw : ∀ h, Rn prog [.code (bodyOf Go.Proofs.Try.f62)] .normal (env0 0 args [3, 20]) h (Fin prog [] h R)) : Pure prog 62 args R :=
  fn_run wfp [3, 20] Go.Proofs.Try.func62 _ rfl (by kernel_rfl) (by kernel_rfl) (by kernel_rfl) Go.Proofs.Try.ntmps62 (by rw [hn]; decide) hw
theorem frun_62 {args : List AV} {h : List Entry} {K : AV → List Entry → Prop} (hn : args.length = 2) (hw : Rn prog [.code (bodyOf Go.Proofs.Try.f62)] .normal (env0 0 args [3, 20]) h (FinK prog [] K)) : FSpec prog 62 args h K :=
  fs_run wfp [3, 20] Go.Proofs.Try.func62 _ rfl (by kernel_rfl) (by kernel_rfl) (by kernel_rfl) Go.Proofs.Try.ntmps62 (by rw [hn]; decide) hw
theorem run_63 {args : List AV} {R : AV → Prop} (hn : args.length = 2) (hw : ∀ h, Rn prog [.code (bodyOf Go.Proofs.Try.f63)] .normal (env0 0 args [3, 4, 5, 6, 15, 41]) h (Fin prog [] h R)) : Pure prog 63 args R :=
  fn_run wfp [3, 4, 5, 6, 15, 41] Go.Proofs.Try.func63 _ rfl (by kernel_rfl) (by kernel_rfl) (by kernel_rfl) Go.Proofs.Try.ntmps63 (by rw [hn]; decide) hw
theorem frun_63 {args : List AV} {h : List Entry} {K : AV → List Entry → Prop} (hn : args.length = 2) (hw : Rn prog [.code (bodyOf Go.Proofs.Try.f63)] .normal (env0 0 args [3, 4, 5, 6, 15, 41]) h (FinK prog [] K)) : FSpec prog 63 args h K :=
  fs_run wfp [3, 4, 5, 6, 15, 41] Go.Proofs.Try.func63 _ rfl (by kernel_rfl) (by kernel_rfl) (by kernel_rfl) Go.Proofs.Try.ntmps63 (by rw [hn]; decide) hw
theorem run_64 {args : List AV} {R : AV → Prop} (hn : args.length = 2) (hw : ∀ h, Rn prog [.code (bodyOf Go.Proofs.Try.f64)] .normal (env0 0 args [3, 4, 5, 39, 58, 74, 86]) h (Fin prog [] h R)) : Pure prog 64 args R :=
  fn_run wfp [3, 4, 5, 39, 58, 74, 86] Go.Proofs.Try.func64 _ rfl (by kernel_rfl) (by kernel_rfl) (by kernel_rfl) Go.Proofs.Try.ntmps64 (by rw [hn]; decide) hw
theorem frun_64 {args : List AV} {h : List Entry} {K : AV → List Entry → Prop} (hn : args.length = 2) (hw : Rn prog [.code (bodyOf Go.Proofs.Try.f64)] .normal (env0 0 args [3, 4, 5, 39, 58, 74, 86]) h (FinK prog [] K)) : FSpec prog 64 args h K :=
  fs_run wfp [3, 4, 5, 39, 58, 74, 86] Go.Proofs.Try.func64 _ rfl (by kernel_rfl) (by kernel_rfl) (by kernel_rfl) Go.Proofs.Try.ntmps64 (by rw [hn]; decide) hw
theorem run_65 {args : List AV} {R : AV → Prop} (hn : args.length = 2) (hw : ∀ h, Rn prog [.code (bodyOf Go.Proofs.Try.f65)] .normal (env0 0 args [4, 5, 6, 21, 25, 32, 42, 50, 58, 61]) h (Fin prog [.tmp 4] h R)) : Pure prog 65 args R :=
  fn_run wfp [4, 5, 6, 21, 25, 32, 42, 50, 58, 61] Go.Proofs.Try.func65 _ rfl (by kernel_rfl) (by kernel_rfl) (by kernel_rfl) Go.Proofs.Try.ntmps65 (by rw [hn]; decide) hw
theorem frun_65 {args : List AV} {h : List Entry} {K : AV → List Entry → Prop} (hn : args.length = 2) (hw : Rn prog [.code (bodyOf Go.Proofs.Try.f65)] .normal (env0 0 args [4, 5, 6, 21, 25, 32, 42, 50, 58, 61]) h (FinK prog [.tmp 4] K)) : FSpec prog 65 args h K :=
  fs_run wfp [4, 5, 6, 21, 25, 32, 42, 50, 58, 61] Go.Proofs.Try.func65 _ rfl (by kernel_rfl) (by kernel_rfl) (by kernel_rfl) Go.Proofs.Try.ntmps65 (by rw [hn]; decide) hw
theorem run_66 {args : List AV} {R : AV → Prop} (hn : args.length = 2) (hw : ∀ h, Rn prog [.code (bodyOf Go.Proofs.Try.f66)] .normal (env0 0 args [4]) h (Fin prog [.tmp 4] h R)) : Pure prog 66 args R :=
  fn_run wfp [4] Go.Proofs.Try.func66 _ rfl (by kernel_rfl) (by kernel_rfl) (by kernel_rfl) Go.Proofs.Try.ntmps66 (by rw [hn]; decide) hw
theorem frun_66 {args : List AV} {h : List Entry} {K : AV → List Entry → Prop} (hn : args.length = 2) (hw : Rn prog [.code (bodyOf Go.Proofs.Try.f66)] .normal (env0 0 args [4]) h (FinK prog [.tmp 4] K)) : FSpec prog 66 args h K :=
  fs_run wfp [4] Go.Proofs.Try.func66 _ rfl (by kernel_rfl) (by kernel_rfl) (by kernel_rfl) Go.Proofs.Try.ntmps66 (by rw [hn]; decide) hw
theorem run_67 {args : List AV} {R : AV → Prop} (hn : args.length = 1) (hw : ∀ h, Rn prog [.code (bodyOf Go.Proofs.Try.f67)] .normal (env0 0 args [2]) h (Fin prog [.tmp 2] h R)) : Pure prog 67 args R :=
  fn_run wfp [2] Go.Proofs.Try.func67 _ rfl (by kernel_rfl) (by kernel_rfl) (by kernel_rfl) Go.Proofs.Try.ntmps67 (by rw [hn]; decide) hw
theorem frun_67 {args : List AV} {h : List Entry} {K : AV → List Entry → Prop} (hn : args.length = 1) (hw : Rn prog [.code (bodyOf Go.Proofs.Try.f67)] .normal (env0 0 args [2]) h (FinK prog [.tmp 2] K)) : FSpec prog 67 args h K :=
  fs_run wfp [2] Go.Proofs.Try.func67 _ rfl (by kernel_rfl) (by kernel_rfl) (by kernel_rfl) Go.Proofs.Try.ntmps67 (by rw [hn]; decide) hw
theorem run_68 {args : List AV} {R : AV → Prop} (hn : args.length = 1) (hw : ∀ h, Rn prog [.code (bodyOf Go.Proofs.Try.f68)] .normal (env0 0 args [2]) h (Fin prog [.tmp 2] h R)) : Pure prog 68 args R :=
  fn_run wfp [2] Go.Proofs.Try.func68 _ rfl (by kernel_rfl) (by kernel_rfl) (by kernel_rfl) Go.Proofs.Try.ntmps68 (by rw [hn]; decide) hw
theorem frun_68 {args : List AV} {h : List Entry} {K : AV → List Entry → Prop} (hn : args.length = 1) (hw : Rn prog [.code (bodyOf Go.Proofs.Try.f68)] .normal (env0 0 args [2]) h (FinK prog [.tmp 2] K)) : FSpec prog 68 args h K :=
  fs_run wfp [2] Go.Proofs.Try.func68 _ rfl (by kernel_rfl) (by kernel_rfl) (by kernel_rfl) Go.Proofs.Try.ntmps68 (by rw [hn]; decide) hw
theorem run_69 {args : List AV} {R : AV → Prop} (hn : args.length = 1) (hw : ∀ h, Rn prog [.code (bodyOf Go.Proofs.Try.f69)] .normal (env0 0 args [2, 4]) h (Fin prog [.tmp 2] h R)) : Pure prog 69 args R :=
  fn_run wfp [2, 4] Go.Proofs.Try.func69 _ rfl (by kernel_rfl) (by kernel_rfl) (by kernel_rfl) Go.Proofs.Try.ntmps69 (by rw [hn]; decide) hw
theorem frun_69 {args : List AV} {h : List Entry} {K : AV → List Entry → Prop} (hn : args.length = 1) (hw : Rn prog [.code (bodyOf Go.Proofs.Try.f69)] .normal (env0 0 args [2, 4]) h (FinK prog [.tmp 2] K)) : FSpec prog 69 args h K :=
  fs_run wfp [2, 4] Go.Proofs.Try.func69 _ rfl (by kernel_rfl) (by kernel_rfl) (by kernel_rfl) Go.Proofs.Try.ntmps69 (by rw [hn]; decide) hw
theorem run_70 {args : List AV} {R : AV → Prop} (hn : args.length = 1) (hw : ∀ h, Rn prog [.code (bodyOf Go.Proofs.Try.f70)] .normal (env0 0 args [2]) h (Fin prog [.tmp 2] h R)) : Pure prog 70 args R :=
  fn_run wfp [2] Go.Proofs.Try.func70 _ rfl (by kernel_rfl) (by kernel_rfl) (by kernel_rfl) Go.Proofs.Try.ntmps70 (by rw [hn]; decide) hw
theorem frun_70 {args : List AV} {h : List Entry} {K : AV → List Entry → Prop} (hn : args.length = 1) (hw : Rn prog [.code (bodyOf Go.Proofs.Try.f70)] .normal (env0 0 args [2]) h (FinK prog [.tmp 2] K)) : FSpec prog 70 args h K :=
  fs_run wfp [2] Go.Proofs.Try.func70 _ rfl (by kernel_rfl) (by kernel_rfl) (by kernel_rfl) Go.Proofs.Try.ntmps70 (by rw [hn]; decide) hw
theorem run_71 {args : List AV} {R : AV → Prop} (hn : args.length = 3) (hw : ∀ h, Rn prog [.code (bodyOf Go.Proofs.Try.f71)] .normal (env0 0 args []) h (Fin prog [] h R)) : Pure prog 71 args R :=
  fn_run wfp [] Go.Proofs.Try.func71 _ rfl (by kernel_rfl) (by kernel_rfl) (by kernel_rfl) Go.Proofs.Try.ntmps71 (by rw [hn]; decide) hw
theorem frun_71 {args : List AV} {h : List Entry} {K : AV → List Entry → Prop} (hn : args.length = 3) (hw : Rn prog [.code (bodyOf Go.Proofs.Try.f71)] .normal (env0 0 args []) h (FinK prog [] K)) : FSpec prog 71 args h K :=
  fs_run wfp [] Go.Proofs.Try.func71 _ rfl (by kernel_rfl) (by kernel_rfl) (by kernel_rfl) Go.Proofs.Try.ntmps71 (by rw [hn]; decide) hw
theorem run_72 {args : List AV} {R : AV → Prop} (hn : args.length = 1) (hw : ∀ h, Rn prog [.code (bodyOf Go.Proofs.Try.f72)] .normal (env0 0 args [3]) h (Fin prog [] h R)) : Pure prog 72 args R :=
  fn_run wfp [3] Go.Proofs.Try.func72 _ rfl (by kernel_rfl) (by kernel_rfl) (by kernel_rfl) Go.Proofs.Try.ntmps72 (by rw [hn]; decide) hw
theorem frun_72 {args : List AV} {h : List Entry} {K : AV → List Entry → Prop} (hn : args.length = 1) (hw : Rn prog [.code (bodyOf Go.Proofs.Try.f72)] .normal (env0 0 args [3]) h (FinK prog [] K)) : FSpec prog 72 args h K :=
  fs_run wfp [3] Go.Proofs.Try.func72 _ rfl (by kernel_rfl) (by kernel_rfl) (by kernel_rfl) Go.Proofs.Try.ntmps72 (by rw [hn]; decide) hw
theorem run_73 {args : List AV} {R : AV → Prop} (hn : args.length = 3) (hw : ∀ h, Rn prog [.code (bodyOf Go.Proofs.Try.f73)] .normal (env0 0 args [6, 48, 62, 66, 71]) h (Fin prog [] h R)) : Pure prog 73 args R :=
  fn_run wfp [6, 48, 62, 66, 71] Go.Proofs.Try.func73 _ rfl (by kernel_rfl) (by kernel_rfl) (by kernel_rfl) Go.Proofs.Try.ntmps73 (by rw [hn]; decide) hw
theorem frun_73 {args : List AV} {h : List Entry} {K : AV → List Entry → Prop} (hn : args.length = 3) (hw : Rn prog [.code (bodyOf Go.Proofs.Try.f73)] .normal (env0 0 args [6, 48, 62, 66, 71]) h (FinK prog [] K)) : FSpec prog 73 args h K :=
  fs_run wfp [6, 48, 62, 66, 71] Go.Proofs.Try.func73 _ rfl (by kernel_rfl) (by kernel_rfl) (by kernel_rfl) Go.Proofs.Try.ntmps73 (by rw [hn]; decide) hw
theorem run_74 {args : List AV} {R : AV → Prop} (hn : args.length = 1) (hw : ∀ h, Rn prog [.code (bodyOf Go.Proofs.Try.f74)] .normal (env0 0 args [2, 29, 34]) h (Fin prog [] h R)) : Pure prog 74 args R :=
  fn_run wfp [2, 29, 34] Go.Proofs.Try.func74 _ rfl (by kernel_rfl) (by kernel_rfl) (by kernel_rfl) Go.Proofs.Try.ntmps74 (by rw [hn]; decide) hw
theorem frun_74 {args : List AV} {h : List Entry} {K : AV → List Entry → Prop} (hn : args.length = 1) (hw : Rn prog [.code (bodyOf Go.Proofs.Try.f74)] .normal (env0 0 args [2, 29, 34]) h (FinK prog [] K)) : FSpec prog 74 args h K :=
  fs_run wfp [2, 29, 34] Go.Proofs.Try.func74 _ rfl (by kernel_rfl) (by kernel_rfl) (by kernel_rfl) Go.Proofs.Try.ntmps74 (by rw [hn]; decide) hw
theorem run_75 {args : List AV} {R : AV → Prop} (hn : args.length = 3) (hw : ∀ h, Rn prog [.code (bodyOf Go.Proofs.Try.f75)] .normal (env0 0 args [6, 7, 8, 9, 14, 15, 16, 17, 18, 30]) h (Fin prog [.tmp 6] h R)) : Pure prog 75 args R :=
  fn_run wfp [6, 7, 8, 9, 14, 15, 16, 17, 18, 30] Go.Proofs.Try.func75 _ rfl (by kernel_rfl) (by kernel_rfl) (by kernel_rfl) Go.Proofs.Try.ntmps75 (by rw [hn]; decide) hw
theorem frun_75 {args : List AV} {h : List Entry} {K : AV → List Entry → Prop} (hn : args.length = 3) (hw : Rn prog [.code (bodyOf Go.Proofs.Try.f75)] .normal (env0 0 args [6, 7, 8, 9, 14, 15, 16, 17, 18, 30]) h (FinK prog [.tmp 6] K)) : FSpec prog 75 args h K :=
  fs_run wfp [6, 7, 8, 9, 14, 15, 16, 17, 18, 30] Go.Proofs.Try.func75 _ rfl (by kernel_rfl) (by kernel_rfl) (by kernel_rfl) Go.Proofs.Try.ntmps75 (by rw [hn]; decide) hw
theorem run_76 {args : List AV} {R : AV → Prop} (hn : args.length = 2) (hw : ∀ h, Rn prog [.code (bodyOf Go.Proofs.Try.f76)] .normal (env0 0 args [2, 3, 4, 6, 7, 12, 17]) h (Fin prog [.tmp 4] h R)) : Pure prog 76 args R :=
  fn_run wfp [2, 3, 4, 6, 7, 12, 17] Go.Proofs.Try.func76 _ rfl (by kernel_rfl) (by kernel_rfl) (by kernel_rfl) Go.Proofs.Try.ntmps76 (by rw [hn]; decide) hw
theorem frun_76 {args : List AV} {h : List Entry} {K : AV → List Entry → Prop} (hn : args.length = 2) (hw : Rn prog [.code (bodyOf Go.Proofs.Try.f76)] .normal (env0 0 args [2, 3, 4, 6, 7, 12, 17]) h (FinK prog [.tmp 4] K)) : FSpec prog 76 args h K :=
  fs_run wfp [2, 3, 4, 6, 7, 12, 17] Go.Proofs.Try.func76 _ rfl (by kernel_rfl) (by kernel_rfl) (by kernel_rfl) Go.Proofs.Try.ntmps76 (by rw [hn]; decide) hw
theorem run_77 {args : List AV} {R : AV → Prop} (hn : args.length = 2) (hw : ∀ h, Rn prog [.code (bodyOf Go.Proofs.Try.f77)] .normal (env0 0 args [3, 4]) h (Fin prog [.tmp 4] h R)) : Pure prog 77 args R :=
  fn_run wfp [3, 4] Go.Proofs.Try.func77 _ rfl (by kernel_rfl) (by kernel_rfl) (by kernel_rfl) Go.Proofs.Try.ntmps77 (by rw [hn]; decide) hw
theorem frun_77 {args : List AV} {h : List Entry} {K : AV → List Entry → Prop} (hn : args.length = 2) (hw : Rn prog [.code (bodyOf Go.Proofs.Try.f77)] .normal (env0 0 args [3, 4]) h (FinK prog [.tmp 4] K)) : FSpec prog 77 args h K :=
  fs_run wfp [3, 4] Go.Proofs.Try.func77 _ rfl (by kernel_rfl) (by kernel_rfl) (by kernel_rfl) Go.Proofs.Try.ntmps77 (by rw [hn]; decide) hw
theorem run_78 {args : List AV} {R : AV → Prop} (hn : args.length = 1) (hw : ∀ h, Rn prog [.code (bodyOf Go.Proofs.Try.f78)] .normal (env0 0 args [1, 2, 4, 5]) h (Fin prog [.tmp 2] h R)) : Pure prog 78 args R :=
  fn_run wfp [1, 2, 4, 5] Go.Proofs.Try.func78 _ rfl (by kernel_rfl) (by kernel_rfl) (by kernel_rfl) Go.Proofs.Try.ntmps78 (by rw [hn]; decide) hw
theorem frun_78 {args : List AV} {h : List Entry} {K : AV → List Entry → Prop} (hn : args.length = 1) (hw : Rn prog [.code (bodyOf Go.Proofs.Try.f78)] .normal (env0 0 args [1, 2, 4, 5]) h (FinK prog [.tmp 2] K)) : FSpec prog 78 args h K :=
  fs_run wfp [1, 2, 4, 5] Go.Proofs.Try.func78 _ rfl (by kernel_rfl) (by kernel_rfl) (by kernel_rfl) Go.Proofs.Try.ntmps78 (by rw [hn]; decide) hw
theorem run_79 {args : List AV} {R : AV → Prop} (hn : args.length = 2) (hw : ∀ h, Rn prog [.code (bodyOf Go.Proofs.Try.f79)] .normal (env0 0 args [4]) h (Fin prog [.tmp 4] h R)) : Pure prog 79 args R :=
  fn_run wfp [4] Go.Proofs.Try.func79 _ rfl (by kernel_rfl) (by kernel_rfl) (by kernel_rfl) Go.Proofs.Try.ntmps79 (by rw [hn]; decide) hw
theorem frun_79 {args : List AV} {h : List Entry} {K : AV → List Entry → Prop} (hn : args.length = 2) (hw : Rn prog [.code (bodyOf Go.Proofs.Try.f79)] .normal (env0 0 args [4]) h (FinK prog [.tmp 4] K)) : FSpec prog 79 args h K :=
  fs_run wfp [4] Go.Proofs.Try.func79 _ rfl (by kernel_rfl) (by kernel_rfl) (by kernel_rfl) Go.Proofs.Try.ntmps79 (by rw [hn]; decide) hw
theorem run_80 {args : List AV} {R : AV → Prop} (hn : args.length = 2) (hw : ∀ h, Rn prog [.code (bodyOf Go.Proofs.Try.f80)] .normal (env0 0 args [3, 4, 5, 6, 7, 8, 9, 17, 36, 69, 89, 92]) h (Fin prog [] h R)) : Pure prog 80 args R :=
  fn_run wfp [3, 4, 5, 6, 7, 8, 9, 17, 36, 69, 89, 92] Go.Proofs.Try.func80 _ rfl (by kernel_rfl) (by kernel_rfl) (by kernel_rfl) Go.Proofs.Try.ntmps80 (by rw [hn]; decide) hw
theorem frun_80 {args : List AV} {h : List Entry} {K : AV → List Entry → Prop} (hn : args.length = 2) (hw : Rn prog [.code (bodyOf Go.Proofs.Try.f80)] .normal (env0 0 args [3, 4, 5, 6, 7, 8, 9, 17, 36, 69, 89, 92]) h (FinK prog [] K)) : FSpec prog 80 args h K :=
  fs_run wfp [3, 4, 5, 6, 7, 8, 9, 17, 36, 69, 89, 92] Go.Proofs.Try.func80 _ rfl (by kernel_rfl) (by kernel_rfl) (by kernel_rfl) Go.Proofs.Try.ntmps80 (by rw [hn]; decide) hw
theorem run_81 {args : List AV} {R : AV → Prop} (hn : args.length = 2) (hw : ∀ h, Rn prog [.code (bodyOf Go.Proofs.Try.f81)] .normal (env0 0 args [4]) h (Fin prog [.tmp 4] h R)) : Pure prog 81 args R :=
  fn_run wfp [4] Go.Proofs.Try.func81 _ rfl (by kernel_rfl) (by kernel_rfl) (by kernel_rfl) Go.Proofs.Try.ntmps81 (by rw [hn]; decide) hw
theorem frun_81 {args : List AV} {h : List Entry} {K : AV → List Entry → Prop} (hn : args.length = 2) (hw : Rn prog [.code (bodyOf Go.Proofs.Try.f81)] .normal (env0 0 args [4]) h (FinK prog [.tmp 4] K)) : FSpec prog 81 args h K :=
  fs_run wfp [4] Go.Proofs.Try.func81 _ rfl (by kernel_rfl) (by kernel_rfl) (by kernel_rfl) Go.Proofs.Try.ntmps81 (by rw [hn]; decide) hw
theorem run_82 {args : List AV} {R : AV → Prop} (hn : args.length = 1) (hw : ∀ h, Rn prog [.code (bodyOf Go.Proofs.Try.f82)] .normal (env0 0 args [1, 2, 4, 5, 10]) h (Fin prog [.tmp 2] h R)) : Pure prog 82 args R :=
  fn_run wfp [1, 2, 4, 5, 10] Go.Proofs.Try.func82 _ rfl (by kernel_rfl) (by kernel_rfl) (by kernel_rfl) Go.Proofs.Try.ntmps82 (by rw [hn]; decide) hw
theorem frun_82 {args : List AV} {h : List Entry} {K : AV → List Entry → Prop} (hn : args.length = 1) (hw : Rn prog [.code (bodyOf Go.Proofs.Try.f82)] .normal (env0 0 args [1, 2, 4, 5, 10]) h (FinK prog [.tmp 2] K)) : FSpec prog 82 args h K :=
  fs_run wfp [1, 2, 4, 5, 10] Go.Proofs.Try.func82 _ rfl (by kernel_rfl) (by kernel_rfl) (by kernel_rfl) Go.Proofs.Try.ntmps82 (by rw [hn]; decide) hw
theorem run_83 {args : List AV} {R : AV → Prop} (hn : args.length = 2) (hw : ∀ h, Rn prog [.code (bodyOf Go.Proofs.Try.f83)] .normal (env0 0 args [3]) h (Fin prog [] h R)) : Pure prog 83 args R :=
  fn_run wfp [3] Go.Proofs.Try.func83 _ rfl (by kernel_rfl) (by kernel_rfl) (by kernel_rfl) Go.Proofs.Try.ntmps83 (by rw [hn]; decide) hw
theorem frun_83 {args : List AV} {h : List Entry} {K : AV → List Entry → Prop} (hn : args.length = 2) (hw : Rn prog [.code (bodyOf Go.Proofs.Try.f83)] .normal (env0 0 args [3]) h (FinK prog [] K)) : FSpec prog 83 args h K :=
  fs_run wfp [3] Go.Proofs.Try.func83 _ rfl (by kernel_rfl) (by kernel_rfl) (by kernel_rfl) Go.Proofs.Try.ntmps83 (by rw [hn]; decide) hw
theorem run_84 {args : List AV} {R : AV → Prop} (hn : args.length = 2) (hw : ∀ h, Rn prog [.code (bodyOf Go.Proofs.Try.f84)] .normal (env0 0 args [4, 5, 6, 7, 8, 13, 14, 15, 16, 22, 32]) h (Fin prog [.tmp 4] h R)) : Pure prog 84 args R :=
  fn_run wfp [4, 5, 6, 7, 8, 13, 14, 15, 16, 22, 32] Go.Proofs.Try.func84 _ rfl (by kernel_rfl) (by kernel_rfl) (by kernel_rfl) Go.Proofs.Try.ntmps84 (by rw [hn]; decide) hw
theorem frun_84 {args : List AV} {h : List Entry} {K : AV → List Entry → Prop} (hn : args.length = 2) (hw : Rn prog [.code (bodyOf Go.Proofs.Try.f84)] .normal (env0 0 args [4, 5, 6, 7, 8, 13, 14, 15, 16, 22, 32]) h (FinK prog [.tmp 4] K)) : FSpec prog 84 args h K :=
  fs_run wfp [4, 5, 6, 7, 8, 13, 14, 15, 16, 22, 32] Go.Proofs.Try.func84 _ rfl (by kernel_rfl) (by kernel_rfl) (by kernel_rfl) Go.Proofs.Try.ntmps84 (by rw [hn]; decide) hw
theorem run_85 {args : List AV} {R : AV → Prop} (hn : args.length = 1) (hw : ∀ h, Rn prog [.code (bodyOf Go.Proofs.Try.f85)] .normal (env0 0 args [2, 3, 4, 5, 13, 30, 67, 75, 93]) h (Fin prog [] h R)) : Pure prog 85 args R :=
  fn_run wfp [2, 3, 4, 5, 13, 30, 67, 75, 93] Go.Proofs.Try.func85 _ rfl (by kernel_rfl) (by kernel_rfl) (by kernel_rfl) Go.Proofs.Try.ntmps85 (by rw [hn]; decide) hw
theorem frun_85 {args : List AV} {h : List Entry} {K : AV → List Entry → Prop} (hn : args.length = 1) (hw : Rn prog [.code (bodyOf Go.Proofs.Try.f85)] .normal (env0 0 args [2, 3, 4, 5, 13, 30, 67, 75, 93]) h (FinK prog [] K)) : FSpec prog 85 args h K :=
  fs_run wfp [2, 3, 4, 5, 13, 30, 67, 75, 93] Go.Proofs.Try.func85 _ rfl (by kernel_rfl) (by kernel_rfl) (by kernel_rfl) Go.Proofs.Try.ntmps85 (by rw [hn]; decide) hw
theorem run_86 {args : List AV} {R : AV → Prop} (hn : args.length = 2) (hw : ∀ h, Rn prog [.code (bodyOf Go.Proofs.Try.f86)] .normal (env0 0 args []) h (Fin prog [] h R)) : Pure prog 86 args R :=
  fn_run wfp [] Go.Proofs.Try.func86 _ rfl (by kernel_rfl) (by kernel_rfl) (by kernel_rfl) Go.Proofs.Try.ntmps86 (by rw [hn]; decide) hw
theorem frun_86 {args : List AV} {h : List Entry} {K : AV → List Entry → Prop} (hn : args.length = 2) (hw : Rn prog [.code (bodyOf Go.Proofs.Try.f86)] .normal (env0 0 args []) h (FinK prog [] K)) : FSpec prog 86 args h K :=
  fs_run wfp [] Go.Proofs.Try.func86 _ rfl (by kernel_rfl) (by kernel_rfl) (by kernel_rfl) Go.Proofs.Try.ntmps86 (by rw [hn]; decide) hw
theorem run_87 {args : List AV} {R : AV → Prop} (hn : args.length = 2) (hw : ∀ h, Rn prog [.code (bodyOf Go.Proofs.Try.f87)] .normal (env0 0 args [4]) h (Fin prog [.tmp 4] h R)) : Pure prog 87 args R :=
  fn_run wfp [4] Go.Proofs.Try.func87 _ rfl (by kernel_rfl) (by kernel_rfl) (by kernel_rfl) Go.Proofs.Try.ntmps87 (by rw [hn]; decide) hw
theorem frun_87 {args : List AV} {h : List Entry} {K : AV → List Entry → Prop} (hn : args.length = 2) (hw : Rn prog [.code (bodyOf Go.Proofs.Try.f87)] .normal (env0 0 args [4]) h (FinK prog [.tmp 4] K)) : FSpec prog 87 args h K :=
  fs_run wfp [4] Go.Proofs.Try.func87 _ rfl (by kernel_rfl) (by kernel_rfl) (by kernel_rfl) Go.Proofs.Try.ntmps87 (by rw [hn]; decide) hw
theorem run_88 {args : List AV} {R : AV → Prop} (hn : args.length = 2) (hw : ∀ h, Rn prog [.code (bodyOf Go.Proofs.Try.f88)] .normal (env0 0 args [2, 3]) h (Fin prog [.tmp 3] h R)) : Pure prog 88 args R :=
  fn_run wfp [2, 3] Go.Proofs.Try.func88 _ rfl (by kernel_rfl) (by kernel_rfl) (by kernel_rfl) Go.Proofs.Try.ntmps88 (by rw [hn]; decide) hw
theorem frun_88 {args : List AV} {h : List Entry} {K : AV → List Entry → Prop} (hn : args.length = 2) (hw : Rn prog [.code (bodyOf Go.Proofs.Try.f88)] .normal (env0 0 args [2, 3]) h (FinK prog [.tmp 3] K)) : FSpec prog 88 args h K :=
  fs_run wfp [2, 3] Go.Proofs.Try.func88 _ rfl (by kernel_rfl) (by kernel_rfl) (by kernel_rfl) Go.Proofs.Try.ntmps88 (by rw [hn]; decide) hw
theorem run_89 {args : List AV} {R : AV → Prop} (hn : args.length = 2) (hw : ∀ h, Rn prog [.code (bodyOf Go.Proofs.Try.f89)] .normal (env0 0 args [4, 5, 10, 12, 13, 14, 24]) h (Fin prog [.tmp 4] h R)) : Pure prog 89 args R :=
  fn_run wfp [4, 5, 10, 12, 13, 14, 24] Go.Proofs.Try.func89 _ rfl (by kernel_rfl) (by kernel_rfl) (by kernel_rfl) Go.Proofs.Try.ntmps89 (by rw [hn]; decide) hw
theorem frun_89 {args : List AV} {h : List Entry} {K : AV → List Entry → Prop} (hn : args.length = 2) (hw : Rn prog [.code (bodyOf Go.Proofs.Try.f89)] .normal (env0 0 args [4, 5, 10, 12, 13, 14, 24]) h (FinK prog [.tmp 4] K)) : FSpec prog 89 args h K :=
  fs_run wfp [4, 5, 10, 12, 13, 14, 24] Go.Proofs.Try.func89 _ rfl (by kernel_rfl) (by kernel_rfl) (by kernel_rfl) Go.Proofs.Try.ntmps89 (by rw [hn]; decide) hw
theorem run_90 {args : List AV} {R : AV → Prop} (hn : args.length = 3) (hw : ∀ h, Rn prog [.code (bodyOf Go.Proofs.Try.f90)] .normal (env0 0 args [6, 7, 16]) h (Fin prog [.tmp 6] h R)) : Pure prog 90 args R :=
  fn_run wfp [6, 7, 16] Go.Proofs.Try.func90 _ rfl (by kernel_rfl) (by kernel_rfl) (by kernel_rfl) Go.Proofs.Try.ntmps90 (by rw [hn]; decide) hw
theorem frun_90 {args : List AV} {h : List Entry} {K : AV → List Entry → Prop} (hn : args.length = 3) (hw : Rn prog [.code (bodyOf Go.Proofs.Try.f90)] .normal (env0 0 args [6, 7, 16]) h (FinK prog [.tmp 6] K)) : FSpec prog 90 args h K :=
  fs_run wfp [6, 7, 16] Go.Proofs.Try.func90 _ rfl (by kernel_rfl) (by kernel_rfl) (by kernel_rfl) Go.Proofs.Try.ntmps90 (by rw [hn]; decide) hw
theorem run_91 {args : List AV} {R : AV → Prop} (hn : args.length = 3) (hw : ∀ h, Rn prog [.code (bodyOf Go.Proofs.Try.f91)] .normal (env0 0 args [6, 7, 16]) h (Fin prog [.tmp 6] h R)) : Pure prog 91 args R :=
  fn_run wfp [6, 7, 16] Go.Proofs.Try.func91 _ rfl (by kernel_rfl) (by kernel_rfl) (by kernel_rfl) Go.Proofs.Try.ntmps91 (by rw [hn]; decide) hw
theorem frun_91 {args : List AV} {h : List Entry} {K : AV → List Entry → Prop} (hn : args.length = 3) (hw : Rn prog [.code (bodyOf Go.Proofs.Try.f91)] .normal (env0 0 args [6, 7, 16]) h (FinK prog [.tmp 6] K)) : FSpec prog 91 args h K :=
  fs_run wfp [6, 7, 16] Go.Proofs.Try.func91 _ rfl (by kernel_rfl) (by kernel_rfl) (by kernel_rfl) Go.Proofs.Try.ntmps91 (by rw [hn]; decide) hw
theorem run_92 {args : List AV} {R : AV → Prop} (hn : args.length = 2) (hw : ∀ h, Rn prog [.code (bodyOf Go.Proofs.Try.f92)] .normal (env0 0 args [4, 5, 7, 8, 9, 16]) h (Fin prog [.tmp 4] h R)) : Pure prog 92 args R :=
  fn_run wfp [4, 5, 7, 8, 9, 16] Go.Proofs.Try.func92 _ rfl (by kernel_rfl) (by kernel_rfl) (by kernel_rfl) Go.Proofs.Try.ntmps92 (by rw [hn]; decide) hw
theorem frun_92 {args : List AV} {h : List Entry} {K : AV → List Entry → Prop} (hn : args.length = 2) (hw : Rn prog [.code (bodyOf Go.Proofs.Try.f92)] .normal (env0 0 args [4, 5, 7, 8, 9, 16]) h (FinK prog [.tmp 4] K)) : FSpec prog 92 args h K :=
  fs_run wfp [4, 5, 7, 8, 9, 16] Go.Proofs.Try.func92 _ rfl (by kernel_rfl) (by kernel_rfl) (by kernel_rfl) Go.Proofs.Try.ntmps92 (by rw [hn]; decide) hw
end Go.Abs
