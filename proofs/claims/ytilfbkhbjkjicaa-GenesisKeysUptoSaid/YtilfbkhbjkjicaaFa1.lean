/- Fa1: a part of the proofs about the tuple space and its bytes. -/
import Derived.Test.YtilfbkhbjkjicaaWl
import Derived.Test.YtilfbkhbjkjicaaProg
set_option linter.all false
set_option maxRecDepth 100000
set_option maxHeartbeats 0
namespace Go.Abs
open Go
open Go.Proofs.Try (prog)

theorem wfp : WF prog := wf_of_table (by kernel_rfl)
theorem hmix : prog.follows .mixedOrders = true := by kernel_rfl
@[push_cast] def bodyOf (f : Func) : Code := f.body.getD .skip
structure Hold (p : Prop) : Prop where
  go : p
theorem fn_runH {P : Program} (hP : WF P) {f : FuncId} {fn : Func} {x : Code} {args : List AV} {R : AV → Prop} (ks : List Nat) (hf : P.funcs[f]? = some fn) (rs : List ResultVar) (hb : fn.body = some x) (hrs : fn.results.toList = rs) (hc : callable P f = true)
    (hok : codeOK fn.ntmps x = true) {m : Nat} (hm : fn.ntmps = m) (hn : args.length ≤ m) (hw : ∀ h, Hold (Rn P [.code x] .normal (env0 0 args ks) h (Fin P rs h R))) : Pure P f args R :=
  fn_run hP ks hf rs hb hrs hc hok hm hn fun h => (hw h).go
@[push_cast] theorem sh_2 : shapeT prog 2 = .int .i64 := by kernel_rfl
@[push_cast] theorem ok_2 : okT prog 2 = true := by kernel_rfl
@[push_cast] theorem zo_2 : zOK prog 2 = true := by kernel_rfl
@[push_cast] theorem za_2 : zeroAV prog 2 = .int .i64 0 := by kernel_rfl
@[push_cast] theorem ce_2 : prog.cellsOf 2 = 1 := by kernel_rfl
@[push_cast] theorem ro_2 (k : Nat) : roomOK prog 2 k = decide (k ≤ 4294967296) := room_of (by kernel_rfl) zo_2
@[push_cast] theorem sh_3 : shapeT prog 3 = .int .i64 := by kernel_rfl
@[push_cast] theorem ok_3 : okT prog 3 = true := by kernel_rfl
@[push_cast] theorem zo_3 : zOK prog 3 = true := by kernel_rfl
@[push_cast] theorem za_3 : zeroAV prog 3 = .int .i64 0 := by kernel_rfl
@[push_cast] theorem ce_3 : prog.cellsOf 3 = 1 := by kernel_rfl
@[push_cast] theorem ro_3 (k : Nat) : roomOK prog 3 k = decide (k ≤ 4294967296) := room_of (by kernel_rfl) zo_3
@[push_cast] theorem sh_4 : shapeT prog 4 = .bool := by kernel_rfl
@[push_cast] theorem ok_4 : okT prog 4 = true := by kernel_rfl
@[push_cast] theorem zo_4 : zOK prog 4 = true := by kernel_rfl
@[push_cast] theorem za_4 : zeroAV prog 4 = .bool false := by kernel_rfl
@[push_cast] theorem ce_4 : prog.cellsOf 4 = 1 := by kernel_rfl
@[push_cast] theorem ro_4 (k : Nat) : roomOK prog 4 k = decide (k ≤ 4294967296) := room_of (by kernel_rfl) zo_4
@[push_cast] theorem sh_5 : shapeT prog 5 = .int .u8 := by kernel_rfl
@[push_cast] theorem ok_5 : okT prog 5 = true := by kernel_rfl
@[push_cast] theorem zo_5 : zOK prog 5 = true := by kernel_rfl
@[push_cast] theorem za_5 : zeroAV prog 5 = .int .u8 0 := by kernel_rfl
@[push_cast] theorem ce_5 : prog.cellsOf 5 = 1 := by kernel_rfl
@[push_cast] theorem ro_5 (k : Nat) : roomOK prog 5 k = decide (k ≤ 4294967296) := room_of (by kernel_rfl) zo_5
@[push_cast] theorem sh_9 : shapeT prog 9 = .str := by kernel_rfl
@[push_cast] theorem ok_9 : okT prog 9 = true := by kernel_rfl
@[push_cast] theorem zo_9 : zOK prog 9 = true := by kernel_rfl
@[push_cast] theorem za_9 : zeroAV prog 9 = .str ByteArray.empty := by kernel_rfl
@[push_cast] theorem ce_9 : prog.cellsOf 9 = 1 := by kernel_rfl
@[push_cast] theorem ro_9 (k : Nat) : roomOK prog 9 k = decide (k ≤ 4294967296) := room_of (by kernel_rfl) zo_9
@[push_cast] theorem sh_22 : shapeT prog 22 = .slice 87 := by kernel_rfl
@[push_cast] theorem ok_22 : okT prog 22 = true := by kernel_rfl
@[push_cast] theorem zo_22 : zOK prog 22 = true := by kernel_rfl
@[push_cast] theorem za_22 : zeroAV prog 22 = .nils := by kernel_rfl
@[push_cast] theorem ce_22 : prog.cellsOf 22 = 1 := by kernel_rfl
@[push_cast] theorem ro_22 (k : Nat) : roomOK prog 22 k = decide (k ≤ 4294967296) := room_of (by kernel_rfl) zo_22
@[push_cast] theorem sh_23 : shapeT prog 23 = .slice 89 := by kernel_rfl
@[push_cast] theorem ok_23 : okT prog 23 = true := by kernel_rfl
@[push_cast] theorem zo_23 : zOK prog 23 = true := by kernel_rfl
@[push_cast] theorem za_23 : zeroAV prog 23 = .nils := by kernel_rfl
@[push_cast] theorem ce_23 : prog.cellsOf 23 = 1 := by kernel_rfl
@[push_cast] theorem ro_23 (k : Nat) : roomOK prog 23 k = decide (k ≤ 4294967296) := room_of (by kernel_rfl) zo_23
@[push_cast] theorem sh_24 : shapeT prog 24 = .slice 160 := by kernel_rfl
@[push_cast] theorem ok_24 : okT prog 24 = true := by kernel_rfl
@[push_cast] theorem zo_24 : zOK prog 24 = true := by kernel_rfl
@[push_cast] theorem za_24 : zeroAV prog 24 = .nils := by kernel_rfl
@[push_cast] theorem ce_24 : prog.cellsOf 24 = 1 := by kernel_rfl
@[push_cast] theorem ro_24 (k : Nat) : roomOK prog 24 k = decide (k ≤ 4294967296) := room_of (by kernel_rfl) zo_24
@[push_cast] theorem sh_26 : shapeT prog 26 = .struct := by kernel_rfl
@[push_cast] theorem fl_26 : fieldsT prog 26 = [(3, 0), (3, 1), (3, 2), (24, 3), (4, 4)] := by kernel_rfl
@[push_cast] theorem po_26 : partsOK prog 26 = true := by kernel_rfl
@[push_cast] theorem ok_26 : okT prog 26 = true := by kernel_rfl
@[push_cast] theorem zo_26 : zOK prog 26 = true := by kernel_rfl
@[push_cast] theorem za_26 : zeroAV prog 26 = .agg 26 [.int .i64 0, .int .i64 0, .int .i64 0, .nils, .bool false] := by kernel_rfl
@[push_cast] theorem ce_26 : prog.cellsOf 26 = 5 := by kernel_rfl
@[push_cast] theorem ro_26 (k : Nat) : roomOK prog 26 k = decide (k ≤ 4294967296) := room_of (by kernel_rfl) zo_26
@[push_cast] theorem sh_27 : shapeT prog 27 = .arr 4 26 := by kernel_rfl
@[push_cast] theorem po_27 : partsOK prog 27 = true := by kernel_rfl
@[push_cast] theorem ok_27 : okT prog 27 = true := by kernel_rfl
@[push_cast] theorem zo_27 : zOK prog 27 = true := by kernel_rfl
@[push_cast] theorem za_27 : zeroAV prog 27 = .agg 27 [.agg 26 [.int .i64 0, .int .i64 0, .int .i64 0, .nils, .bool false], .agg 26 [.int .i64 0, .int .i64 0, .int .i64 0, .nils, .bool false], .agg 26 [.int .i64 0, .int .i64 0, .int .i64 0, .nils, .bool false], .agg 26 [.int .i64 0, .int .i64 0, .int .i64 0, .nils, .bool false]] := by kernel_rfl
@[push_cast] theorem ce_27 : prog.cellsOf 27 = 20 := by kernel_rfl
@[push_cast] theorem ro_27 (k : Nat) : roomOK prog 27 k = decide (k ≤ 4294967296) := room_of (by kernel_rfl) zo_27
@[push_cast] theorem sh_29 : shapeT prog 29 = .struct := by kernel_rfl
@[push_cast] theorem fl_29 : fieldsT prog 29 = [(3, 0), (22, 1), (23, 2), (3, 3), (3, 4), (27, 5)] := by kernel_rfl
@[push_cast] theorem po_29 : partsOK prog 29 = true := by kernel_rfl
@[push_cast] theorem ok_29 : okT prog 29 = true := by kernel_rfl
@[push_cast] theorem zo_29 : zOK prog 29 = true := by kernel_rfl
@[push_cast] theorem za_29 : zeroAV prog 29 = .agg 29 [.int .i64 0, .nils, .nils, .int .i64 0, .int .i64 0, .agg 27 [.agg 26 [.int .i64 0, .int .i64 0, .int .i64 0, .nils, .bool false], .agg 26 [.int .i64 0, .int .i64 0, .int .i64 0, .nils, .bool false], .agg 26 [.int .i64 0, .int .i64 0, .int .i64 0, .nils, .bool false], .agg 26 [.int .i64 0, .int .i64 0, .int .i64 0, .nils, .bool false]]] := by kernel_rfl
@[push_cast] theorem ce_29 : prog.cellsOf 29 = 25 := by kernel_rfl
@[push_cast] theorem ro_29 (k : Nat) : roomOK prog 29 k = decide (k ≤ 4294967296) := room_of (by kernel_rfl) zo_29
@[push_cast] theorem sh_30 : shapeT prog 30 = .slice 5 := by kernel_rfl
@[push_cast] theorem ok_30 : okT prog 30 = true := by kernel_rfl
@[push_cast] theorem zo_30 : zOK prog 30 = true := by kernel_rfl
@[push_cast] theorem za_30 : zeroAV prog 30 = .nils := by kernel_rfl
@[push_cast] theorem ce_30 : prog.cellsOf 30 = 1 := by kernel_rfl
@[push_cast] theorem ro_30 (k : Nat) : roomOK prog 30 k = decide (k ≤ 4294967296) := room_of (by kernel_rfl) zo_30
@[push_cast] theorem sh_36 : shapeT prog 36 = .arr 32 5 := by kernel_rfl
@[push_cast] theorem po_36 : partsOK prog 36 = true := by kernel_rfl
@[push_cast] theorem ok_36 : okT prog 36 = true := by kernel_rfl
@[push_cast] theorem zo_36 : zOK prog 36 = true := by kernel_rfl
@[push_cast] theorem za_36 : zeroAV prog 36 = .agg 36 [.int .u8 0, .int .u8 0, .int .u8 0, .int .u8 0, .int .u8 0, .int .u8 0, .int .u8 0, .int .u8 0, .int .u8 0, .int .u8 0, .int .u8 0, .int .u8 0, .int .u8 0, .int .u8 0, .int .u8 0, .int .u8 0, .int .u8 0, .int .u8 0, .int .u8 0, .int .u8 0, .int .u8 0, .int .u8 0, .int .u8 0, .int .u8 0, .int .u8 0, .int .u8 0, .int .u8 0, .int .u8 0, .int .u8 0, .int .u8 0, .int .u8 0, .int .u8 0] := by kernel_rfl
@[push_cast] theorem ce_36 : prog.cellsOf 36 = 32 := by kernel_rfl
@[push_cast] theorem ro_36 (k : Nat) : roomOK prog 36 k = decide (k ≤ 4294967296) := room_of (by kernel_rfl) zo_36
@[push_cast] theorem sh_39 : shapeT prog 39 = .func := by kernel_rfl
@[push_cast] theorem ok_39 : okT prog 39 = true := by kernel_rfl
@[push_cast] theorem zo_39 : zOK prog 39 = true := by kernel_rfl
@[push_cast] theorem za_39 : zeroAV prog 39 = .nilfn := by kernel_rfl
@[push_cast] theorem ce_39 : prog.cellsOf 39 = 1 := by kernel_rfl
@[push_cast] theorem ro_39 (k : Nat) : roomOK prog 39 k = decide (k ≤ 4294967296) := room_of (by kernel_rfl) zo_39
@[push_cast] theorem sh_55 : shapeT prog 55 = .int .u64 := by kernel_rfl
@[push_cast] theorem ok_55 : okT prog 55 = true := by kernel_rfl
@[push_cast] theorem zo_55 : zOK prog 55 = true := by kernel_rfl
@[push_cast] theorem za_55 : zeroAV prog 55 = .int .u64 0 := by kernel_rfl
@[push_cast] theorem ce_55 : prog.cellsOf 55 = 1 := by kernel_rfl
@[push_cast] theorem ro_55 (k : Nat) : roomOK prog 55 k = decide (k ≤ 4294967296) := room_of (by kernel_rfl) zo_55
@[push_cast] theorem sh_60 : shapeT prog 60 = .struct := by kernel_rfl
@[push_cast] theorem fl_60 : fieldsT prog 60 = [(3, 0), (3, 1), (3, 2), (24, 3), (24, 4), (3, 5)] := by kernel_rfl
@[push_cast] theorem po_60 : partsOK prog 60 = true := by kernel_rfl
@[push_cast] theorem ok_60 : okT prog 60 = true := by kernel_rfl
@[push_cast] theorem zo_60 : zOK prog 60 = true := by kernel_rfl
@[push_cast] theorem za_60 : zeroAV prog 60 = .agg 60 [.int .i64 0, .int .i64 0, .int .i64 0, .nils, .nils, .int .i64 0] := by kernel_rfl
@[push_cast] theorem ce_60 : prog.cellsOf 60 = 6 := by kernel_rfl
@[push_cast] theorem ro_60 (k : Nat) : roomOK prog 60 k = decide (k ≤ 4294967296) := room_of (by kernel_rfl) zo_60
@[push_cast] theorem sh_70 : shapeT prog 70 = .slice 30 := by kernel_rfl
@[push_cast] theorem ok_70 : okT prog 70 = true := by kernel_rfl
@[push_cast] theorem zo_70 : zOK prog 70 = true := by kernel_rfl
@[push_cast] theorem za_70 : zeroAV prog 70 = .nils := by kernel_rfl
@[push_cast] theorem ce_70 : prog.cellsOf 70 = 1 := by kernel_rfl
@[push_cast] theorem ro_70 (k : Nat) : roomOK prog 70 k = decide (k ≤ 4294967296) := room_of (by kernel_rfl) zo_70
@[push_cast] theorem sh_72 : shapeT prog 72 = .struct := by kernel_rfl
@[push_cast] theorem fl_72 : fieldsT prog 72 = [(3, 0), (3, 1), (3, 2), (70, 3), (30, 4)] := by kernel_rfl
@[push_cast] theorem po_72 : partsOK prog 72 = true := by kernel_rfl
@[push_cast] theorem ok_72 : okT prog 72 = true := by kernel_rfl
@[push_cast] theorem zo_72 : zOK prog 72 = true := by kernel_rfl
@[push_cast] theorem za_72 : zeroAV prog 72 = .agg 72 [.int .i64 0, .int .i64 0, .int .i64 0, .nils, .nils] := by kernel_rfl
@[push_cast] theorem ce_72 : prog.cellsOf 72 = 5 := by kernel_rfl
@[push_cast] theorem ro_72 (k : Nat) : roomOK prog 72 k = decide (k ≤ 4294967296) := room_of (by kernel_rfl) zo_72
@[push_cast] theorem sh_81 : shapeT prog 81 = .slice 3 := by kernel_rfl
@[push_cast] theorem ok_81 : okT prog 81 = true := by kernel_rfl
@[push_cast] theorem zo_81 : zOK prog 81 = true := by kernel_rfl
@[push_cast] theorem za_81 : zeroAV prog 81 = .nils := by kernel_rfl
@[push_cast] theorem ce_81 : prog.cellsOf 81 = 1 := by kernel_rfl
@[push_cast] theorem ro_81 (k : Nat) : roomOK prog 81 k = decide (k ≤ 4294967296) := room_of (by kernel_rfl) zo_81
@[push_cast] theorem sh_87 : shapeT prog 87 = .struct := by kernel_rfl
@[push_cast] theorem fl_87 : fieldsT prog 87 = [(3, 0), (3, 1), (24, 2)] := by kernel_rfl
@[push_cast] theorem po_87 : partsOK prog 87 = true := by kernel_rfl
@[push_cast] theorem ok_87 : okT prog 87 = true := by kernel_rfl
@[push_cast] theorem zo_87 : zOK prog 87 = true := by kernel_rfl
@[push_cast] theorem za_87 : zeroAV prog 87 = .agg 87 [.int .i64 0, .int .i64 0, .nils] := by kernel_rfl
@[push_cast] theorem ce_87 : prog.cellsOf 87 = 3 := by kernel_rfl
@[push_cast] theorem ro_87 (k : Nat) : roomOK prog 87 k = decide (k ≤ 4294967296) := room_of (by kernel_rfl) zo_87
@[push_cast] theorem sh_89 : shapeT prog 89 = .struct := by kernel_rfl
@[push_cast] theorem fl_89 : fieldsT prog 89 = [(3, 0), (3, 1), (4, 2), (24, 3)] := by kernel_rfl
@[push_cast] theorem po_89 : partsOK prog 89 = true := by kernel_rfl
@[push_cast] theorem ok_89 : okT prog 89 = true := by kernel_rfl
@[push_cast] theorem zo_89 : zOK prog 89 = true := by kernel_rfl
@[push_cast] theorem za_89 : zeroAV prog 89 = .agg 89 [.int .i64 0, .int .i64 0, .bool false, .nils] := by kernel_rfl
@[push_cast] theorem ce_89 : prog.cellsOf 89 = 4 := by kernel_rfl
@[push_cast] theorem ro_89 (k : Nat) : roomOK prog 89 k = decide (k ≤ 4294967296) := room_of (by kernel_rfl) zo_89
@[push_cast] theorem sh_94 : shapeT prog 94 = .struct := by kernel_rfl
@[push_cast] theorem fl_94 : fieldsT prog 94 = [(30, 0)] := by kernel_rfl
@[push_cast] theorem po_94 : partsOK prog 94 = true := by kernel_rfl
@[push_cast] theorem ok_94 : okT prog 94 = true := by kernel_rfl
@[push_cast] theorem zo_94 : zOK prog 94 = true := by kernel_rfl
@[push_cast] theorem za_94 : zeroAV prog 94 = .agg 94 [.nils] := by kernel_rfl
@[push_cast] theorem ce_94 : prog.cellsOf 94 = 1 := by kernel_rfl
@[push_cast] theorem ro_94 (k : Nat) : roomOK prog 94 k = decide (k ≤ 4294967296) := room_of (by kernel_rfl) zo_94
@[push_cast] theorem sh_96 : shapeT prog 96 = .int .u64 := by kernel_rfl
@[push_cast] theorem ok_96 : okT prog 96 = true := by kernel_rfl
@[push_cast] theorem zo_96 : zOK prog 96 = true := by kernel_rfl
@[push_cast] theorem za_96 : zeroAV prog 96 = .int .u64 0 := by kernel_rfl
@[push_cast] theorem ce_96 : prog.cellsOf 96 = 1 := by kernel_rfl
@[push_cast] theorem ro_96 (k : Nat) : roomOK prog 96 k = decide (k ≤ 4294967296) := room_of (by kernel_rfl) zo_96
@[push_cast] theorem sh_105 : shapeT prog 105 = .ptr 162 := by kernel_rfl
@[push_cast] theorem ok_105 : okT prog 105 = true := by kernel_rfl
@[push_cast] theorem zo_105 : zOK prog 105 = true := by kernel_rfl
@[push_cast] theorem za_105 : zeroAV prog 105 = .nilptr := by kernel_rfl
@[push_cast] theorem ce_105 : prog.cellsOf 105 = 1 := by kernel_rfl
@[push_cast] theorem ro_105 (k : Nat) : roomOK prog 105 k = decide (k ≤ 4294967296) := room_of (by kernel_rfl) zo_105
@[push_cast] theorem sh_110 : shapeT prog 110 = .func := by kernel_rfl
@[push_cast] theorem ok_110 : okT prog 110 = true := by kernel_rfl
@[push_cast] theorem zo_110 : zOK prog 110 = true := by kernel_rfl
@[push_cast] theorem za_110 : zeroAV prog 110 = .nilfn := by kernel_rfl
@[push_cast] theorem ce_110 : prog.cellsOf 110 = 1 := by kernel_rfl
@[push_cast] theorem ro_110 (k : Nat) : roomOK prog 110 k = decide (k ≤ 4294967296) := room_of (by kernel_rfl) zo_110
@[push_cast] theorem sh_143 : shapeT prog 143 = .arr 7 30 := by kernel_rfl
@[push_cast] theorem po_143 : partsOK prog 143 = true := by kernel_rfl
@[push_cast] theorem ok_143 : okT prog 143 = true := by kernel_rfl
@[push_cast] theorem zo_143 : zOK prog 143 = true := by kernel_rfl
@[push_cast] theorem za_143 : zeroAV prog 143 = .agg 143 [.nils, .nils, .nils, .nils, .nils, .nils, .nils] := by kernel_rfl
@[push_cast] theorem ce_143 : prog.cellsOf 143 = 7 := by kernel_rfl
@[push_cast] theorem ro_143 (k : Nat) : roomOK prog 143 k = decide (k ≤ 4294967296) := room_of (by kernel_rfl) zo_143
@[push_cast] theorem sh_151 : shapeT prog 151 = .func := by kernel_rfl
@[push_cast] theorem ok_151 : okT prog 151 = true := by kernel_rfl
@[push_cast] theorem zo_151 : zOK prog 151 = true := by kernel_rfl
@[push_cast] theorem za_151 : zeroAV prog 151 = .nilfn := by kernel_rfl
@[push_cast] theorem ce_151 : prog.cellsOf 151 = 1 := by kernel_rfl
@[push_cast] theorem ro_151 (k : Nat) : roomOK prog 151 k = decide (k ≤ 4294967296) := room_of (by kernel_rfl) zo_151
@[push_cast] theorem sh_155 : shapeT prog 155 = .arr 4 3 := by kernel_rfl
@[push_cast] theorem po_155 : partsOK prog 155 = true := by kernel_rfl
@[push_cast] theorem ok_155 : okT prog 155 = true := by kernel_rfl
@[push_cast] theorem zo_155 : zOK prog 155 = true := by kernel_rfl
@[push_cast] theorem za_155 : zeroAV prog 155 = .agg 155 [.int .i64 0, .int .i64 0, .int .i64 0, .int .i64 0] := by kernel_rfl
@[push_cast] theorem ce_155 : prog.cellsOf 155 = 4 := by kernel_rfl
@[push_cast] theorem ro_155 (k : Nat) : roomOK prog 155 k = decide (k ≤ 4294967296) := room_of (by kernel_rfl) zo_155
@[push_cast] theorem sh_157 : shapeT prog 157 = .ptr 94 := by kernel_rfl
@[push_cast] theorem ok_157 : okT prog 157 = true := by kernel_rfl
@[push_cast] theorem zo_157 : zOK prog 157 = true := by kernel_rfl
@[push_cast] theorem za_157 : zeroAV prog 157 = .nilptr := by kernel_rfl
@[push_cast] theorem ce_157 : prog.cellsOf 157 = 1 := by kernel_rfl
@[push_cast] theorem ro_157 (k : Nat) : roomOK prog 157 k = decide (k ≤ 4294967296) := room_of (by kernel_rfl) zo_157
@[push_cast] theorem sh_160 : shapeT prog 160 = .struct := by kernel_rfl
@[push_cast] theorem fl_160 : fieldsT prog 160 = [(3, 0), (2, 1), (9, 2)] := by kernel_rfl
@[push_cast] theorem po_160 : partsOK prog 160 = true := by kernel_rfl
@[push_cast] theorem ok_160 : okT prog 160 = true := by kernel_rfl
@[push_cast] theorem zo_160 : zOK prog 160 = true := by kernel_rfl
@[push_cast] theorem za_160 : zeroAV prog 160 = .agg 160 [.int .i64 0, .int .i64 0, .str ByteArray.empty] := by kernel_rfl
@[push_cast] theorem ce_160 : prog.cellsOf 160 = 3 := by kernel_rfl
@[push_cast] theorem ro_160 (k : Nat) : roomOK prog 160 k = decide (k ≤ 4294967296) := room_of (by kernel_rfl) zo_160
@[push_cast] theorem sh_162 : shapeT prog 162 = .struct := by kernel_rfl
@[push_cast] theorem fl_162 : fieldsT prog 162 = [(30, 0), (4, 1)] := by kernel_rfl
@[push_cast] theorem po_162 : partsOK prog 162 = true := by kernel_rfl
@[push_cast] theorem ok_162 : okT prog 162 = true := by kernel_rfl
@[push_cast] theorem zo_162 : zOK prog 162 = true := by kernel_rfl
@[push_cast] theorem za_162 : zeroAV prog 162 = .agg 162 [.nils, .bool false] := by kernel_rfl
@[push_cast] theorem ce_162 : prog.cellsOf 162 = 2 := by kernel_rfl
@[push_cast] theorem ro_162 (k : Nat) : roomOK prog 162 k = decide (k ≤ 4294967296) := room_of (by kernel_rfl) zo_162
@[push_cast] theorem sh_163 : shapeT prog 163 = .ptr 184 := by kernel_rfl
@[push_cast] theorem ok_163 : okT prog 163 = true := by kernel_rfl
@[push_cast] theorem zo_163 : zOK prog 163 = true := by kernel_rfl
@[push_cast] theorem za_163 : zeroAV prog 163 = .nilptr := by kernel_rfl
@[push_cast] theorem ce_163 : prog.cellsOf 163 = 1 := by kernel_rfl
@[push_cast] theorem ro_163 (k : Nat) : roomOK prog 163 k = decide (k ≤ 4294967296) := room_of (by kernel_rfl) zo_163
@[push_cast] theorem sh_166 : shapeT prog 166 = .int .u32 := by kernel_rfl
@[push_cast] theorem ok_166 : okT prog 166 = true := by kernel_rfl
@[push_cast] theorem zo_166 : zOK prog 166 = true := by kernel_rfl
@[push_cast] theorem za_166 : zeroAV prog 166 = .int .u32 0 := by kernel_rfl
@[push_cast] theorem ce_166 : prog.cellsOf 166 = 1 := by kernel_rfl
@[push_cast] theorem ro_166 (k : Nat) : roomOK prog 166 k = decide (k ≤ 4294967296) := room_of (by kernel_rfl) zo_166
@[push_cast] theorem sh_167 : shapeT prog 167 = .arr 8 166 := by kernel_rfl
@[push_cast] theorem po_167 : partsOK prog 167 = true := by kernel_rfl
@[push_cast] theorem ok_167 : okT prog 167 = true := by kernel_rfl
@[push_cast] theorem zo_167 : zOK prog 167 = true := by kernel_rfl
@[push_cast] theorem za_167 : zeroAV prog 167 = .agg 167 [.int .u32 0, .int .u32 0, .int .u32 0, .int .u32 0, .int .u32 0, .int .u32 0, .int .u32 0, .int .u32 0] := by kernel_rfl
@[push_cast] theorem ce_167 : prog.cellsOf 167 = 8 := by kernel_rfl
@[push_cast] theorem ro_167 (k : Nat) : roomOK prog 167 k = decide (k ≤ 4294967296) := room_of (by kernel_rfl) zo_167
@[push_cast] theorem sh_180 : shapeT prog 180 = .func := by kernel_rfl
@[push_cast] theorem ok_180 : okT prog 180 = true := by kernel_rfl
@[push_cast] theorem zo_180 : zOK prog 180 = true := by kernel_rfl
@[push_cast] theorem za_180 : zeroAV prog 180 = .nilfn := by kernel_rfl
@[push_cast] theorem ce_180 : prog.cellsOf 180 = 1 := by kernel_rfl
@[push_cast] theorem ro_180 (k : Nat) : roomOK prog 180 k = decide (k ≤ 4294967296) := room_of (by kernel_rfl) zo_180
@[push_cast] theorem sh_182 : shapeT prog 182 = .arr 64 5 := by kernel_rfl
@[push_cast] theorem po_182 : partsOK prog 182 = true := by kernel_rfl
@[push_cast] theorem ok_182 : okT prog 182 = true := by kernel_rfl
@[push_cast] theorem zo_182 : zOK prog 182 = true := by kernel_rfl
@[push_cast] theorem za_182 : zeroAV prog 182 = .agg 182 [.int .u8 0, .int .u8 0, .int .u8 0, .int .u8 0, .int .u8 0, .int .u8 0, .int .u8 0, .int .u8 0, .int .u8 0, .int .u8 0, .int .u8 0, .int .u8 0, .int .u8 0, .int .u8 0, .int .u8 0, .int .u8 0, .int .u8 0, .int .u8 0, .int .u8 0, .int .u8 0, .int .u8 0, .int .u8 0, .int .u8 0, .int .u8 0, .int .u8 0, .int .u8 0, .int .u8 0, .int .u8 0, .int .u8 0, .int .u8 0, .int .u8 0, .int .u8 0, .int .u8 0, .int .u8 0, .int .u8 0, .int .u8 0, .int .u8 0, .int .u8 0, .int .u8 0, .int .u8 0, .int .u8 0, .int .u8 0, .int .u8 0, .int .u8 0, .int .u8 0, .int .u8 0, .int .u8 0, .int .u8 0, .int .u8 0, .int .u8 0, .int .u8 0, .int .u8 0, .int .u8 0, .int .u8 0, .int .u8 0, .int .u8 0, .int .u8 0, .int .u8 0, .int .u8 0, .int .u8 0, .int .u8 0, .int .u8 0, .int .u8 0, .int .u8 0] := by kernel_rfl
@[push_cast] theorem ce_182 : prog.cellsOf 182 = 64 := by kernel_rfl
@[push_cast] theorem ro_182 (k : Nat) : roomOK prog 182 k = decide (k ≤ 4294967296) := room_of (by kernel_rfl) zo_182
@[push_cast] theorem sh_184 : shapeT prog 184 = .struct := by kernel_rfl
@[push_cast] theorem fl_184 : fieldsT prog 184 = [(167, 0), (182, 8), (96, 72)] := by kernel_rfl
@[push_cast] theorem po_184 : partsOK prog 184 = true := by kernel_rfl
@[push_cast] theorem ok_184 : okT prog 184 = true := by kernel_rfl
@[push_cast] theorem zo_184 : zOK prog 184 = true := by kernel_rfl
@[push_cast] theorem za_184 : zeroAV prog 184 = .agg 184 [.agg 167 [.int .u32 0, .int .u32 0, .int .u32 0, .int .u32 0, .int .u32 0, .int .u32 0, .int .u32 0, .int .u32 0], .agg 182 [.int .u8 0, .int .u8 0, .int .u8 0, .int .u8 0, .int .u8 0, .int .u8 0, .int .u8 0, .int .u8 0, .int .u8 0, .int .u8 0, .int .u8 0, .int .u8 0, .int .u8 0, .int .u8 0, .int .u8 0, .int .u8 0, .int .u8 0, .int .u8 0, .int .u8 0, .int .u8 0, .int .u8 0, .int .u8 0, .int .u8 0, .int .u8 0, .int .u8 0, .int .u8 0, .int .u8 0, .int .u8 0, .int .u8 0, .int .u8 0, .int .u8 0, .int .u8 0, .int .u8 0, .int .u8 0, .int .u8 0, .int .u8 0, .int .u8 0, .int .u8 0, .int .u8 0, .int .u8 0, .int .u8 0, .int .u8 0, .int .u8 0, .int .u8 0, .int .u8 0, .int .u8 0, .int .u8 0, .int .u8 0, .int .u8 0, .int .u8 0, .int .u8 0, .int .u8 0, .int .u8 0, .int .u8 0, .int .u8 0, .int .u8 0, .int .u8 0, .int .u8 0, .int .u8 0, .int .u8 0, .int .u8 0, .int .u8 0, .int .u8 0, .int .u8 0], .int .u64 0] := by kernel_rfl
@[push_cast] theorem ce_184 : prog.cellsOf 184 = 73 := by kernel_rfl
@[push_cast] theorem ro_184 (k : Nat) : roomOK prog 184 k = decide (k ≤ 4294967296) := room_of (by kernel_rfl) zo_184
@[push_cast] theorem sh_185 : shapeT prog 185 = .arr 64 166 := by kernel_rfl
@[push_cast] theorem po_185 : partsOK prog 185 = true := by kernel_rfl
@[push_cast] theorem ok_185 : okT prog 185 = true := by kernel_rfl
@[push_cast] theorem zo_185 : zOK prog 185 = true := by kernel_rfl
@[push_cast] theorem za_185 : zeroAV prog 185 = .agg 185 [.int .u32 0, .int .u32 0, .int .u32 0, .int .u32 0, .int .u32 0, .int .u32 0, .int .u32 0, .int .u32 0, .int .u32 0, .int .u32 0, .int .u32 0, .int .u32 0, .int .u32 0, .int .u32 0, .int .u32 0, .int .u32 0, .int .u32 0, .int .u32 0, .int .u32 0, .int .u32 0, .int .u32 0, .int .u32 0, .int .u32 0, .int .u32 0, .int .u32 0, .int .u32 0, .int .u32 0, .int .u32 0, .int .u32 0, .int .u32 0, .int .u32 0, .int .u32 0, .int .u32 0, .int .u32 0, .int .u32 0, .int .u32 0, .int .u32 0, .int .u32 0, .int .u32 0, .int .u32 0, .int .u32 0, .int .u32 0, .int .u32 0, .int .u32 0, .int .u32 0, .int .u32 0, .int .u32 0, .int .u32 0, .int .u32 0, .int .u32 0, .int .u32 0, .int .u32 0, .int .u32 0, .int .u32 0, .int .u32 0, .int .u32 0, .int .u32 0, .int .u32 0, .int .u32 0, .int .u32 0, .int .u32 0, .int .u32 0, .int .u32 0, .int .u32 0] := by kernel_rfl
@[push_cast] theorem ce_185 : prog.cellsOf 185 = 64 := by kernel_rfl
@[push_cast] theorem ro_185 (k : Nat) : roomOK prog 185 k = decide (k ≤ 4294967296) := room_of (by kernel_rfl) zo_185
@[push_cast] theorem sh_194 : shapeT prog 194 = .struct := by kernel_rfl
@[push_cast] theorem fl_194 : fieldsT prog 194 = [(3, 0), (3, 1), (3, 2), (3, 3)] := by kernel_rfl
@[push_cast] theorem po_194 : partsOK prog 194 = true := by kernel_rfl
@[push_cast] theorem ok_194 : okT prog 194 = true := by kernel_rfl
@[push_cast] theorem zo_194 : zOK prog 194 = true := by kernel_rfl
@[push_cast] theorem za_194 : zeroAV prog 194 = .agg 194 [.int .i64 0, .int .i64 0, .int .i64 0, .int .i64 0] := by kernel_rfl
@[push_cast] theorem ce_194 : prog.cellsOf 194 = 4 := by kernel_rfl
@[push_cast] theorem ro_194 (k : Nat) : roomOK prog 194 k = decide (k ≤ 4294967296) := room_of (by kernel_rfl) zo_194
@[push_cast] theorem sh_195 : shapeT prog 195 = .arr 4 194 := by kernel_rfl
@[push_cast] theorem po_195 : partsOK prog 195 = true := by kernel_rfl
@[push_cast] theorem ok_195 : okT prog 195 = true := by kernel_rfl
@[push_cast] theorem zo_195 : zOK prog 195 = true := by kernel_rfl
@[push_cast] theorem za_195 : zeroAV prog 195 = .agg 195 [.agg 194 [.int .i64 0, .int .i64 0, .int .i64 0, .int .i64 0], .agg 194 [.int .i64 0, .int .i64 0, .int .i64 0, .int .i64 0], .agg 194 [.int .i64 0, .int .i64 0, .int .i64 0, .int .i64 0], .agg 194 [.int .i64 0, .int .i64 0, .int .i64 0, .int .i64 0]] := by kernel_rfl
@[push_cast] theorem ce_195 : prog.cellsOf 195 = 16 := by kernel_rfl
@[push_cast] theorem ro_195 (k : Nat) : roomOK prog 195 k = decide (k ≤ 4294967296) := room_of (by kernel_rfl) zo_195
@[push_cast] theorem sh_202 : shapeT prog 202 = .func := by kernel_rfl
@[push_cast] theorem ok_202 : okT prog 202 = true := by kernel_rfl
@[push_cast] theorem zo_202 : zOK prog 202 = true := by kernel_rfl
@[push_cast] theorem za_202 : zeroAV prog 202 = .nilfn := by kernel_rfl
@[push_cast] theorem ce_202 : prog.cellsOf 202 = 1 := by kernel_rfl
@[push_cast] theorem ro_202 (k : Nat) : roomOK prog 202 k = decide (k ≤ 4294967296) := room_of (by kernel_rfl) zo_202
theorem run_7 {args : List AV} {R : AV → Prop} (hn : args.length = 4) (hw : ∀ h, Rn prog [.code (bodyOf Go.Proofs.Try.f7)] .normal (env0 0 args [8, 9, 10, 11, 12, 13, 14, 31, 57]) h (Fin prog [.tmp 8] h R)) : Pure prog 7 args R :=
  fn_run wfp [8, 9, 10, 11, 12, 13, 14, 31, 57] Go.Proofs.Try.func7 _ rfl (by kernel_rfl) (by kernel_rfl) (by kernel_rfl) Go.Proofs.Try.ntmps7 (by rw [hn]; decide) hw
theorem run_8 {args : List AV} {R : AV → Prop} (hn : args.length = 5) (hw : ∀ h, Rn prog [.code (bodyOf Go.Proofs.Try.f8)] .normal (env0 0 args [10, 11, 12, 13, 14, 15, 16, 17, 18, 19, 40, 66]) h (Fin prog [.tmp 10] h R)) : Pure prog 8 args R :=
  fn_run wfp [10, 11, 12, 13, 14, 15, 16, 17, 18, 19, 40, 66] Go.Proofs.Try.func8 _ rfl (by kernel_rfl) (by kernel_rfl) (by kernel_rfl) Go.Proofs.Try.ntmps8 (by rw [hn]; decide) hw
theorem run_13 {args : List AV} {R : AV → Prop} (hn : args.length = 0) (hw : ∀ h, Rn prog [.code (bodyOf Go.Proofs.Try.f13)] .normal (env0 0 args [0, 1, 2, 3, 4, 5, 6, 7, 9, 11]) h (Fin prog [.tmp 0] h R)) : Pure prog 13 args R :=
  fn_run wfp [0, 1, 2, 3, 4, 5, 6, 7, 9, 11] Go.Proofs.Try.func13 _ rfl (by kernel_rfl) (by kernel_rfl) (by kernel_rfl) Go.Proofs.Try.ntmps13 (by rw [hn]; decide) hw
theorem frun_15 {args : List AV} {h : List Entry} {K : AV → List Entry → Prop} (hn : args.length = 1) (hw : Rn prog [.code (bodyOf Go.Proofs.Try.f15)] .normal (env0 0 args [1, 2, 3, 4, 6, 8, 10, 13, 32, 33, 34, 35, 57, 58, 59, 60, 81, 82, 83]) h (FinK prog [.tmp 2, .tmp 3] K)) : FSpec prog 15 args h K :=
  fs_run wfp [1, 2, 3, 4, 6, 8, 10, 13, 32, 33, 34, 35, 57, 58, 59, 60, 81, 82, 83] Go.Proofs.Try.func15 _ rfl (by kernel_rfl) (by kernel_rfl) (by kernel_rfl) Go.Proofs.Try.ntmps15 (by rw [hn]; decide) hw
theorem frun_16 {args : List AV} {h : List Entry} {K : AV → List Entry → Prop} (hn : args.length = 1) (hw : Rn prog [.code (bodyOf Go.Proofs.Try.f16)] .normal (env0 0 args [1, 2, 3, 4, 5, 12]) h (FinK prog [.cell 2 36, .tmp 3] K)) : FSpec prog 16 args h K :=
  fs_run wfp [1, 2, 3, 4, 5, 12] Go.Proofs.Try.func16 _ rfl (by kernel_rfl) (by kernel_rfl) (by kernel_rfl) Go.Proofs.Try.ntmps16 (by rw [hn]; decide) hw
theorem run_17 {args : List AV} {R : AV → Prop} (hn : args.length = 2) (hw : ∀ h, Rn prog [.code (bodyOf Go.Proofs.Try.f17)] .normal (env0 0 args [4]) h (Fin prog [.tmp 4] h R)) : Pure prog 17 args R :=
  fn_run wfp [4] Go.Proofs.Try.func17 _ rfl (by kernel_rfl) (by kernel_rfl) (by kernel_rfl) Go.Proofs.Try.ntmps17 (by rw [hn]; decide) hw
theorem frun_20 {args : List AV} {h : List Entry} {K : AV → List Entry → Prop} (hn : args.length = 1) (hw : Rn prog [.code (bodyOf Go.Proofs.Try.f20)] .normal (env0 0 args [2, 3, 4, 5, 6, 7, 8, 9, 10, 11, 28, 48, 68, 69, 105]) h (FinK prog [.cell 2 29, .tmp 3] K)) : FSpec prog 20 args h K :=
  fs_run wfp [2, 3, 4, 5, 6, 7, 8, 9, 10, 11, 28, 48, 68, 69, 105] Go.Proofs.Try.func20 _ rfl (by kernel_rfl) (by kernel_rfl) (by kernel_rfl) Go.Proofs.Try.ntmps20 (by rw [hn]; decide) hw
theorem run_23 {args : List AV} {R : AV → Prop} (hn : args.length = 1) (hw : ∀ h, Rn prog [.code (bodyOf Go.Proofs.Try.f23)] .normal (env0 0 args [2]) h (Fin prog [.cell 2 36] h R)) : Pure prog 23 args R :=
  fn_run wfp [2] Go.Proofs.Try.func23 _ rfl (by kernel_rfl) (by kernel_rfl) (by kernel_rfl) Go.Proofs.Try.ntmps23 (by rw [hn]; decide) hw
theorem frun_36 {args : List AV} {h : List Entry} {K : AV → List Entry → Prop} (hn : args.length = 3) (hw : Rn prog [.code (bodyOf Go.Proofs.Try.f36)] .normal (env0 0 args [6, 7, 8, 9, 22]) h (FinK prog [.cell 6 72] K)) : FSpec prog 36 args h K :=
  fs_run wfp [6, 7, 8, 9, 22] Go.Proofs.Try.func36 _ rfl (by kernel_rfl) (by kernel_rfl) (by kernel_rfl) Go.Proofs.Try.ntmps36 (by rw [hn]; decide) hw
theorem run_37 {args : List AV} {R : AV → Prop} (hn : args.length = 0) (hw : ∀ h, Rn prog [.code (bodyOf Go.Proofs.Try.f37)] .normal (env0 0 args [0, 1, 2, 3, 4, 5, 7]) h (Fin prog [.tmp 0] h R)) : Pure prog 37 args R :=
  fn_run wfp [0, 1, 2, 3, 4, 5, 7] Go.Proofs.Try.func37 _ rfl (by kernel_rfl) (by kernel_rfl) (by kernel_rfl) Go.Proofs.Try.ntmps37 (by rw [hn]; decide) hw
theorem run_38 {args : List AV} {R : AV → Prop} (hn : args.length = 1) (hw : ∀ h, Rn prog [.code (bodyOf Go.Proofs.Try.f38)] .normal (env0 0 args [1, 2, 4, 5, 6, 36, 38, 39, 40, 41, 46, 51]) h (Fin prog [.tmp 2] h R)) : Pure prog 38 args R :=
  fn_run wfp [1, 2, 4, 5, 6, 36, 38, 39, 40, 41, 46, 51] Go.Proofs.Try.func38 _ rfl (by kernel_rfl) (by kernel_rfl) (by kernel_rfl) Go.Proofs.Try.ntmps38 (by rw [hn]; decide) hw
theorem frun_39 {args : List AV} {h : List Entry} {K : AV → List Entry → Prop} (hn : args.length = 1) (hw : Rn prog [.code (bodyOf Go.Proofs.Try.f39)] .normal (env0 0 args [1, 2, 3, 4, 6, 9, 23, 24, 25, 26]) h (FinK prog [.tmp 2, .tmp 3] K)) : FSpec prog 39 args h K :=
  fs_run wfp [1, 2, 3, 4, 6, 9, 23, 24, 25, 26] Go.Proofs.Try.func39 _ rfl (by kernel_rfl) (by kernel_rfl) (by kernel_rfl) Go.Proofs.Try.ntmps39 (by rw [hn]; decide) hw
theorem frun_40 {args : List AV} {h : List Entry} {K : AV → List Entry → Prop} (hn : args.length = 1) (hw : Rn prog [.code (bodyOf Go.Proofs.Try.f40)] .normal (env0 0 args [2, 3, 4, 5, 6, 7, 8, 9, 26, 27, 28, 62]) h (FinK prog [.cell 2 72, .tmp 3] K)) : FSpec prog 40 args h K :=
  fs_run wfp [2, 3, 4, 5, 6, 7, 8, 9, 26, 27, 28, 62] Go.Proofs.Try.func40 _ rfl (by kernel_rfl) (by kernel_rfl) (by kernel_rfl) Go.Proofs.Try.ntmps40 (by rw [hn]; decide) hw
theorem run_41 {args : List AV} {R : AV → Prop} (hn : args.length = 2) (hw : ∀ h, Rn prog [.code (bodyOf Go.Proofs.Try.f41)] .normal (env0 0 args [2, 3, 4]) h (Fin prog [.tmp 4] h R)) : Pure prog 41 args R :=
  fn_run wfp [2, 3, 4] Go.Proofs.Try.func41 _ rfl (by kernel_rfl) (by kernel_rfl) (by kernel_rfl) Go.Proofs.Try.ntmps41 (by rw [hn]; decide) hw
theorem run_45 {args : List AV} {R : AV → Prop} (hn : args.length = 2) (hw : ∀ h, Rn prog [.code (bodyOf Go.Proofs.Try.f45)] .normal (env0 0 args [4, 5, 6, 12, 13]) h (Fin prog [.cell 4 29] h R)) : Pure prog 45 args R :=
  fn_run wfp [4, 5, 6, 12, 13] Go.Proofs.Try.func45 _ rfl (by kernel_rfl) (by kernel_rfl) (by kernel_rfl) Go.Proofs.Try.ntmps45 (by rw [hn]; decide) hw
theorem run_52 {args : List AV} {R : AV → Prop} (hn : args.length = 1) (hw : ∀ h, Rn prog [.code (bodyOf Go.Proofs.Try.f52)] .normal (env0 0 args [1, 2, 3, 5, 7, 8, 9, 41, 43, 44, 45, 46, 53, 64, 67, 68, 69, 70, 92, 95, 96, 97, 103]) h (Fin prog [.tmp 2] h R)) : Pure prog 52 args R :=
  fn_run wfp [1, 2, 3, 5, 7, 8, 9, 41, 43, 44, 45, 46, 53, 64, 67, 68, 69, 70, 92, 95, 96, 97, 103] Go.Proofs.Try.func52 _ rfl (by kernel_rfl) (by kernel_rfl) (by kernel_rfl) Go.Proofs.Try.ntmps52 (by rw [hn]; decide) hw
theorem frun_53 {args : List AV} {h : List Entry} {K : AV → List Entry → Prop} (hn : args.length = 3) (hw : Rn prog [.code (bodyOf Go.Proofs.Try.f53)] .normal (env0 0 args [6, 16, 20]) h (FinK prog [] K)) : FSpec prog 53 args h K :=
  fs_run wfp [6, 16, 20] Go.Proofs.Try.func53 _ rfl (by kernel_rfl) (by kernel_rfl) (by kernel_rfl) Go.Proofs.Try.ntmps53 (by rw [hn]; decide) hw
theorem frun_54 {args : List AV} {h : List Entry} {K : AV → List Entry → Prop} (hn : args.length = 2) (hw : Rn prog [.code (bodyOf Go.Proofs.Try.f54)] .normal (env0 0 args []) h (FinK prog [] K)) : FSpec prog 54 args h K :=
  fs_run wfp [] Go.Proofs.Try.func54 _ rfl (by kernel_rfl) (by kernel_rfl) (by kernel_rfl) Go.Proofs.Try.ntmps54 (by rw [hn]; decide) hw
theorem run_55 {args : List AV} {R : AV → Prop} (hn : args.length = 1) (hw : ∀ h, Rn prog [.code (bodyOf Go.Proofs.Try.f55)] .normal (env0 0 args [2, 3]) h (Fin prog [.tmp 2] h R)) : Pure prog 55 args R :=
  fn_run wfp [2, 3] Go.Proofs.Try.func55 _ rfl (by kernel_rfl) (by kernel_rfl) (by kernel_rfl) Go.Proofs.Try.ntmps55 (by rw [hn]; decide) hw
theorem run_56 {args : List AV} {R : AV → Prop} (hn : args.length = 1) (hw : ∀ h, Rn prog [.code (bodyOf Go.Proofs.Try.f56)] .normal (env0 0 args [2, 3]) h (Fin prog [.tmp 2] h R)) : Pure prog 56 args R :=
  fn_run wfp [2, 3] Go.Proofs.Try.func56 _ rfl (by kernel_rfl) (by kernel_rfl) (by kernel_rfl) Go.Proofs.Try.ntmps56 (by rw [hn]; decide) hw
theorem frun_57 {args : List AV} {h : List Entry} {K : AV → List Entry → Prop} (hn : args.length = 1) (hw : Rn prog [.code (bodyOf Go.Proofs.Try.f57)] .normal (env0 0 args [2, 4]) h (FinK prog [.tmp 2] K)) : FSpec prog 57 args h K :=
  fs_run wfp [2, 4] Go.Proofs.Try.func57 _ rfl (by kernel_rfl) (by kernel_rfl) (by kernel_rfl) Go.Proofs.Try.ntmps57 (by rw [hn]; decide) hw
theorem frun_63 {args : List AV} {h : List Entry} {K : AV → List Entry → Prop} (hn : args.length = 1) (hw : Rn prog [.code (bodyOf Go.Proofs.Try.f63)] .normal (env0 0 args [2]) h (FinK prog [.tmp 2] K)) : FSpec prog 63 args h K :=
  fs_run wfp [2] Go.Proofs.Try.func63 _ rfl (by kernel_rfl) (by kernel_rfl) (by kernel_rfl) Go.Proofs.Try.ntmps63 (by rw [hn]; decide) hw
theorem frun_64 {args : List AV} {h : List Entry} {K : AV → List Entry → Prop} (hn : args.length = 1) (hw : Rn prog [.code (bodyOf Go.Proofs.Try.f64)] .normal (env0 0 args [1, 2]) h (FinK prog [.tmp 1] K)) : FSpec prog 64 args h K :=
  fs_run wfp [1, 2] Go.Proofs.Try.func64 _ rfl (by kernel_rfl) (by kernel_rfl) (by kernel_rfl) Go.Proofs.Try.ntmps64 (by rw [hn]; decide) hw
theorem frun_65 {args : List AV} {h : List Entry} {K : AV → List Entry → Prop} (hn : args.length = 1) (hw : Rn prog [.code (bodyOf Go.Proofs.Try.f65)] .normal (env0 0 args [2, 3, 4, 5, 6, 7, 14, 22, 23, 29, 46]) h (FinK prog [.tmp 2, .tmp 3] K)) : FSpec prog 65 args h K :=
  fs_run wfp [2, 3, 4, 5, 6, 7, 14, 22, 23, 29, 46] Go.Proofs.Try.func65 _ rfl (by kernel_rfl) (by kernel_rfl) (by kernel_rfl) Go.Proofs.Try.ntmps65 (by rw [hn]; decide) hw
theorem frun_66 {args : List AV} {h : List Entry} {K : AV → List Entry → Prop} (hn : args.length = 2) (hw : Rn prog [.code (bodyOf Go.Proofs.Try.f66)] .normal (env0 0 args [4, 5, 12]) h (FinK prog [.tmp 4] K)) : FSpec prog 66 args h K :=
  fs_run wfp [4, 5, 12] Go.Proofs.Try.func66 _ rfl (by kernel_rfl) (by kernel_rfl) (by kernel_rfl) Go.Proofs.Try.ntmps66 (by rw [hn]; decide) hw
theorem frun_67 {args : List AV} {h : List Entry} {K : AV → List Entry → Prop} (hn : args.length = 2) (hw : Rn prog [.code (bodyOf Go.Proofs.Try.f67)] .normal (env0 0 args [4, 5, 6, 12, 16, 17, 18, 19]) h (FinK prog [.tmp 4] K)) : FSpec prog 67 args h K :=
  fs_run wfp [4, 5, 6, 12, 16, 17, 18, 19] Go.Proofs.Try.func67 _ rfl (by kernel_rfl) (by kernel_rfl) (by kernel_rfl) Go.Proofs.Try.ntmps67 (by rw [hn]; decide) hw
theorem frun_68 {args : List AV} {h : List Entry} {K : AV → List Entry → Prop} (hn : args.length = 1) (hw : Rn prog [.code (bodyOf Go.Proofs.Try.f68)] .normal (env0 0 args [2, 13]) h (FinK prog [.tmp 2] K)) : FSpec prog 68 args h K :=
  fs_run wfp [2, 13] Go.Proofs.Try.func68 _ rfl (by kernel_rfl) (by kernel_rfl) (by kernel_rfl) Go.Proofs.Try.ntmps68 (by rw [hn]; decide) hw
theorem run_69 {args : List AV} {R : AV → Prop} (hn : args.length = 2) (hw : ∀ h, Rn prog [.code (bodyOf Go.Proofs.Try.f69)] .normal (env0 0 args [4, 5, 10, 12, 13, 14, 24]) h (Fin prog [.tmp 4] h R)) : Pure prog 69 args R :=
  fn_run wfp [4, 5, 10, 12, 13, 14, 24] Go.Proofs.Try.func69 _ rfl (by kernel_rfl) (by kernel_rfl) (by kernel_rfl) Go.Proofs.Try.ntmps69 (by rw [hn]; decide) hw
theorem run_77 {args : List AV} {R : AV → Prop} (hn : args.length = 1) (hw : ∀ h, Rn prog [.code (bodyOf Go.Proofs.Try.f77)] .normal (env0 0 args [2, 3]) h (Fin prog [.cell 2 36] h R)) : Pure prog 77 args R :=
  fn_run wfp [2, 3] Go.Proofs.Try.func77 _ rfl (by kernel_rfl) (by kernel_rfl) (by kernel_rfl) Go.Proofs.Try.ntmps77 (by rw [hn]; decide) hw
theorem run_97 {args : List AV} {R : AV → Prop} (hn : args.length = 1) (hw : ∀ h, Rn prog [.code (bodyOf Go.Proofs.Try.f97)] .normal (env0 0 args [1, 2, 3, 4, 11]) h (Fin prog [.cell 2 36] h R)) : Pure prog 97 args R :=
  fn_run wfp [1, 2, 3, 4, 11] Go.Proofs.Try.func97 _ rfl (by kernel_rfl) (by kernel_rfl) (by kernel_rfl) Go.Proofs.Try.ntmps97 (by rw [hn]; decide) hw
theorem run_98 {args : List AV} {R : AV → Prop} (hn : args.length = 1) (hw : ∀ h, Rn prog [.code (bodyOf Go.Proofs.Try.f98)] .normal (env0 0 args [1, 2, 3, 4, 8]) h (Fin prog [.cell 2 36] h R)) : Pure prog 98 args R :=
  fn_run wfp [1, 2, 3, 4, 8] Go.Proofs.Try.func98 _ rfl (by kernel_rfl) (by kernel_rfl) (by kernel_rfl) Go.Proofs.Try.ntmps98 (by rw [hn]; decide) hw
theorem run_99 {args : List AV} {R : AV → Prop} (hn : args.length = 1) (hw : ∀ h, Rn prog [.code (bodyOf Go.Proofs.Try.f99)] .normal (env0 0 args [1, 2, 3, 7, 12]) h (Fin prog [.cell 2 29] h R)) : Pure prog 99 args R :=
  fn_run wfp [1, 2, 3, 7, 12] Go.Proofs.Try.func99 _ rfl (by kernel_rfl) (by kernel_rfl) (by kernel_rfl) Go.Proofs.Try.ntmps99 (by rw [hn]; decide) hw
theorem run_100 {args : List AV} {R : AV → Prop} (hn : args.length = 1) (hw : ∀ h, Rn prog [.code (bodyOf Go.Proofs.Try.f100)] .normal (env0 0 args [2]) h (Fin prog [.tmp 2] h R)) : Pure prog 100 args R :=
  fn_run wfp [2] Go.Proofs.Try.func100 _ rfl (by kernel_rfl) (by kernel_rfl) (by kernel_rfl) Go.Proofs.Try.ntmps100 (by rw [hn]; decide) hw
theorem frun_101 {args : List AV} {h : List Entry} {K : AV → List Entry → Prop} (hn : args.length = 2) (hw : Rn prog [.code (bodyOf Go.Proofs.Try.f101)] .normal (env0 0 args [5]) h (FinK prog [] K)) : FSpec prog 101 args h K :=
  fs_run wfp [5] Go.Proofs.Try.func101 _ rfl (by kernel_rfl) (by kernel_rfl) (by kernel_rfl) Go.Proofs.Try.ntmps101 (by rw [hn]; decide) hw
theorem frun_102 {args : List AV} {h : List Entry} {K : AV → List Entry → Prop} (hn : args.length = 2) (hw : Rn prog [.code (bodyOf Go.Proofs.Try.f102)] .normal (env0 0 args [4, 5, 9]) h (FinK prog [.tmp 4] K)) : FSpec prog 102 args h K :=
  fs_run wfp [4, 5, 9] Go.Proofs.Try.func102 _ rfl (by kernel_rfl) (by kernel_rfl) (by kernel_rfl) Go.Proofs.Try.ntmps102 (by rw [hn]; decide) hw
theorem run_103 {args : List AV} {R : AV → Prop} (hn : args.length = 3) (hw : ∀ h, Rn prog [.code (bodyOf Go.Proofs.Try.f103)] .normal (env0 0 args [6, 7, 8, 9, 14, 15, 16, 17, 18, 30]) h (Fin prog [.tmp 6] h R)) : Pure prog 103 args R :=
  fn_run wfp [6, 7, 8, 9, 14, 15, 16, 17, 18, 30] Go.Proofs.Try.func103 _ rfl (by kernel_rfl) (by kernel_rfl) (by kernel_rfl) Go.Proofs.Try.ntmps103 (by rw [hn]; decide) hw
theorem run_106 {args : List AV} {R : AV → Prop} (hn : args.length = 1) (hw : ∀ h, Rn prog [.code (bodyOf Go.Proofs.Try.f106)] .normal (env0 0 args [1, 2, 3, 4, 32, 44, 64]) h (Fin prog [.tmp 2] h R)) : Pure prog 106 args R :=
  fn_run wfp [1, 2, 3, 4, 32, 44, 64] Go.Proofs.Try.func106 _ rfl (by kernel_rfl) (by kernel_rfl) (by kernel_rfl) Go.Proofs.Try.ntmps106 (by rw [hn]; decide) hw
theorem run_115 {args : List AV} {R : AV → Prop} (hn : args.length = 2) (hw : ∀ h, Rn prog [.code (bodyOf Go.Proofs.Try.f115)] .normal (env0 0 args [2, 4]) h (Fin prog [.tmp 4] h R)) : Pure prog 115 args R :=
  fn_run wfp [2, 4] Go.Proofs.Try.func115 _ rfl (by kernel_rfl) (by kernel_rfl) (by kernel_rfl) Go.Proofs.Try.ntmps115 (by rw [hn]; decide) hw
theorem run_116 {args : List AV} {R : AV → Prop} (hn : args.length = 1) (hw : ∀ h, Rn prog [.code (bodyOf Go.Proofs.Try.f116)] .normal (env0 0 args [2]) h (Fin prog [.tmp 2] h R)) : Pure prog 116 args R :=
  fn_run wfp [2] Go.Proofs.Try.func116 _ rfl (by kernel_rfl) (by kernel_rfl) (by kernel_rfl) Go.Proofs.Try.ntmps116 (by rw [hn]; decide) hw
theorem run_117 {args : List AV} {R : AV → Prop} (hn : args.length = 1) (hw : ∀ h, Rn prog [.code (bodyOf Go.Proofs.Try.f117)] .normal (env0 0 args [2]) h (Fin prog [.tmp 2] h R)) : Pure prog 117 args R :=
  fn_run wfp [2] Go.Proofs.Try.func117 _ rfl (by kernel_rfl) (by kernel_rfl) (by kernel_rfl) Go.Proofs.Try.ntmps117 (by rw [hn]; decide) hw
theorem run_118 {args : List AV} {R : AV → Prop} (hn : args.length = 2) (hw : ∀ h, Rn prog [.code (bodyOf Go.Proofs.Try.f118)] .normal (env0 0 args [2, 4, 18, 21, 38]) h (Fin prog [.tmp 4] h R)) : Pure prog 118 args R :=
  fn_run wfp [2, 4, 18, 21, 38] Go.Proofs.Try.func118 _ rfl (by kernel_rfl) (by kernel_rfl) (by kernel_rfl) Go.Proofs.Try.ntmps118 (by rw [hn]; decide) hw
theorem frun_119 {args : List AV} {h : List Entry} {K : AV → List Entry → Prop} (hn : args.length = 1) (hw : Rn prog [.code (bodyOf Go.Proofs.Try.f119)] .normal (env0 0 args [2, 3, 4, 6, 9, 14, 15, 16, 17, 25, 26, 32]) h (FinK prog [.tmp 2, .tmp 3] K)) : FSpec prog 119 args h K :=
  fs_run wfp [2, 3, 4, 6, 9, 14, 15, 16, 17, 25, 26, 32] Go.Proofs.Try.func119 _ rfl (by kernel_rfl) (by kernel_rfl) (by kernel_rfl) Go.Proofs.Try.ntmps119 (by rw [hn]; decide) hw
theorem frun_120 {args : List AV} {h : List Entry} {K : AV → List Entry → Prop} (hn : args.length = 2) (hw : Rn prog [.code (bodyOf Go.Proofs.Try.f120)] .normal (env0 0 args [4, 6]) h (FinK prog [.tmp 4] K)) : FSpec prog 120 args h K :=
  fs_run wfp [4, 6] Go.Proofs.Try.func120 _ rfl (by kernel_rfl) (by kernel_rfl) (by kernel_rfl) Go.Proofs.Try.ntmps120 (by rw [hn]; decide) hw
theorem frun_124 {args : List AV} {h : List Entry} {K : AV → List Entry → Prop} (hn : args.length = 0) (hw : Rn prog [.code (bodyOf Go.Proofs.Try.f124)] .normal (env0 0 args [0]) h (FinK prog [.tmp 0] K)) : FSpec prog 124 args h K :=
  fs_run wfp [0] Go.Proofs.Try.func124 _ rfl (by kernel_rfl) (by kernel_rfl) (by kernel_rfl) Go.Proofs.Try.ntmps124 (by rw [hn]; decide) hw
theorem frun_125 {args : List AV} {h : List Entry} {K : AV → List Entry → Prop} (hn : args.length = 2) (hw : Rn prog [.code (bodyOf Go.Proofs.Try.f125)] .normal (env0 0 args [4, 5, 7, 25, 39]) h (FinK prog [] K)) : FSpec prog 125 args h K :=
  fs_run wfp [4, 5, 7, 25, 39] Go.Proofs.Try.func125 _ rfl (by kernel_rfl) (by kernel_rfl) (by kernel_rfl) Go.Proofs.Try.ntmps125 (by rw [hn]; decide) hw
theorem frun_126 {args : List AV} {h : List Entry} {K : AV → List Entry → Prop} (hn : args.length = 1) (hw : Rn prog [.code (bodyOf Go.Proofs.Try.f126)] .normal (env0 0 args [2, 3, 4, 5, 6, 7, 8, 9, 13, 26, 31, 49, 50, 51]) h (FinK prog [.cell 2 36] K)) : FSpec prog 126 args h K :=
  fs_run wfp [2, 3, 4, 5, 6, 7, 8, 9, 13, 26, 31, 49, 50, 51] Go.Proofs.Try.func126 _ rfl (by kernel_rfl) (by kernel_rfl) (by kernel_rfl) Go.Proofs.Try.ntmps126 (by rw [hn]; decide) hw
theorem run_128 {args : List AV} {R : AV → Prop} (hn : args.length = 2) (hw : ∀ h, Rn prog [.code (bodyOf Go.Proofs.Try.f128)] .normal (env0 0 args [4]) h (Fin prog [.tmp 4] h R)) : Pure prog 128 args R :=
  fn_run wfp [4] Go.Proofs.Try.func128 _ rfl (by kernel_rfl) (by kernel_rfl) (by kernel_rfl) Go.Proofs.Try.ntmps128 (by rw [hn]; decide) hw
theorem run_134 {args : List AV} {R : AV → Prop} (hn : args.length = 1) (hw : ∀ h, Rn prog [.code (bodyOf Go.Proofs.Try.f134)] .normal (env0 0 args [2, 3, 5, 6, 8, 9, 10, 11, 12, 20, 25, 26, 27, 28]) h (Fin prog [.tmp 2] h R)) : Pure prog 134 args R :=
  fn_run wfp [2, 3, 5, 6, 8, 9, 10, 11, 12, 20, 25, 26, 27, 28] Go.Proofs.Try.func134 _ rfl (by kernel_rfl) (by kernel_rfl) (by kernel_rfl) Go.Proofs.Try.ntmps134 (by rw [hn]; decide) hw
theorem run_135 {args : List AV} {R : AV → Prop} (hn : args.length = 1) (hw : ∀ h, Rn prog [.code (bodyOf Go.Proofs.Try.f135)] .normal (env0 0 args [2, 3, 4, 5, 7, 14, 15, 16, 17, 33]) h (Fin prog [.tmp 2] h R)) : Pure prog 135 args R :=
  fn_run wfp [2, 3, 4, 5, 7, 14, 15, 16, 17, 33] Go.Proofs.Try.func135 _ rfl (by kernel_rfl) (by kernel_rfl) (by kernel_rfl) Go.Proofs.Try.ntmps135 (by rw [hn]; decide) hw
theorem run_137 {args : List AV} {R : AV → Prop} (hn : args.length = 2) (hw : ∀ h, Rn prog [.code (bodyOf Go.Proofs.Try.f137)] .normal (env0 0 args [4]) h (Fin prog [.tmp 4] h R)) : Pure prog 137 args R :=
  fn_run wfp [4] Go.Proofs.Try.func137 _ rfl (by kernel_rfl) (by kernel_rfl) (by kernel_rfl) Go.Proofs.Try.ntmps137 (by rw [hn]; decide) hw
theorem run_138 {args : List AV} {R : AV → Prop} (hn : args.length = 1) (hw : ∀ h, Rn prog [.code (bodyOf Go.Proofs.Try.f138)] .normal (env0 0 args [2]) h (Fin prog [.tmp 2] h R)) : Pure prog 138 args R :=
  fn_run wfp [2] Go.Proofs.Try.func138 _ rfl (by kernel_rfl) (by kernel_rfl) (by kernel_rfl) Go.Proofs.Try.ntmps138 (by rw [hn]; decide) hw
theorem run_139 {args : List AV} {R : AV → Prop} (hn : args.length = 1) (hw : ∀ h, Rn prog [.code (bodyOf Go.Proofs.Try.f139)] .normal (env0 0 args [2]) h (Fin prog [.tmp 2] h R)) : Pure prog 139 args R :=
  fn_run wfp [2] Go.Proofs.Try.func139 _ rfl (by kernel_rfl) (by kernel_rfl) (by kernel_rfl) Go.Proofs.Try.ntmps139 (by rw [hn]; decide) hw
theorem run_140 {args : List AV} {R : AV → Prop} (hn : args.length = 2) (hw : ∀ h, Rn prog [.code (bodyOf Go.Proofs.Try.f140)] .normal (env0 0 args [4, 5, 7, 8, 9, 16]) h (Fin prog [.tmp 4] h R)) : Pure prog 140 args R :=
  fn_run wfp [4, 5, 7, 8, 9, 16] Go.Proofs.Try.func140 _ rfl (by kernel_rfl) (by kernel_rfl) (by kernel_rfl) Go.Proofs.Try.ntmps140 (by rw [hn]; decide) hw
theorem run_141 {args : List AV} {R : AV → Prop} (hn : args.length = 1) (hw : ∀ h, Rn prog [.code (bodyOf Go.Proofs.Try.f141)] .normal (env0 0 args [2, 4]) h (Fin prog [.tmp 2] h R)) : Pure prog 141 args R :=
  fn_run wfp [2, 4] Go.Proofs.Try.func141 _ rfl (by kernel_rfl) (by kernel_rfl) (by kernel_rfl) Go.Proofs.Try.ntmps141 (by rw [hn]; decide) hw
theorem run_142 {args : List AV} {R : AV → Prop} (hn : args.length = 1) (hw : ∀ h, Rn prog [.code (bodyOf Go.Proofs.Try.f142)] .normal (env0 0 args [2]) h (Fin prog [.tmp 2] h R)) : Pure prog 142 args R :=
  fn_run wfp [2] Go.Proofs.Try.func142 _ rfl (by kernel_rfl) (by kernel_rfl) (by kernel_rfl) Go.Proofs.Try.ntmps142 (by rw [hn]; decide) hw
theorem run_146 {args : List AV} {R : AV → Prop} (hn : args.length = 2) (hw : ∀ h, Rn prog [.code (bodyOf Go.Proofs.Try.f146)] .normal (env0 0 args [2, 3, 4]) h (Fin prog [.tmp 4] h R)) : Pure prog 146 args R :=
  fn_run wfp [2, 3, 4] Go.Proofs.Try.func146 _ rfl (by kernel_rfl) (by kernel_rfl) (by kernel_rfl) Go.Proofs.Try.ntmps146 (by rw [hn]; decide) hw
theorem run_148 {args : List AV} {R : AV → Prop} (hn : args.length = 2) (hw : ∀ h, Rn prog [.code (bodyOf Go.Proofs.Try.f148)] .normal (env0 0 args [3, 4]) h (Fin prog [.tmp 4] h R)) : Pure prog 148 args R :=
  fn_run wfp [3, 4] Go.Proofs.Try.func148 _ rfl (by kernel_rfl) (by kernel_rfl) (by kernel_rfl) Go.Proofs.Try.ntmps148 (by rw [hn]; decide) hw
theorem run_149 {args : List AV} {R : AV → Prop} (hn : args.length = 1) (hw : ∀ h, Rn prog [.code (bodyOf Go.Proofs.Try.f149)] .normal (env0 0 args [1, 2, 4, 5]) h (Fin prog [.tmp 2] h R)) : Pure prog 149 args R :=
  fn_run wfp [1, 2, 4, 5] Go.Proofs.Try.func149 _ rfl (by kernel_rfl) (by kernel_rfl) (by kernel_rfl) Go.Proofs.Try.ntmps149 (by rw [hn]; decide) hw
theorem run_150 {args : List AV} {R : AV → Prop} (hn : args.length = 0) (hw : ∀ h, Rn prog [.code (bodyOf Go.Proofs.Try.f150)] .normal (env0 0 args [0]) h (Fin prog [.cell 0 167] h R)) : Pure prog 150 args R :=
  fn_run wfp [0] Go.Proofs.Try.func150 _ rfl (by kernel_rfl) (by kernel_rfl) (by kernel_rfl) Go.Proofs.Try.ntmps150 (by rw [hn]; decide) hw
theorem frun_151 {args : List AV} {h : List Entry} {K : AV → List Entry → Prop} (hn : args.length = 2) (hw : Rn prog [.code (bodyOf Go.Proofs.Try.f151)] .normal (env0 0 args [4, 5, 6, 7, 8, 9, 10, 11, 12, 13, 14, 15, 16, 17, 18, 19, 23, 26, 27, 66, 112, 113, 203, 204]) h (FinK prog [] K)) : FSpec prog 151 args h K :=
  fs_run wfp [4, 5, 6, 7, 8, 9, 10, 11, 12, 13, 14, 15, 16, 17, 18, 19, 23, 26, 27, 66, 112, 113, 203, 204] Go.Proofs.Try.func151 _ rfl (by kernel_rfl) (by kernel_rfl) (by kernel_rfl) Go.Proofs.Try.ntmps151 (by rw [hn]; decide) hw
theorem frun_152 {args : List AV} {h : List Entry} {K : AV → List Entry → Prop} (hn : args.length = 1) (hw : Rn prog [.code (bodyOf Go.Proofs.Try.f152)] .normal (env0 0 args [2, 3, 5]) h (FinK prog [.tmp 2] K)) : FSpec prog 152 args h K :=
  fs_run wfp [2, 3, 5] Go.Proofs.Try.func152 _ rfl (by kernel_rfl) (by kernel_rfl) (by kernel_rfl) Go.Proofs.Try.ntmps152 (by rw [hn]; decide) hw
theorem run_154 {args : List AV} {R : AV → Prop} (hn : args.length = 2) (hw : ∀ h, Rn prog [.code (bodyOf Go.Proofs.Try.f154)] .normal (env0 0 args [4, 5, 10, 12, 13, 14, 24]) h (Fin prog [.tmp 4] h R)) : Pure prog 154 args R :=
  fn_run wfp [4, 5, 10, 12, 13, 14, 24] Go.Proofs.Try.func154 _ rfl (by kernel_rfl) (by kernel_rfl) (by kernel_rfl) Go.Proofs.Try.ntmps154 (by rw [hn]; decide) hw
theorem frun_155 {args : List AV} {h : List Entry} {K : AV → List Entry → Prop} (hn : args.length = 2) (hw : Rn prog [.code (bodyOf Go.Proofs.Try.f155)] .normal (env0 0 args [4, 6, 16]) h (FinK prog [.tmp 4] K)) : FSpec prog 155 args h K :=
  fs_run wfp [4, 6, 16] Go.Proofs.Try.func155 _ rfl (by kernel_rfl) (by kernel_rfl) (by kernel_rfl) Go.Proofs.Try.ntmps155 (by rw [hn]; decide) hw
theorem run_156 {args : List AV} {R : AV → Prop} (hn : args.length = 0) (hw : ∀ h, Rn prog [.code (bodyOf Go.Proofs.Try.f156)] .normal (env0 0 args [0, 1, 3, 4, 5, 6]) h (Fin prog [.tmp 0] h R)) : Pure prog 156 args R :=
  fn_run wfp [0, 1, 3, 4, 5, 6] Go.Proofs.Try.func156 _ rfl (by kernel_rfl) (by kernel_rfl) (by kernel_rfl) Go.Proofs.Try.ntmps156 (by rw [hn]; decide) hw
theorem run_157 {args : List AV} {R : AV → Prop} (hn : args.length = 1) (hw : ∀ h, Rn prog [.code (bodyOf Go.Proofs.Try.f157)] .normal (env0 0 args [2, 3]) h (Fin prog [.tmp 2] h R)) : Pure prog 157 args R :=
  fn_run wfp [2, 3] Go.Proofs.Try.func157 _ rfl (by kernel_rfl) (by kernel_rfl) (by kernel_rfl) Go.Proofs.Try.ntmps157 (by rw [hn]; decide) hw
theorem run_158 {args : List AV} {R : AV → Prop} (hn : args.length = 1) (hw : ∀ h, Rn prog [.code (bodyOf Go.Proofs.Try.f158)] .normal (env0 0 args [1, 2, 4, 5, 10]) h (Fin prog [.tmp 2] h R)) : Pure prog 158 args R :=
  fn_run wfp [1, 2, 4, 5, 10] Go.Proofs.Try.func158 _ rfl (by kernel_rfl) (by kernel_rfl) (by kernel_rfl) Go.Proofs.Try.ntmps158 (by rw [hn]; decide) hw
theorem run_163 {args : List AV} {R : AV → Prop} (hn : args.length = 2) (hw : ∀ h, Rn prog [.code (bodyOf Go.Proofs.Try.f163)] .normal (env0 0 args [2, 3]) h (Fin prog [.tmp 3] h R)) : Pure prog 163 args R :=
  fn_run wfp [2, 3] Go.Proofs.Try.func163 _ rfl (by kernel_rfl) (by kernel_rfl) (by kernel_rfl) Go.Proofs.Try.ntmps163 (by rw [hn]; decide) hw
theorem run_164 {args : List AV} {R : AV → Prop} (hn : args.length = 2) (hw : ∀ h, Rn prog [.code (bodyOf Go.Proofs.Try.f164)] .normal (env0 0 args [4]) h (Fin prog [.tmp 4] h R)) : Pure prog 164 args R :=
  fn_run wfp [4] Go.Proofs.Try.func164 _ rfl (by kernel_rfl) (by kernel_rfl) (by kernel_rfl) Go.Proofs.Try.ntmps164 (by rw [hn]; decide) hw
theorem run_165 {args : List AV} {R : AV → Prop} (hn : args.length = 2) (hw : ∀ h, Rn prog [.code (bodyOf Go.Proofs.Try.f165)] .normal (env0 0 args [4]) h (Fin prog [.tmp 4] h R)) : Pure prog 165 args R :=
  fn_run wfp [4] Go.Proofs.Try.func165 _ rfl (by kernel_rfl) (by kernel_rfl) (by kernel_rfl) Go.Proofs.Try.ntmps165 (by rw [hn]; decide) hw
theorem run_166 {args : List AV} {R : AV → Prop} (hn : args.length = 2) (hw : ∀ h, Rn prog [.code (bodyOf Go.Proofs.Try.f166)] .normal (env0 0 args [2, 3]) h (Fin prog [.tmp 3] h R)) : Pure prog 166 args R :=
  fn_run wfp [2, 3] Go.Proofs.Try.func166 _ rfl (by kernel_rfl) (by kernel_rfl) (by kernel_rfl) Go.Proofs.Try.ntmps166 (by rw [hn]; decide) hw
theorem run_167 {args : List AV} {R : AV → Prop} (hn : args.length = 0) (hw : ∀ h, Hold (Rn prog [.code (bodyOf Go.Proofs.Try.f167)] .normal (env0 0 args [0]) h (Fin prog [.cell 0 185] h R))) : Pure prog 167 args R :=
  fn_runH wfp [0] Go.Proofs.Try.func167 _ (by kernel_rfl) (by kernel_rfl) (by kernel_rfl) (by kernel_rfl) Go.Proofs.Try.ntmps167 (by rw [hn]; decide) hw

theorem run_168 {args : List AV} {R : AV → Prop} (hn : args.length = 2) (hw : ∀ h, Rn prog [.code (bodyOf Go.Proofs.Try.f168)] .normal (env0 0 args [4, 5]) h (Fin prog [.tmp 4] h R)) : Pure prog 168 args R :=
  fn_run wfp [4, 5] Go.Proofs.Try.func168 _ rfl (by kernel_rfl) (by kernel_rfl) (by kernel_rfl) Go.Proofs.Try.ntmps168 (by rw [hn]; decide) hw
theorem run_169 {args : List AV} {R : AV → Prop} (hn : args.length = 0) (hw : ∀ h, Rn prog [.code (bodyOf Go.Proofs.Try.f169)] .normal (env0 0 args [0]) h (Fin prog [.cell 0 195] h R)) : Pure prog 169 args R :=
  fn_run wfp [0] Go.Proofs.Try.func169 _ rfl (by kernel_rfl) (by kernel_rfl) (by kernel_rfl) Go.Proofs.Try.ntmps169 (by rw [hn]; decide) hw
theorem frun_170 {args : List AV} {h : List Entry} {K : AV → List Entry → Prop} (hn : args.length = 1) (hw : Rn prog [.code (bodyOf Go.Proofs.Try.f170)] .normal (env0 0 args [2, 3, 5, 6, 7, 8, 13]) h (FinK prog [.cell 2 194, .tmp 3] K)) : FSpec prog 170 args h K :=
  fs_run wfp [2, 3, 5, 6, 7, 8, 13] Go.Proofs.Try.func170 _ rfl (by kernel_rfl) (by kernel_rfl) (by kernel_rfl) Go.Proofs.Try.ntmps170 (by rw [hn]; decide) hw
theorem run_173 {args : List AV} {R : AV → Prop} (hn : args.length = 3) (hw : ∀ h, Rn prog [.code (bodyOf Go.Proofs.Try.f173)] .normal (env0 0 args [6, 7, 8, 9, 14, 15, 16, 17, 18, 30]) h (Fin prog [.tmp 6] h R)) : Pure prog 173 args R :=
  fn_run wfp [6, 7, 8, 9, 14, 15, 16, 17, 18, 30] Go.Proofs.Try.func173 _ rfl (by kernel_rfl) (by kernel_rfl) (by kernel_rfl) Go.Proofs.Try.ntmps173 (by rw [hn]; decide) hw
theorem run_174 {args : List AV} {R : AV → Prop} (hn : args.length = 2) (hw : ∀ h, Rn prog [.code (bodyOf Go.Proofs.Try.f174)] .normal (env0 0 args [2, 3, 4, 6, 7, 12, 17]) h (Fin prog [.tmp 4] h R)) : Pure prog 174 args R :=
  fn_run wfp [2, 3, 4, 6, 7, 12, 17] Go.Proofs.Try.func174 _ rfl (by kernel_rfl) (by kernel_rfl) (by kernel_rfl) Go.Proofs.Try.ntmps174 (by rw [hn]; decide) hw
theorem run_175 {args : List AV} {R : AV → Prop} (hn : args.length = 2) (hw : ∀ h, Rn prog [.code (bodyOf Go.Proofs.Try.f175)] .normal (env0 0 args [4, 5, 7, 8, 9, 16]) h (Fin prog [.tmp 4] h R)) : Pure prog 175 args R :=
  fn_run wfp [4, 5, 7, 8, 9, 16] Go.Proofs.Try.func175 _ rfl (by kernel_rfl) (by kernel_rfl) (by kernel_rfl) Go.Proofs.Try.ntmps175 (by rw [hn]; decide) hw
end Go.Abs
