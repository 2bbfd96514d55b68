/- Fa1: a part of the proofs about the tuple space and its bytes. -/
import Derived.Test.YtilfbkhbjkjicaaWl
import Derived.Test.YtilfbkhbjkjicaaProg
set_option linter.all false
set_option maxRecDepth 100000
set_option maxHeartbeats 0
namespace Go.Abs
open Go
open Go.Proofs.Try (prog)

theorem wfp : WF prog := wf_of_table (by kernel_rfl)
theorem hmix : prog.follows .mixedOrders = true := by kernel_rfl
@[push_cast] def bodyOf (f : Func) : Code := f.body.getD .skip
structure Hold (p : Prop) : Prop where
  go : p
theorem fn_runH {P : Program} (hP : WF P) {f : FuncId} {fn : Func} {x : Code} {args : List AV} {R : AV → Prop} (ks : List Nat) (hf : P.funcs[f]? = some fn) (rs : List ResultVar) (hb : fn.body = some x) (hrs : fn.results.toList = rs) (hc : callable P f = true)
    (hok : codeOK fn.ntmps x = true) {m : Nat} (hm : fn.ntmps = m) (hn : args.length ≤ m) (hw : ∀ h, Hold (Rn P [.code x] .normal (env0 0 args ks) h (Fin P rs h R))) : Pure P f args R :=
  fn_run hP ks hf rs hb hrs hc hok hm hn fun h => (hw h).go
@[push_cast] theorem sh_2 : shapeT prog 2 = .int .i64 := by kernel_rfl
@[push_cast] theorem ok_2 : okT prog 2 = true := by kernel_rfl
@[push_cast] theorem zo_2 : zOK prog 2 = true := by kernel_rfl
@[push_cast] theorem za_2 : zeroAV prog 2 = .int .i64 0 := by kernel_rfl
@[push_cast] theorem ce_2 : prog.cellsOf 2 = 1 := by kernel_rfl
@[push_cast] theorem ro_2 (k : Nat) : roomOK prog 2 k = decide (k ≤ 4294967296) := room_of (by kernel_rfl) zo_2
@[push_cast] theorem sh_3 : shapeT prog 3 = .int .i64 := by kernel_rfl
@[push_cast] theorem ok_3 : okT prog 3 = true := by kernel_rfl
@[push_cast] theorem zo_3 : zOK prog 3 = true := by kernel_rfl
@[push_cast] theorem za_3 : zeroAV prog 3 = .int .i64 0 := by kernel_rfl
@[push_cast] theorem ce_3 : prog.cellsOf 3 = 1 := by kernel_rfl
@[push_cast] theorem ro_3 (k : Nat) : roomOK prog 3 k = decide (k ≤ 4294967296) := room_of (by kernel_rfl) zo_3
@[push_cast] theorem sh_4 : shapeT prog 4 = .bool := by kernel_rfl
@[push_cast] theorem ok_4 : okT prog 4 = true := by kernel_rfl
@[push_cast] theorem zo_4 : zOK prog 4 = true := by kernel_rfl
@[push_cast] theorem za_4 : zeroAV prog 4 = .bool false := by kernel_rfl
@[push_cast] theorem ce_4 : prog.cellsOf 4 = 1 := by kernel_rfl
@[push_cast] theorem ro_4 (k : Nat) : roomOK prog 4 k = decide (k ≤ 4294967296) := room_of (by kernel_rfl) zo_4
@[push_cast] theorem sh_5 : shapeT prog 5 = .int .u8 := by kernel_rfl
@[push_cast] theorem ok_5 : okT prog 5 = true := by kernel_rfl
@[push_cast] theorem zo_5 : zOK prog 5 = true := by kernel_rfl
@[push_cast] theorem za_5 : zeroAV prog 5 = .int .u8 0 := by kernel_rfl
@[push_cast] theorem ce_5 : prog.cellsOf 5 = 1 := by kernel_rfl
@[push_cast] theorem ro_5 (k : Nat) : roomOK prog 5 k = decide (k ≤ 4294967296) := room_of (by kernel_rfl) zo_5
@[push_cast] theorem sh_9 : shapeT prog 9 = .str := by kernel_rfl
@[push_cast] theorem ok_9 : okT prog 9 = true := by kernel_rfl
@[push_cast] theorem zo_9 : zOK prog 9 = true := by kernel_rfl
@[push_cast] theorem za_9 : zeroAV prog 9 = .str ByteArray.empty := by kernel_rfl
@[push_cast] theorem ce_9 : prog.cellsOf 9 = 1 := by kernel_rfl
@[push_cast] theorem ro_9 (k : Nat) : roomOK prog 9 k = decide (k ≤ 4294967296) := room_of (by kernel_rfl) zo_9
@[push_cast] theorem sh_22 : shapeT prog 22 = .slice 87 := by kernel_rfl
@[push_cast] theorem ok_22 : okT prog 22 = true := by kernel_rfl
@[push_cast] theorem zo_22 : zOK prog 22 = true := by kernel_rfl
@[push_cast] theorem za_22 : zeroAV prog 22 = .nils := by kernel_rfl
@[push_cast] theorem ce_22 : prog.cellsOf 22 = 1 := by kernel_rfl
@[push_cast] theorem ro_22 (k : Nat) : roomOK prog 22 k = decide (k ≤ 4294967296) := room_of (by kernel_rfl) zo_22
@[push_cast] theorem sh_23 : shapeT prog 23 = .slice 89 := by kernel_rfl
@[push_cast] theorem ok_23 : okT prog 23 = true := by kernel_rfl
@[push_cast] theorem zo_23 : zOK prog 23 = true := by kernel_rfl
@[push_cast] theorem za_23 : zeroAV prog 23 = .nils := by kernel_rfl
@[push_cast] theorem ce_23 : prog.cellsOf 23 = 1 := by kernel_rfl
@[push_cast] theorem ro_23 (k : Nat) : roomOK prog 23 k = decide (k ≤ 4294967296) := room_of (by kernel_rfl) zo_23
@[push_cast] theorem sh_24 : shapeT prog 24 = .slice 160 := by kernel_rfl
@[push_cast] theorem ok_24 : okT prog 24 = true := by kernel_rfl
@[push_cast] theorem zo_24 : zOK prog 24 = true := by kernel_rfl
@[push_cast] theorem za_24 : zeroAV prog 24 = .nils := by kernel_rfl
@[push_cast] theorem ce_24 : prog.cellsOf 24 = 1 := by kernel_rfl
@[push_cast] theorem ro_24 (k : Nat) : roomOK prog 24 k = decide (k ≤ 4294967296) := room_of (by kernel_rfl) zo_24
@[push_cast] theorem sh_26 : shapeT prog 26 = .struct := by kernel_rfl
@[push_cast] theorem fl_26 : fieldsT prog 26 = [(3, 0), (3, 1), (3, 2), (24, 3), (4, 4)] := by kernel_rfl
@[push_cast] theorem po_26 : partsOK prog 26 = true := by kernel_rfl
@[push_cast] theorem ok_26 : okT prog 26 = true := by kernel_rfl
@[push_cast] theorem zo_26 : zOK prog 26 = true := by kernel_rfl
@[push_cast] theorem za_26 : zeroAV prog 26 = .agg 26 [.int .i64 0, .int .i64 0, .int .i64 0, .nils, .bool false] := by kernel_rfl
@[push_cast] theorem ce_26 : prog.cellsOf 26 = 5 := by kernel_rfl
@[push_cast] theorem ro_26 (k : Nat) : roomOK prog 26 k = decide (k ≤ 4294967296) := room_of (by kernel_rfl) zo_26
@[push_cast] theorem sh_27 : shapeT prog 27 = .arr 4 26 := by kernel_rfl
@[push_cast] theorem po_27 : partsOK prog 27 = true := by kernel_rfl
@[push_cast] theorem ok_27 : okT prog 27 = true := by kernel_rfl
@[push_cast] theorem zo_27 : zOK prog 27 = true := by kernel_rfl
@[push_cast] theorem za_27 : zeroAV prog 27 = .agg 27 [.agg 26 [.int .i64 0, .int .i64 0, .int .i64 0, .nils, .bool false], .agg 26 [.int .i64 0, .int .i64 0, .int .i64 0, .nils, .bool false], .agg 26 [.int .i64 0, .int .i64 0, .int .i64 0, .nils, .bool false], .agg 26 [.int .i64 0, .int .i64 0, .int .i64 0, .nils, .bool false]] := by kernel_rfl
@[push_cast] theorem ce_27 : prog.cellsOf 27 = 20 := by kernel_rfl
@[push_cast] theorem ro_27 (k : Nat) : roomOK prog 27 k = decide (k ≤ 4294967296) := room_of (by kernel_rfl) zo_27
@[push_cast] theorem sh_29 : shapeT prog 29 = .struct := by kernel_rfl
@[push_cast] theorem fl_29 : fieldsT prog 29 = [(3, 0), (22, 1), (23, 2), (3, 3), (3, 4), (27, 5)] := by kernel_rfl
@[push_cast] theorem po_29 : partsOK prog 29 = true := by kernel_rfl
@[push_cast] theorem ok_29 : okT prog 29 = true := by kernel_rfl
@[push_cast] theorem zo_29 : zOK prog 29 = true := by kernel_rfl
@[push_cast] theorem za_29 : zeroAV prog 29 = .agg 29 [.int .i64 0, .nils, .nils, .int .i64 0, .int .i64 0, .agg 27 [.agg 26 [.int .i64 0, .int .i64 0, .int .i64 0, .nils, .bool false], .agg 26 [.int .i64 0, .int .i64 0, .int .i64 0, .nils, .bool false], .agg 26 [.int .i64 0, .int .i64 0, .int .i64 0, .nils, .bool false], .agg 26 [.int .i64 0, .int .i64 0, .int .i64 0, .nils, .bool false]]] := by kernel_rfl
@[push_cast] theorem ce_29 : prog.cellsOf 29 = 25 := by kernel_rfl
@[push_cast] theorem ro_29 (k : Nat) : roomOK prog 29 k = decide (k ≤ 4294967296) := room_of (by kernel_rfl) zo_29
@[push_cast] theorem sh_30 : shapeT prog 30 = .slice 5 := by kernel_rfl
@[push_cast] theorem ok_30 : okT prog 30 = true := by kernel_rfl
@[push_cast] theorem zo_30 : zOK prog 30 = true := by kernel_rfl
@[push_cast] theorem za_30 : zeroAV prog 30 = .nils := by kernel_rfl
@[push_cast] theorem ce_30 : prog.cellsOf 30 = 1 := by kernel_rfl
@[push_cast] theorem ro_30 (k : Nat) : roomOK prog 30 k = decide (k ≤ 4294967296) := room_of (by kernel_rfl) zo_30
@[push_cast] theorem sh_36 : shapeT prog 36 = .arr 32 5 := by kernel_rfl
@[push_cast] theorem po_36 : partsOK prog 36 = true := by kernel_rfl
@[push_cast] theorem ok_36 : okT prog 36 = true := by kernel_rfl
@[push_cast] theorem zo_36 : zOK prog 36 = true := by kernel_rfl
@[push_cast] theorem za_36 : zeroAV prog 36 = .agg 36 [.int .u8 0, .int .u8 0, .int .u8 0, .int .u8 0, .int .u8 0, .int .u8 0, .int .u8 0, .int .u8 0, .int .u8 0, .int .u8 0, .int .u8 0, .int .u8 0, .int .u8 0, .int .u8 0, .int .u8 0, .int .u8 0, .int .u8 0, .int .u8 0, .int .u8 0, .int .u8 0, .int .u8 0, .int .u8 0, .int .u8 0, .int .u8 0, .int .u8 0, .int .u8 0, .int .u8 0, .int .u8 0, .int .u8 0, .int .u8 0, .int .u8 0, .int .u8 0] := by kernel_rfl
@[push_cast] theorem ce_36 : prog.cellsOf 36 = 32 := by kernel_rfl
@[push_cast] theorem ro_36 (k : Nat) : roomOK prog 36 k = decide (k ≤ 4294967296) := room_of (by kernel_rfl) zo_36
@[push_cast] theorem sh_55 : shapeT prog 55 = .int .u64 := by kernel_rfl
@[push_cast] theorem ok_55 : okT prog 55 = true := by kernel_rfl
@[push_cast] theorem zo_55 : zOK prog 55 = true := by kernel_rfl
@[push_cast] theorem za_55 : zeroAV prog 55 = .int .u64 0 := by kernel_rfl
@[push_cast] theorem ce_55 : prog.cellsOf 55 = 1 := by kernel_rfl
@[push_cast] theorem ro_55 (k : Nat) : roomOK prog 55 k = decide (k ≤ 4294967296) := room_of (by kernel_rfl) zo_55
@[push_cast] theorem sh_57 : shapeT prog 57 = .slice 62 := by kernel_rfl
@[push_cast] theorem ok_57 : okT prog 57 = true := by kernel_rfl
@[push_cast] theorem zo_57 : zOK prog 57 = true := by kernel_rfl
@[push_cast] theorem za_57 : zeroAV prog 57 = .nils := by kernel_rfl
@[push_cast] theorem ce_57 : prog.cellsOf 57 = 1 := by kernel_rfl
@[push_cast] theorem ro_57 (k : Nat) : roomOK prog 57 k = decide (k ≤ 4294967296) := room_of (by kernel_rfl) zo_57
@[push_cast] theorem sh_60 : shapeT prog 60 = .struct := by kernel_rfl
@[push_cast] theorem fl_60 : fieldsT prog 60 = [(3, 0), (3, 1), (3, 2), (24, 3), (24, 4), (3, 5)] := by kernel_rfl
@[push_cast] theorem po_60 : partsOK prog 60 = true := by kernel_rfl
@[push_cast] theorem ok_60 : okT prog 60 = true := by kernel_rfl
@[push_cast] theorem zo_60 : zOK prog 60 = true := by kernel_rfl
@[push_cast] theorem za_60 : zeroAV prog 60 = .agg 60 [.int .i64 0, .int .i64 0, .int .i64 0, .nils, .nils, .int .i64 0] := by kernel_rfl
@[push_cast] theorem ce_60 : prog.cellsOf 60 = 6 := by kernel_rfl
@[push_cast] theorem ro_60 (k : Nat) : roomOK prog 60 k = decide (k ≤ 4294967296) := room_of (by kernel_rfl) zo_60
@[push_cast] theorem sh_62 : shapeT prog 62 = .struct := by kernel_rfl
@[push_cast] theorem fl_62 : fieldsT prog 62 = [(60, 0), (3, 6)] := by kernel_rfl
@[push_cast] theorem po_62 : partsOK prog 62 = true := by kernel_rfl
@[push_cast] theorem ok_62 : okT prog 62 = true := by kernel_rfl
@[push_cast] theorem zo_62 : zOK prog 62 = true := by kernel_rfl
@[push_cast] theorem za_62 : zeroAV prog 62 = .agg 62 [.agg 60 [.int .i64 0, .int .i64 0, .int .i64 0, .nils, .nils, .int .i64 0], .int .i64 0] := by kernel_rfl
@[push_cast] theorem ce_62 : prog.cellsOf 62 = 7 := by kernel_rfl
@[push_cast] theorem ro_62 (k : Nat) : roomOK prog 62 k = decide (k ≤ 4294967296) := room_of (by kernel_rfl) zo_62
@[push_cast] theorem sh_63 : shapeT prog 63 = .slice 26 := by kernel_rfl
@[push_cast] theorem ok_63 : okT prog 63 = true := by kernel_rfl
@[push_cast] theorem zo_63 : zOK prog 63 = true := by kernel_rfl
@[push_cast] theorem za_63 : zeroAV prog 63 = .nils := by kernel_rfl
@[push_cast] theorem ce_63 : prog.cellsOf 63 = 1 := by kernel_rfl
@[push_cast] theorem ro_63 (k : Nat) : roomOK prog 63 k = decide (k ≤ 4294967296) := room_of (by kernel_rfl) zo_63
@[push_cast] theorem sh_87 : shapeT prog 87 = .struct := by kernel_rfl
@[push_cast] theorem fl_87 : fieldsT prog 87 = [(3, 0), (3, 1), (24, 2)] := by kernel_rfl
@[push_cast] theorem po_87 : partsOK prog 87 = true := by kernel_rfl
@[push_cast] theorem ok_87 : okT prog 87 = true := by kernel_rfl
@[push_cast] theorem zo_87 : zOK prog 87 = true := by kernel_rfl
@[push_cast] theorem za_87 : zeroAV prog 87 = .agg 87 [.int .i64 0, .int .i64 0, .nils] := by kernel_rfl
@[push_cast] theorem ce_87 : prog.cellsOf 87 = 3 := by kernel_rfl
@[push_cast] theorem ro_87 (k : Nat) : roomOK prog 87 k = decide (k ≤ 4294967296) := room_of (by kernel_rfl) zo_87
@[push_cast] theorem sh_89 : shapeT prog 89 = .struct := by kernel_rfl
@[push_cast] theorem fl_89 : fieldsT prog 89 = [(3, 0), (3, 1), (4, 2), (24, 3)] := by kernel_rfl
@[push_cast] theorem po_89 : partsOK prog 89 = true := by kernel_rfl
@[push_cast] theorem ok_89 : okT prog 89 = true := by kernel_rfl
@[push_cast] theorem zo_89 : zOK prog 89 = true := by kernel_rfl
@[push_cast] theorem za_89 : zeroAV prog 89 = .agg 89 [.int .i64 0, .int .i64 0, .bool false, .nils] := by kernel_rfl
@[push_cast] theorem ce_89 : prog.cellsOf 89 = 4 := by kernel_rfl
@[push_cast] theorem ro_89 (k : Nat) : roomOK prog 89 k = decide (k ≤ 4294967296) := room_of (by kernel_rfl) zo_89
@[push_cast] theorem sh_94 : shapeT prog 94 = .struct := by kernel_rfl
@[push_cast] theorem fl_94 : fieldsT prog 94 = [(30, 0)] := by kernel_rfl
@[push_cast] theorem po_94 : partsOK prog 94 = true := by kernel_rfl
@[push_cast] theorem ok_94 : okT prog 94 = true := by kernel_rfl
@[push_cast] theorem zo_94 : zOK prog 94 = true := by kernel_rfl
@[push_cast] theorem za_94 : zeroAV prog 94 = .agg 94 [.nils] := by kernel_rfl
@[push_cast] theorem ce_94 : prog.cellsOf 94 = 1 := by kernel_rfl
@[push_cast] theorem ro_94 (k : Nat) : roomOK prog 94 k = decide (k ≤ 4294967296) := room_of (by kernel_rfl) zo_94
@[push_cast] theorem sh_96 : shapeT prog 96 = .int .u64 := by kernel_rfl
@[push_cast] theorem ok_96 : okT prog 96 = true := by kernel_rfl
@[push_cast] theorem zo_96 : zOK prog 96 = true := by kernel_rfl
@[push_cast] theorem za_96 : zeroAV prog 96 = .int .u64 0 := by kernel_rfl
@[push_cast] theorem ce_96 : prog.cellsOf 96 = 1 := by kernel_rfl
@[push_cast] theorem ro_96 (k : Nat) : roomOK prog 96 k = decide (k ≤ 4294967296) := room_of (by kernel_rfl) zo_96
@[push_cast] theorem sh_105 : shapeT prog 105 = .ptr 162 := by kernel_rfl
@[push_cast] theorem ok_105 : okT prog 105 = true := by kernel_rfl
@[push_cast] theorem zo_105 : zOK prog 105 = true := by kernel_rfl
@[push_cast] theorem za_105 : zeroAV prog 105 = .nilptr := by kernel_rfl
@[push_cast] theorem ce_105 : prog.cellsOf 105 = 1 := by kernel_rfl
@[push_cast] theorem ro_105 (k : Nat) : roomOK prog 105 k = decide (k ≤ 4294967296) := room_of (by kernel_rfl) zo_105
@[push_cast] theorem sh_110 : shapeT prog 110 = .func := by kernel_rfl
@[push_cast] theorem ok_110 : okT prog 110 = true := by kernel_rfl
@[push_cast] theorem zo_110 : zOK prog 110 = true := by kernel_rfl
@[push_cast] theorem za_110 : zeroAV prog 110 = .nilfn := by kernel_rfl
@[push_cast] theorem ce_110 : prog.cellsOf 110 = 1 := by kernel_rfl
@[push_cast] theorem ro_110 (k : Nat) : roomOK prog 110 k = decide (k ≤ 4294967296) := room_of (by kernel_rfl) zo_110
@[push_cast] theorem sh_120 : shapeT prog 120 = .func := by kernel_rfl
@[push_cast] theorem ok_120 : okT prog 120 = true := by kernel_rfl
@[push_cast] theorem zo_120 : zOK prog 120 = true := by kernel_rfl
@[push_cast] theorem za_120 : zeroAV prog 120 = .nilfn := by kernel_rfl
@[push_cast] theorem ce_120 : prog.cellsOf 120 = 1 := by kernel_rfl
@[push_cast] theorem ro_120 (k : Nat) : roomOK prog 120 k = decide (k ≤ 4294967296) := room_of (by kernel_rfl) zo_120
@[push_cast] theorem sh_122 : shapeT prog 122 = .func := by kernel_rfl
@[push_cast] theorem ok_122 : okT prog 122 = true := by kernel_rfl
@[push_cast] theorem zo_122 : zOK prog 122 = true := by kernel_rfl
@[push_cast] theorem za_122 : zeroAV prog 122 = .nilfn := by kernel_rfl
@[push_cast] theorem ce_122 : prog.cellsOf 122 = 1 := by kernel_rfl
@[push_cast] theorem ro_122 (k : Nat) : roomOK prog 122 k = decide (k ≤ 4294967296) := room_of (by kernel_rfl) zo_122
@[push_cast] theorem sh_124 : shapeT prog 124 = .func := by kernel_rfl
@[push_cast] theorem ok_124 : okT prog 124 = true := by kernel_rfl
@[push_cast] theorem zo_124 : zOK prog 124 = true := by kernel_rfl
@[push_cast] theorem za_124 : zeroAV prog 124 = .nilfn := by kernel_rfl
@[push_cast] theorem ce_124 : prog.cellsOf 124 = 1 := by kernel_rfl
@[push_cast] theorem ro_124 (k : Nat) : roomOK prog 124 k = decide (k ≤ 4294967296) := room_of (by kernel_rfl) zo_124
@[push_cast] theorem sh_146 : shapeT prog 146 = .ptr 148 := by kernel_rfl
@[push_cast] theorem ok_146 : okT prog 146 = true := by kernel_rfl
@[push_cast] theorem zo_146 : zOK prog 146 = true := by kernel_rfl
@[push_cast] theorem za_146 : zeroAV prog 146 = .nilptr := by kernel_rfl
@[push_cast] theorem ce_146 : prog.cellsOf 146 = 1 := by kernel_rfl
@[push_cast] theorem ro_146 (k : Nat) : roomOK prog 146 k = decide (k ≤ 4294967296) := room_of (by kernel_rfl) zo_146
@[push_cast] theorem sh_148 : shapeT prog 148 = .struct := by kernel_rfl
@[push_cast] theorem fl_148 : fieldsT prog 148 = [(29, 0), (60, 25), (63, 31)] := by kernel_rfl
@[push_cast] theorem po_148 : partsOK prog 148 = true := by kernel_rfl
@[push_cast] theorem ok_148 : okT prog 148 = true := by kernel_rfl
@[push_cast] theorem zo_148 : zOK prog 148 = true := by kernel_rfl
@[push_cast] theorem za_148 : zeroAV prog 148 = .agg 148 [.agg 29 [.int .i64 0, .nils, .nils, .int .i64 0, .int .i64 0, .agg 27 [.agg 26 [.int .i64 0, .int .i64 0, .int .i64 0, .nils, .bool false], .agg 26 [.int .i64 0, .int .i64 0, .int .i64 0, .nils, .bool false], .agg 26 [.int .i64 0, .int .i64 0, .int .i64 0, .nils, .bool false], .agg 26 [.int .i64 0, .int .i64 0, .int .i64 0, .nils, .bool false]]], .agg 60 [.int .i64 0, .int .i64 0, .int .i64 0, .nils, .nils, .int .i64 0], .nils] := by kernel_rfl
@[push_cast] theorem ce_148 : prog.cellsOf 148 = 32 := by kernel_rfl
@[push_cast] theorem ro_148 (k : Nat) : roomOK prog 148 k = decide (k ≤ 4294967296) := room_of (by kernel_rfl) zo_148
@[push_cast] theorem sh_151 : shapeT prog 151 = .func := by kernel_rfl
@[push_cast] theorem ok_151 : okT prog 151 = true := by kernel_rfl
@[push_cast] theorem zo_151 : zOK prog 151 = true := by kernel_rfl
@[push_cast] theorem za_151 : zeroAV prog 151 = .nilfn := by kernel_rfl
@[push_cast] theorem ce_151 : prog.cellsOf 151 = 1 := by kernel_rfl
@[push_cast] theorem ro_151 (k : Nat) : roomOK prog 151 k = decide (k ≤ 4294967296) := room_of (by kernel_rfl) zo_151
@[push_cast] theorem sh_155 : shapeT prog 155 = .arr 4 3 := by kernel_rfl
@[push_cast] theorem po_155 : partsOK prog 155 = true := by kernel_rfl
@[push_cast] theorem ok_155 : okT prog 155 = true := by kernel_rfl
@[push_cast] theorem zo_155 : zOK prog 155 = true := by kernel_rfl
@[push_cast] theorem za_155 : zeroAV prog 155 = .agg 155 [.int .i64 0, .int .i64 0, .int .i64 0, .int .i64 0] := by kernel_rfl
@[push_cast] theorem ce_155 : prog.cellsOf 155 = 4 := by kernel_rfl
@[push_cast] theorem ro_155 (k : Nat) : roomOK prog 155 k = decide (k ≤ 4294967296) := room_of (by kernel_rfl) zo_155
@[push_cast] theorem sh_157 : shapeT prog 157 = .ptr 94 := by kernel_rfl
@[push_cast] theorem ok_157 : okT prog 157 = true := by kernel_rfl
@[push_cast] theorem zo_157 : zOK prog 157 = true := by kernel_rfl
@[push_cast] theorem za_157 : zeroAV prog 157 = .nilptr := by kernel_rfl
@[push_cast] theorem ce_157 : prog.cellsOf 157 = 1 := by kernel_rfl
@[push_cast] theorem ro_157 (k : Nat) : roomOK prog 157 k = decide (k ≤ 4294967296) := room_of (by kernel_rfl) zo_157
@[push_cast] theorem sh_160 : shapeT prog 160 = .struct := by kernel_rfl
@[push_cast] theorem fl_160 : fieldsT prog 160 = [(3, 0), (2, 1), (9, 2)] := by kernel_rfl
@[push_cast] theorem po_160 : partsOK prog 160 = true := by kernel_rfl
@[push_cast] theorem ok_160 : okT prog 160 = true := by kernel_rfl
@[push_cast] theorem zo_160 : zOK prog 160 = true := by kernel_rfl
@[push_cast] theorem za_160 : zeroAV prog 160 = .agg 160 [.int .i64 0, .int .i64 0, .str ByteArray.empty] := by kernel_rfl
@[push_cast] theorem ce_160 : prog.cellsOf 160 = 3 := by kernel_rfl
@[push_cast] theorem ro_160 (k : Nat) : roomOK prog 160 k = decide (k ≤ 4294967296) := room_of (by kernel_rfl) zo_160
@[push_cast] theorem sh_162 : shapeT prog 162 = .struct := by kernel_rfl
@[push_cast] theorem fl_162 : fieldsT prog 162 = [(30, 0), (4, 1)] := by kernel_rfl
@[push_cast] theorem po_162 : partsOK prog 162 = true := by kernel_rfl
@[push_cast] theorem ok_162 : okT prog 162 = true := by kernel_rfl
@[push_cast] theorem zo_162 : zOK prog 162 = true := by kernel_rfl
@[push_cast] theorem za_162 : zeroAV prog 162 = .agg 162 [.nils, .bool false] := by kernel_rfl
@[push_cast] theorem ce_162 : prog.cellsOf 162 = 2 := by kernel_rfl
@[push_cast] theorem ro_162 (k : Nat) : roomOK prog 162 k = decide (k ≤ 4294967296) := room_of (by kernel_rfl) zo_162
@[push_cast] theorem sh_163 : shapeT prog 163 = .ptr 184 := by kernel_rfl
@[push_cast] theorem ok_163 : okT prog 163 = true := by kernel_rfl
@[push_cast] theorem zo_163 : zOK prog 163 = true := by kernel_rfl
@[push_cast] theorem za_163 : zeroAV prog 163 = .nilptr := by kernel_rfl
@[push_cast] theorem ce_163 : prog.cellsOf 163 = 1 := by kernel_rfl
@[push_cast] theorem ro_163 (k : Nat) : roomOK prog 163 k = decide (k ≤ 4294967296) := room_of (by kernel_rfl) zo_163
@[push_cast] theorem sh_166 : shapeT prog 166 = .int .u32 := by kernel_rfl
@[push_cast] theorem ok_166 : okT prog 166 = true := by kernel_rfl
@[push_cast] theorem zo_166 : zOK prog 166 = true := by kernel_rfl
@[push_cast] theorem za_166 : zeroAV prog 166 = .int .u32 0 := by kernel_rfl
@[push_cast] theorem ce_166 : prog.cellsOf 166 = 1 := by kernel_rfl
@[push_cast] theorem ro_166 (k : Nat) : roomOK prog 166 k = decide (k ≤ 4294967296) := room_of (by kernel_rfl) zo_166
@[push_cast] theorem sh_167 : shapeT prog 167 = .arr 8 166 := by kernel_rfl
@[push_cast] theorem po_167 : partsOK prog 167 = true := by kernel_rfl
@[push_cast] theorem ok_167 : okT prog 167 = true := by kernel_rfl
@[push_cast] theorem zo_167 : zOK prog 167 = true := by kernel_rfl
@[push_cast] theorem za_167 : zeroAV prog 167 = .agg 167 [.int .u32 0, .int .u32 0, .int .u32 0, .int .u32 0, .int .u32 0, .int .u32 0, .int .u32 0, .int .u32 0] := by kernel_rfl
@[push_cast] theorem ce_167 : prog.cellsOf 167 = 8 := by kernel_rfl
@[push_cast] theorem ro_167 (k : Nat) : roomOK prog 167 k = decide (k ≤ 4294967296) := room_of (by kernel_rfl) zo_167
@[push_cast] theorem sh_180 : shapeT prog 180 = .func := by kernel_rfl
@[push_cast] theorem ok_180 : okT prog 180 = true := by kernel_rfl
@[push_cast] theorem zo_180 : zOK prog 180 = true := by kernel_rfl
@[push_cast] theorem za_180 : zeroAV prog 180 = .nilfn := by kernel_rfl
@[push_cast] theorem ce_180 : prog.cellsOf 180 = 1 := by kernel_rfl
@[push_cast] theorem ro_180 (k : Nat) : roomOK prog 180 k = decide (k ≤ 4294967296) := room_of (by kernel_rfl) zo_180
@[push_cast] theorem sh_182 : shapeT prog 182 = .arr 64 5 := by kernel_rfl
@[push_cast] theorem po_182 : partsOK prog 182 = true := by kernel_rfl
@[push_cast] theorem ok_182 : okT prog 182 = true := by kernel_rfl
@[push_cast] theorem zo_182 : zOK prog 182 = true := by kernel_rfl
@[push_cast] theorem za_182 : zeroAV prog 182 = .agg 182 [.int .u8 0, .int .u8 0, .int .u8 0, .int .u8 0, .int .u8 0, .int .u8 0, .int .u8 0, .int .u8 0, .int .u8 0, .int .u8 0, .int .u8 0, .int .u8 0, .int .u8 0, .int .u8 0, .int .u8 0, .int .u8 0, .int .u8 0, .int .u8 0, .int .u8 0, .int .u8 0, .int .u8 0, .int .u8 0, .int .u8 0, .int .u8 0, .int .u8 0, .int .u8 0, .int .u8 0, .int .u8 0, .int .u8 0, .int .u8 0, .int .u8 0, .int .u8 0, .int .u8 0, .int .u8 0, .int .u8 0, .int .u8 0, .int .u8 0, .int .u8 0, .int .u8 0, .int .u8 0, .int .u8 0, .int .u8 0, .int .u8 0, .int .u8 0, .int .u8 0, .int .u8 0, .int .u8 0, .int .u8 0, .int .u8 0, .int .u8 0, .int .u8 0, .int .u8 0, .int .u8 0, .int .u8 0, .int .u8 0, .int .u8 0, .int .u8 0, .int .u8 0, .int .u8 0, .int .u8 0, .int .u8 0, .int .u8 0, .int .u8 0, .int .u8 0] := by kernel_rfl
@[push_cast] theorem ce_182 : prog.cellsOf 182 = 64 := by kernel_rfl
@[push_cast] theorem ro_182 (k : Nat) : roomOK prog 182 k = decide (k ≤ 4294967296) := room_of (by kernel_rfl) zo_182
@[push_cast] theorem sh_184 : shapeT prog 184 = .struct := by kernel_rfl
@[push_cast] theorem fl_184 : fieldsT prog 184 = [(167, 0), (182, 8), (96, 72)] := by kernel_rfl
@[push_cast] theorem po_184 : partsOK prog 184 = true := by kernel_rfl
@[push_cast] theorem ok_184 : okT prog 184 = true := by kernel_rfl
@[push_cast] theorem zo_184 : zOK prog 184 = true := by kernel_rfl
@[push_cast] theorem za_184 : zeroAV prog 184 = .agg 184 [.agg 167 [.int .u32 0, .int .u32 0, .int .u32 0, .int .u32 0, .int .u32 0, .int .u32 0, .int .u32 0, .int .u32 0], .agg 182 [.int .u8 0, .int .u8 0, .int .u8 0, .int .u8 0, .int .u8 0, .int .u8 0, .int .u8 0, .int .u8 0, .int .u8 0, .int .u8 0, .int .u8 0, .int .u8 0, .int .u8 0, .int .u8 0, .int .u8 0, .int .u8 0, .int .u8 0, .int .u8 0, .int .u8 0, .int .u8 0, .int .u8 0, .int .u8 0, .int .u8 0, .int .u8 0, .int .u8 0, .int .u8 0, .int .u8 0, .int .u8 0, .int .u8 0, .int .u8 0, .int .u8 0, .int .u8 0, .int .u8 0, .int .u8 0, .int .u8 0, .int .u8 0, .int .u8 0, .int .u8 0, .int .u8 0, .int .u8 0, .int .u8 0, .int .u8 0, .int .u8 0, .int .u8 0, .int .u8 0, .int .u8 0, .int .u8 0, .int .u8 0, .int .u8 0, .int .u8 0, .int .u8 0, .int .u8 0, .int .u8 0, .int .u8 0, .int .u8 0, .int .u8 0, .int .u8 0, .int .u8 0, .int .u8 0, .int .u8 0, .int .u8 0, .int .u8 0, .int .u8 0, .int .u8 0], .int .u64 0] := by kernel_rfl
@[push_cast] theorem ce_184 : prog.cellsOf 184 = 73 := by kernel_rfl
@[push_cast] theorem ro_184 (k : Nat) : roomOK prog 184 k = decide (k ≤ 4294967296) := room_of (by kernel_rfl) zo_184
@[push_cast] theorem sh_185 : shapeT prog 185 = .arr 64 166 := by kernel_rfl
@[push_cast] theorem po_185 : partsOK prog 185 = true := by kernel_rfl
@[push_cast] theorem ok_185 : okT prog 185 = true := by kernel_rfl
@[push_cast] theorem zo_185 : zOK prog 185 = true := by kernel_rfl
@[push_cast] theorem za_185 : zeroAV prog 185 = .agg 185 [.int .u32 0, .int .u32 0, .int .u32 0, .int .u32 0, .int .u32 0, .int .u32 0, .int .u32 0, .int .u32 0, .int .u32 0, .int .u32 0, .int .u32 0, .int .u32 0, .int .u32 0, .int .u32 0, .int .u32 0, .int .u32 0, .int .u32 0, .int .u32 0, .int .u32 0, .int .u32 0, .int .u32 0, .int .u32 0, .int .u32 0, .int .u32 0, .int .u32 0, .int .u32 0, .int .u32 0, .int .u32 0, .int .u32 0, .int .u32 0, .int .u32 0, .int .u32 0, .int .u32 0, .int .u32 0, .int .u32 0, .int .u32 0, .int .u32 0, .int .u32 0, .int .u32 0, .int .u32 0, .int .u32 0, .int .u32 0, .int .u32 0, .int .u32 0, .int .u32 0, .int .u32 0, .int .u32 0, .int .u32 0, .int .u32 0, .int .u32 0, .int .u32 0, .int .u32 0, .int .u32 0, .int .u32 0, .int .u32 0, .int .u32 0, .int .u32 0, .int .u32 0, .int .u32 0, .int .u32 0, .int .u32 0, .int .u32 0, .int .u32 0, .int .u32 0] := by kernel_rfl
@[push_cast] theorem ce_185 : prog.cellsOf 185 = 64 := by kernel_rfl
@[push_cast] theorem ro_185 (k : Nat) : roomOK prog 185 k = decide (k ≤ 4294967296) := room_of (by kernel_rfl) zo_185
@[push_cast] theorem sh_202 : shapeT prog 202 = .func := by kernel_rfl
@[push_cast] theorem ok_202 : okT prog 202 = true := by kernel_rfl
@[push_cast] theorem zo_202 : zOK prog 202 = true := by kernel_rfl
@[push_cast] theorem za_202 : zeroAV prog 202 = .nilfn := by kernel_rfl
@[push_cast] theorem ce_202 : prog.cellsOf 202 = 1 := by kernel_rfl
@[push_cast] theorem ro_202 (k : Nat) : roomOK prog 202 k = decide (k ≤ 4294967296) := room_of (by kernel_rfl) zo_202
theorem run_4 {args : List AV} {R : AV → Prop} (hn : args.length = 2) (hw : ∀ h, Rn prog [.code (bodyOf Go.Proofs.Try.f4)] .normal (env0 0 args [2, 3, 4, 5, 6, 7, 8, 9, 10, 28, 45]) h (Fin prog [.tmp 4] h R)) : Pure prog 4 args R :=
  fn_run wfp [2, 3, 4, 5, 6, 7, 8, 9, 10, 28, 45] Go.Proofs.Try.func4 _ rfl (by kernel_rfl) (by kernel_rfl) (by kernel_rfl) Go.Proofs.Try.ntmps4 (by rw [hn]; decide) hw
theorem run_10 {args : List AV} {R : AV → Prop} (hn : args.length = 3) (hw : ∀ h, Rn prog [.code (bodyOf Go.Proofs.Try.f10)] .normal (env0 0 args [6, 7, 8, 9, 10, 11, 12, 13, 14, 16, 18, 19, 20, 21, 22, 23, 32, 67, 80, 110, 129]) h (Fin prog [.tmp 6] h R)) : Pure prog 10 args R :=
  fn_run wfp [6, 7, 8, 9, 10, 11, 12, 13, 14, 16, 18, 19, 20, 21, 22, 23, 32, 67, 80, 110, 129] Go.Proofs.Try.func10 _ rfl (by kernel_rfl) (by kernel_rfl) (by kernel_rfl) Go.Proofs.Try.ntmps10 (by rw [hn]; decide) hw
theorem run_11 {args : List AV} {R : AV → Prop} (hn : args.length = 2) (hw : ∀ h, Rn prog [.code (bodyOf Go.Proofs.Try.f11)] .normal (env0 0 args [4, 5, 6, 7, 8, 9, 10, 11, 12, 13, 14, 15, 16, 25, 64, 72, 116]) h (Fin prog [.tmp 4] h R)) : Pure prog 11 args R :=
  fn_run wfp [4, 5, 6, 7, 8, 9, 10, 11, 12, 13, 14, 15, 16, 25, 64, 72, 116] Go.Proofs.Try.func11 _ rfl (by kernel_rfl) (by kernel_rfl) (by kernel_rfl) Go.Proofs.Try.ntmps11 (by rw [hn]; decide) hw
theorem run_12 {args : List AV} {R : AV → Prop} (hn : args.length = 1) (hw : ∀ h, Rn prog [.code (bodyOf Go.Proofs.Try.f12)] .normal (env0 0 args [1, 2, 3, 4, 5, 15, 20, 31, 36, 47, 49, 59]) h (Fin prog [.tmp 2] h R)) : Pure prog 12 args R :=
  fn_run wfp [1, 2, 3, 4, 5, 15, 20, 31, 36, 47, 49, 59] Go.Proofs.Try.func12 _ rfl (by kernel_rfl) (by kernel_rfl) (by kernel_rfl) Go.Proofs.Try.ntmps12 (by rw [hn]; decide) hw
theorem run_13 {args : List AV} {R : AV → Prop} (hn : args.length = 0) (hw : ∀ h, Rn prog [.code (bodyOf Go.Proofs.Try.f13)] .normal (env0 0 args [0, 1, 2, 3, 4, 5, 6, 7, 9, 11]) h (Fin prog [.tmp 0] h R)) : Pure prog 13 args R :=
  fn_run wfp [0, 1, 2, 3, 4, 5, 6, 7, 9, 11] Go.Proofs.Try.func13 _ rfl (by kernel_rfl) (by kernel_rfl) (by kernel_rfl) Go.Proofs.Try.ntmps13 (by rw [hn]; decide) hw
theorem run_14 {args : List AV} {R : AV → Prop} (hn : args.length = 1) (hw : ∀ h, Rn prog [.code (bodyOf Go.Proofs.Try.f14)] .normal (env0 0 args [1, 2, 3, 4, 5, 6, 7, 47, 52, 97, 102, 133, 135, 144]) h (Fin prog [.tmp 2] h R)) : Pure prog 14 args R :=
  fn_run wfp [1, 2, 3, 4, 5, 6, 7, 47, 52, 97, 102, 133, 135, 144] Go.Proofs.Try.func14 _ rfl (by kernel_rfl) (by kernel_rfl) (by kernel_rfl) Go.Proofs.Try.ntmps14 (by rw [hn]; decide) hw
theorem frun_15 {args : List AV} {h : List Entry} {K : AV → List Entry → Prop} (hn : args.length = 1) (hw : Rn prog [.code (bodyOf Go.Proofs.Try.f15)] .normal (env0 0 args [1, 2, 3, 4, 6, 8, 10, 13, 32, 33, 34, 35, 57, 58, 59, 60, 81, 82, 83]) h (FinK prog [.tmp 2, .tmp 3] K)) : FSpec prog 15 args h K :=
  fs_run wfp [1, 2, 3, 4, 6, 8, 10, 13, 32, 33, 34, 35, 57, 58, 59, 60, 81, 82, 83] Go.Proofs.Try.func15 _ rfl (by kernel_rfl) (by kernel_rfl) (by kernel_rfl) Go.Proofs.Try.ntmps15 (by rw [hn]; decide) hw
theorem frun_16 {args : List AV} {h : List Entry} {K : AV → List Entry → Prop} (hn : args.length = 1) (hw : Rn prog [.code (bodyOf Go.Proofs.Try.f16)] .normal (env0 0 args [1, 2, 3, 4, 5, 12]) h (FinK prog [.cell 2 36, .tmp 3] K)) : FSpec prog 16 args h K :=
  fs_run wfp [1, 2, 3, 4, 5, 12] Go.Proofs.Try.func16 _ rfl (by kernel_rfl) (by kernel_rfl) (by kernel_rfl) Go.Proofs.Try.ntmps16 (by rw [hn]; decide) hw
theorem run_17 {args : List AV} {R : AV → Prop} (hn : args.length = 2) (hw : ∀ h, Rn prog [.code (bodyOf Go.Proofs.Try.f17)] .normal (env0 0 args [4]) h (Fin prog [.tmp 4] h R)) : Pure prog 17 args R :=
  fn_run wfp [4] Go.Proofs.Try.func17 _ rfl (by kernel_rfl) (by kernel_rfl) (by kernel_rfl) Go.Proofs.Try.ntmps17 (by rw [hn]; decide) hw
theorem frun_20 {args : List AV} {h : List Entry} {K : AV → List Entry → Prop} (hn : args.length = 1) (hw : Rn prog [.code (bodyOf Go.Proofs.Try.f20)] .normal (env0 0 args [2, 3, 4, 5, 6, 7, 8, 9, 10, 11, 28, 48, 68, 69, 105]) h (FinK prog [.cell 2 29, .tmp 3] K)) : FSpec prog 20 args h K :=
  fs_run wfp [2, 3, 4, 5, 6, 7, 8, 9, 10, 11, 28, 48, 68, 69, 105] Go.Proofs.Try.func20 _ rfl (by kernel_rfl) (by kernel_rfl) (by kernel_rfl) Go.Proofs.Try.ntmps20 (by rw [hn]; decide) hw
theorem run_23 {args : List AV} {R : AV → Prop} (hn : args.length = 1) (hw : ∀ h, Rn prog [.code (bodyOf Go.Proofs.Try.f23)] .normal (env0 0 args [2]) h (Fin prog [.cell 2 36] h R)) : Pure prog 23 args R :=
  fn_run wfp [2] Go.Proofs.Try.func23 _ rfl (by kernel_rfl) (by kernel_rfl) (by kernel_rfl) Go.Proofs.Try.ntmps23 (by rw [hn]; decide) hw
theorem run_25 {args : List AV} {R : AV → Prop} (hn : args.length = 2) (hw : ∀ h, Rn prog [.code (bodyOf Go.Proofs.Try.f25)] .normal (env0 0 args [2, 3, 4]) h (Fin prog [.tmp 4] h R)) : Pure prog 25 args R :=
  fn_run wfp [2, 3, 4] Go.Proofs.Try.func25 _ rfl (by kernel_rfl) (by kernel_rfl) (by kernel_rfl) Go.Proofs.Try.ntmps25 (by rw [hn]; decide) hw
theorem run_35 {args : List AV} {R : AV → Prop} (hn : args.length = 2) (hw : ∀ h, Rn prog [.code (bodyOf Go.Proofs.Try.f35)] .normal (env0 0 args [4, 5, 10, 14, 26]) h (Fin prog [.tmp 4] h R)) : Pure prog 35 args R :=
  fn_run wfp [4, 5, 10, 14, 26] Go.Proofs.Try.func35 _ rfl (by kernel_rfl) (by kernel_rfl) (by kernel_rfl) Go.Proofs.Try.ntmps35 (by rw [hn]; decide) hw
theorem run_45 {args : List AV} {R : AV → Prop} (hn : args.length = 2) (hw : ∀ h, Rn prog [.code (bodyOf Go.Proofs.Try.f45)] .normal (env0 0 args [4, 5, 6, 12, 13]) h (Fin prog [.cell 4 29] h R)) : Pure prog 45 args R :=
  fn_run wfp [4, 5, 6, 12, 13] Go.Proofs.Try.func45 _ rfl (by kernel_rfl) (by kernel_rfl) (by kernel_rfl) Go.Proofs.Try.ntmps45 (by rw [hn]; decide) hw
theorem frun_46 {args : List AV} {h : List Entry} {K : AV → List Entry → Prop} (hn : args.length = 3) (hw : Rn prog [.code (bodyOf Go.Proofs.Try.f46)] .normal (env0 0 args [3, 4, 5, 6, 7, 8, 9, 27, 64, 77]) h (FinK prog [.cell 6 29, .tmp 7] K)) : FSpec prog 46 args h K :=
  fs_run wfp [3, 4, 5, 6, 7, 8, 9, 27, 64, 77] Go.Proofs.Try.func46 _ rfl (by kernel_rfl) (by kernel_rfl) (by kernel_rfl) Go.Proofs.Try.ntmps46 (by rw [hn]; decide) hw
theorem run_47 {args : List AV} {R : AV → Prop} (hn : args.length = 1) (hw : ∀ h, Rn prog [.code (bodyOf Go.Proofs.Try.f47)] .normal (env0 0 args [1, 2]) h (Fin prog [.tmp 2] h R)) : Pure prog 47 args R :=
  fn_run wfp [1, 2] Go.Proofs.Try.func47 _ rfl (by kernel_rfl) (by kernel_rfl) (by kernel_rfl) Go.Proofs.Try.ntmps47 (by rw [hn]; decide) hw
theorem run_48 {args : List AV} {R : AV → Prop} (hn : args.length = 1) (hw : ∀ h, Rn prog [.code (bodyOf Go.Proofs.Try.f48)] .normal (env0 0 args [2]) h (Fin prog [.tmp 2] h R)) : Pure prog 48 args R :=
  fn_run wfp [2] Go.Proofs.Try.func48 _ rfl (by kernel_rfl) (by kernel_rfl) (by kernel_rfl) Go.Proofs.Try.ntmps48 (by rw [hn]; decide) hw
theorem run_49 {args : List AV} {R : AV → Prop} (hn : args.length = 2) (hw : ∀ h, Rn prog [.code (bodyOf Go.Proofs.Try.f49)] .normal (env0 0 args [2, 4, 5, 6, 11, 21]) h (Fin prog [.tmp 4] h R)) : Pure prog 49 args R :=
  fn_run wfp [2, 4, 5, 6, 11, 21] Go.Proofs.Try.func49 _ rfl (by kernel_rfl) (by kernel_rfl) (by kernel_rfl) Go.Proofs.Try.ntmps49 (by rw [hn]; decide) hw
theorem run_50 {args : List AV} {R : AV → Prop} (hn : args.length = 1) (hw : ∀ h, Rn prog [.code (bodyOf Go.Proofs.Try.f50)] .normal (env0 0 args [2]) h (Fin prog [.tmp 2] h R)) : Pure prog 50 args R :=
  fn_run wfp [2] Go.Proofs.Try.func50 _ rfl (by kernel_rfl) (by kernel_rfl) (by kernel_rfl) Go.Proofs.Try.ntmps50 (by rw [hn]; decide) hw
theorem run_51 {args : List AV} {R : AV → Prop} (hn : args.length = 2) (hw : ∀ h, Rn prog [.code (bodyOf Go.Proofs.Try.f51)] .normal (env0 0 args [2, 4, 18, 21, 43, 46]) h (Fin prog [.tmp 4] h R)) : Pure prog 51 args R :=
  fn_run wfp [2, 4, 18, 21, 43, 46] Go.Proofs.Try.func51 _ rfl (by kernel_rfl) (by kernel_rfl) (by kernel_rfl) Go.Proofs.Try.ntmps51 (by rw [hn]; decide) hw
theorem run_52 {args : List AV} {R : AV → Prop} (hn : args.length = 1) (hw : ∀ h, Rn prog [.code (bodyOf Go.Proofs.Try.f52)] .normal (env0 0 args [1, 2, 3, 5, 7, 8, 9, 41, 43, 44, 45, 46, 53, 64, 67, 68, 69, 70, 92, 95, 96, 97, 103]) h (Fin prog [.tmp 2] h R)) : Pure prog 52 args R :=
  fn_run wfp [1, 2, 3, 5, 7, 8, 9, 41, 43, 44, 45, 46, 53, 64, 67, 68, 69, 70, 92, 95, 96, 97, 103] Go.Proofs.Try.func52 _ rfl (by kernel_rfl) (by kernel_rfl) (by kernel_rfl) Go.Proofs.Try.ntmps52 (by rw [hn]; decide) hw
theorem frun_53 {args : List AV} {h : List Entry} {K : AV → List Entry → Prop} (hn : args.length = 3) (hw : Rn prog [.code (bodyOf Go.Proofs.Try.f53)] .normal (env0 0 args [6, 16, 20]) h (FinK prog [] K)) : FSpec prog 53 args h K :=
  fs_run wfp [6, 16, 20] Go.Proofs.Try.func53 _ rfl (by kernel_rfl) (by kernel_rfl) (by kernel_rfl) Go.Proofs.Try.ntmps53 (by rw [hn]; decide) hw
theorem frun_54 {args : List AV} {h : List Entry} {K : AV → List Entry → Prop} (hn : args.length = 2) (hw : Rn prog [.code (bodyOf Go.Proofs.Try.f54)] .normal (env0 0 args []) h (FinK prog [] K)) : FSpec prog 54 args h K :=
  fs_run wfp [] Go.Proofs.Try.func54 _ rfl (by kernel_rfl) (by kernel_rfl) (by kernel_rfl) Go.Proofs.Try.ntmps54 (by rw [hn]; decide) hw
theorem run_55 {args : List AV} {R : AV → Prop} (hn : args.length = 1) (hw : ∀ h, Rn prog [.code (bodyOf Go.Proofs.Try.f55)] .normal (env0 0 args [2, 3]) h (Fin prog [.tmp 2] h R)) : Pure prog 55 args R :=
  fn_run wfp [2, 3] Go.Proofs.Try.func55 _ rfl (by kernel_rfl) (by kernel_rfl) (by kernel_rfl) Go.Proofs.Try.ntmps55 (by rw [hn]; decide) hw
theorem run_56 {args : List AV} {R : AV → Prop} (hn : args.length = 1) (hw : ∀ h, Rn prog [.code (bodyOf Go.Proofs.Try.f56)] .normal (env0 0 args [2, 3]) h (Fin prog [.tmp 2] h R)) : Pure prog 56 args R :=
  fn_run wfp [2, 3] Go.Proofs.Try.func56 _ rfl (by kernel_rfl) (by kernel_rfl) (by kernel_rfl) Go.Proofs.Try.ntmps56 (by rw [hn]; decide) hw
theorem frun_57 {args : List AV} {h : List Entry} {K : AV → List Entry → Prop} (hn : args.length = 1) (hw : Rn prog [.code (bodyOf Go.Proofs.Try.f57)] .normal (env0 0 args [2, 4]) h (FinK prog [.tmp 2] K)) : FSpec prog 57 args h K :=
  fs_run wfp [2, 4] Go.Proofs.Try.func57 _ rfl (by kernel_rfl) (by kernel_rfl) (by kernel_rfl) Go.Proofs.Try.ntmps57 (by rw [hn]; decide) hw
theorem frun_63 {args : List AV} {h : List Entry} {K : AV → List Entry → Prop} (hn : args.length = 1) (hw : Rn prog [.code (bodyOf Go.Proofs.Try.f63)] .normal (env0 0 args [2]) h (FinK prog [.tmp 2] K)) : FSpec prog 63 args h K :=
  fs_run wfp [2] Go.Proofs.Try.func63 _ rfl (by kernel_rfl) (by kernel_rfl) (by kernel_rfl) Go.Proofs.Try.ntmps63 (by rw [hn]; decide) hw
theorem frun_64 {args : List AV} {h : List Entry} {K : AV → List Entry → Prop} (hn : args.length = 1) (hw : Rn prog [.code (bodyOf Go.Proofs.Try.f64)] .normal (env0 0 args [1, 2]) h (FinK prog [.tmp 1] K)) : FSpec prog 64 args h K :=
  fs_run wfp [1, 2] Go.Proofs.Try.func64 _ rfl (by kernel_rfl) (by kernel_rfl) (by kernel_rfl) Go.Proofs.Try.ntmps64 (by rw [hn]; decide) hw
theorem frun_65 {args : List AV} {h : List Entry} {K : AV → List Entry → Prop} (hn : args.length = 1) (hw : Rn prog [.code (bodyOf Go.Proofs.Try.f65)] .normal (env0 0 args [2, 3, 4, 5, 6, 7, 14, 22, 23, 29, 46]) h (FinK prog [.tmp 2, .tmp 3] K)) : FSpec prog 65 args h K :=
  fs_run wfp [2, 3, 4, 5, 6, 7, 14, 22, 23, 29, 46] Go.Proofs.Try.func65 _ rfl (by kernel_rfl) (by kernel_rfl) (by kernel_rfl) Go.Proofs.Try.ntmps65 (by rw [hn]; decide) hw
theorem frun_66 {args : List AV} {h : List Entry} {K : AV → List Entry → Prop} (hn : args.length = 2) (hw : Rn prog [.code (bodyOf Go.Proofs.Try.f66)] .normal (env0 0 args [4, 5, 12]) h (FinK prog [.tmp 4] K)) : FSpec prog 66 args h K :=
  fs_run wfp [4, 5, 12] Go.Proofs.Try.func66 _ rfl (by kernel_rfl) (by kernel_rfl) (by kernel_rfl) Go.Proofs.Try.ntmps66 (by rw [hn]; decide) hw
theorem frun_67 {args : List AV} {h : List Entry} {K : AV → List Entry → Prop} (hn : args.length = 2) (hw : Rn prog [.code (bodyOf Go.Proofs.Try.f67)] .normal (env0 0 args [4, 5, 6, 12, 16, 17, 18, 19]) h (FinK prog [.tmp 4] K)) : FSpec prog 67 args h K :=
  fs_run wfp [4, 5, 6, 12, 16, 17, 18, 19] Go.Proofs.Try.func67 _ rfl (by kernel_rfl) (by kernel_rfl) (by kernel_rfl) Go.Proofs.Try.ntmps67 (by rw [hn]; decide) hw
theorem frun_68 {args : List AV} {h : List Entry} {K : AV → List Entry → Prop} (hn : args.length = 1) (hw : Rn prog [.code (bodyOf Go.Proofs.Try.f68)] .normal (env0 0 args [2, 13]) h (FinK prog [.tmp 2] K)) : FSpec prog 68 args h K :=
  fs_run wfp [2, 13] Go.Proofs.Try.func68 _ rfl (by kernel_rfl) (by kernel_rfl) (by kernel_rfl) Go.Proofs.Try.ntmps68 (by rw [hn]; decide) hw
theorem run_69 {args : List AV} {R : AV → Prop} (hn : args.length = 2) (hw : ∀ h, Rn prog [.code (bodyOf Go.Proofs.Try.f69)] .normal (env0 0 args [4, 5, 10, 12, 13, 14, 24]) h (Fin prog [.tmp 4] h R)) : Pure prog 69 args R :=
  fn_run wfp [4, 5, 10, 12, 13, 14, 24] Go.Proofs.Try.func69 _ rfl (by kernel_rfl) (by kernel_rfl) (by kernel_rfl) Go.Proofs.Try.ntmps69 (by rw [hn]; decide) hw
theorem run_75 {args : List AV} {R : AV → Prop} (hn : args.length = 2) (hw : ∀ h, Rn prog [.code (bodyOf Go.Proofs.Try.f75)] .normal (env0 0 args [4, 5, 10, 14, 25]) h (Fin prog [.tmp 4] h R)) : Pure prog 75 args R :=
  fn_run wfp [4, 5, 10, 14, 25] Go.Proofs.Try.func75 _ rfl (by kernel_rfl) (by kernel_rfl) (by kernel_rfl) Go.Proofs.Try.ntmps75 (by rw [hn]; decide) hw
theorem run_76 {args : List AV} {R : AV → Prop} (hn : args.length = 2) (hw : ∀ h, Rn prog [.code (bodyOf Go.Proofs.Try.f76)] .normal (env0 0 args [2, 3, 4]) h (Fin prog [.tmp 4] h R)) : Pure prog 76 args R :=
  fn_run wfp [2, 3, 4] Go.Proofs.Try.func76 _ rfl (by kernel_rfl) (by kernel_rfl) (by kernel_rfl) Go.Proofs.Try.ntmps76 (by rw [hn]; decide) hw
theorem run_77 {args : List AV} {R : AV → Prop} (hn : args.length = 1) (hw : ∀ h, Rn prog [.code (bodyOf Go.Proofs.Try.f77)] .normal (env0 0 args [2, 3]) h (Fin prog [.cell 2 36] h R)) : Pure prog 77 args R :=
  fn_run wfp [2, 3] Go.Proofs.Try.func77 _ rfl (by kernel_rfl) (by kernel_rfl) (by kernel_rfl) Go.Proofs.Try.ntmps77 (by rw [hn]; decide) hw
theorem run_79 {args : List AV} {R : AV → Prop} (hn : args.length = 3) (hw : ∀ h, Rn prog [.code (bodyOf Go.Proofs.Try.f79)] .normal (env0 0 args [6, 7, 8, 9, 14, 15, 16, 17, 18, 30]) h (Fin prog [.tmp 6] h R)) : Pure prog 79 args R :=
  fn_run wfp [6, 7, 8, 9, 14, 15, 16, 17, 18, 30] Go.Proofs.Try.func79 _ rfl (by kernel_rfl) (by kernel_rfl) (by kernel_rfl) Go.Proofs.Try.ntmps79 (by rw [hn]; decide) hw
theorem run_80 {args : List AV} {R : AV → Prop} (hn : args.length = 2) (hw : ∀ h, Rn prog [.code (bodyOf Go.Proofs.Try.f80)] .normal (env0 0 args [2, 3, 4]) h (Fin prog [.tmp 4] h R)) : Pure prog 80 args R :=
  fn_run wfp [2, 3, 4] Go.Proofs.Try.func80 _ rfl (by kernel_rfl) (by kernel_rfl) (by kernel_rfl) Go.Proofs.Try.ntmps80 (by rw [hn]; decide) hw
theorem run_81 {args : List AV} {R : AV → Prop} (hn : args.length = 3) (hw : ∀ h, Rn prog [.code (bodyOf Go.Proofs.Try.f81)] .normal (env0 0 args [6, 7, 8, 9, 14, 15, 16, 17, 18, 30]) h (Fin prog [.tmp 6] h R)) : Pure prog 81 args R :=
  fn_run wfp [6, 7, 8, 9, 14, 15, 16, 17, 18, 30] Go.Proofs.Try.func81 _ rfl (by kernel_rfl) (by kernel_rfl) (by kernel_rfl) Go.Proofs.Try.ntmps81 (by rw [hn]; decide) hw
theorem run_82 {args : List AV} {R : AV → Prop} (hn : args.length = 2) (hw : ∀ h, Rn prog [.code (bodyOf Go.Proofs.Try.f82)] .normal (env0 0 args [2, 3, 4]) h (Fin prog [.tmp 4] h R)) : Pure prog 82 args R :=
  fn_run wfp [2, 3, 4] Go.Proofs.Try.func82 _ rfl (by kernel_rfl) (by kernel_rfl) (by kernel_rfl) Go.Proofs.Try.ntmps82 (by rw [hn]; decide) hw
theorem run_83 {args : List AV} {R : AV → Prop} (hn : args.length = 3) (hw : ∀ h, Rn prog [.code (bodyOf Go.Proofs.Try.f83)] .normal (env0 0 args [6, 7, 8, 9, 14, 15, 16, 17, 18, 30]) h (Fin prog [.tmp 6] h R)) : Pure prog 83 args R :=
  fn_run wfp [6, 7, 8, 9, 14, 15, 16, 17, 18, 30] Go.Proofs.Try.func83 _ rfl (by kernel_rfl) (by kernel_rfl) (by kernel_rfl) Go.Proofs.Try.ntmps83 (by rw [hn]; decide) hw
theorem run_84 {args : List AV} {R : AV → Prop} (hn : args.length = 2) (hw : ∀ h, Rn prog [.code (bodyOf Go.Proofs.Try.f84)] .normal (env0 0 args [2, 3, 4]) h (Fin prog [.tmp 4] h R)) : Pure prog 84 args R :=
  fn_run wfp [2, 3, 4] Go.Proofs.Try.func84 _ rfl (by kernel_rfl) (by kernel_rfl) (by kernel_rfl) Go.Proofs.Try.ntmps84 (by rw [hn]; decide) hw
theorem run_86 {args : List AV} {R : AV → Prop} (hn : args.length = 1) (hw : ∀ h, Rn prog [.code (bodyOf Go.Proofs.Try.f86)] .normal (env0 0 args [1, 2, 3, 31, 76, 79]) h (Fin prog [.tmp 2] h R)) : Pure prog 86 args R :=
  fn_run wfp [1, 2, 3, 31, 76, 79] Go.Proofs.Try.func86 _ rfl (by kernel_rfl) (by kernel_rfl) (by kernel_rfl) Go.Proofs.Try.ntmps86 (by rw [hn]; decide) hw
theorem run_89 {args : List AV} {R : AV → Prop} (hn : args.length = 1) (hw : ∀ h, Rn prog [.code (bodyOf Go.Proofs.Try.f89)] .normal (env0 0 args [2]) h (Fin prog [.tmp 2] h R)) : Pure prog 89 args R :=
  fn_run wfp [2] Go.Proofs.Try.func89 _ rfl (by kernel_rfl) (by kernel_rfl) (by kernel_rfl) Go.Proofs.Try.ntmps89 (by rw [hn]; decide) hw
theorem run_94 {args : List AV} {R : AV → Prop} (hn : args.length = 2) (hw : ∀ h, Rn prog [.code (bodyOf Go.Proofs.Try.f94)] .normal (env0 0 args [2, 4, 5, 10, 20]) h (Fin prog [.tmp 4] h R)) : Pure prog 94 args R :=
  fn_run wfp [2, 4, 5, 10, 20] Go.Proofs.Try.func94 _ rfl (by kernel_rfl) (by kernel_rfl) (by kernel_rfl) Go.Proofs.Try.ntmps94 (by rw [hn]; decide) hw
theorem frun_101 {args : List AV} {h : List Entry} {K : AV → List Entry → Prop} (hn : args.length = 2) (hw : Rn prog [.code (bodyOf Go.Proofs.Try.f101)] .normal (env0 0 args [5]) h (FinK prog [] K)) : FSpec prog 101 args h K :=
  fs_run wfp [5] Go.Proofs.Try.func101 _ rfl (by kernel_rfl) (by kernel_rfl) (by kernel_rfl) Go.Proofs.Try.ntmps101 (by rw [hn]; decide) hw
theorem frun_102 {args : List AV} {h : List Entry} {K : AV → List Entry → Prop} (hn : args.length = 2) (hw : Rn prog [.code (bodyOf Go.Proofs.Try.f102)] .normal (env0 0 args [4, 5, 9]) h (FinK prog [.tmp 4] K)) : FSpec prog 102 args h K :=
  fs_run wfp [4, 5, 9] Go.Proofs.Try.func102 _ rfl (by kernel_rfl) (by kernel_rfl) (by kernel_rfl) Go.Proofs.Try.ntmps102 (by rw [hn]; decide) hw
theorem run_106 {args : List AV} {R : AV → Prop} (hn : args.length = 1) (hw : ∀ h, Rn prog [.code (bodyOf Go.Proofs.Try.f106)] .normal (env0 0 args [1, 2, 3, 4, 32, 44, 64]) h (Fin prog [.tmp 2] h R)) : Pure prog 106 args R :=
  fn_run wfp [1, 2, 3, 4, 32, 44, 64] Go.Proofs.Try.func106 _ rfl (by kernel_rfl) (by kernel_rfl) (by kernel_rfl) Go.Proofs.Try.ntmps106 (by rw [hn]; decide) hw
theorem frun_107 {args : List AV} {h : List Entry} {K : AV → List Entry → Prop} (hn : args.length = 2) (hw : Rn prog [.code (bodyOf Go.Proofs.Try.f107)] .normal (env0 0 args [4, 5, 6, 7, 12, 19, 29]) h (FinK prog [.tmp 4] K)) : FSpec prog 107 args h K :=
  fs_run wfp [4, 5, 6, 7, 12, 19, 29] Go.Proofs.Try.func107 _ rfl (by kernel_rfl) (by kernel_rfl) (by kernel_rfl) Go.Proofs.Try.ntmps107 (by rw [hn]; decide) hw
theorem frun_108 {args : List AV} {h : List Entry} {K : AV → List Entry → Prop} (hn : args.length = 1) (hw : Rn prog [.code (bodyOf Go.Proofs.Try.f108)] .normal (env0 0 args [2, 4]) h (FinK prog [.tmp 2] K)) : FSpec prog 108 args h K :=
  fs_run wfp [2, 4] Go.Proofs.Try.func108 _ rfl (by kernel_rfl) (by kernel_rfl) (by kernel_rfl) Go.Proofs.Try.ntmps108 (by rw [hn]; decide) hw
theorem run_109 {args : List AV} {R : AV → Prop} (hn : args.length = 2) (hw : ∀ h, Rn prog [.code (bodyOf Go.Proofs.Try.f109)] .normal (env0 0 args [2, 3]) h (Fin prog [.tmp 3] h R)) : Pure prog 109 args R :=
  fn_run wfp [2, 3] Go.Proofs.Try.func109 _ rfl (by kernel_rfl) (by kernel_rfl) (by kernel_rfl) Go.Proofs.Try.ntmps109 (by rw [hn]; decide) hw
theorem frun_110 {args : List AV} {h : List Entry} {K : AV → List Entry → Prop} (hn : args.length = 1) (hw : Rn prog [.code (bodyOf Go.Proofs.Try.f110)] .normal (env0 0 args [2, 4]) h (FinK prog [.tmp 2] K)) : FSpec prog 110 args h K :=
  fs_run wfp [2, 4] Go.Proofs.Try.func110 _ rfl (by kernel_rfl) (by kernel_rfl) (by kernel_rfl) Go.Proofs.Try.ntmps110 (by rw [hn]; decide) hw
theorem frun_111 {args : List AV} {h : List Entry} {K : AV → List Entry → Prop} (hn : args.length = 2) (hw : Rn prog [.code (bodyOf Go.Proofs.Try.f111)] .normal (env0 0 args [3]) h (FinK prog [] K)) : FSpec prog 111 args h K :=
  fs_run wfp [3] Go.Proofs.Try.func111 _ rfl (by kernel_rfl) (by kernel_rfl) (by kernel_rfl) Go.Proofs.Try.ntmps111 (by rw [hn]; decide) hw
theorem frun_112 {args : List AV} {h : List Entry} {K : AV → List Entry → Prop} (hn : args.length = 1) (hw : Rn prog [.code (bodyOf Go.Proofs.Try.f112)] .normal (env0 0 args [2, 44, 51, 54, 58, 93, 105, 110]) h (FinK prog [] K)) : FSpec prog 112 args h K :=
  fs_run wfp [2, 44, 51, 54, 58, 93, 105, 110] Go.Proofs.Try.func112 _ rfl (by kernel_rfl) (by kernel_rfl) (by kernel_rfl) Go.Proofs.Try.ntmps112 (by rw [hn]; decide) hw
theorem run_113 {args : List AV} {R : AV → Prop} (hn : args.length = 1) (hw : ∀ h, Rn prog [.code (bodyOf Go.Proofs.Try.f113)] .normal (env0 0 args [2, 3, 6, 10, 19]) h (Fin prog [.tmp 2] h R)) : Pure prog 113 args R :=
  fn_run wfp [2, 3, 6, 10, 19] Go.Proofs.Try.func113 _ rfl (by kernel_rfl) (by kernel_rfl) (by kernel_rfl) Go.Proofs.Try.ntmps113 (by rw [hn]; decide) hw
theorem run_114 {args : List AV} {R : AV → Prop} (hn : args.length = 2) (hw : ∀ h, Rn prog [.code (bodyOf Go.Proofs.Try.f114)] .normal (env0 0 args [4, 5, 6, 14, 18, 59]) h (Fin prog [.tmp 4] h R)) : Pure prog 114 args R :=
  fn_run wfp [4, 5, 6, 14, 18, 59] Go.Proofs.Try.func114 _ rfl (by kernel_rfl) (by kernel_rfl) (by kernel_rfl) Go.Proofs.Try.ntmps114 (by rw [hn]; decide) hw
theorem run_115 {args : List AV} {R : AV → Prop} (hn : args.length = 2) (hw : ∀ h, Rn prog [.code (bodyOf Go.Proofs.Try.f115)] .normal (env0 0 args [2, 4]) h (Fin prog [.tmp 4] h R)) : Pure prog 115 args R :=
  fn_run wfp [2, 4] Go.Proofs.Try.func115 _ rfl (by kernel_rfl) (by kernel_rfl) (by kernel_rfl) Go.Proofs.Try.ntmps115 (by rw [hn]; decide) hw
theorem run_116 {args : List AV} {R : AV → Prop} (hn : args.length = 1) (hw : ∀ h, Rn prog [.code (bodyOf Go.Proofs.Try.f116)] .normal (env0 0 args [2]) h (Fin prog [.tmp 2] h R)) : Pure prog 116 args R :=
  fn_run wfp [2] Go.Proofs.Try.func116 _ rfl (by kernel_rfl) (by kernel_rfl) (by kernel_rfl) Go.Proofs.Try.ntmps116 (by rw [hn]; decide) hw
theorem run_117 {args : List AV} {R : AV → Prop} (hn : args.length = 1) (hw : ∀ h, Rn prog [.code (bodyOf Go.Proofs.Try.f117)] .normal (env0 0 args [2]) h (Fin prog [.tmp 2] h R)) : Pure prog 117 args R :=
  fn_run wfp [2] Go.Proofs.Try.func117 _ rfl (by kernel_rfl) (by kernel_rfl) (by kernel_rfl) Go.Proofs.Try.ntmps117 (by rw [hn]; decide) hw
theorem run_118 {args : List AV} {R : AV → Prop} (hn : args.length = 2) (hw : ∀ h, Rn prog [.code (bodyOf Go.Proofs.Try.f118)] .normal (env0 0 args [2, 4, 18, 21, 38]) h (Fin prog [.tmp 4] h R)) : Pure prog 118 args R :=
  fn_run wfp [2, 4, 18, 21, 38] Go.Proofs.Try.func118 _ rfl (by kernel_rfl) (by kernel_rfl) (by kernel_rfl) Go.Proofs.Try.ntmps118 (by rw [hn]; decide) hw
theorem frun_119 {args : List AV} {h : List Entry} {K : AV → List Entry → Prop} (hn : args.length = 1) (hw : Rn prog [.code (bodyOf Go.Proofs.Try.f119)] .normal (env0 0 args [2, 3, 4, 6, 9, 14, 15, 16, 17, 25, 26, 32]) h (FinK prog [.tmp 2, .tmp 3] K)) : FSpec prog 119 args h K :=
  fs_run wfp [2, 3, 4, 6, 9, 14, 15, 16, 17, 25, 26, 32] Go.Proofs.Try.func119 _ rfl (by kernel_rfl) (by kernel_rfl) (by kernel_rfl) Go.Proofs.Try.ntmps119 (by rw [hn]; decide) hw
theorem frun_120 {args : List AV} {h : List Entry} {K : AV → List Entry → Prop} (hn : args.length = 2) (hw : Rn prog [.code (bodyOf Go.Proofs.Try.f120)] .normal (env0 0 args [4, 6]) h (FinK prog [.tmp 4] K)) : FSpec prog 120 args h K :=
  fs_run wfp [4, 6] Go.Proofs.Try.func120 _ rfl (by kernel_rfl) (by kernel_rfl) (by kernel_rfl) Go.Proofs.Try.ntmps120 (by rw [hn]; decide) hw
theorem frun_124 {args : List AV} {h : List Entry} {K : AV → List Entry → Prop} (hn : args.length = 0) (hw : Rn prog [.code (bodyOf Go.Proofs.Try.f124)] .normal (env0 0 args [0]) h (FinK prog [.tmp 0] K)) : FSpec prog 124 args h K :=
  fs_run wfp [0] Go.Proofs.Try.func124 _ rfl (by kernel_rfl) (by kernel_rfl) (by kernel_rfl) Go.Proofs.Try.ntmps124 (by rw [hn]; decide) hw
theorem frun_125 {args : List AV} {h : List Entry} {K : AV → List Entry → Prop} (hn : args.length = 2) (hw : Rn prog [.code (bodyOf Go.Proofs.Try.f125)] .normal (env0 0 args [4, 5, 7, 25, 39]) h (FinK prog [] K)) : FSpec prog 125 args h K :=
  fs_run wfp [4, 5, 7, 25, 39] Go.Proofs.Try.func125 _ rfl (by kernel_rfl) (by kernel_rfl) (by kernel_rfl) Go.Proofs.Try.ntmps125 (by rw [hn]; decide) hw
theorem frun_126 {args : List AV} {h : List Entry} {K : AV → List Entry → Prop} (hn : args.length = 1) (hw : Rn prog [.code (bodyOf Go.Proofs.Try.f126)] .normal (env0 0 args [2, 3, 4, 5, 6, 7, 8, 9, 13, 26, 31, 49, 50, 51]) h (FinK prog [.cell 2 36] K)) : FSpec prog 126 args h K :=
  fs_run wfp [2, 3, 4, 5, 6, 7, 8, 9, 13, 26, 31, 49, 50, 51] Go.Proofs.Try.func126 _ rfl (by kernel_rfl) (by kernel_rfl) (by kernel_rfl) Go.Proofs.Try.ntmps126 (by rw [hn]; decide) hw
theorem run_128 {args : List AV} {R : AV → Prop} (hn : args.length = 2) (hw : ∀ h, Rn prog [.code (bodyOf Go.Proofs.Try.f128)] .normal (env0 0 args [4]) h (Fin prog [.tmp 4] h R)) : Pure prog 128 args R :=
  fn_run wfp [4] Go.Proofs.Try.func128 _ rfl (by kernel_rfl) (by kernel_rfl) (by kernel_rfl) Go.Proofs.Try.ntmps128 (by rw [hn]; decide) hw
theorem run_132 {args : List AV} {R : AV → Prop} (hn : args.length = 2) (hw : ∀ h, Rn prog [.code (bodyOf Go.Proofs.Try.f132)] .normal (env0 0 args [4, 5, 6, 21, 25, 32, 42, 50, 58, 61]) h (Fin prog [.tmp 4] h R)) : Pure prog 132 args R :=
  fn_run wfp [4, 5, 6, 21, 25, 32, 42, 50, 58, 61] Go.Proofs.Try.func132 _ rfl (by kernel_rfl) (by kernel_rfl) (by kernel_rfl) Go.Proofs.Try.ntmps132 (by rw [hn]; decide) hw
theorem run_137 {args : List AV} {R : AV → Prop} (hn : args.length = 2) (hw : ∀ h, Rn prog [.code (bodyOf Go.Proofs.Try.f137)] .normal (env0 0 args [4]) h (Fin prog [.tmp 4] h R)) : Pure prog 137 args R :=
  fn_run wfp [4] Go.Proofs.Try.func137 _ rfl (by kernel_rfl) (by kernel_rfl) (by kernel_rfl) Go.Proofs.Try.ntmps137 (by rw [hn]; decide) hw
theorem run_138 {args : List AV} {R : AV → Prop} (hn : args.length = 1) (hw : ∀ h, Rn prog [.code (bodyOf Go.Proofs.Try.f138)] .normal (env0 0 args [2]) h (Fin prog [.tmp 2] h R)) : Pure prog 138 args R :=
  fn_run wfp [2] Go.Proofs.Try.func138 _ rfl (by kernel_rfl) (by kernel_rfl) (by kernel_rfl) Go.Proofs.Try.ntmps138 (by rw [hn]; decide) hw
theorem run_139 {args : List AV} {R : AV → Prop} (hn : args.length = 1) (hw : ∀ h, Rn prog [.code (bodyOf Go.Proofs.Try.f139)] .normal (env0 0 args [2]) h (Fin prog [.tmp 2] h R)) : Pure prog 139 args R :=
  fn_run wfp [2] Go.Proofs.Try.func139 _ rfl (by kernel_rfl) (by kernel_rfl) (by kernel_rfl) Go.Proofs.Try.ntmps139 (by rw [hn]; decide) hw
theorem run_140 {args : List AV} {R : AV → Prop} (hn : args.length = 2) (hw : ∀ h, Rn prog [.code (bodyOf Go.Proofs.Try.f140)] .normal (env0 0 args [4, 5, 7, 8, 9, 16]) h (Fin prog [.tmp 4] h R)) : Pure prog 140 args R :=
  fn_run wfp [4, 5, 7, 8, 9, 16] Go.Proofs.Try.func140 _ rfl (by kernel_rfl) (by kernel_rfl) (by kernel_rfl) Go.Proofs.Try.ntmps140 (by rw [hn]; decide) hw
theorem run_141 {args : List AV} {R : AV → Prop} (hn : args.length = 1) (hw : ∀ h, Rn prog [.code (bodyOf Go.Proofs.Try.f141)] .normal (env0 0 args [2, 4]) h (Fin prog [.tmp 2] h R)) : Pure prog 141 args R :=
  fn_run wfp [2, 4] Go.Proofs.Try.func141 _ rfl (by kernel_rfl) (by kernel_rfl) (by kernel_rfl) Go.Proofs.Try.ntmps141 (by rw [hn]; decide) hw
theorem run_142 {args : List AV} {R : AV → Prop} (hn : args.length = 1) (hw : ∀ h, Rn prog [.code (bodyOf Go.Proofs.Try.f142)] .normal (env0 0 args [2]) h (Fin prog [.tmp 2] h R)) : Pure prog 142 args R :=
  fn_run wfp [2] Go.Proofs.Try.func142 _ rfl (by kernel_rfl) (by kernel_rfl) (by kernel_rfl) Go.Proofs.Try.ntmps142 (by rw [hn]; decide) hw
theorem frun_143 {args : List AV} {h : List Entry} {K : AV → List Entry → Prop} (hn : args.length = 3) (hw : Rn prog [.code (bodyOf Go.Proofs.Try.f143)] .normal (env0 0 args []) h (FinK prog [] K)) : FSpec prog 143 args h K :=
  fs_run wfp [] Go.Proofs.Try.func143 _ rfl (by kernel_rfl) (by kernel_rfl) (by kernel_rfl) Go.Proofs.Try.ntmps143 (by rw [hn]; decide) hw
theorem frun_144 {args : List AV} {h : List Entry} {K : AV → List Entry → Prop} (hn : args.length = 1) (hw : Rn prog [.code (bodyOf Go.Proofs.Try.f144)] .normal (env0 0 args [3]) h (FinK prog [] K)) : FSpec prog 144 args h K :=
  fs_run wfp [3] Go.Proofs.Try.func144 _ rfl (by kernel_rfl) (by kernel_rfl) (by kernel_rfl) Go.Proofs.Try.ntmps144 (by rw [hn]; decide) hw
theorem frun_145 {args : List AV} {h : List Entry} {K : AV → List Entry → Prop} (hn : args.length = 3) (hw : Rn prog [.code (bodyOf Go.Proofs.Try.f145)] .normal (env0 0 args [6, 48, 62, 66, 71]) h (FinK prog [] K)) : FSpec prog 145 args h K :=
  fs_run wfp [6, 48, 62, 66, 71] Go.Proofs.Try.func145 _ rfl (by kernel_rfl) (by kernel_rfl) (by kernel_rfl) Go.Proofs.Try.ntmps145 (by rw [hn]; decide) hw
theorem run_146 {args : List AV} {R : AV → Prop} (hn : args.length = 2) (hw : ∀ h, Rn prog [.code (bodyOf Go.Proofs.Try.f146)] .normal (env0 0 args [2, 3, 4]) h (Fin prog [.tmp 4] h R)) : Pure prog 146 args R :=
  fn_run wfp [2, 3, 4] Go.Proofs.Try.func146 _ rfl (by kernel_rfl) (by kernel_rfl) (by kernel_rfl) Go.Proofs.Try.ntmps146 (by rw [hn]; decide) hw
theorem frun_147 {args : List AV} {h : List Entry} {K : AV → List Entry → Prop} (hn : args.length = 1) (hw : Rn prog [.code (bodyOf Go.Proofs.Try.f147)] .normal (env0 0 args [2, 29, 34]) h (FinK prog [] K)) : FSpec prog 147 args h K :=
  fs_run wfp [2, 29, 34] Go.Proofs.Try.func147 _ rfl (by kernel_rfl) (by kernel_rfl) (by kernel_rfl) Go.Proofs.Try.ntmps147 (by rw [hn]; decide) hw
theorem run_148 {args : List AV} {R : AV → Prop} (hn : args.length = 2) (hw : ∀ h, Rn prog [.code (bodyOf Go.Proofs.Try.f148)] .normal (env0 0 args [3, 4]) h (Fin prog [.tmp 4] h R)) : Pure prog 148 args R :=
  fn_run wfp [3, 4] Go.Proofs.Try.func148 _ rfl (by kernel_rfl) (by kernel_rfl) (by kernel_rfl) Go.Proofs.Try.ntmps148 (by rw [hn]; decide) hw
theorem run_149 {args : List AV} {R : AV → Prop} (hn : args.length = 1) (hw : ∀ h, Rn prog [.code (bodyOf Go.Proofs.Try.f149)] .normal (env0 0 args [1, 2, 4, 5]) h (Fin prog [.tmp 2] h R)) : Pure prog 149 args R :=
  fn_run wfp [1, 2, 4, 5] Go.Proofs.Try.func149 _ rfl (by kernel_rfl) (by kernel_rfl) (by kernel_rfl) Go.Proofs.Try.ntmps149 (by rw [hn]; decide) hw
theorem run_150 {args : List AV} {R : AV → Prop} (hn : args.length = 0) (hw : ∀ h, Rn prog [.code (bodyOf Go.Proofs.Try.f150)] .normal (env0 0 args [0]) h (Fin prog [.cell 0 167] h R)) : Pure prog 150 args R :=
  fn_run wfp [0] Go.Proofs.Try.func150 _ rfl (by kernel_rfl) (by kernel_rfl) (by kernel_rfl) Go.Proofs.Try.ntmps150 (by rw [hn]; decide) hw
theorem frun_151 {args : List AV} {h : List Entry} {K : AV → List Entry → Prop} (hn : args.length = 2) (hw : Rn prog [.code (bodyOf Go.Proofs.Try.f151)] .normal (env0 0 args [4, 5, 6, 7, 8, 9, 10, 11, 12, 13, 14, 15, 16, 17, 18, 19, 23, 26, 27, 66, 112, 113, 203, 204]) h (FinK prog [] K)) : FSpec prog 151 args h K :=
  fs_run wfp [4, 5, 6, 7, 8, 9, 10, 11, 12, 13, 14, 15, 16, 17, 18, 19, 23, 26, 27, 66, 112, 113, 203, 204] Go.Proofs.Try.func151 _ rfl (by kernel_rfl) (by kernel_rfl) (by kernel_rfl) Go.Proofs.Try.ntmps151 (by rw [hn]; decide) hw
theorem frun_152 {args : List AV} {h : List Entry} {K : AV → List Entry → Prop} (hn : args.length = 1) (hw : Rn prog [.code (bodyOf Go.Proofs.Try.f152)] .normal (env0 0 args [2, 3, 5]) h (FinK prog [.tmp 2] K)) : FSpec prog 152 args h K :=
  fs_run wfp [2, 3, 5] Go.Proofs.Try.func152 _ rfl (by kernel_rfl) (by kernel_rfl) (by kernel_rfl) Go.Proofs.Try.ntmps152 (by rw [hn]; decide) hw
theorem run_154 {args : List AV} {R : AV → Prop} (hn : args.length = 2) (hw : ∀ h, Rn prog [.code (bodyOf Go.Proofs.Try.f154)] .normal (env0 0 args [4, 5, 10, 12, 13, 14, 24]) h (Fin prog [.tmp 4] h R)) : Pure prog 154 args R :=
  fn_run wfp [4, 5, 10, 12, 13, 14, 24] Go.Proofs.Try.func154 _ rfl (by kernel_rfl) (by kernel_rfl) (by kernel_rfl) Go.Proofs.Try.ntmps154 (by rw [hn]; decide) hw
theorem run_158 {args : List AV} {R : AV → Prop} (hn : args.length = 1) (hw : ∀ h, Rn prog [.code (bodyOf Go.Proofs.Try.f158)] .normal (env0 0 args [1, 2, 4, 5, 10]) h (Fin prog [.tmp 2] h R)) : Pure prog 158 args R :=
  fn_run wfp [1, 2, 4, 5, 10] Go.Proofs.Try.func158 _ rfl (by kernel_rfl) (by kernel_rfl) (by kernel_rfl) Go.Proofs.Try.ntmps158 (by rw [hn]; decide) hw
theorem frun_159 {args : List AV} {h : List Entry} {K : AV → List Entry → Prop} (hn : args.length = 2) (hw : Rn prog [.code (bodyOf Go.Proofs.Try.f159)] .normal (env0 0 args [3]) h (FinK prog [] K)) : FSpec prog 159 args h K :=
  fs_run wfp [3] Go.Proofs.Try.func159 _ rfl (by kernel_rfl) (by kernel_rfl) (by kernel_rfl) Go.Proofs.Try.ntmps159 (by rw [hn]; decide) hw
theorem run_160 {args : List AV} {R : AV → Prop} (hn : args.length = 2) (hw : ∀ h, Rn prog [.code (bodyOf Go.Proofs.Try.f160)] .normal (env0 0 args [4, 5, 6, 7, 8, 13, 14, 15, 16, 22, 32]) h (Fin prog [.tmp 4] h R)) : Pure prog 160 args R :=
  fn_run wfp [4, 5, 6, 7, 8, 13, 14, 15, 16, 22, 32] Go.Proofs.Try.func160 _ rfl (by kernel_rfl) (by kernel_rfl) (by kernel_rfl) Go.Proofs.Try.ntmps160 (by rw [hn]; decide) hw
theorem frun_161 {args : List AV} {h : List Entry} {K : AV → List Entry → Prop} (hn : args.length = 1) (hw : Rn prog [.code (bodyOf Go.Proofs.Try.f161)] .normal (env0 0 args [2, 3, 4, 5, 13, 30, 67, 75, 93]) h (FinK prog [] K)) : FSpec prog 161 args h K :=
  fs_run wfp [2, 3, 4, 5, 13, 30, 67, 75, 93] Go.Proofs.Try.func161 _ rfl (by kernel_rfl) (by kernel_rfl) (by kernel_rfl) Go.Proofs.Try.ntmps161 (by rw [hn]; decide) hw
theorem frun_162 {args : List AV} {h : List Entry} {K : AV → List Entry → Prop} (hn : args.length = 2) (hw : Rn prog [.code (bodyOf Go.Proofs.Try.f162)] .normal (env0 0 args []) h (FinK prog [] K)) : FSpec prog 162 args h K :=
  fs_run wfp [] Go.Proofs.Try.func162 _ rfl (by kernel_rfl) (by kernel_rfl) (by kernel_rfl) Go.Proofs.Try.ntmps162 (by rw [hn]; decide) hw
theorem run_163 {args : List AV} {R : AV → Prop} (hn : args.length = 2) (hw : ∀ h, Rn prog [.code (bodyOf Go.Proofs.Try.f163)] .normal (env0 0 args [2, 3]) h (Fin prog [.tmp 3] h R)) : Pure prog 163 args R :=
  fn_run wfp [2, 3] Go.Proofs.Try.func163 _ rfl (by kernel_rfl) (by kernel_rfl) (by kernel_rfl) Go.Proofs.Try.ntmps163 (by rw [hn]; decide) hw
theorem run_164 {args : List AV} {R : AV → Prop} (hn : args.length = 2) (hw : ∀ h, Rn prog [.code (bodyOf Go.Proofs.Try.f164)] .normal (env0 0 args [4]) h (Fin prog [.tmp 4] h R)) : Pure prog 164 args R :=
  fn_run wfp [4] Go.Proofs.Try.func164 _ rfl (by kernel_rfl) (by kernel_rfl) (by kernel_rfl) Go.Proofs.Try.ntmps164 (by rw [hn]; decide) hw
theorem run_165 {args : List AV} {R : AV → Prop} (hn : args.length = 2) (hw : ∀ h, Rn prog [.code (bodyOf Go.Proofs.Try.f165)] .normal (env0 0 args [4]) h (Fin prog [.tmp 4] h R)) : Pure prog 165 args R :=
  fn_run wfp [4] Go.Proofs.Try.func165 _ rfl (by kernel_rfl) (by kernel_rfl) (by kernel_rfl) Go.Proofs.Try.ntmps165 (by rw [hn]; decide) hw
theorem run_166 {args : List AV} {R : AV → Prop} (hn : args.length = 2) (hw : ∀ h, Rn prog [.code (bodyOf Go.Proofs.Try.f166)] .normal (env0 0 args [2, 3]) h (Fin prog [.tmp 3] h R)) : Pure prog 166 args R :=
  fn_run wfp [2, 3] Go.Proofs.Try.func166 _ rfl (by kernel_rfl) (by kernel_rfl) (by kernel_rfl) Go.Proofs.Try.ntmps166 (by rw [hn]; decide) hw
theorem run_167 {args : List AV} {R : AV → Prop} (hn : args.length = 0) (hw : ∀ h, Hold (Rn prog [.code (bodyOf Go.Proofs.Try.f167)] .normal (env0 0 args [0]) h (Fin prog [.cell 0 185] h R))) : Pure prog 167 args R :=
  fn_runH wfp [0] Go.Proofs.Try.func167 _ (by kernel_rfl) (by kernel_rfl) (by kernel_rfl) (by kernel_rfl) Go.Proofs.Try.ntmps167 (by rw [hn]; decide) hw

theorem run_168 {args : List AV} {R : AV → Prop} (hn : args.length = 2) (hw : ∀ h, Rn prog [.code (bodyOf Go.Proofs.Try.f168)] .normal (env0 0 args [4, 5]) h (Fin prog [.tmp 4] h R)) : Pure prog 168 args R :=
  fn_run wfp [4, 5] Go.Proofs.Try.func168 _ rfl (by kernel_rfl) (by kernel_rfl) (by kernel_rfl) Go.Proofs.Try.ntmps168 (by rw [hn]; decide) hw
theorem frun_171 {args : List AV} {h : List Entry} {K : AV → List Entry → Prop} (hn : args.length = 3) (hw : Rn prog [.code (bodyOf Go.Proofs.Try.f171)] .normal (env0 0 args [6, 7, 16]) h (FinK prog [.tmp 6] K)) : FSpec prog 171 args h K :=
  fs_run wfp [6, 7, 16] Go.Proofs.Try.func171 _ rfl (by kernel_rfl) (by kernel_rfl) (by kernel_rfl) Go.Proofs.Try.ntmps171 (by rw [hn]; decide) hw
theorem frun_172 {args : List AV} {h : List Entry} {K : AV → List Entry → Prop} (hn : args.length = 3) (hw : Rn prog [.code (bodyOf Go.Proofs.Try.f172)] .normal (env0 0 args [6, 7, 16]) h (FinK prog [.tmp 6] K)) : FSpec prog 172 args h K :=
  fs_run wfp [6, 7, 16] Go.Proofs.Try.func172 _ rfl (by kernel_rfl) (by kernel_rfl) (by kernel_rfl) Go.Proofs.Try.ntmps172 (by rw [hn]; decide) hw
theorem run_173 {args : List AV} {R : AV → Prop} (hn : args.length = 3) (hw : ∀ h, Rn prog [.code (bodyOf Go.Proofs.Try.f173)] .normal (env0 0 args [6, 7, 8, 9, 14, 15, 16, 17, 18, 30]) h (Fin prog [.tmp 6] h R)) : Pure prog 173 args R :=
  fn_run wfp [6, 7, 8, 9, 14, 15, 16, 17, 18, 30] Go.Proofs.Try.func173 _ rfl (by kernel_rfl) (by kernel_rfl) (by kernel_rfl) Go.Proofs.Try.ntmps173 (by rw [hn]; decide) hw
theorem run_174 {args : List AV} {R : AV → Prop} (hn : args.length = 2) (hw : ∀ h, Rn prog [.code (bodyOf Go.Proofs.Try.f174)] .normal (env0 0 args [2, 3, 4, 6, 7, 12, 17]) h (Fin prog [.tmp 4] h R)) : Pure prog 174 args R :=
  fn_run wfp [2, 3, 4, 6, 7, 12, 17] Go.Proofs.Try.func174 _ rfl (by kernel_rfl) (by kernel_rfl) (by kernel_rfl) Go.Proofs.Try.ntmps174 (by rw [hn]; decide) hw
theorem run_175 {args : List AV} {R : AV → Prop} (hn : args.length = 2) (hw : ∀ h, Rn prog [.code (bodyOf Go.Proofs.Try.f175)] .normal (env0 0 args [4, 5, 7, 8, 9, 16]) h (Fin prog [.tmp 4] h R)) : Pure prog 175 args R :=
  fn_run wfp [4, 5, 7, 8, 9, 16] Go.Proofs.Try.func175 _ rfl (by kernel_rfl) (by kernel_rfl) (by kernel_rfl) Go.Proofs.Try.ntmps175 (by rw [hn]; decide) hw
end Go.Abs
