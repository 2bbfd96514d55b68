/- Fa1: a part of the proofs about the tuple space and its bytes. -/
import Derived.Test.YtilfbkhbjkjicaaWl
import Derived.Test.YtilfbkhbjkjicaaProg
set_option linter.all false
set_option maxRecDepth 100000
set_option maxHeartbeats 0
namespace Go.Abs
open Go
open Go.Proofs.Try (prog)
theorem wfp : WF prog := wf_of_table (by kernel_rfl)
theorem zaf : prog.follows .mixedOrders = true := by kernel_rfl
@[push_cast] def zai (f : Func) : Code := f.body.getD .skip
structure Hold (p : Prop) : Prop where
  go : p
theorem fn_runH {P : Program} (hP : WF P) {f : FuncId} {fn : Func} {x : Code} {args : List AV} {R : AV → Prop} (ks : List Nat) (hf : P.funcs[f]? = some fn) (rs : List ResultVar) (hb : fn.body = some x) (hrs : fn.results.toList = rs) (hc : ycb P f = true)
    (hok : ybg fn.ntmps x = true) {m : Nat} (hm : fn.ntmps = m) (hn : args.length ≤ m) (hw : ∀ h, Hold (Rn P [.code x] .normal (zaz 0 args ks) h (Fin P rs h R))) : zbp P f args R :=
  qar hP ks hf rs hb hrs hc hok hm hn fun h => (hw h).go
@[push_cast] theorem sh_2 : zab prog 2 = .int .i64 := by kernel_rfl
@[push_cast] theorem ok_2 : okT prog 2 = true := by kernel_rfl
@[push_cast] theorem zo_2 : zOK prog 2 = true := by kernel_rfl
@[push_cast] theorem za_2 : qai prog 2 = .int .i64 0 := by kernel_rfl
@[push_cast] theorem ce_2 : prog.cellsOf 2 = 1 := by kernel_rfl
@[push_cast] theorem ro_2 (k : Nat) : yam prog 2 k = decide (k ≤ 4294967296) := qal (by kernel_rfl) zo_2
@[push_cast] theorem sh_3 : zab prog 3 = .int .i64 := by kernel_rfl
@[push_cast] theorem ok_3 : okT prog 3 = true := by kernel_rfl
@[push_cast] theorem zo_3 : zOK prog 3 = true := by kernel_rfl
@[push_cast] theorem za_3 : qai prog 3 = .int .i64 0 := by kernel_rfl
@[push_cast] theorem ce_3 : prog.cellsOf 3 = 1 := by kernel_rfl
@[push_cast] theorem ro_3 (k : Nat) : yam prog 3 k = decide (k ≤ 4294967296) := qal (by kernel_rfl) zo_3
@[push_cast] theorem sh_4 : zab prog 4 = .bool := by kernel_rfl
@[push_cast] theorem ok_4 : okT prog 4 = true := by kernel_rfl
@[push_cast] theorem zo_4 : zOK prog 4 = true := by kernel_rfl
@[push_cast] theorem za_4 : qai prog 4 = .bool false := by kernel_rfl
@[push_cast] theorem ce_4 : prog.cellsOf 4 = 1 := by kernel_rfl
@[push_cast] theorem ro_4 (k : Nat) : yam prog 4 k = decide (k ≤ 4294967296) := qal (by kernel_rfl) zo_4
@[push_cast] theorem sh_5 : zab prog 5 = .int .u8 := by kernel_rfl
@[push_cast] theorem ok_5 : okT prog 5 = true := by kernel_rfl
@[push_cast] theorem zo_5 : zOK prog 5 = true := by kernel_rfl
@[push_cast] theorem za_5 : qai prog 5 = .int .u8 0 := by kernel_rfl
@[push_cast] theorem ce_5 : prog.cellsOf 5 = 1 := by kernel_rfl
@[push_cast] theorem ro_5 (k : Nat) : yam prog 5 k = decide (k ≤ 4294967296) := qal (by kernel_rfl) zo_5
@[push_cast] theorem sh_9 : zab prog 9 = .str := by kernel_rfl
@[push_cast] theorem ok_9 : okT prog 9 = true := by kernel_rfl
@[push_cast] theorem zo_9 : zOK prog 9 = true := by kernel_rfl
@[push_cast] theorem za_9 : qai prog 9 = .str ByteArray.empty := by kernel_rfl
@[push_cast] theorem ce_9 : prog.cellsOf 9 = 1 := by kernel_rfl
@[push_cast] theorem ro_9 (k : Nat) : yam prog 9 k = decide (k ≤ 4294967296) := qal (by kernel_rfl) zo_9
@[push_cast] theorem sh_22 : zab prog 22 = .slice 87 := by kernel_rfl
@[push_cast] theorem ok_22 : okT prog 22 = true := by kernel_rfl
@[push_cast] theorem zo_22 : zOK prog 22 = true := by kernel_rfl
@[push_cast] theorem za_22 : qai prog 22 = .nils := by kernel_rfl
@[push_cast] theorem ce_22 : prog.cellsOf 22 = 1 := by kernel_rfl
@[push_cast] theorem ro_22 (k : Nat) : yam prog 22 k = decide (k ≤ 4294967296) := qal (by kernel_rfl) zo_22
@[push_cast] theorem sh_23 : zab prog 23 = .slice 89 := by kernel_rfl
@[push_cast] theorem ok_23 : okT prog 23 = true := by kernel_rfl
@[push_cast] theorem zo_23 : zOK prog 23 = true := by kernel_rfl
@[push_cast] theorem za_23 : qai prog 23 = .nils := by kernel_rfl
@[push_cast] theorem ce_23 : prog.cellsOf 23 = 1 := by kernel_rfl
@[push_cast] theorem ro_23 (k : Nat) : yam prog 23 k = decide (k ≤ 4294967296) := qal (by kernel_rfl) zo_23
@[push_cast] theorem zc5 : zab prog 24 = .slice 160 := by kernel_rfl
@[push_cast] theorem ok_24 : okT prog 24 = true := by kernel_rfl
@[push_cast] theorem zo_24 : zOK prog 24 = true := by kernel_rfl
@[push_cast] theorem za_24 : qai prog 24 = .nils := by kernel_rfl
@[push_cast] theorem ce_24 : prog.cellsOf 24 = 1 := by kernel_rfl
@[push_cast] theorem ro_24 (k : Nat) : yam prog 24 k = decide (k ≤ 4294967296) := qal (by kernel_rfl) zo_24
@[push_cast] theorem sh_26 : zab prog 26 = .struct := by kernel_rfl
@[push_cast] theorem fl_26 : qaj prog 26 = [(3, 0), (3, 1), (3, 2), (24, 3), (4, 4)] := by kernel_rfl
@[push_cast] theorem po_26 : ya9 prog 26 = true := by kernel_rfl
@[push_cast] theorem ok_26 : okT prog 26 = true := by kernel_rfl
@[push_cast] theorem zo_26 : zOK prog 26 = true := by kernel_rfl
@[push_cast] theorem za_26 : qai prog 26 = .agg 26 [.int .i64 0, .int .i64 0, .int .i64 0, .nils, .bool false] := by kernel_rfl
@[push_cast] theorem ce_26 : prog.cellsOf 26 = 5 := by kernel_rfl
@[push_cast] theorem ro_26 (k : Nat) : yam prog 26 k = decide (k ≤ 4294967296) := qal (by kernel_rfl) zo_26
@[push_cast] theorem sh_27 : zab prog 27 = .arr 4 26 := by kernel_rfl
@[push_cast] theorem po_27 : ya9 prog 27 = true := by kernel_rfl
@[push_cast] theorem ok_27 : okT prog 27 = true := by kernel_rfl
@[push_cast] theorem zo_27 : zOK prog 27 = true := by kernel_rfl
@[push_cast] theorem za_27 : qai prog 27 = .agg 27 [.agg 26 [.int .i64 0, .int .i64 0, .int .i64 0, .nils, .bool false], .agg 26 [.int .i64 0, .int .i64 0, .int .i64 0, .nils, .bool false], .agg 26 [.int .i64 0, .int .i64 0, .int .i64 0, .nils, .bool false], .agg 26 [.int .i64 0, .int .i64 0, .int .i64 0, .nils, .bool false]] := by kernel_rfl
@[push_cast] theorem ce_27 : prog.cellsOf 27 = 20 := by kernel_rfl
@[push_cast] theorem ro_27 (k : Nat) : yam prog 27 k = decide (k ≤ 4294967296) := qal (by kernel_rfl) zo_27
@[push_cast] theorem sh_29 : zab prog 29 = .struct := by kernel_rfl
@[push_cast] theorem fl_29 : qaj prog 29 = [(3, 0), (22, 1), (23, 2), (3, 3), (3, 4), (27, 5)] := by kernel_rfl
@[push_cast] theorem po_29 : ya9 prog 29 = true := by kernel_rfl
@[push_cast] theorem ok_29 : okT prog 29 = true := by kernel_rfl
@[push_cast] theorem zo_29 : zOK prog 29 = true := by kernel_rfl
@[push_cast] theorem za_29 : qai prog 29 = .agg 29 [.int .i64 0, .nils, .nils, .int .i64 0, .int .i64 0, .agg 27 [.agg 26 [.int .i64 0, .int .i64 0, .int .i64 0, .nils, .bool false], .agg 26 [.int .i64 0, .int .i64 0, .int .i64 0, .nils, .bool false], .agg 26 [.int .i64 0, .int .i64 0, .int .i64 0, .nils, .bool false], .agg 26 [.int .i64 0, .int .i64 0, .int .i64 0, .nils, .bool false]]] := by kernel_rfl
@[push_cast] theorem ce_29 : prog.cellsOf 29 = 25 := by kernel_rfl
@[push_cast] theorem ro_29 (k : Nat) : yam prog 29 k = decide (k ≤ 4294967296) := qal (by kernel_rfl) zo_29
@[push_cast] theorem zbl : zab prog 30 = .slice 5 := by kernel_rfl
@[push_cast] theorem ok_30 : okT prog 30 = true := by kernel_rfl
@[push_cast] theorem zo_30 : zOK prog 30 = true := by kernel_rfl
@[push_cast] theorem za_30 : qai prog 30 = .nils := by kernel_rfl
@[push_cast] theorem ce_30 : prog.cellsOf 30 = 1 := by kernel_rfl
@[push_cast] theorem ro_30 (k : Nat) : yam prog 30 k = decide (k ≤ 4294967296) := qal (by kernel_rfl) zo_30
@[push_cast] theorem sh_36 : zab prog 36 = .arr 32 5 := by kernel_rfl
@[push_cast] theorem po_36 : ya9 prog 36 = true := by kernel_rfl
@[push_cast] theorem ok_36 : okT prog 36 = true := by kernel_rfl
@[push_cast] theorem zo_36 : zOK prog 36 = true := by kernel_rfl
@[push_cast] theorem za_36 : qai prog 36 = .agg 36 [.int .u8 0, .int .u8 0, .int .u8 0, .int .u8 0, .int .u8 0, .int .u8 0, .int .u8 0, .int .u8 0, .int .u8 0, .int .u8 0, .int .u8 0, .int .u8 0, .int .u8 0, .int .u8 0, .int .u8 0, .int .u8 0, .int .u8 0, .int .u8 0, .int .u8 0, .int .u8 0, .int .u8 0, .int .u8 0, .int .u8 0, .int .u8 0, .int .u8 0, .int .u8 0, .int .u8 0, .int .u8 0, .int .u8 0, .int .u8 0, .int .u8 0, .int .u8 0] := by kernel_rfl
@[push_cast] theorem ce_36 : prog.cellsOf 36 = 32 := by kernel_rfl
@[push_cast] theorem ro_36 (k : Nat) : yam prog 36 k = decide (k ≤ 4294967296) := qal (by kernel_rfl) zo_36
@[push_cast] theorem sh_55 : zab prog 55 = .int .u64 := by kernel_rfl
@[push_cast] theorem ok_55 : okT prog 55 = true := by kernel_rfl
@[push_cast] theorem zo_55 : zOK prog 55 = true := by kernel_rfl
@[push_cast] theorem za_55 : qai prog 55 = .int .u64 0 := by kernel_rfl
@[push_cast] theorem ce_55 : prog.cellsOf 55 = 1 := by kernel_rfl
@[push_cast] theorem ro_55 (k : Nat) : yam prog 55 k = decide (k ≤ 4294967296) := qal (by kernel_rfl) zo_55
@[push_cast] theorem sh_57 : zab prog 57 = .slice 62 := by kernel_rfl
@[push_cast] theorem sh_60 : zab prog 60 = .struct := by kernel_rfl
@[push_cast] theorem fl_60 : qaj prog 60 = [(3, 0), (3, 1), (3, 2), (24, 3), (24, 4), (3, 5)] := by kernel_rfl
@[push_cast] theorem po_60 : ya9 prog 60 = true := by kernel_rfl
@[push_cast] theorem ok_60 : okT prog 60 = true := by kernel_rfl
@[push_cast] theorem zo_60 : zOK prog 60 = true := by kernel_rfl
@[push_cast] theorem za_60 : qai prog 60 = .agg 60 [.int .i64 0, .int .i64 0, .int .i64 0, .nils, .nils, .int .i64 0] := by kernel_rfl
@[push_cast] theorem ce_60 : prog.cellsOf 60 = 6 := by kernel_rfl
@[push_cast] theorem ro_60 (k : Nat) : yam prog 60 k = decide (k ≤ 4294967296) := qal (by kernel_rfl) zo_60
@[push_cast] theorem sh_62 : zab prog 62 = .struct := by kernel_rfl
@[push_cast] theorem fl_62 : qaj prog 62 = [(60, 0), (3, 6)] := by kernel_rfl
@[push_cast] theorem sh_63 : zab prog 63 = .slice 26 := by kernel_rfl
@[push_cast] theorem ok_63 : okT prog 63 = true := by kernel_rfl
@[push_cast] theorem zo_63 : zOK prog 63 = true := by kernel_rfl
@[push_cast] theorem za_63 : qai prog 63 = .nils := by kernel_rfl
@[push_cast] theorem ce_63 : prog.cellsOf 63 = 1 := by kernel_rfl
@[push_cast] theorem ro_63 (k : Nat) : yam prog 63 k = decide (k ≤ 4294967296) := qal (by kernel_rfl) zo_63
@[push_cast] theorem sh_70 : zab prog 70 = .slice 30 := by kernel_rfl
@[push_cast] theorem ok_70 : okT prog 70 = true := by kernel_rfl
@[push_cast] theorem zo_70 : zOK prog 70 = true := by kernel_rfl
@[push_cast] theorem za_70 : qai prog 70 = .nils := by kernel_rfl
@[push_cast] theorem ce_70 : prog.cellsOf 70 = 1 := by kernel_rfl
@[push_cast] theorem ro_70 (k : Nat) : yam prog 70 k = decide (k ≤ 4294967296) := qal (by kernel_rfl) zo_70
@[push_cast] theorem sh_87 : zab prog 87 = .struct := by kernel_rfl
@[push_cast] theorem fl_87 : qaj prog 87 = [(3, 0), (3, 1), (24, 2)] := by kernel_rfl
@[push_cast] theorem po_87 : ya9 prog 87 = true := by kernel_rfl
@[push_cast] theorem ok_87 : okT prog 87 = true := by kernel_rfl
@[push_cast] theorem zo_87 : zOK prog 87 = true := by kernel_rfl
@[push_cast] theorem za_87 : qai prog 87 = .agg 87 [.int .i64 0, .int .i64 0, .nils] := by kernel_rfl
@[push_cast] theorem ce_87 : prog.cellsOf 87 = 3 := by kernel_rfl
@[push_cast] theorem ro_87 (k : Nat) : yam prog 87 k = decide (k ≤ 4294967296) := qal (by kernel_rfl) zo_87
@[push_cast] theorem sh_89 : zab prog 89 = .struct := by kernel_rfl
@[push_cast] theorem fl_89 : qaj prog 89 = [(3, 0), (3, 1), (4, 2), (24, 3)] := by kernel_rfl
@[push_cast] theorem po_89 : ya9 prog 89 = true := by kernel_rfl
@[push_cast] theorem ok_89 : okT prog 89 = true := by kernel_rfl
@[push_cast] theorem zo_89 : zOK prog 89 = true := by kernel_rfl
@[push_cast] theorem za_89 : qai prog 89 = .agg 89 [.int .i64 0, .int .i64 0, .bool false, .nils] := by kernel_rfl
@[push_cast] theorem ce_89 : prog.cellsOf 89 = 4 := by kernel_rfl
@[push_cast] theorem ro_89 (k : Nat) : yam prog 89 k = decide (k ≤ 4294967296) := qal (by kernel_rfl) zo_89
@[push_cast] theorem sh_94 : zab prog 94 = .struct := by kernel_rfl
@[push_cast] theorem fl_94 : qaj prog 94 = [(30, 0)] := by kernel_rfl
@[push_cast] theorem po_94 : ya9 prog 94 = true := by kernel_rfl
@[push_cast] theorem ok_94 : okT prog 94 = true := by kernel_rfl
@[push_cast] theorem zo_94 : zOK prog 94 = true := by kernel_rfl
@[push_cast] theorem za_94 : qai prog 94 = .agg 94 [.nils] := by kernel_rfl
@[push_cast] theorem ce_94 : prog.cellsOf 94 = 1 := by kernel_rfl
@[push_cast] theorem ro_94 (k : Nat) : yam prog 94 k = decide (k ≤ 4294967296) := qal (by kernel_rfl) zo_94
@[push_cast] theorem sh_96 : zab prog 96 = .int .u64 := by kernel_rfl
@[push_cast] theorem ok_96 : okT prog 96 = true := by kernel_rfl
@[push_cast] theorem zo_96 : zOK prog 96 = true := by kernel_rfl
@[push_cast] theorem za_96 : qai prog 96 = .int .u64 0 := by kernel_rfl
@[push_cast] theorem ce_96 : prog.cellsOf 96 = 1 := by kernel_rfl
@[push_cast] theorem ro_96 (k : Nat) : yam prog 96 k = decide (k ≤ 4294967296) := qal (by kernel_rfl) zo_96
@[push_cast] theorem sh_105 : zab prog 105 = .ptr 162 := by kernel_rfl
@[push_cast] theorem ok_105 : okT prog 105 = true := by kernel_rfl
@[push_cast] theorem zo_105 : zOK prog 105 = true := by kernel_rfl
@[push_cast] theorem za_105 : qai prog 105 = .nilptr := by kernel_rfl
@[push_cast] theorem ce_105 : prog.cellsOf 105 = 1 := by kernel_rfl
@[push_cast] theorem ro_105 (k : Nat) : yam prog 105 k = decide (k ≤ 4294967296) := qal (by kernel_rfl) zo_105
@[push_cast] theorem sh_110 : zab prog 110 = .func := by kernel_rfl
@[push_cast] theorem ok_110 : okT prog 110 = true := by kernel_rfl
@[push_cast] theorem zo_110 : zOK prog 110 = true := by kernel_rfl
@[push_cast] theorem za_110 : qai prog 110 = .nilfn := by kernel_rfl
@[push_cast] theorem ce_110 : prog.cellsOf 110 = 1 := by kernel_rfl
@[push_cast] theorem ro_110 (k : Nat) : yam prog 110 k = decide (k ≤ 4294967296) := qal (by kernel_rfl) zo_110
@[push_cast] theorem sh_113 : zab prog 113 = .ptr 115 := by kernel_rfl
@[push_cast] theorem ok_113 : okT prog 113 = true := by kernel_rfl
@[push_cast] theorem zo_113 : zOK prog 113 = true := by kernel_rfl
@[push_cast] theorem za_113 : qai prog 113 = .nilptr := by kernel_rfl
@[push_cast] theorem ce_113 : prog.cellsOf 113 = 1 := by kernel_rfl
@[push_cast] theorem ro_113 (k : Nat) : yam prog 113 k = decide (k ≤ 4294967296) := qal (by kernel_rfl) zo_113
@[push_cast] theorem sh_115 : zab prog 115 = .struct := by kernel_rfl
@[push_cast] theorem fl_115 : qaj prog 115 = [(30, 0), (4, 1)] := by kernel_rfl
@[push_cast] theorem po_115 : ya9 prog 115 = true := by kernel_rfl
@[push_cast] theorem ok_115 : okT prog 115 = true := by kernel_rfl
@[push_cast] theorem zo_115 : zOK prog 115 = true := by kernel_rfl
@[push_cast] theorem za_115 : qai prog 115 = .agg 115 [.nils, .bool false] := by kernel_rfl
@[push_cast] theorem ce_115 : prog.cellsOf 115 = 2 := by kernel_rfl
@[push_cast] theorem ro_115 (k : Nat) : yam prog 115 k = decide (k ≤ 4294967296) := qal (by kernel_rfl) zo_115
@[push_cast] theorem sh_120 : zab prog 120 = .func := by kernel_rfl
@[push_cast] theorem ok_120 : okT prog 120 = true := by kernel_rfl
@[push_cast] theorem zo_120 : zOK prog 120 = true := by kernel_rfl
@[push_cast] theorem za_120 : qai prog 120 = .nilfn := by kernel_rfl
@[push_cast] theorem ce_120 : prog.cellsOf 120 = 1 := by kernel_rfl
@[push_cast] theorem ro_120 (k : Nat) : yam prog 120 k = decide (k ≤ 4294967296) := qal (by kernel_rfl) zo_120
@[push_cast] theorem sh_122 : zab prog 122 = .func := by kernel_rfl
@[push_cast] theorem ok_122 : okT prog 122 = true := by kernel_rfl
@[push_cast] theorem zo_122 : zOK prog 122 = true := by kernel_rfl
@[push_cast] theorem za_122 : qai prog 122 = .nilfn := by kernel_rfl
@[push_cast] theorem ce_122 : prog.cellsOf 122 = 1 := by kernel_rfl
@[push_cast] theorem ro_122 (k : Nat) : yam prog 122 k = decide (k ≤ 4294967296) := qal (by kernel_rfl) zo_122
@[push_cast] theorem sh_124 : zab prog 124 = .func := by kernel_rfl
@[push_cast] theorem ok_124 : okT prog 124 = true := by kernel_rfl
@[push_cast] theorem zo_124 : zOK prog 124 = true := by kernel_rfl
@[push_cast] theorem za_124 : qai prog 124 = .nilfn := by kernel_rfl
@[push_cast] theorem ce_124 : prog.cellsOf 124 = 1 := by kernel_rfl
@[push_cast] theorem ro_124 (k : Nat) : yam prog 124 k = decide (k ≤ 4294967296) := qal (by kernel_rfl) zo_124
@[push_cast] theorem sh_146 : zab prog 146 = .ptr 148 := by kernel_rfl
@[push_cast] theorem ok_146 : okT prog 146 = true := by kernel_rfl
@[push_cast] theorem zo_146 : zOK prog 146 = true := by kernel_rfl
@[push_cast] theorem za_146 : qai prog 146 = .nilptr := by kernel_rfl
@[push_cast] theorem ce_146 : prog.cellsOf 146 = 1 := by kernel_rfl
@[push_cast] theorem ro_146 (k : Nat) : yam prog 146 k = decide (k ≤ 4294967296) := qal (by kernel_rfl) zo_146
@[push_cast] theorem sh_148 : zab prog 148 = .struct := by kernel_rfl
@[push_cast] theorem fl_148 : qaj prog 148 = [(29, 0), (60, 25), (63, 31)] := by kernel_rfl
@[push_cast] theorem po_148 : ya9 prog 148 = true := by kernel_rfl
@[push_cast] theorem ok_148 : okT prog 148 = true := by kernel_rfl
@[push_cast] theorem zo_148 : zOK prog 148 = true := by kernel_rfl
@[push_cast] theorem za_148 : qai prog 148 = .agg 148 [.agg 29 [.int .i64 0, .nils, .nils, .int .i64 0, .int .i64 0, .agg 27 [.agg 26 [.int .i64 0, .int .i64 0, .int .i64 0, .nils, .bool false], .agg 26 [.int .i64 0, .int .i64 0, .int .i64 0, .nils, .bool false], .agg 26 [.int .i64 0, .int .i64 0, .int .i64 0, .nils, .bool false], .agg 26 [.int .i64 0, .int .i64 0, .int .i64 0, .nils, .bool false]]], .agg 60 [.int .i64 0, .int .i64 0, .int .i64 0, .nils, .nils, .int .i64 0], .nils] := by kernel_rfl
@[push_cast] theorem ce_148 : prog.cellsOf 148 = 32 := by kernel_rfl
@[push_cast] theorem ro_148 (k : Nat) : yam prog 148 k = decide (k ≤ 4294967296) := qal (by kernel_rfl) zo_148
@[push_cast] theorem sh_151 : zab prog 151 = .func := by kernel_rfl
@[push_cast] theorem ok_151 : okT prog 151 = true := by kernel_rfl
@[push_cast] theorem zo_151 : zOK prog 151 = true := by kernel_rfl
@[push_cast] theorem za_151 : qai prog 151 = .nilfn := by kernel_rfl
@[push_cast] theorem ce_151 : prog.cellsOf 151 = 1 := by kernel_rfl
@[push_cast] theorem ro_151 (k : Nat) : yam prog 151 k = decide (k ≤ 4294967296) := qal (by kernel_rfl) zo_151
@[push_cast] theorem sh_155 : zab prog 155 = .arr 4 3 := by kernel_rfl
@[push_cast] theorem po_155 : ya9 prog 155 = true := by kernel_rfl
@[push_cast] theorem ok_155 : okT prog 155 = true := by kernel_rfl
@[push_cast] theorem zo_155 : zOK prog 155 = true := by kernel_rfl
@[push_cast] theorem za_155 : qai prog 155 = .agg 155 [.int .i64 0, .int .i64 0, .int .i64 0, .int .i64 0] := by kernel_rfl
@[push_cast] theorem ce_155 : prog.cellsOf 155 = 4 := by kernel_rfl
@[push_cast] theorem ro_155 (k : Nat) : yam prog 155 k = decide (k ≤ 4294967296) := qal (by kernel_rfl) zo_155
@[push_cast] theorem sh_157 : zab prog 157 = .ptr 94 := by kernel_rfl
@[push_cast] theorem ok_157 : okT prog 157 = true := by kernel_rfl
@[push_cast] theorem zo_157 : zOK prog 157 = true := by kernel_rfl
@[push_cast] theorem za_157 : qai prog 157 = .nilptr := by kernel_rfl
@[push_cast] theorem ce_157 : prog.cellsOf 157 = 1 := by kernel_rfl
@[push_cast] theorem ro_157 (k : Nat) : yam prog 157 k = decide (k ≤ 4294967296) := qal (by kernel_rfl) zo_157
@[push_cast] theorem sh_160 : zab prog 160 = .struct := by kernel_rfl
@[push_cast] theorem fl_160 : qaj prog 160 = [(3, 0), (2, 1), (9, 2)] := by kernel_rfl
@[push_cast] theorem po_160 : ya9 prog 160 = true := by kernel_rfl
@[push_cast] theorem ok_160 : okT prog 160 = true := by kernel_rfl
@[push_cast] theorem zo_160 : zOK prog 160 = true := by kernel_rfl
@[push_cast] theorem za_160 : qai prog 160 = .agg 160 [.int .i64 0, .int .i64 0, .str ByteArray.empty] := by kernel_rfl
@[push_cast] theorem ce_160 : prog.cellsOf 160 = 3 := by kernel_rfl
@[push_cast] theorem ro_160 (k : Nat) : yam prog 160 k = decide (k ≤ 4294967296) := qal (by kernel_rfl) zo_160
@[push_cast] theorem sh_162 : zab prog 162 = .struct := by kernel_rfl
@[push_cast] theorem fl_162 : qaj prog 162 = [(30, 0), (4, 1)] := by kernel_rfl
@[push_cast] theorem po_162 : ya9 prog 162 = true := by kernel_rfl
@[push_cast] theorem ok_162 : okT prog 162 = true := by kernel_rfl
@[push_cast] theorem zo_162 : zOK prog 162 = true := by kernel_rfl
@[push_cast] theorem za_162 : qai prog 162 = .agg 162 [.nils, .bool false] := by kernel_rfl
@[push_cast] theorem ce_162 : prog.cellsOf 162 = 2 := by kernel_rfl
@[push_cast] theorem ro_162 (k : Nat) : yam prog 162 k = decide (k ≤ 4294967296) := qal (by kernel_rfl) zo_162
@[push_cast] theorem sh_163 : zab prog 163 = .ptr 184 := by kernel_rfl
@[push_cast] theorem ok_163 : okT prog 163 = true := by kernel_rfl
@[push_cast] theorem zo_163 : zOK prog 163 = true := by kernel_rfl
@[push_cast] theorem za_163 : qai prog 163 = .nilptr := by kernel_rfl
@[push_cast] theorem ce_163 : prog.cellsOf 163 = 1 := by kernel_rfl
@[push_cast] theorem ro_163 (k : Nat) : yam prog 163 k = decide (k ≤ 4294967296) := qal (by kernel_rfl) zo_163
@[push_cast] theorem sh_166 : zab prog 166 = .int .u32 := by kernel_rfl
@[push_cast] theorem ok_166 : okT prog 166 = true := by kernel_rfl
@[push_cast] theorem zo_166 : zOK prog 166 = true := by kernel_rfl
@[push_cast] theorem za_166 : qai prog 166 = .int .u32 0 := by kernel_rfl
@[push_cast] theorem ce_166 : prog.cellsOf 166 = 1 := by kernel_rfl
@[push_cast] theorem ro_166 (k : Nat) : yam prog 166 k = decide (k ≤ 4294967296) := qal (by kernel_rfl) zo_166
@[push_cast] theorem sh_167 : zab prog 167 = .arr 8 166 := by kernel_rfl
@[push_cast] theorem po_167 : ya9 prog 167 = true := by kernel_rfl
@[push_cast] theorem ok_167 : okT prog 167 = true := by kernel_rfl
@[push_cast] theorem zo_167 : zOK prog 167 = true := by kernel_rfl
@[push_cast] theorem za_167 : qai prog 167 = .agg 167 [.int .u32 0, .int .u32 0, .int .u32 0, .int .u32 0, .int .u32 0, .int .u32 0, .int .u32 0, .int .u32 0] := by kernel_rfl
@[push_cast] theorem ce_167 : prog.cellsOf 167 = 8 := by kernel_rfl
@[push_cast] theorem ro_167 (k : Nat) : yam prog 167 k = decide (k ≤ 4294967296) := qal (by kernel_rfl) zo_167
@[push_cast] theorem sh_180 : zab prog 180 = .func := by kernel_rfl
@[push_cast] theorem ok_180 : okT prog 180 = true := by kernel_rfl
@[push_cast] theorem zo_180 : zOK prog 180 = true := by kernel_rfl
@[push_cast] theorem za_180 : qai prog 180 = .nilfn := by kernel_rfl
@[push_cast] theorem ce_180 : prog.cellsOf 180 = 1 := by kernel_rfl
@[push_cast] theorem ro_180 (k : Nat) : yam prog 180 k = decide (k ≤ 4294967296) := qal (by kernel_rfl) zo_180
@[push_cast] theorem sh_182 : zab prog 182 = .arr 64 5 := by kernel_rfl
@[push_cast] theorem po_182 : ya9 prog 182 = true := by kernel_rfl
@[push_cast] theorem ok_182 : okT prog 182 = true := by kernel_rfl
@[push_cast] theorem zo_182 : zOK prog 182 = true := by kernel_rfl
@[push_cast] theorem za_182 : qai prog 182 = .agg 182 [.int .u8 0, .int .u8 0, .int .u8 0, .int .u8 0, .int .u8 0, .int .u8 0, .int .u8 0, .int .u8 0, .int .u8 0, .int .u8 0, .int .u8 0, .int .u8 0, .int .u8 0, .int .u8 0, .int .u8 0, .int .u8 0, .int .u8 0, .int .u8 0, .int .u8 0, .int .u8 0, .int .u8 0, .int .u8 0, .int .u8 0, .int .u8 0, .int .u8 0, .int .u8 0, .int .u8 0, .int .u8 0, .int .u8 0, .int .u8 0, .int .u8 0, .int .u8 0, .int .u8 0, .int .u8 0, .int .u8 0, .int .u8 0, .int .u8 0, .int .u8 0, .int .u8 0, .int .u8 0, .int .u8 0, .int .u8 0, .int .u8 0, .int .u8 0, .int .u8 0, .int .u8 0, .int .u8 0, .int .u8 0, .int .u8 0, .int .u8 0, .int .u8 0, .int .u8 0, .int .u8 0, .int .u8 0, .int .u8 0, .int .u8 0, .int .u8 0, .int .u8 0, .int .u8 0, .int .u8 0, .int .u8 0, .int .u8 0, .int .u8 0, .int .u8 0] := by kernel_rfl
@[push_cast] theorem ce_182 : prog.cellsOf 182 = 64 := by kernel_rfl
@[push_cast] theorem ro_182 (k : Nat) : yam prog 182 k = decide (k ≤ 4294967296) := qal (by kernel_rfl) zo_182
@[push_cast] theorem sh_184 : zab prog 184 = .struct := by kernel_rfl
@[push_cast] theorem fl_184 : qaj prog 184 = [(167, 0), (182, 8), (96, 72)] := by kernel_rfl
@[push_cast] theorem po_184 : ya9 prog 184 = true := by kernel_rfl
@[push_cast] theorem ok_184 : okT prog 184 = true := by kernel_rfl
@[push_cast] theorem zo_184 : zOK prog 184 = true := by kernel_rfl
@[push_cast] theorem za_184 : qai prog 184 = .agg 184 [.agg 167 [.int .u32 0, .int .u32 0, .int .u32 0, .int .u32 0, .int .u32 0, .int .u32 0, .int .u32 0, .int .u32 0], .agg 182 [.int .u8 0, .int .u8 0, .int .u8 0, .int .u8 0, .int .u8 0, .int .u8 0, .int .u8 0, .int .u8 0, .int .u8 0, .int .u8 0, .int .u8 0, .int .u8 0, .int .u8 0, .int .u8 0, .int .u8 0, .int .u8 0, .int .u8 0, .int .u8 0, .int .u8 0, .int .u8 0, .int .u8 0, .int .u8 0, .int .u8 0, .int .u8 0, .int .u8 0, .int .u8 0, .int .u8 0, .int .u8 0, .int .u8 0, .int .u8 0, .int .u8 0, .int .u8 0, .int .u8 0, .int .u8 0, .int .u8 0, .int .u8 0, .int .u8 0, .int .u8 0, .int .u8 0, .int .u8 0, .int .u8 0, .int .u8 0, .int .u8 0, .int .u8 0, .int .u8 0, .int .u8 0, .int .u8 0, .int .u8 0, .int .u8 0, .int .u8 0, .int .u8 0, .int .u8 0, .int .u8 0, .int .u8 0, .int .u8 0, .int .u8 0, .int .u8 0, .int .u8 0, .int .u8 0, .int .u8 0, .int .u8 0, .int .u8 0, .int .u8 0, .int .u8 0], .int .u64 0] := by kernel_rfl
@[push_cast] theorem ce_184 : prog.cellsOf 184 = 73 := by kernel_rfl
@[push_cast] theorem ro_184 (k : Nat) : yam prog 184 k = decide (k ≤ 4294967296) := qal (by kernel_rfl) zo_184
@[push_cast] theorem sh_185 : zab prog 185 = .arr 64 166 := by kernel_rfl
@[push_cast] theorem po_185 : ya9 prog 185 = true := by kernel_rfl
@[push_cast] theorem ok_185 : okT prog 185 = true := by kernel_rfl
@[push_cast] theorem zo_185 : zOK prog 185 = true := by kernel_rfl
@[push_cast] theorem za_185 : qai prog 185 = .agg 185 [.int .u32 0, .int .u32 0, .int .u32 0, .int .u32 0, .int .u32 0, .int .u32 0, .int .u32 0, .int .u32 0, .int .u32 0, .int .u32 0, .int .u32 0, .int .u32 0, .int .u32 0, .int .u32 0, .int .u32 0, .int .u32 0, .int .u32 0, .int .u32 0, .int .u32 0, .int .u32 0, .int .u32 0, .int .u32 0, .int .u32 0, .int .u32 0, .int .u32 0, .int .u32 0, .int .u32 0, .int .u32 0, .int .u32 0, .int .u32 0, .int .u32 0, .int .u32 0, .int .u32 0, .int .u32 0, .int .u32 0, .int .u32 0, .int .u32 0, .int .u32 0, .int .u32 0, .int .u32 0, .int .u32 0, .int .u32 0, .int .u32 0, .int .u32 0, .int .u32 0, .int .u32 0, .int .u32 0, .int .u32 0, .int .u32 0, .int .u32 0, .int .u32 0, .int .u32 0, .int .u32 0, .int .u32 0, .int .u32 0, .int .u32 0, .int .u32 0, .int .u32 0, .int .u32 0, .int .u32 0, .int .u32 0, .int .u32 0, .int .u32 0, .int .u32 0] := by kernel_rfl
@[push_cast] theorem ce_185 : prog.cellsOf 185 = 64 := by kernel_rfl
@[push_cast] theorem ro_185 (k : Nat) : yam prog 185 k = decide (k ≤ 4294967296) := qal (by kernel_rfl) zo_185
@[push_cast] theorem sh_202 : zab prog 202 = .func := by kernel_rfl
@[push_cast] theorem ok_202 : okT prog 202 = true := by kernel_rfl
@[push_cast] theorem zo_202 : zOK prog 202 = true := by kernel_rfl
@[push_cast] theorem za_202 : qai prog 202 = .nilfn := by kernel_rfl
@[push_cast] theorem ce_202 : prog.cellsOf 202 = 1 := by kernel_rfl
@[push_cast] theorem ro_202 (k : Nat) : yam prog 202 k = decide (k ≤ 4294967296) := qal (by kernel_rfl) zo_202
theorem run_3 {args : List AV} {R : AV → Prop} (hn : args.length = 2) (hw : ∀ h, Rn prog [.code (zai Go.Proofs.Try.f3)] .normal (zaz 0 args [2, 4, 5, 6, 7, 8, 9, 10, 11, 12, 13, 21, 77]) h (Fin prog [.tmp 4] h R)) : zbp prog 3 args R :=
  qar wfp [2, 4, 5, 6, 7, 8, 9, 10, 11, 12, 13, 21, 77] Go.Proofs.Try.func3 _ rfl (by kernel_rfl) (by kernel_rfl) (by kernel_rfl) Go.Proofs.Try.ntmps3 (by rw [hn]; decide) hw
theorem run_12 {args : List AV} {R : AV → Prop} (hn : args.length = 1) (hw : ∀ h, Rn prog [.code (zai Go.Proofs.Try.f12)] .normal (zaz 0 args [1, 2, 3, 4, 5, 15, 20, 31, 36, 47, 49, 59]) h (Fin prog [.tmp 2] h R)) : zbp prog 12 args R :=
  qar wfp [1, 2, 3, 4, 5, 15, 20, 31, 36, 47, 49, 59] Go.Proofs.Try.func12 _ rfl (by kernel_rfl) (by kernel_rfl) (by kernel_rfl) Go.Proofs.Try.ntmps12 (by rw [hn]; decide) hw
theorem run_13 {args : List AV} {R : AV → Prop} (hn : args.length = 0) (hw : ∀ h, Rn prog [.code (zai Go.Proofs.Try.f13)] .normal (zaz 0 args [0, 1, 2, 3, 4, 5, 6, 7, 9, 11]) h (Fin prog [.tmp 0] h R)) : zbp prog 13 args R :=
  qar wfp [0, 1, 2, 3, 4, 5, 6, 7, 9, 11] Go.Proofs.Try.func13 _ rfl (by kernel_rfl) (by kernel_rfl) (by kernel_rfl) Go.Proofs.Try.ntmps13 (by rw [hn]; decide) hw
theorem run_14 {args : List AV} {R : AV → Prop} (hn : args.length = 1) (hw : ∀ h, Rn prog [.code (zai Go.Proofs.Try.f14)] .normal (zaz 0 args [1, 2, 3, 4, 5, 6, 7, 47, 52, 97, 102, 133, 135, 144]) h (Fin prog [.tmp 2] h R)) : zbp prog 14 args R :=
  qar wfp [1, 2, 3, 4, 5, 6, 7, 47, 52, 97, 102, 133, 135, 144] Go.Proofs.Try.func14 _ rfl (by kernel_rfl) (by kernel_rfl) (by kernel_rfl) Go.Proofs.Try.ntmps14 (by rw [hn]; decide) hw
theorem frun_15 {args : List AV} {h : List Entry} {K : AV → List Entry → Prop} (hn : args.length = 1) (hw : Rn prog [.code (zai Go.Proofs.Try.f15)] .normal (zaz 0 args [1, 2, 3, 4, 6, 8, 10, 13, 32, 33, 34, 35, 57, 58, 59, 60, 81, 82, 83]) h (ych prog [.tmp 2, .tmp 3] K)) : FSpec prog 15 args h K :=
  qa1 wfp [1, 2, 3, 4, 6, 8, 10, 13, 32, 33, 34, 35, 57, 58, 59, 60, 81, 82, 83] Go.Proofs.Try.func15 _ rfl (by kernel_rfl) (by kernel_rfl) (by kernel_rfl) Go.Proofs.Try.ntmps15 (by rw [hn]; decide) hw
theorem frun_16 {args : List AV} {h : List Entry} {K : AV → List Entry → Prop} (hn : args.length = 1) (hw : Rn prog [.code (zai Go.Proofs.Try.f16)] .normal (zaz 0 args [1, 2, 3, 4, 5, 12]) h (ych prog [.cell 2 36, .tmp 3] K)) : FSpec prog 16 args h K :=
  qa1 wfp [1, 2, 3, 4, 5, 12] Go.Proofs.Try.func16 _ rfl (by kernel_rfl) (by kernel_rfl) (by kernel_rfl) Go.Proofs.Try.ntmps16 (by rw [hn]; decide) hw
theorem run_17 {args : List AV} {R : AV → Prop} (hn : args.length = 2) (hw : ∀ h, Rn prog [.code (zai Go.Proofs.Try.f17)] .normal (zaz 0 args [4]) h (Fin prog [.tmp 4] h R)) : zbp prog 17 args R :=
  qar wfp [4] Go.Proofs.Try.func17 _ rfl (by kernel_rfl) (by kernel_rfl) (by kernel_rfl) Go.Proofs.Try.ntmps17 (by rw [hn]; decide) hw
theorem run_18 {args : List AV} {R : AV → Prop} (hn : args.length = 1) (hw : ∀ h, Rn prog [.code (zai Go.Proofs.Try.f18)] .normal (zaz 0 args [1, 2, 3, 4, 5, 6, 7, 8, 9, 33, 68, 95]) h (Fin prog [.tmp 2] h R)) : zbp prog 18 args R :=
  qar wfp [1, 2, 3, 4, 5, 6, 7, 8, 9, 33, 68, 95] Go.Proofs.Try.func18 _ rfl (by kernel_rfl) (by kernel_rfl) (by kernel_rfl) Go.Proofs.Try.ntmps18 (by rw [hn]; decide) hw
theorem run_19 {args : List AV} {R : AV → Prop} (hn : args.length = 1) (hw : ∀ h, Rn prog [.code (zai Go.Proofs.Try.f19)] .normal (zaz 0 args [1, 2]) h (Fin prog [.cell 2 36] h R)) : zbp prog 19 args R :=
  qar wfp [1, 2] Go.Proofs.Try.func19 _ rfl (by kernel_rfl) (by kernel_rfl) (by kernel_rfl) Go.Proofs.Try.ntmps19 (by rw [hn]; decide) hw
theorem frun_20 {args : List AV} {h : List Entry} {K : AV → List Entry → Prop} (hn : args.length = 1) (hw : Rn prog [.code (zai Go.Proofs.Try.f20)] .normal (zaz 0 args [2, 3, 4, 5, 6, 7, 8, 9, 10, 11, 28, 48, 68, 69, 105]) h (ych prog [.cell 2 29, .tmp 3] K)) : FSpec prog 20 args h K :=
  qa1 wfp [2, 3, 4, 5, 6, 7, 8, 9, 10, 11, 28, 48, 68, 69, 105] Go.Proofs.Try.func20 _ rfl (by kernel_rfl) (by kernel_rfl) (by kernel_rfl) Go.Proofs.Try.ntmps20 (by rw [hn]; decide) hw
theorem frun_21 {args : List AV} {h : List Entry} {K : AV → List Entry → Prop} (hn : args.length = 1) (hw : Rn prog [.code (zai Go.Proofs.Try.f21)] .normal (zaz 0 args [2, 3, 4, 5, 6, 7, 8, 9, 10, 11, 12, 39, 70, 94, 123]) h (ych prog [.cell 2 29, .tmp 3] K)) : FSpec prog 21 args h K :=
  qa1 wfp [2, 3, 4, 5, 6, 7, 8, 9, 10, 11, 12, 39, 70, 94, 123] Go.Proofs.Try.func21 _ rfl (by kernel_rfl) (by kernel_rfl) (by kernel_rfl) Go.Proofs.Try.ntmps21 (by rw [hn]; decide) hw
theorem run_22 {args : List AV} {R : AV → Prop} (hn : args.length = 2) (hw : ∀ h, Rn prog [.code (zai Go.Proofs.Try.f22)] .normal (zaz 0 args [2, 3, 4, 5, 6, 7, 8, 9, 10, 11, 48, 53, 85, 90, 129, 131, 143]) h (Fin prog [.tmp 4] h R)) : zbp prog 22 args R :=
  qar wfp [2, 3, 4, 5, 6, 7, 8, 9, 10, 11, 48, 53, 85, 90, 129, 131, 143] Go.Proofs.Try.func22 _ rfl (by kernel_rfl) (by kernel_rfl) (by kernel_rfl) Go.Proofs.Try.ntmps22 (by rw [hn]; decide) hw
theorem run_23 {args : List AV} {R : AV → Prop} (hn : args.length = 1) (hw : ∀ h, Rn prog [.code (zai Go.Proofs.Try.f23)] .normal (zaz 0 args [2]) h (Fin prog [.cell 2 36] h R)) : zbp prog 23 args R :=
  qar wfp [2] Go.Proofs.Try.func23 _ rfl (by kernel_rfl) (by kernel_rfl) (by kernel_rfl) Go.Proofs.Try.ntmps23 (by rw [hn]; decide) hw
theorem run_24 {args : List AV} {R : AV → Prop} (hn : args.length = 1) (hw : ∀ h, Rn prog [.code (zai Go.Proofs.Try.f24)] .normal (zaz 0 args [2]) h (Fin prog [.cell 2 36] h R)) : zbp prog 24 args R :=
  qar wfp [2] Go.Proofs.Try.func24 _ rfl (by kernel_rfl) (by kernel_rfl) (by kernel_rfl) Go.Proofs.Try.ntmps24 (by rw [hn]; decide) hw
theorem run_45 {args : List AV} {R : AV → Prop} (hn : args.length = 2) (hw : ∀ h, Rn prog [.code (zai Go.Proofs.Try.f45)] .normal (zaz 0 args [4, 5, 6, 12, 13]) h (Fin prog [.cell 4 29] h R)) : zbp prog 45 args R :=
  qar wfp [4, 5, 6, 12, 13] Go.Proofs.Try.func45 _ rfl (by kernel_rfl) (by kernel_rfl) (by kernel_rfl) Go.Proofs.Try.ntmps45 (by rw [hn]; decide) hw
theorem run_47 {args : List AV} {R : AV → Prop} (hn : args.length = 1) (hw : ∀ h, Rn prog [.code (zai Go.Proofs.Try.f47)] .normal (zaz 0 args [1, 2]) h (Fin prog [.tmp 2] h R)) : zbp prog 47 args R :=
  qar wfp [1, 2] Go.Proofs.Try.func47 _ rfl (by kernel_rfl) (by kernel_rfl) (by kernel_rfl) Go.Proofs.Try.ntmps47 (by rw [hn]; decide) hw
theorem run_48 {args : List AV} {R : AV → Prop} (hn : args.length = 1) (hw : ∀ h, Rn prog [.code (zai Go.Proofs.Try.f48)] .normal (zaz 0 args [2]) h (Fin prog [.tmp 2] h R)) : zbp prog 48 args R :=
  qar wfp [2] Go.Proofs.Try.func48 _ rfl (by kernel_rfl) (by kernel_rfl) (by kernel_rfl) Go.Proofs.Try.ntmps48 (by rw [hn]; decide) hw
theorem run_49 {args : List AV} {R : AV → Prop} (hn : args.length = 2) (hw : ∀ h, Rn prog [.code (zai Go.Proofs.Try.f49)] .normal (zaz 0 args [2, 4, 5, 6, 11, 21]) h (Fin prog [.tmp 4] h R)) : zbp prog 49 args R :=
  qar wfp [2, 4, 5, 6, 11, 21] Go.Proofs.Try.func49 _ rfl (by kernel_rfl) (by kernel_rfl) (by kernel_rfl) Go.Proofs.Try.ntmps49 (by rw [hn]; decide) hw
theorem run_50 {args : List AV} {R : AV → Prop} (hn : args.length = 1) (hw : ∀ h, Rn prog [.code (zai Go.Proofs.Try.f50)] .normal (zaz 0 args [2]) h (Fin prog [.tmp 2] h R)) : zbp prog 50 args R :=
  qar wfp [2] Go.Proofs.Try.func50 _ rfl (by kernel_rfl) (by kernel_rfl) (by kernel_rfl) Go.Proofs.Try.ntmps50 (by rw [hn]; decide) hw
theorem run_51 {args : List AV} {R : AV → Prop} (hn : args.length = 2) (hw : ∀ h, Rn prog [.code (zai Go.Proofs.Try.f51)] .normal (zaz 0 args [2, 4, 18, 21, 43, 46]) h (Fin prog [.tmp 4] h R)) : zbp prog 51 args R :=
  qar wfp [2, 4, 18, 21, 43, 46] Go.Proofs.Try.func51 _ rfl (by kernel_rfl) (by kernel_rfl) (by kernel_rfl) Go.Proofs.Try.ntmps51 (by rw [hn]; decide) hw
theorem run_52 {args : List AV} {R : AV → Prop} (hn : args.length = 1) (hw : ∀ h, Rn prog [.code (zai Go.Proofs.Try.f52)] .normal (zaz 0 args [1, 2, 3, 5, 7, 8, 9, 41, 43, 44, 45, 46, 53, 64, 67, 68, 69, 70, 92, 95, 96, 97, 103]) h (Fin prog [.tmp 2] h R)) : zbp prog 52 args R :=
  qar wfp [1, 2, 3, 5, 7, 8, 9, 41, 43, 44, 45, 46, 53, 64, 67, 68, 69, 70, 92, 95, 96, 97, 103] Go.Proofs.Try.func52 _ rfl (by kernel_rfl) (by kernel_rfl) (by kernel_rfl) Go.Proofs.Try.ntmps52 (by rw [hn]; decide) hw
theorem frun_53 {args : List AV} {h : List Entry} {K : AV → List Entry → Prop} (hn : args.length = 3) (hw : Rn prog [.code (zai Go.Proofs.Try.f53)] .normal (zaz 0 args [6, 16, 20]) h (ych prog [] K)) : FSpec prog 53 args h K :=
  qa1 wfp [6, 16, 20] Go.Proofs.Try.func53 _ rfl (by kernel_rfl) (by kernel_rfl) (by kernel_rfl) Go.Proofs.Try.ntmps53 (by rw [hn]; decide) hw
theorem frun_54 {args : List AV} {h : List Entry} {K : AV → List Entry → Prop} (hn : args.length = 2) (hw : Rn prog [.code (zai Go.Proofs.Try.f54)] .normal (zaz 0 args []) h (ych prog [] K)) : FSpec prog 54 args h K :=
  qa1 wfp [] Go.Proofs.Try.func54 _ rfl (by kernel_rfl) (by kernel_rfl) (by kernel_rfl) Go.Proofs.Try.ntmps54 (by rw [hn]; decide) hw
theorem run_55 {args : List AV} {R : AV → Prop} (hn : args.length = 1) (hw : ∀ h, Rn prog [.code (zai Go.Proofs.Try.f55)] .normal (zaz 0 args [2, 3]) h (Fin prog [.tmp 2] h R)) : zbp prog 55 args R :=
  qar wfp [2, 3] Go.Proofs.Try.func55 _ rfl (by kernel_rfl) (by kernel_rfl) (by kernel_rfl) Go.Proofs.Try.ntmps55 (by rw [hn]; decide) hw
theorem run_56 {args : List AV} {R : AV → Prop} (hn : args.length = 1) (hw : ∀ h, Rn prog [.code (zai Go.Proofs.Try.f56)] .normal (zaz 0 args [2, 3]) h (Fin prog [.tmp 2] h R)) : zbp prog 56 args R :=
  qar wfp [2, 3] Go.Proofs.Try.func56 _ rfl (by kernel_rfl) (by kernel_rfl) (by kernel_rfl) Go.Proofs.Try.ntmps56 (by rw [hn]; decide) hw
theorem frun_57 {args : List AV} {h : List Entry} {K : AV → List Entry → Prop} (hn : args.length = 1) (hw : Rn prog [.code (zai Go.Proofs.Try.f57)] .normal (zaz 0 args [2, 4]) h (ych prog [.tmp 2] K)) : FSpec prog 57 args h K :=
  qa1 wfp [2, 4] Go.Proofs.Try.func57 _ rfl (by kernel_rfl) (by kernel_rfl) (by kernel_rfl) Go.Proofs.Try.ntmps57 (by rw [hn]; decide) hw
theorem run_58 {args : List AV} {R : AV → Prop} (hn : args.length = 1) (hw : ∀ h, Rn prog [.code (zai Go.Proofs.Try.f58)] .normal (zaz 0 args [2, 3, 4, 8]) h (Fin prog [.tmp 2] h R)) : zbp prog 58 args R :=
  qar wfp [2, 3, 4, 8] Go.Proofs.Try.func58 _ rfl (by kernel_rfl) (by kernel_rfl) (by kernel_rfl) Go.Proofs.Try.ntmps58 (by rw [hn]; decide) hw
theorem frun_59 {args : List AV} {h : List Entry} {K : AV → List Entry → Prop} (hn : args.length = 2) (hw : Rn prog [.code (zai Go.Proofs.Try.f59)] .normal (zaz 0 args [4, 5, 6, 12, 17]) h (ych prog [.tmp 4] K)) : FSpec prog 59 args h K :=
  qa1 wfp [4, 5, 6, 12, 17] Go.Proofs.Try.func59 _ rfl (by kernel_rfl) (by kernel_rfl) (by kernel_rfl) Go.Proofs.Try.ntmps59 (by rw [hn]; decide) hw
theorem frun_60 {args : List AV} {h : List Entry} {K : AV → List Entry → Prop} (hn : args.length = 1) (hw : Rn prog [.code (zai Go.Proofs.Try.f60)] .normal (zaz 0 args [2]) h (ych prog [.tmp 2] K)) : FSpec prog 60 args h K :=
  qa1 wfp [2] Go.Proofs.Try.func60 _ rfl (by kernel_rfl) (by kernel_rfl) (by kernel_rfl) Go.Proofs.Try.ntmps60 (by rw [hn]; decide) hw
theorem frun_61 {args : List AV} {h : List Entry} {K : AV → List Entry → Prop} (hn : args.length = 1) (hw : Rn prog [.code (zai Go.Proofs.Try.f61)] .normal (zaz 0 args [2, 3, 4, 7, 15, 31, 32, 43]) h (ych prog [.tmp 2] K)) : FSpec prog 61 args h K :=
  qa1 wfp [2, 3, 4, 7, 15, 31, 32, 43] Go.Proofs.Try.func61 _ rfl (by kernel_rfl) (by kernel_rfl) (by kernel_rfl) Go.Proofs.Try.ntmps61 (by rw [hn]; decide) hw
theorem run_62 {args : List AV} {R : AV → Prop} (hn : args.length = 1) (hw : ∀ h, Rn prog [.code (zai Go.Proofs.Try.f62)] .normal (zaz 0 args [2, 3]) h (Fin prog [.tmp 2] h R)) : zbp prog 62 args R :=
  qar wfp [2, 3] Go.Proofs.Try.func62 _ rfl (by kernel_rfl) (by kernel_rfl) (by kernel_rfl) Go.Proofs.Try.ntmps62 (by rw [hn]; decide) hw
theorem frun_63 {args : List AV} {h : List Entry} {K : AV → List Entry → Prop} (hn : args.length = 1) (hw : Rn prog [.code (zai Go.Proofs.Try.f63)] .normal (zaz 0 args [2]) h (ych prog [.tmp 2] K)) : FSpec prog 63 args h K :=
  qa1 wfp [2] Go.Proofs.Try.func63 _ rfl (by kernel_rfl) (by kernel_rfl) (by kernel_rfl) Go.Proofs.Try.ntmps63 (by rw [hn]; decide) hw
theorem frun_64 {args : List AV} {h : List Entry} {K : AV → List Entry → Prop} (hn : args.length = 1) (hw : Rn prog [.code (zai Go.Proofs.Try.f64)] .normal (zaz 0 args [1, 2]) h (ych prog [.tmp 1] K)) : FSpec prog 64 args h K :=
  qa1 wfp [1, 2] Go.Proofs.Try.func64 _ rfl (by kernel_rfl) (by kernel_rfl) (by kernel_rfl) Go.Proofs.Try.ntmps64 (by rw [hn]; decide) hw
theorem frun_65 {args : List AV} {h : List Entry} {K : AV → List Entry → Prop} (hn : args.length = 1) (hw : Rn prog [.code (zai Go.Proofs.Try.f65)] .normal (zaz 0 args [2, 3, 4, 5, 6, 7, 14, 22, 23, 29, 46]) h (ych prog [.tmp 2, .tmp 3] K)) : FSpec prog 65 args h K :=
  qa1 wfp [2, 3, 4, 5, 6, 7, 14, 22, 23, 29, 46] Go.Proofs.Try.func65 _ rfl (by kernel_rfl) (by kernel_rfl) (by kernel_rfl) Go.Proofs.Try.ntmps65 (by rw [hn]; decide) hw
theorem frun_66 {args : List AV} {h : List Entry} {K : AV → List Entry → Prop} (hn : args.length = 2) (hw : Rn prog [.code (zai Go.Proofs.Try.f66)] .normal (zaz 0 args [4, 5, 12]) h (ych prog [.tmp 4] K)) : FSpec prog 66 args h K :=
  qa1 wfp [4, 5, 12] Go.Proofs.Try.func66 _ rfl (by kernel_rfl) (by kernel_rfl) (by kernel_rfl) Go.Proofs.Try.ntmps66 (by rw [hn]; decide) hw
theorem frun_67 {args : List AV} {h : List Entry} {K : AV → List Entry → Prop} (hn : args.length = 2) (hw : Rn prog [.code (zai Go.Proofs.Try.f67)] .normal (zaz 0 args [4, 5, 6, 12, 16, 17, 18, 19]) h (ych prog [.tmp 4] K)) : FSpec prog 67 args h K :=
  qa1 wfp [4, 5, 6, 12, 16, 17, 18, 19] Go.Proofs.Try.func67 _ rfl (by kernel_rfl) (by kernel_rfl) (by kernel_rfl) Go.Proofs.Try.ntmps67 (by rw [hn]; decide) hw
theorem frun_68 {args : List AV} {h : List Entry} {K : AV → List Entry → Prop} (hn : args.length = 1) (hw : Rn prog [.code (zai Go.Proofs.Try.f68)] .normal (zaz 0 args [2, 13]) h (ych prog [.tmp 2] K)) : FSpec prog 68 args h K :=
  qa1 wfp [2, 13] Go.Proofs.Try.func68 _ rfl (by kernel_rfl) (by kernel_rfl) (by kernel_rfl) Go.Proofs.Try.ntmps68 (by rw [hn]; decide) hw
theorem run_69 {args : List AV} {R : AV → Prop} (hn : args.length = 2) (hw : ∀ h, Rn prog [.code (zai Go.Proofs.Try.f69)] .normal (zaz 0 args [4, 5, 10, 12, 13, 14, 24]) h (Fin prog [.tmp 4] h R)) : zbp prog 69 args R :=
  qar wfp [4, 5, 10, 12, 13, 14, 24] Go.Proofs.Try.func69 _ rfl (by kernel_rfl) (by kernel_rfl) (by kernel_rfl) Go.Proofs.Try.ntmps69 (by rw [hn]; decide) hw
theorem frun_70 {args : List AV} {h : List Entry} {K : AV → List Entry → Prop} (hn : args.length = 1) (hw : Rn prog [.code (zai Go.Proofs.Try.f70)] .normal (zaz 0 args [2, 3, 7]) h (ych prog [.tmp 2] K)) : FSpec prog 70 args h K :=
  qa1 wfp [2, 3, 7] Go.Proofs.Try.func70 _ rfl (by kernel_rfl) (by kernel_rfl) (by kernel_rfl) Go.Proofs.Try.ntmps70 (by rw [hn]; decide) hw
theorem frun_71 {args : List AV} {h : List Entry} {K : AV → List Entry → Prop} (hn : args.length = 2) (hw : Rn prog [.code (zai Go.Proofs.Try.f71)] .normal (zaz 0 args [4, 5, 6, 7, 13, 20]) h (ych prog [.tmp 4] K)) : FSpec prog 71 args h K :=
  qa1 wfp [4, 5, 6, 7, 13, 20] Go.Proofs.Try.func71 _ rfl (by kernel_rfl) (by kernel_rfl) (by kernel_rfl) Go.Proofs.Try.ntmps71 (by rw [hn]; decide) hw
theorem frun_72 {args : List AV} {h : List Entry} {K : AV → List Entry → Prop} (hn : args.length = 1) (hw : Rn prog [.code (zai Go.Proofs.Try.f72)] .normal (zaz 0 args [2, 3, 4, 5, 10, 17]) h (ych prog [.tmp 2] K)) : FSpec prog 72 args h K :=
  qa1 wfp [2, 3, 4, 5, 10, 17] Go.Proofs.Try.func72 _ rfl (by kernel_rfl) (by kernel_rfl) (by kernel_rfl) Go.Proofs.Try.ntmps72 (by rw [hn]; decide) hw
theorem frun_73 {args : List AV} {h : List Entry} {K : AV → List Entry → Prop} (hn : args.length = 1) (hw : Rn prog [.code (zai Go.Proofs.Try.f73)] .normal (zaz 0 args [2, 3, 7]) h (ych prog [.tmp 2] K)) : FSpec prog 73 args h K :=
  qa1 wfp [2, 3, 7] Go.Proofs.Try.func73 _ rfl (by kernel_rfl) (by kernel_rfl) (by kernel_rfl) Go.Proofs.Try.ntmps73 (by rw [hn]; decide) hw
theorem frun_74 {args : List AV} {h : List Entry} {K : AV → List Entry → Prop} (hn : args.length = 1) (hw : Rn prog [.code (zai Go.Proofs.Try.f74)] .normal (zaz 0 args [2, 14]) h (ych prog [.tmp 2] K)) : FSpec prog 74 args h K :=
  qa1 wfp [2, 14] Go.Proofs.Try.func74 _ rfl (by kernel_rfl) (by kernel_rfl) (by kernel_rfl) Go.Proofs.Try.ntmps74 (by rw [hn]; decide) hw
theorem run_75 {args : List AV} {R : AV → Prop} (hn : args.length = 2) (hw : ∀ h, Rn prog [.code (zai Go.Proofs.Try.f75)] .normal (zaz 0 args [4, 5, 10, 14, 25]) h (Fin prog [.tmp 4] h R)) : zbp prog 75 args R :=
  qar wfp [4, 5, 10, 14, 25] Go.Proofs.Try.func75 _ rfl (by kernel_rfl) (by kernel_rfl) (by kernel_rfl) Go.Proofs.Try.ntmps75 (by rw [hn]; decide) hw
theorem run_76 {args : List AV} {R : AV → Prop} (hn : args.length = 2) (hw : ∀ h, Rn prog [.code (zai Go.Proofs.Try.f76)] .normal (zaz 0 args [2, 3, 4]) h (Fin prog [.tmp 4] h R)) : zbp prog 76 args R :=
  qar wfp [2, 3, 4] Go.Proofs.Try.func76 _ rfl (by kernel_rfl) (by kernel_rfl) (by kernel_rfl) Go.Proofs.Try.ntmps76 (by rw [hn]; decide) hw
theorem run_77 {args : List AV} {R : AV → Prop} (hn : args.length = 1) (hw : ∀ h, Rn prog [.code (zai Go.Proofs.Try.f77)] .normal (zaz 0 args [2, 3]) h (Fin prog [.cell 2 36] h R)) : zbp prog 77 args R :=
  qar wfp [2, 3] Go.Proofs.Try.func77 _ rfl (by kernel_rfl) (by kernel_rfl) (by kernel_rfl) Go.Proofs.Try.ntmps77 (by rw [hn]; decide) hw
theorem run_78 {args : List AV} {R : AV → Prop} (hn : args.length = 1) (hw : ∀ h, Rn prog [.code (zai Go.Proofs.Try.f78)] .normal (zaz 0 args [2, 3, 4, 5, 6, 7, 8, 9, 18, 27, 43, 51]) h (Fin prog [.cell 2 36] h R)) : zbp prog 78 args R :=
  qar wfp [2, 3, 4, 5, 6, 7, 8, 9, 18, 27, 43, 51] Go.Proofs.Try.func78 _ rfl (by kernel_rfl) (by kernel_rfl) (by kernel_rfl) Go.Proofs.Try.ntmps78 (by rw [hn]; decide) hw
theorem frun_101 {args : List AV} {h : List Entry} {K : AV → List Entry → Prop} (hn : args.length = 2) (hw : Rn prog [.code (zai Go.Proofs.Try.f101)] .normal (zaz 0 args [5]) h (ych prog [] K)) : FSpec prog 101 args h K :=
  qa1 wfp [5] Go.Proofs.Try.func101 _ rfl (by kernel_rfl) (by kernel_rfl) (by kernel_rfl) Go.Proofs.Try.ntmps101 (by rw [hn]; decide) hw
theorem frun_102 {args : List AV} {h : List Entry} {K : AV → List Entry → Prop} (hn : args.length = 2) (hw : Rn prog [.code (zai Go.Proofs.Try.f102)] .normal (zaz 0 args [4, 5, 9]) h (ych prog [.tmp 4] K)) : FSpec prog 102 args h K :=
  qa1 wfp [4, 5, 9] Go.Proofs.Try.func102 _ rfl (by kernel_rfl) (by kernel_rfl) (by kernel_rfl) Go.Proofs.Try.ntmps102 (by rw [hn]; decide) hw
theorem run_113 {args : List AV} {R : AV → Prop} (hn : args.length = 1) (hw : ∀ h, Rn prog [.code (zai Go.Proofs.Try.f113)] .normal (zaz 0 args [2, 3, 6, 10, 19]) h (Fin prog [.tmp 2] h R)) : zbp prog 113 args R :=
  qar wfp [2, 3, 6, 10, 19] Go.Proofs.Try.func113 _ rfl (by kernel_rfl) (by kernel_rfl) (by kernel_rfl) Go.Proofs.Try.ntmps113 (by rw [hn]; decide) hw
theorem run_114 {args : List AV} {R : AV → Prop} (hn : args.length = 2) (hw : ∀ h, Rn prog [.code (zai Go.Proofs.Try.f114)] .normal (zaz 0 args [4, 5, 6, 14, 18, 59]) h (Fin prog [.tmp 4] h R)) : zbp prog 114 args R :=
  qar wfp [4, 5, 6, 14, 18, 59] Go.Proofs.Try.func114 _ rfl (by kernel_rfl) (by kernel_rfl) (by kernel_rfl) Go.Proofs.Try.ntmps114 (by rw [hn]; decide) hw
theorem run_115 {args : List AV} {R : AV → Prop} (hn : args.length = 2) (hw : ∀ h, Rn prog [.code (zai Go.Proofs.Try.f115)] .normal (zaz 0 args [2, 4]) h (Fin prog [.tmp 4] h R)) : zbp prog 115 args R :=
  qar wfp [2, 4] Go.Proofs.Try.func115 _ rfl (by kernel_rfl) (by kernel_rfl) (by kernel_rfl) Go.Proofs.Try.ntmps115 (by rw [hn]; decide) hw
theorem run_116 {args : List AV} {R : AV → Prop} (hn : args.length = 1) (hw : ∀ h, Rn prog [.code (zai Go.Proofs.Try.f116)] .normal (zaz 0 args [2]) h (Fin prog [.tmp 2] h R)) : zbp prog 116 args R :=
  qar wfp [2] Go.Proofs.Try.func116 _ rfl (by kernel_rfl) (by kernel_rfl) (by kernel_rfl) Go.Proofs.Try.ntmps116 (by rw [hn]; decide) hw
theorem run_117 {args : List AV} {R : AV → Prop} (hn : args.length = 1) (hw : ∀ h, Rn prog [.code (zai Go.Proofs.Try.f117)] .normal (zaz 0 args [2]) h (Fin prog [.tmp 2] h R)) : zbp prog 117 args R :=
  qar wfp [2] Go.Proofs.Try.func117 _ rfl (by kernel_rfl) (by kernel_rfl) (by kernel_rfl) Go.Proofs.Try.ntmps117 (by rw [hn]; decide) hw
theorem run_118 {args : List AV} {R : AV → Prop} (hn : args.length = 2) (hw : ∀ h, Rn prog [.code (zai Go.Proofs.Try.f118)] .normal (zaz 0 args [2, 4, 18, 21, 38]) h (Fin prog [.tmp 4] h R)) : zbp prog 118 args R :=
  qar wfp [2, 4, 18, 21, 38] Go.Proofs.Try.func118 _ rfl (by kernel_rfl) (by kernel_rfl) (by kernel_rfl) Go.Proofs.Try.ntmps118 (by rw [hn]; decide) hw
theorem frun_119 {args : List AV} {h : List Entry} {K : AV → List Entry → Prop} (hn : args.length = 1) (hw : Rn prog [.code (zai Go.Proofs.Try.f119)] .normal (zaz 0 args [2, 3, 4, 6, 9, 14, 15, 16, 17, 25, 26, 32]) h (ych prog [.tmp 2, .tmp 3] K)) : FSpec prog 119 args h K :=
  qa1 wfp [2, 3, 4, 6, 9, 14, 15, 16, 17, 25, 26, 32] Go.Proofs.Try.func119 _ rfl (by kernel_rfl) (by kernel_rfl) (by kernel_rfl) Go.Proofs.Try.ntmps119 (by rw [hn]; decide) hw
theorem frun_120 {args : List AV} {h : List Entry} {K : AV → List Entry → Prop} (hn : args.length = 2) (hw : Rn prog [.code (zai Go.Proofs.Try.f120)] .normal (zaz 0 args [4, 6]) h (ych prog [.tmp 4] K)) : FSpec prog 120 args h K :=
  qa1 wfp [4, 6] Go.Proofs.Try.func120 _ rfl (by kernel_rfl) (by kernel_rfl) (by kernel_rfl) Go.Proofs.Try.ntmps120 (by rw [hn]; decide) hw
theorem frun_121 {args : List AV} {h : List Entry} {K : AV → List Entry → Prop} (hn : args.length = 2) (hw : Rn prog [.code (zai Go.Proofs.Try.f121)] .normal (zaz 0 args [4, 5, 22]) h (ych prog [.tmp 4] K)) : FSpec prog 121 args h K :=
  qa1 wfp [4, 5, 22] Go.Proofs.Try.func121 _ rfl (by kernel_rfl) (by kernel_rfl) (by kernel_rfl) Go.Proofs.Try.ntmps121 (by rw [hn]; decide) hw
theorem frun_122 {args : List AV} {h : List Entry} {K : AV → List Entry → Prop} (hn : args.length = 2) (hw : Rn prog [.code (zai Go.Proofs.Try.f122)] .normal (zaz 0 args [4, 5, 22]) h (ych prog [.tmp 4] K)) : FSpec prog 122 args h K :=
  qa1 wfp [4, 5, 22] Go.Proofs.Try.func122 _ rfl (by kernel_rfl) (by kernel_rfl) (by kernel_rfl) Go.Proofs.Try.ntmps122 (by rw [hn]; decide) hw
theorem frun_123 {args : List AV} {h : List Entry} {K : AV → List Entry → Prop} (hn : args.length = 1) (hw : Rn prog [.code (zai Go.Proofs.Try.f123)] .normal (zaz 0 args [2, 3, 4, 5, 6, 7, 8, 24, 32, 33, 39, 56]) h (ych prog [.tmp 2, .tmp 3] K)) : FSpec prog 123 args h K :=
  qa1 wfp [2, 3, 4, 5, 6, 7, 8, 24, 32, 33, 39, 56] Go.Proofs.Try.func123 _ rfl (by kernel_rfl) (by kernel_rfl) (by kernel_rfl) Go.Proofs.Try.ntmps123 (by rw [hn]; decide) hw
theorem frun_124 {args : List AV} {h : List Entry} {K : AV → List Entry → Prop} (hn : args.length = 0) (hw : Rn prog [.code (zai Go.Proofs.Try.f124)] .normal (zaz 0 args [0]) h (ych prog [.tmp 0] K)) : FSpec prog 124 args h K :=
  qa1 wfp [0] Go.Proofs.Try.func124 _ rfl (by kernel_rfl) (by kernel_rfl) (by kernel_rfl) Go.Proofs.Try.ntmps124 (by rw [hn]; decide) hw
theorem frun_125 {args : List AV} {h : List Entry} {K : AV → List Entry → Prop} (hn : args.length = 2) (hw : Rn prog [.code (zai Go.Proofs.Try.f125)] .normal (zaz 0 args [4, 5, 7, 25, 39]) h (ych prog [] K)) : FSpec prog 125 args h K :=
  qa1 wfp [4, 5, 7, 25, 39] Go.Proofs.Try.func125 _ rfl (by kernel_rfl) (by kernel_rfl) (by kernel_rfl) Go.Proofs.Try.ntmps125 (by rw [hn]; decide) hw
theorem frun_126 {args : List AV} {h : List Entry} {K : AV → List Entry → Prop} (hn : args.length = 1) (hw : Rn prog [.code (zai Go.Proofs.Try.f126)] .normal (zaz 0 args [2, 3, 4, 5, 6, 7, 8, 9, 13, 26, 31, 49, 50, 51]) h (ych prog [.cell 2 36] K)) : FSpec prog 126 args h K :=
  qa1 wfp [2, 3, 4, 5, 6, 7, 8, 9, 13, 26, 31, 49, 50, 51] Go.Proofs.Try.func126 _ rfl (by kernel_rfl) (by kernel_rfl) (by kernel_rfl) Go.Proofs.Try.ntmps126 (by rw [hn]; decide) hw
theorem run_127 {args : List AV} {R : AV → Prop} (hn : args.length = 3) (hw : ∀ h, Rn prog [.code (zai Go.Proofs.Try.f127)] .normal (zaz 0 args [3, 6, 7, 8, 9, 10, 11, 12, 13, 14, 15, 16, 17, 18, 19, 22, 69, 111, 191]) h (Fin prog [.cell 6 167] h R)) : zbp prog 127 args R :=
  qar wfp [3, 6, 7, 8, 9, 10, 11, 12, 13, 14, 15, 16, 17, 18, 19, 22, 69, 111, 191] Go.Proofs.Try.func127 _ rfl (by kernel_rfl) (by kernel_rfl) (by kernel_rfl) Go.Proofs.Try.ntmps127 (by rw [hn]; decide) hw
theorem run_138 {args : List AV} {R : AV → Prop} (hn : args.length = 1) (hw : ∀ h, Rn prog [.code (zai Go.Proofs.Try.f138)] .normal (zaz 0 args [2]) h (Fin prog [.tmp 2] h R)) : zbp prog 138 args R :=
  qar wfp [2] Go.Proofs.Try.func138 _ rfl (by kernel_rfl) (by kernel_rfl) (by kernel_rfl) Go.Proofs.Try.ntmps138 (by rw [hn]; decide) hw
theorem run_148 {args : List AV} {R : AV → Prop} (hn : args.length = 2) (hw : ∀ h, Rn prog [.code (zai Go.Proofs.Try.f148)] .normal (zaz 0 args [3, 4]) h (Fin prog [.tmp 4] h R)) : zbp prog 148 args R :=
  qar wfp [3, 4] Go.Proofs.Try.func148 _ rfl (by kernel_rfl) (by kernel_rfl) (by kernel_rfl) Go.Proofs.Try.ntmps148 (by rw [hn]; decide) hw
theorem run_149 {args : List AV} {R : AV → Prop} (hn : args.length = 1) (hw : ∀ h, Rn prog [.code (zai Go.Proofs.Try.f149)] .normal (zaz 0 args [1, 2, 4, 5]) h (Fin prog [.tmp 2] h R)) : zbp prog 149 args R :=
  qar wfp [1, 2, 4, 5] Go.Proofs.Try.func149 _ rfl (by kernel_rfl) (by kernel_rfl) (by kernel_rfl) Go.Proofs.Try.ntmps149 (by rw [hn]; decide) hw
theorem run_150 {args : List AV} {R : AV → Prop} (hn : args.length = 0) (hw : ∀ h, Rn prog [.code (zai Go.Proofs.Try.f150)] .normal (zaz 0 args [0]) h (Fin prog [.cell 0 167] h R)) : zbp prog 150 args R :=
  qar wfp [0] Go.Proofs.Try.func150 _ rfl (by kernel_rfl) (by kernel_rfl) (by kernel_rfl) Go.Proofs.Try.ntmps150 (by rw [hn]; decide) hw
theorem frun_151 {args : List AV} {h : List Entry} {K : AV → List Entry → Prop} (hn : args.length = 2) (hw : Rn prog [.code (zai Go.Proofs.Try.f151)] .normal (zaz 0 args [4, 5, 6, 7, 8, 9, 10, 11, 12, 13, 14, 15, 16, 17, 18, 19, 23, 26, 27, 66, 112, 113, 203, 204]) h (ych prog [] K)) : FSpec prog 151 args h K :=
  qa1 wfp [4, 5, 6, 7, 8, 9, 10, 11, 12, 13, 14, 15, 16, 17, 18, 19, 23, 26, 27, 66, 112, 113, 203, 204] Go.Proofs.Try.func151 _ rfl (by kernel_rfl) (by kernel_rfl) (by kernel_rfl) Go.Proofs.Try.ntmps151 (by rw [hn]; decide) hw
theorem frun_152 {args : List AV} {h : List Entry} {K : AV → List Entry → Prop} (hn : args.length = 1) (hw : Rn prog [.code (zai Go.Proofs.Try.f152)] .normal (zaz 0 args [2, 3, 5]) h (ych prog [.tmp 2] K)) : FSpec prog 152 args h K :=
  qa1 wfp [2, 3, 5] Go.Proofs.Try.func152 _ rfl (by kernel_rfl) (by kernel_rfl) (by kernel_rfl) Go.Proofs.Try.ntmps152 (by rw [hn]; decide) hw
theorem run_153 {args : List AV} {R : AV → Prop} (hn : args.length = 2) (hw : ∀ h, Rn prog [.code (zai Go.Proofs.Try.f153)] .normal (zaz 0 args [4]) h (Fin prog [.tmp 4] h R)) : zbp prog 153 args R :=
  qar wfp [4] Go.Proofs.Try.func153 _ rfl (by kernel_rfl) (by kernel_rfl) (by kernel_rfl) Go.Proofs.Try.ntmps153 (by rw [hn]; decide) hw
theorem run_158 {args : List AV} {R : AV → Prop} (hn : args.length = 1) (hw : ∀ h, Rn prog [.code (zai Go.Proofs.Try.f158)] .normal (zaz 0 args [1, 2, 4, 5, 10]) h (Fin prog [.tmp 2] h R)) : zbp prog 158 args R :=
  qar wfp [1, 2, 4, 5, 10] Go.Proofs.Try.func158 _ rfl (by kernel_rfl) (by kernel_rfl) (by kernel_rfl) Go.Proofs.Try.ntmps158 (by rw [hn]; decide) hw
theorem run_165 {args : List AV} {R : AV → Prop} (hn : args.length = 2) (hw : ∀ h, Rn prog [.code (zai Go.Proofs.Try.f165)] .normal (zaz 0 args [4]) h (Fin prog [.tmp 4] h R)) : zbp prog 165 args R :=
  qar wfp [4] Go.Proofs.Try.func165 _ rfl (by kernel_rfl) (by kernel_rfl) (by kernel_rfl) Go.Proofs.Try.ntmps165 (by rw [hn]; decide) hw
theorem run_166 {args : List AV} {R : AV → Prop} (hn : args.length = 2) (hw : ∀ h, Rn prog [.code (zai Go.Proofs.Try.f166)] .normal (zaz 0 args [2, 3]) h (Fin prog [.tmp 3] h R)) : zbp prog 166 args R :=
  qar wfp [2, 3] Go.Proofs.Try.func166 _ rfl (by kernel_rfl) (by kernel_rfl) (by kernel_rfl) Go.Proofs.Try.ntmps166 (by rw [hn]; decide) hw
theorem run_167 {args : List AV} {R : AV → Prop} (hn : args.length = 0) (hw : ∀ h, Hold (Rn prog [.code (zai Go.Proofs.Try.f167)] .normal (zaz 0 args [0]) h (Fin prog [.cell 0 185] h R))) : zbp prog 167 args R :=
  fn_runH wfp [0] Go.Proofs.Try.func167 _ (by kernel_rfl) (by kernel_rfl) (by kernel_rfl) (by kernel_rfl) Go.Proofs.Try.ntmps167 (by rw [hn]; decide) hw
theorem run_168 {args : List AV} {R : AV → Prop} (hn : args.length = 2) (hw : ∀ h, Rn prog [.code (zai Go.Proofs.Try.f168)] .normal (zaz 0 args [4, 5]) h (Fin prog [.tmp 4] h R)) : zbp prog 168 args R :=
  qar wfp [4, 5] Go.Proofs.Try.func168 _ rfl (by kernel_rfl) (by kernel_rfl) (by kernel_rfl) Go.Proofs.Try.ntmps168 (by rw [hn]; decide) hw
theorem run_175 {args : List AV} {R : AV → Prop} (hn : args.length = 2) (hw : ∀ h, Rn prog [.code (zai Go.Proofs.Try.f175)] .normal (zaz 0 args [4, 5, 7, 8, 9, 16]) h (Fin prog [.tmp 4] h R)) : zbp prog 175 args R :=
  qar wfp [4, 5, 7, 8, 9, 16] Go.Proofs.Try.func175 _ rfl (by kernel_rfl) (by kernel_rfl) (by kernel_rfl) Go.Proofs.Try.ntmps175 (by rw [hn]; decide) hw
end Go.Abs
