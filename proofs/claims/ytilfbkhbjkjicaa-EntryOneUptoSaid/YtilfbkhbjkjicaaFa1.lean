/- Fa1: a part of the proofs about the tuple space and its bytes. -/
import Derived.Test.YtilfbkhbjkjicaaWl
import Derived.Test.YtilfbkhbjkjicaaProg
set_option linter.all false
set_option maxRecDepth 100000
set_option maxHeartbeats 0
namespace Go.Abs
open Go
open Go.Proofs.Try (prog)
theorem wfp : WF prog := wf_of_table (by kernel_rfl)
theorem zag : prog.follows .mixedOrders = true := by kernel_rfl
@[push_cast] def yai (f : Func) : Code := f.body.getD .skip
@[push_cast] theorem sh_2 : yab prog 2 = .int .i64 := by kernel_rfl
@[push_cast] theorem ok_2 : okT prog 2 = true := by kernel_rfl
@[push_cast] theorem zo_2 : zOK prog 2 = true := by kernel_rfl
@[push_cast] theorem za_2 : zaj prog 2 = .int .i64 0 := by kernel_rfl
@[push_cast] theorem ce_2 : prog.cellsOf 2 = 1 := by kernel_rfl
@[push_cast] theorem ro_2 (k : Nat) : qao prog 2 k = decide (k ≤ 4294967296) := zao (by kernel_rfl) zo_2
@[push_cast] theorem sh_3 : yab prog 3 = .int .i64 := by kernel_rfl
@[push_cast] theorem ok_3 : okT prog 3 = true := by kernel_rfl
@[push_cast] theorem zo_3 : zOK prog 3 = true := by kernel_rfl
@[push_cast] theorem za_3 : zaj prog 3 = .int .i64 0 := by kernel_rfl
@[push_cast] theorem ce_3 : prog.cellsOf 3 = 1 := by kernel_rfl
@[push_cast] theorem ro_3 (k : Nat) : qao prog 3 k = decide (k ≤ 4294967296) := zao (by kernel_rfl) zo_3
@[push_cast] theorem sh_4 : yab prog 4 = .bool := by kernel_rfl
@[push_cast] theorem ok_4 : okT prog 4 = true := by kernel_rfl
@[push_cast] theorem zo_4 : zOK prog 4 = true := by kernel_rfl
@[push_cast] theorem za_4 : zaj prog 4 = .bool false := by kernel_rfl
@[push_cast] theorem ce_4 : prog.cellsOf 4 = 1 := by kernel_rfl
@[push_cast] theorem ro_4 (k : Nat) : qao prog 4 k = decide (k ≤ 4294967296) := zao (by kernel_rfl) zo_4
@[push_cast] theorem sh_5 : yab prog 5 = .int .u8 := by kernel_rfl
@[push_cast] theorem ok_5 : okT prog 5 = true := by kernel_rfl
@[push_cast] theorem zo_5 : zOK prog 5 = true := by kernel_rfl
@[push_cast] theorem za_5 : zaj prog 5 = .int .u8 0 := by kernel_rfl
@[push_cast] theorem ce_5 : prog.cellsOf 5 = 1 := by kernel_rfl
@[push_cast] theorem ro_5 (k : Nat) : qao prog 5 k = decide (k ≤ 4294967296) := zao (by kernel_rfl) zo_5
@[push_cast] theorem sh_9 : yab prog 9 = .str := by kernel_rfl
@[push_cast] theorem ok_9 : okT prog 9 = true := by kernel_rfl
@[push_cast] theorem zo_9 : zOK prog 9 = true := by kernel_rfl
@[push_cast] theorem za_9 : zaj prog 9 = .str ByteArray.empty := by kernel_rfl
@[push_cast] theorem ce_9 : prog.cellsOf 9 = 1 := by kernel_rfl
@[push_cast] theorem ro_9 (k : Nat) : qao prog 9 k = decide (k ≤ 4294967296) := zao (by kernel_rfl) zo_9
@[push_cast] theorem zbr : yab prog 22 = .slice 87 := by kernel_rfl
@[push_cast] theorem ok_22 : okT prog 22 = true := by kernel_rfl
@[push_cast] theorem zo_22 : zOK prog 22 = true := by kernel_rfl
@[push_cast] theorem za_22 : zaj prog 22 = .nils := by kernel_rfl
@[push_cast] theorem ce_22 : prog.cellsOf 22 = 1 := by kernel_rfl
@[push_cast] theorem ro_22 (k : Nat) : qao prog 22 k = decide (k ≤ 4294967296) := zao (by kernel_rfl) zo_22
@[push_cast] theorem ybs : yab prog 23 = .slice 89 := by kernel_rfl
@[push_cast] theorem ok_23 : okT prog 23 = true := by kernel_rfl
@[push_cast] theorem zo_23 : zOK prog 23 = true := by kernel_rfl
@[push_cast] theorem za_23 : zaj prog 23 = .nils := by kernel_rfl
@[push_cast] theorem ce_23 : prog.cellsOf 23 = 1 := by kernel_rfl
@[push_cast] theorem ro_23 (k : Nat) : qao prog 23 k = decide (k ≤ 4294967296) := zao (by kernel_rfl) zo_23
@[push_cast] theorem ydd : yab prog 24 = .slice 160 := by kernel_rfl
@[push_cast] theorem ok_24 : okT prog 24 = true := by kernel_rfl
@[push_cast] theorem zo_24 : zOK prog 24 = true := by kernel_rfl
@[push_cast] theorem za_24 : zaj prog 24 = .nils := by kernel_rfl
@[push_cast] theorem ce_24 : prog.cellsOf 24 = 1 := by kernel_rfl
@[push_cast] theorem ro_24 (k : Nat) : qao prog 24 k = decide (k ≤ 4294967296) := zao (by kernel_rfl) zo_24
@[push_cast] theorem sh_26 : yab prog 26 = .struct := by kernel_rfl
@[push_cast] theorem fl_26 : zan prog 26 = [(3, 0), (3, 1), (3, 2), (24, 3), (4, 4)] := by kernel_rfl
@[push_cast] theorem po_26 : ybd prog 26 = true := by kernel_rfl
@[push_cast] theorem ok_26 : okT prog 26 = true := by kernel_rfl
@[push_cast] theorem zo_26 : zOK prog 26 = true := by kernel_rfl
@[push_cast] theorem za_26 : zaj prog 26 = .agg 26 [.int .i64 0, .int .i64 0, .int .i64 0, .nils, .bool false] := by kernel_rfl
@[push_cast] theorem ce_26 : prog.cellsOf 26 = 5 := by kernel_rfl
@[push_cast] theorem ro_26 (k : Nat) : qao prog 26 k = decide (k ≤ 4294967296) := zao (by kernel_rfl) zo_26
@[push_cast] theorem sh_27 : yab prog 27 = .arr 4 26 := by kernel_rfl
@[push_cast] theorem po_27 : ybd prog 27 = true := by kernel_rfl
@[push_cast] theorem ok_27 : okT prog 27 = true := by kernel_rfl
@[push_cast] theorem zo_27 : zOK prog 27 = true := by kernel_rfl
@[push_cast] theorem za_27 : zaj prog 27 = .agg 27 [.agg 26 [.int .i64 0, .int .i64 0, .int .i64 0, .nils, .bool false], .agg 26 [.int .i64 0, .int .i64 0, .int .i64 0, .nils, .bool false], .agg 26 [.int .i64 0, .int .i64 0, .int .i64 0, .nils, .bool false], .agg 26 [.int .i64 0, .int .i64 0, .int .i64 0, .nils, .bool false]] := by kernel_rfl
@[push_cast] theorem ce_27 : prog.cellsOf 27 = 20 := by kernel_rfl
@[push_cast] theorem ro_27 (k : Nat) : qao prog 27 k = decide (k ≤ 4294967296) := zao (by kernel_rfl) zo_27
@[push_cast] theorem sh_29 : yab prog 29 = .struct := by kernel_rfl
@[push_cast] theorem fl_29 : zan prog 29 = [(3, 0), (22, 1), (23, 2), (3, 3), (3, 4), (27, 5)] := by kernel_rfl
@[push_cast] theorem po_29 : ybd prog 29 = true := by kernel_rfl
@[push_cast] theorem ok_29 : okT prog 29 = true := by kernel_rfl
@[push_cast] theorem zo_29 : zOK prog 29 = true := by kernel_rfl
@[push_cast] theorem za_29 : zaj prog 29 = .agg 29 [.int .i64 0, .nils, .nils, .int .i64 0, .int .i64 0, .agg 27 [.agg 26 [.int .i64 0, .int .i64 0, .int .i64 0, .nils, .bool false], .agg 26 [.int .i64 0, .int .i64 0, .int .i64 0, .nils, .bool false], .agg 26 [.int .i64 0, .int .i64 0, .int .i64 0, .nils, .bool false], .agg 26 [.int .i64 0, .int .i64 0, .int .i64 0, .nils, .bool false]]] := by kernel_rfl
@[push_cast] theorem ce_29 : prog.cellsOf 29 = 25 := by kernel_rfl
@[push_cast] theorem ro_29 (k : Nat) : qao prog 29 k = decide (k ≤ 4294967296) := zao (by kernel_rfl) zo_29
@[push_cast] theorem sh_30 : yab prog 30 = .slice 5 := by kernel_rfl
@[push_cast] theorem ok_30 : okT prog 30 = true := by kernel_rfl
@[push_cast] theorem zo_30 : zOK prog 30 = true := by kernel_rfl
@[push_cast] theorem za_30 : zaj prog 30 = .nils := by kernel_rfl
@[push_cast] theorem ce_30 : prog.cellsOf 30 = 1 := by kernel_rfl
@[push_cast] theorem ro_30 (k : Nat) : qao prog 30 k = decide (k ≤ 4294967296) := zao (by kernel_rfl) zo_30
@[push_cast] theorem sh_47 : yab prog 47 = .slice 60 := by kernel_rfl
@[push_cast] theorem ok_47 : okT prog 47 = true := by kernel_rfl
@[push_cast] theorem zo_47 : zOK prog 47 = true := by kernel_rfl
@[push_cast] theorem za_47 : zaj prog 47 = .nils := by kernel_rfl
@[push_cast] theorem ce_47 : prog.cellsOf 47 = 1 := by kernel_rfl
@[push_cast] theorem ro_47 (k : Nat) : qao prog 47 k = decide (k ≤ 4294967296) := zao (by kernel_rfl) zo_47
@[push_cast] theorem sh_49 : yab prog 49 = .struct := by kernel_rfl
@[push_cast] theorem fl_49 : zan prog 49 = [(3, 0), (47, 1)] := by kernel_rfl
@[push_cast] theorem po_49 : ybd prog 49 = true := by kernel_rfl
@[push_cast] theorem ok_49 : okT prog 49 = true := by kernel_rfl
@[push_cast] theorem zo_49 : zOK prog 49 = true := by kernel_rfl
@[push_cast] theorem za_49 : zaj prog 49 = .agg 49 [.int .i64 0, .nils] := by kernel_rfl
@[push_cast] theorem ce_49 : prog.cellsOf 49 = 2 := by kernel_rfl
@[push_cast] theorem ro_49 (k : Nat) : qao prog 49 k = decide (k ≤ 4294967296) := zao (by kernel_rfl) zo_49
@[push_cast] theorem sh_55 : yab prog 55 = .int .u64 := by kernel_rfl
@[push_cast] theorem ok_55 : okT prog 55 = true := by kernel_rfl
@[push_cast] theorem zo_55 : zOK prog 55 = true := by kernel_rfl
@[push_cast] theorem za_55 : zaj prog 55 = .int .u64 0 := by kernel_rfl
@[push_cast] theorem ce_55 : prog.cellsOf 55 = 1 := by kernel_rfl
@[push_cast] theorem ro_55 (k : Nat) : qao prog 55 k = decide (k ≤ 4294967296) := zao (by kernel_rfl) zo_55
@[push_cast] theorem sh_57 : yab prog 57 = .slice 62 := by kernel_rfl
@[push_cast] theorem ok_57 : okT prog 57 = true := by kernel_rfl
@[push_cast] theorem zo_57 : zOK prog 57 = true := by kernel_rfl
@[push_cast] theorem za_57 : zaj prog 57 = .nils := by kernel_rfl
@[push_cast] theorem ce_57 : prog.cellsOf 57 = 1 := by kernel_rfl
@[push_cast] theorem ro_57 (k : Nat) : qao prog 57 k = decide (k ≤ 4294967296) := zao (by kernel_rfl) zo_57
@[push_cast] theorem sh_60 : yab prog 60 = .struct := by kernel_rfl
@[push_cast] theorem fl_60 : zan prog 60 = [(3, 0), (3, 1), (3, 2), (24, 3), (24, 4), (3, 5)] := by kernel_rfl
@[push_cast] theorem po_60 : ybd prog 60 = true := by kernel_rfl
@[push_cast] theorem ok_60 : okT prog 60 = true := by kernel_rfl
@[push_cast] theorem zo_60 : zOK prog 60 = true := by kernel_rfl
@[push_cast] theorem za_60 : zaj prog 60 = .agg 60 [.int .i64 0, .int .i64 0, .int .i64 0, .nils, .nils, .int .i64 0] := by kernel_rfl
@[push_cast] theorem ce_60 : prog.cellsOf 60 = 6 := by kernel_rfl
@[push_cast] theorem ro_60 (k : Nat) : qao prog 60 k = decide (k ≤ 4294967296) := zao (by kernel_rfl) zo_60
@[push_cast] theorem sh_62 : yab prog 62 = .struct := by kernel_rfl
@[push_cast] theorem fl_62 : zan prog 62 = [(60, 0), (3, 6)] := by kernel_rfl
@[push_cast] theorem po_62 : ybd prog 62 = true := by kernel_rfl
@[push_cast] theorem ok_62 : okT prog 62 = true := by kernel_rfl
@[push_cast] theorem zo_62 : zOK prog 62 = true := by kernel_rfl
@[push_cast] theorem za_62 : zaj prog 62 = .agg 62 [.agg 60 [.int .i64 0, .int .i64 0, .int .i64 0, .nils, .nils, .int .i64 0], .int .i64 0] := by kernel_rfl
@[push_cast] theorem ce_62 : prog.cellsOf 62 = 7 := by kernel_rfl
@[push_cast] theorem ro_62 (k : Nat) : qao prog 62 k = decide (k ≤ 4294967296) := zao (by kernel_rfl) zo_62
@[push_cast] theorem ybq : yab prog 63 = .slice 26 := by kernel_rfl
@[push_cast] theorem ok_63 : okT prog 63 = true := by kernel_rfl
@[push_cast] theorem zo_63 : zOK prog 63 = true := by kernel_rfl
@[push_cast] theorem za_63 : zaj prog 63 = .nils := by kernel_rfl
@[push_cast] theorem ce_63 : prog.cellsOf 63 = 1 := by kernel_rfl
@[push_cast] theorem ro_63 (k : Nat) : qao prog 63 k = decide (k ≤ 4294967296) := zao (by kernel_rfl) zo_63
@[push_cast] theorem sh_85 : yab prog 85 = .func := by kernel_rfl
@[push_cast] theorem ok_85 : okT prog 85 = true := by kernel_rfl
@[push_cast] theorem zo_85 : zOK prog 85 = true := by kernel_rfl
@[push_cast] theorem za_85 : zaj prog 85 = .nilfn := by kernel_rfl
@[push_cast] theorem ce_85 : prog.cellsOf 85 = 1 := by kernel_rfl
@[push_cast] theorem ro_85 (k : Nat) : qao prog 85 k = decide (k ≤ 4294967296) := zao (by kernel_rfl) zo_85
@[push_cast] theorem sh_87 : yab prog 87 = .struct := by kernel_rfl
@[push_cast] theorem fl_87 : zan prog 87 = [(3, 0), (3, 1), (24, 2)] := by kernel_rfl
@[push_cast] theorem po_87 : ybd prog 87 = true := by kernel_rfl
@[push_cast] theorem ok_87 : okT prog 87 = true := by kernel_rfl
@[push_cast] theorem zo_87 : zOK prog 87 = true := by kernel_rfl
@[push_cast] theorem za_87 : zaj prog 87 = .agg 87 [.int .i64 0, .int .i64 0, .nils] := by kernel_rfl
@[push_cast] theorem ce_87 : prog.cellsOf 87 = 3 := by kernel_rfl
@[push_cast] theorem ro_87 (k : Nat) : qao prog 87 k = decide (k ≤ 4294967296) := zao (by kernel_rfl) zo_87
@[push_cast] theorem sh_89 : yab prog 89 = .struct := by kernel_rfl
@[push_cast] theorem fl_89 : zan prog 89 = [(3, 0), (3, 1), (4, 2), (24, 3)] := by kernel_rfl
@[push_cast] theorem po_89 : ybd prog 89 = true := by kernel_rfl
@[push_cast] theorem ok_89 : okT prog 89 = true := by kernel_rfl
@[push_cast] theorem zo_89 : zOK prog 89 = true := by kernel_rfl
@[push_cast] theorem za_89 : zaj prog 89 = .agg 89 [.int .i64 0, .int .i64 0, .bool false, .nils] := by kernel_rfl
@[push_cast] theorem ce_89 : prog.cellsOf 89 = 4 := by kernel_rfl
@[push_cast] theorem ro_89 (k : Nat) : qao prog 89 k = decide (k ≤ 4294967296) := zao (by kernel_rfl) zo_89
@[push_cast] theorem sh_94 : yab prog 94 = .struct := by kernel_rfl
@[push_cast] theorem fl_94 : zan prog 94 = [(30, 0)] := by kernel_rfl
@[push_cast] theorem po_94 : ybd prog 94 = true := by kernel_rfl
@[push_cast] theorem ok_94 : okT prog 94 = true := by kernel_rfl
@[push_cast] theorem zo_94 : zOK prog 94 = true := by kernel_rfl
@[push_cast] theorem za_94 : zaj prog 94 = .agg 94 [.nils] := by kernel_rfl
@[push_cast] theorem ce_94 : prog.cellsOf 94 = 1 := by kernel_rfl
@[push_cast] theorem ro_94 (k : Nat) : qao prog 94 k = decide (k ≤ 4294967296) := zao (by kernel_rfl) zo_94
@[push_cast] theorem sh_96 : yab prog 96 = .int .u64 := by kernel_rfl
@[push_cast] theorem ok_96 : okT prog 96 = true := by kernel_rfl
@[push_cast] theorem zo_96 : zOK prog 96 = true := by kernel_rfl
@[push_cast] theorem za_96 : zaj prog 96 = .int .u64 0 := by kernel_rfl
@[push_cast] theorem ce_96 : prog.cellsOf 96 = 1 := by kernel_rfl
@[push_cast] theorem ro_96 (k : Nat) : qao prog 96 k = decide (k ≤ 4294967296) := zao (by kernel_rfl) zo_96
@[push_cast] theorem sh_105 : yab prog 105 = .ptr 162 := by kernel_rfl
@[push_cast] theorem ok_105 : okT prog 105 = true := by kernel_rfl
@[push_cast] theorem zo_105 : zOK prog 105 = true := by kernel_rfl
@[push_cast] theorem za_105 : zaj prog 105 = .nilptr := by kernel_rfl
@[push_cast] theorem ce_105 : prog.cellsOf 105 = 1 := by kernel_rfl
@[push_cast] theorem ro_105 (k : Nat) : qao prog 105 k = decide (k ≤ 4294967296) := zao (by kernel_rfl) zo_105
@[push_cast] theorem sh_120 : yab prog 120 = .func := by kernel_rfl
@[push_cast] theorem ok_120 : okT prog 120 = true := by kernel_rfl
@[push_cast] theorem zo_120 : zOK prog 120 = true := by kernel_rfl
@[push_cast] theorem za_120 : zaj prog 120 = .nilfn := by kernel_rfl
@[push_cast] theorem ce_120 : prog.cellsOf 120 = 1 := by kernel_rfl
@[push_cast] theorem ro_120 (k : Nat) : qao prog 120 k = decide (k ≤ 4294967296) := zao (by kernel_rfl) zo_120
@[push_cast] theorem sh_122 : yab prog 122 = .func := by kernel_rfl
@[push_cast] theorem ok_122 : okT prog 122 = true := by kernel_rfl
@[push_cast] theorem zo_122 : zOK prog 122 = true := by kernel_rfl
@[push_cast] theorem za_122 : zaj prog 122 = .nilfn := by kernel_rfl
@[push_cast] theorem ce_122 : prog.cellsOf 122 = 1 := by kernel_rfl
@[push_cast] theorem ro_122 (k : Nat) : qao prog 122 k = decide (k ≤ 4294967296) := zao (by kernel_rfl) zo_122
@[push_cast] theorem sh_124 : yab prog 124 = .func := by kernel_rfl
@[push_cast] theorem ok_124 : okT prog 124 = true := by kernel_rfl
@[push_cast] theorem zo_124 : zOK prog 124 = true := by kernel_rfl
@[push_cast] theorem za_124 : zaj prog 124 = .nilfn := by kernel_rfl
@[push_cast] theorem ce_124 : prog.cellsOf 124 = 1 := by kernel_rfl
@[push_cast] theorem ro_124 (k : Nat) : qao prog 124 k = decide (k ≤ 4294967296) := zao (by kernel_rfl) zo_124
@[push_cast] theorem sh_130 : yab prog 130 = .ptr 132 := by kernel_rfl
@[push_cast] theorem ok_130 : okT prog 130 = true := by kernel_rfl
@[push_cast] theorem zo_130 : zOK prog 130 = true := by kernel_rfl
@[push_cast] theorem za_130 : zaj prog 130 = .nilptr := by kernel_rfl
@[push_cast] theorem ce_130 : prog.cellsOf 130 = 1 := by kernel_rfl
@[push_cast] theorem ro_130 (k : Nat) : qao prog 130 k = decide (k ≤ 4294967296) := zao (by kernel_rfl) zo_130
@[push_cast] theorem sh_132 : yab prog 132 = .struct := by kernel_rfl
@[push_cast] theorem fl_132 : zan prog 132 = [(29, 0), (63, 25)] := by kernel_rfl
@[push_cast] theorem po_132 : ybd prog 132 = true := by kernel_rfl
@[push_cast] theorem ok_132 : okT prog 132 = true := by kernel_rfl
@[push_cast] theorem zo_132 : zOK prog 132 = true := by kernel_rfl
@[push_cast] theorem za_132 : zaj prog 132 = .agg 132 [.agg 29 [.int .i64 0, .nils, .nils, .int .i64 0, .int .i64 0, .agg 27 [.agg 26 [.int .i64 0, .int .i64 0, .int .i64 0, .nils, .bool false], .agg 26 [.int .i64 0, .int .i64 0, .int .i64 0, .nils, .bool false], .agg 26 [.int .i64 0, .int .i64 0, .int .i64 0, .nils, .bool false], .agg 26 [.int .i64 0, .int .i64 0, .int .i64 0, .nils, .bool false]]], .nils] := by kernel_rfl
@[push_cast] theorem ce_132 : prog.cellsOf 132 = 26 := by kernel_rfl
@[push_cast] theorem ro_132 (k : Nat) : qao prog 132 k = decide (k ≤ 4294967296) := zao (by kernel_rfl) zo_132
@[push_cast] theorem sh_137 : yab prog 137 = .func := by kernel_rfl
@[push_cast] theorem ok_137 : okT prog 137 = true := by kernel_rfl
@[push_cast] theorem zo_137 : zOK prog 137 = true := by kernel_rfl
@[push_cast] theorem za_137 : zaj prog 137 = .nilfn := by kernel_rfl
@[push_cast] theorem ce_137 : prog.cellsOf 137 = 1 := by kernel_rfl
@[push_cast] theorem ro_137 (k : Nat) : qao prog 137 k = decide (k ≤ 4294967296) := zao (by kernel_rfl) zo_137
@[push_cast] theorem sh_138 : yab prog 138 = .func := by kernel_rfl
@[push_cast] theorem ok_138 : okT prog 138 = true := by kernel_rfl
@[push_cast] theorem zo_138 : zOK prog 138 = true := by kernel_rfl
@[push_cast] theorem za_138 : zaj prog 138 = .nilfn := by kernel_rfl
@[push_cast] theorem ce_138 : prog.cellsOf 138 = 1 := by kernel_rfl
@[push_cast] theorem ro_138 (k : Nat) : qao prog 138 k = decide (k ≤ 4294967296) := zao (by kernel_rfl) zo_138
@[push_cast] theorem sh_146 : yab prog 146 = .ptr 148 := by kernel_rfl
@[push_cast] theorem ok_146 : okT prog 146 = true := by kernel_rfl
@[push_cast] theorem zo_146 : zOK prog 146 = true := by kernel_rfl
@[push_cast] theorem za_146 : zaj prog 146 = .nilptr := by kernel_rfl
@[push_cast] theorem ce_146 : prog.cellsOf 146 = 1 := by kernel_rfl
@[push_cast] theorem ro_146 (k : Nat) : qao prog 146 k = decide (k ≤ 4294967296) := zao (by kernel_rfl) zo_146
@[push_cast] theorem sh_148 : yab prog 148 = .struct := by kernel_rfl
@[push_cast] theorem fl_148 : zan prog 148 = [(29, 0), (60, 25), (63, 31)] := by kernel_rfl
@[push_cast] theorem po_148 : ybd prog 148 = true := by kernel_rfl
@[push_cast] theorem ok_148 : okT prog 148 = true := by kernel_rfl
@[push_cast] theorem zo_148 : zOK prog 148 = true := by kernel_rfl
@[push_cast] theorem za_148 : zaj prog 148 = .agg 148 [.agg 29 [.int .i64 0, .nils, .nils, .int .i64 0, .int .i64 0, .agg 27 [.agg 26 [.int .i64 0, .int .i64 0, .int .i64 0, .nils, .bool false], .agg 26 [.int .i64 0, .int .i64 0, .int .i64 0, .nils, .bool false], .agg 26 [.int .i64 0, .int .i64 0, .int .i64 0, .nils, .bool false], .agg 26 [.int .i64 0, .int .i64 0, .int .i64 0, .nils, .bool false]]], .agg 60 [.int .i64 0, .int .i64 0, .int .i64 0, .nils, .nils, .int .i64 0], .nils] := by kernel_rfl
@[push_cast] theorem ce_148 : prog.cellsOf 148 = 32 := by kernel_rfl
@[push_cast] theorem ro_148 (k : Nat) : qao prog 148 k = decide (k ≤ 4294967296) := zao (by kernel_rfl) zo_148
@[push_cast] theorem sh_151 : yab prog 151 = .func := by kernel_rfl
@[push_cast] theorem ok_151 : okT prog 151 = true := by kernel_rfl
@[push_cast] theorem zo_151 : zOK prog 151 = true := by kernel_rfl
@[push_cast] theorem za_151 : zaj prog 151 = .nilfn := by kernel_rfl
@[push_cast] theorem ce_151 : prog.cellsOf 151 = 1 := by kernel_rfl
@[push_cast] theorem ro_151 (k : Nat) : qao prog 151 k = decide (k ≤ 4294967296) := zao (by kernel_rfl) zo_151
@[push_cast] theorem sh_155 : yab prog 155 = .arr 4 3 := by kernel_rfl
@[push_cast] theorem po_155 : ybd prog 155 = true := by kernel_rfl
@[push_cast] theorem ok_155 : okT prog 155 = true := by kernel_rfl
@[push_cast] theorem zo_155 : zOK prog 155 = true := by kernel_rfl
@[push_cast] theorem za_155 : zaj prog 155 = .agg 155 [.int .i64 0, .int .i64 0, .int .i64 0, .int .i64 0] := by kernel_rfl
@[push_cast] theorem ce_155 : prog.cellsOf 155 = 4 := by kernel_rfl
@[push_cast] theorem ro_155 (k : Nat) : qao prog 155 k = decide (k ≤ 4294967296) := zao (by kernel_rfl) zo_155
@[push_cast] theorem sh_157 : yab prog 157 = .ptr 94 := by kernel_rfl
@[push_cast] theorem ok_157 : okT prog 157 = true := by kernel_rfl
@[push_cast] theorem zo_157 : zOK prog 157 = true := by kernel_rfl
@[push_cast] theorem za_157 : zaj prog 157 = .nilptr := by kernel_rfl
@[push_cast] theorem ce_157 : prog.cellsOf 157 = 1 := by kernel_rfl
@[push_cast] theorem ro_157 (k : Nat) : qao prog 157 k = decide (k ≤ 4294967296) := zao (by kernel_rfl) zo_157
@[push_cast] theorem sh_160 : yab prog 160 = .struct := by kernel_rfl
@[push_cast] theorem fl_160 : zan prog 160 = [(3, 0), (2, 1), (9, 2)] := by kernel_rfl
@[push_cast] theorem po_160 : ybd prog 160 = true := by kernel_rfl
@[push_cast] theorem ok_160 : okT prog 160 = true := by kernel_rfl
@[push_cast] theorem zo_160 : zOK prog 160 = true := by kernel_rfl
@[push_cast] theorem za_160 : zaj prog 160 = .agg 160 [.int .i64 0, .int .i64 0, .str ByteArray.empty] := by kernel_rfl
@[push_cast] theorem ce_160 : prog.cellsOf 160 = 3 := by kernel_rfl
@[push_cast] theorem ro_160 (k : Nat) : qao prog 160 k = decide (k ≤ 4294967296) := zao (by kernel_rfl) zo_160
@[push_cast] theorem sh_162 : yab prog 162 = .struct := by kernel_rfl
@[push_cast] theorem fl_162 : zan prog 162 = [(30, 0), (4, 1)] := by kernel_rfl
@[push_cast] theorem po_162 : ybd prog 162 = true := by kernel_rfl
@[push_cast] theorem ok_162 : okT prog 162 = true := by kernel_rfl
@[push_cast] theorem zo_162 : zOK prog 162 = true := by kernel_rfl
@[push_cast] theorem za_162 : zaj prog 162 = .agg 162 [.nils, .bool false] := by kernel_rfl
@[push_cast] theorem ce_162 : prog.cellsOf 162 = 2 := by kernel_rfl
@[push_cast] theorem ro_162 (k : Nat) : qao prog 162 k = decide (k ≤ 4294967296) := zao (by kernel_rfl) zo_162
@[push_cast] theorem sh_166 : yab prog 166 = .int .u32 := by kernel_rfl
@[push_cast] theorem ok_166 : okT prog 166 = true := by kernel_rfl
@[push_cast] theorem zo_166 : zOK prog 166 = true := by kernel_rfl
@[push_cast] theorem za_166 : zaj prog 166 = .int .u32 0 := by kernel_rfl
@[push_cast] theorem ce_166 : prog.cellsOf 166 = 1 := by kernel_rfl
@[push_cast] theorem ro_166 (k : Nat) : qao prog 166 k = decide (k ≤ 4294967296) := zao (by kernel_rfl) zo_166
@[push_cast] theorem sh_167 : yab prog 167 = .arr 8 166 := by kernel_rfl
@[push_cast] theorem po_167 : ybd prog 167 = true := by kernel_rfl
@[push_cast] theorem ok_167 : okT prog 167 = true := by kernel_rfl
@[push_cast] theorem zo_167 : zOK prog 167 = true := by kernel_rfl
@[push_cast] theorem za_167 : zaj prog 167 = .agg 167 [.int .u32 0, .int .u32 0, .int .u32 0, .int .u32 0, .int .u32 0, .int .u32 0, .int .u32 0, .int .u32 0] := by kernel_rfl
@[push_cast] theorem ce_167 : prog.cellsOf 167 = 8 := by kernel_rfl
@[push_cast] theorem ro_167 (k : Nat) : qao prog 167 k = decide (k ≤ 4294967296) := zao (by kernel_rfl) zo_167
@[push_cast] theorem sh_169 : yab prog 169 = .arr 2 24 := by kernel_rfl
@[push_cast] theorem po_169 : ybd prog 169 = true := by kernel_rfl
@[push_cast] theorem ok_169 : okT prog 169 = true := by kernel_rfl
@[push_cast] theorem zo_169 : zOK prog 169 = true := by kernel_rfl
@[push_cast] theorem za_169 : zaj prog 169 = .agg 169 [.nils, .nils] := by kernel_rfl
@[push_cast] theorem ce_169 : prog.cellsOf 169 = 2 := by kernel_rfl
@[push_cast] theorem ro_169 (k : Nat) : qao prog 169 k = decide (k ≤ 4294967296) := zao (by kernel_rfl) zo_169
@[push_cast] theorem sh_171 : yab prog 171 = .func := by kernel_rfl
@[push_cast] theorem ok_171 : okT prog 171 = true := by kernel_rfl
@[push_cast] theorem zo_171 : zOK prog 171 = true := by kernel_rfl
@[push_cast] theorem za_171 : zaj prog 171 = .nilfn := by kernel_rfl
@[push_cast] theorem ce_171 : prog.cellsOf 171 = 1 := by kernel_rfl
@[push_cast] theorem ro_171 (k : Nat) : qao prog 171 k = decide (k ≤ 4294967296) := zao (by kernel_rfl) zo_171
@[push_cast] theorem sh_180 : yab prog 180 = .func := by kernel_rfl
@[push_cast] theorem ok_180 : okT prog 180 = true := by kernel_rfl
@[push_cast] theorem zo_180 : zOK prog 180 = true := by kernel_rfl
@[push_cast] theorem za_180 : zaj prog 180 = .nilfn := by kernel_rfl
@[push_cast] theorem ce_180 : prog.cellsOf 180 = 1 := by kernel_rfl
@[push_cast] theorem ro_180 (k : Nat) : qao prog 180 k = decide (k ≤ 4294967296) := zao (by kernel_rfl) zo_180
@[push_cast] theorem sh_185 : yab prog 185 = .arr 64 166 := by kernel_rfl
@[push_cast] theorem po_185 : ybd prog 185 = true := by kernel_rfl
@[push_cast] theorem ok_185 : okT prog 185 = true := by kernel_rfl
@[push_cast] theorem zo_185 : zOK prog 185 = true := by kernel_rfl
@[push_cast] theorem za_185 : zaj prog 185 = .agg 185 [.int .u32 0, .int .u32 0, .int .u32 0, .int .u32 0, .int .u32 0, .int .u32 0, .int .u32 0, .int .u32 0, .int .u32 0, .int .u32 0, .int .u32 0, .int .u32 0, .int .u32 0, .int .u32 0, .int .u32 0, .int .u32 0, .int .u32 0, .int .u32 0, .int .u32 0, .int .u32 0, .int .u32 0, .int .u32 0, .int .u32 0, .int .u32 0, .int .u32 0, .int .u32 0, .int .u32 0, .int .u32 0, .int .u32 0, .int .u32 0, .int .u32 0, .int .u32 0, .int .u32 0, .int .u32 0, .int .u32 0, .int .u32 0, .int .u32 0, .int .u32 0, .int .u32 0, .int .u32 0, .int .u32 0, .int .u32 0, .int .u32 0, .int .u32 0, .int .u32 0, .int .u32 0, .int .u32 0, .int .u32 0, .int .u32 0, .int .u32 0, .int .u32 0, .int .u32 0, .int .u32 0, .int .u32 0, .int .u32 0, .int .u32 0, .int .u32 0, .int .u32 0, .int .u32 0, .int .u32 0, .int .u32 0, .int .u32 0, .int .u32 0, .int .u32 0] := by kernel_rfl
@[push_cast] theorem ce_185 : prog.cellsOf 185 = 64 := by kernel_rfl
@[push_cast] theorem ro_185 (k : Nat) : qao prog 185 k = decide (k ≤ 4294967296) := zao (by kernel_rfl) zo_185
@[push_cast] theorem sh_202 : yab prog 202 = .func := by kernel_rfl
@[push_cast] theorem ok_202 : okT prog 202 = true := by kernel_rfl
@[push_cast] theorem zo_202 : zOK prog 202 = true := by kernel_rfl
@[push_cast] theorem za_202 : zaj prog 202 = .nilfn := by kernel_rfl
@[push_cast] theorem ce_202 : prog.cellsOf 202 = 1 := by kernel_rfl
@[push_cast] theorem ro_202 (k : Nat) : qao prog 202 k = decide (k ≤ 4294967296) := zao (by kernel_rfl) zo_202
theorem run_6 {args : List AV} {R : AV → Prop} (hn : args.length = 2) (hw : ∀ h, Rn prog [.code (yai Go.Proofs.Try.f6)] .normal (yav 0 args [2, 4, 5, 6, 7, 8, 9, 10, 11, 12, 13, 14, 15, 16, 17, 25, 35, 70, 92, 132]) h (Fin prog [.tmp 4] h R)) : zbn prog 6 args R :=
  zar wfp [2, 4, 5, 6, 7, 8, 9, 10, 11, 12, 13, 14, 15, 16, 17, 25, 35, 70, 92, 132] Go.Proofs.Try.func6 _ rfl (by kernel_rfl) (by kernel_rfl) (by kernel_rfl) Go.Proofs.Try.ntmps6 (by rw [hn]; decide) hw
theorem run_14 {args : List AV} {R : AV → Prop} (hn : args.length = 1) (hw : ∀ h, Rn prog [.code (yai Go.Proofs.Try.f14)] .normal (yav 0 args [1, 2, 3, 4, 5, 6, 7, 47, 52, 97, 102, 133, 135, 144]) h (Fin prog [.tmp 2] h R)) : zbn prog 14 args R :=
  zar wfp [1, 2, 3, 4, 5, 6, 7, 47, 52, 97, 102, 133, 135, 144] Go.Proofs.Try.func14 _ rfl (by kernel_rfl) (by kernel_rfl) (by kernel_rfl) Go.Proofs.Try.ntmps14 (by rw [hn]; decide) hw
theorem run_22 {args : List AV} {R : AV → Prop} (hn : args.length = 2) (hw : ∀ h, Rn prog [.code (yai Go.Proofs.Try.f22)] .normal (yav 0 args [2, 3, 4, 5, 6, 7, 8, 9, 10, 11, 48, 53, 85, 90, 129, 131, 143]) h (Fin prog [.tmp 4] h R)) : zbn prog 22 args R :=
  zar wfp [2, 3, 4, 5, 6, 7, 8, 9, 10, 11, 48, 53, 85, 90, 129, 131, 143] Go.Proofs.Try.func22 _ rfl (by kernel_rfl) (by kernel_rfl) (by kernel_rfl) Go.Proofs.Try.ntmps22 (by rw [hn]; decide) hw
theorem run_26 {args : List AV} {R : AV → Prop} (hn : args.length = 1) (hw : ∀ h, Rn prog [.code (yai Go.Proofs.Try.f26)] .normal (yav 0 args [1, 2, 3, 7, 12, 21]) h (Fin prog [.tmp 2] h R)) : zbn prog 26 args R :=
  zar wfp [1, 2, 3, 7, 12, 21] Go.Proofs.Try.func26 _ rfl (by kernel_rfl) (by kernel_rfl) (by kernel_rfl) Go.Proofs.Try.ntmps26 (by rw [hn]; decide) hw
theorem run_27 {args : List AV} {R : AV → Prop} (hn : args.length = 0) (hw : ∀ h, Rn prog [.code (yai Go.Proofs.Try.f27)] .normal (yav 0 args [0, 1, 2, 3, 4, 5, 6, 7, 8, 9, 12, 15]) h (Fin prog [.tmp 0] h R)) : zbn prog 27 args R :=
  zar wfp [0, 1, 2, 3, 4, 5, 6, 7, 8, 9, 12, 15] Go.Proofs.Try.func27 _ rfl (by kernel_rfl) (by kernel_rfl) (by kernel_rfl) Go.Proofs.Try.ntmps27 (by rw [hn]; decide) hw
theorem frun_28 {args : List AV} {h : List Entry} {K : AV → List Entry → Prop} (hn : args.length = 1) (hw : Rn prog [.code (yai Go.Proofs.Try.f28)] .normal (yav 0 args [1, 2, 3, 4, 6, 7, 11, 22, 23, 24, 25]) h (qca prog [.tmp 2, .tmp 3] K)) : FSpec prog 28 args h K :=
  qay wfp [1, 2, 3, 4, 6, 7, 11, 22, 23, 24, 25] Go.Proofs.Try.func28 _ rfl (by kernel_rfl) (by kernel_rfl) (by kernel_rfl) Go.Proofs.Try.ntmps28 (by rw [hn]; decide) hw
theorem run_29 {args : List AV} {R : AV → Prop} (hn : args.length = 1) (hw : ∀ h, Rn prog [.code (yai Go.Proofs.Try.f29)] .normal (yav 0 args [1, 2, 3, 23, 28, 37]) h (Fin prog [.tmp 2] h R)) : zbn prog 29 args R :=
  zar wfp [1, 2, 3, 23, 28, 37] Go.Proofs.Try.func29 _ rfl (by kernel_rfl) (by kernel_rfl) (by kernel_rfl) Go.Proofs.Try.ntmps29 (by rw [hn]; decide) hw
theorem frun_30 {args : List AV} {h : List Entry} {K : AV → List Entry → Prop} (hn : args.length = 1) (hw : Rn prog [.code (yai Go.Proofs.Try.f30)] .normal (yav 0 args [2, 3, 4, 5, 6, 7, 8, 9, 20, 51]) h (qca prog [.cell 2 49, .tmp 3] K)) : FSpec prog 30 args h K :=
  qay wfp [2, 3, 4, 5, 6, 7, 8, 9, 20, 51] Go.Proofs.Try.func30 _ rfl (by kernel_rfl) (by kernel_rfl) (by kernel_rfl) Go.Proofs.Try.ntmps30 (by rw [hn]; decide) hw
theorem run_32 {args : List AV} {R : AV → Prop} (hn : args.length = 2) (hw : ∀ h, Rn prog [.code (yai Go.Proofs.Try.f32)] .normal (yav 0 args [4, 5, 6, 13]) h (Fin prog [.cell 4 29] h R)) : zbn prog 32 args R :=
  zar wfp [4, 5, 6, 13] Go.Proofs.Try.func32 _ rfl (by kernel_rfl) (by kernel_rfl) (by kernel_rfl) Go.Proofs.Try.ntmps32 (by rw [hn]; decide) hw
theorem frun_33 {args : List AV} {h : List Entry} {K : AV → List Entry → Prop} (hn : args.length = 3) (hw : Rn prog [.code (yai Go.Proofs.Try.f33)] .normal (yav 0 args [3, 5, 6, 7, 8, 9, 10, 11, 12, 30, 36, 55, 83, 96, 105, 131, 138, 145, 152, 160]) h (qca prog [.cell 6 29, .tmp 7] K)) : FSpec prog 33 args h K :=
  qay wfp [3, 5, 6, 7, 8, 9, 10, 11, 12, 30, 36, 55, 83, 96, 105, 131, 138, 145, 152, 160] Go.Proofs.Try.func33 _ rfl (by kernel_rfl) (by kernel_rfl) (by kernel_rfl) Go.Proofs.Try.ntmps33 (by rw [hn]; decide) hw
theorem frun_34 {args : List AV} {h : List Entry} {K : AV → List Entry → Prop} (hn : args.length = 2) (hw : Rn prog [.code (yai Go.Proofs.Try.f34)] .normal (yav 0 args [2, 3, 4, 5, 6, 7, 8, 9, 10, 20, 29]) h (qca prog [.cell 4 29, .tmp 5, .tmp 6] K)) : FSpec prog 34 args h K :=
  qay wfp [2, 3, 4, 5, 6, 7, 8, 9, 10, 20, 29] Go.Proofs.Try.func34 _ rfl (by kernel_rfl) (by kernel_rfl) (by kernel_rfl) Go.Proofs.Try.ntmps34 (by rw [hn]; decide) hw
theorem run_35 {args : List AV} {R : AV → Prop} (hn : args.length = 2) (hw : ∀ h, Rn prog [.code (yai Go.Proofs.Try.f35)] .normal (yav 0 args [4, 5, 10, 14, 26]) h (Fin prog [.tmp 4] h R)) : zbn prog 35 args R :=
  zar wfp [4, 5, 10, 14, 26] Go.Proofs.Try.func35 _ rfl (by kernel_rfl) (by kernel_rfl) (by kernel_rfl) Go.Proofs.Try.ntmps35 (by rw [hn]; decide) hw
theorem run_42 {args : List AV} {R : AV → Prop} (hn : args.length = 1) (hw : ∀ h, Rn prog [.code (yai Go.Proofs.Try.f42)] .normal (yav 0 args [1, 2]) h (Fin prog [.tmp 2] h R)) : zbn prog 42 args R :=
  zar wfp [1, 2] Go.Proofs.Try.func42 _ rfl (by kernel_rfl) (by kernel_rfl) (by kernel_rfl) Go.Proofs.Try.ntmps42 (by rw [hn]; decide) hw
theorem frun_46 {args : List AV} {h : List Entry} {K : AV → List Entry → Prop} (hn : args.length = 3) (hw : Rn prog [.code (yai Go.Proofs.Try.f46)] .normal (yav 0 args [3, 4, 5, 6, 7, 8, 9, 27, 64, 77]) h (qca prog [.cell 6 29, .tmp 7] K)) : FSpec prog 46 args h K :=
  qay wfp [3, 4, 5, 6, 7, 8, 9, 27, 64, 77] Go.Proofs.Try.func46 _ rfl (by kernel_rfl) (by kernel_rfl) (by kernel_rfl) Go.Proofs.Try.ntmps46 (by rw [hn]; decide) hw
theorem run_47 {args : List AV} {R : AV → Prop} (hn : args.length = 1) (hw : ∀ h, Rn prog [.code (yai Go.Proofs.Try.f47)] .normal (yav 0 args [1, 2]) h (Fin prog [.tmp 2] h R)) : zbn prog 47 args R :=
  zar wfp [1, 2] Go.Proofs.Try.func47 _ rfl (by kernel_rfl) (by kernel_rfl) (by kernel_rfl) Go.Proofs.Try.ntmps47 (by rw [hn]; decide) hw
theorem run_48 {args : List AV} {R : AV → Prop} (hn : args.length = 1) (hw : ∀ h, Rn prog [.code (yai Go.Proofs.Try.f48)] .normal (yav 0 args [2]) h (Fin prog [.tmp 2] h R)) : zbn prog 48 args R :=
  zar wfp [2] Go.Proofs.Try.func48 _ rfl (by kernel_rfl) (by kernel_rfl) (by kernel_rfl) Go.Proofs.Try.ntmps48 (by rw [hn]; decide) hw
theorem run_49 {args : List AV} {R : AV → Prop} (hn : args.length = 2) (hw : ∀ h, Rn prog [.code (yai Go.Proofs.Try.f49)] .normal (yav 0 args [2, 4, 5, 6, 11, 21]) h (Fin prog [.tmp 4] h R)) : zbn prog 49 args R :=
  zar wfp [2, 4, 5, 6, 11, 21] Go.Proofs.Try.func49 _ rfl (by kernel_rfl) (by kernel_rfl) (by kernel_rfl) Go.Proofs.Try.ntmps49 (by rw [hn]; decide) hw
theorem run_50 {args : List AV} {R : AV → Prop} (hn : args.length = 1) (hw : ∀ h, Rn prog [.code (yai Go.Proofs.Try.f50)] .normal (yav 0 args [2]) h (Fin prog [.tmp 2] h R)) : zbn prog 50 args R :=
  zar wfp [2] Go.Proofs.Try.func50 _ rfl (by kernel_rfl) (by kernel_rfl) (by kernel_rfl) Go.Proofs.Try.ntmps50 (by rw [hn]; decide) hw
theorem run_51 {args : List AV} {R : AV → Prop} (hn : args.length = 2) (hw : ∀ h, Rn prog [.code (yai Go.Proofs.Try.f51)] .normal (yav 0 args [2, 4, 18, 21, 43, 46]) h (Fin prog [.tmp 4] h R)) : zbn prog 51 args R :=
  zar wfp [2, 4, 18, 21, 43, 46] Go.Proofs.Try.func51 _ rfl (by kernel_rfl) (by kernel_rfl) (by kernel_rfl) Go.Proofs.Try.ntmps51 (by rw [hn]; decide) hw
theorem run_52 {args : List AV} {R : AV → Prop} (hn : args.length = 1) (hw : ∀ h, Rn prog [.code (yai Go.Proofs.Try.f52)] .normal (yav 0 args [1, 2, 3, 5, 7, 8, 9, 41, 43, 44, 45, 46, 53, 64, 67, 68, 69, 70, 92, 95, 96, 97, 103]) h (Fin prog [.tmp 2] h R)) : zbn prog 52 args R :=
  zar wfp [1, 2, 3, 5, 7, 8, 9, 41, 43, 44, 45, 46, 53, 64, 67, 68, 69, 70, 92, 95, 96, 97, 103] Go.Proofs.Try.func52 _ rfl (by kernel_rfl) (by kernel_rfl) (by kernel_rfl) Go.Proofs.Try.ntmps52 (by rw [hn]; decide) hw
theorem frun_53 {args : List AV} {h : List Entry} {K : AV → List Entry → Prop} (hn : args.length = 3) (hw : Rn prog [.code (yai Go.Proofs.Try.f53)] .normal (yav 0 args [6, 16, 20]) h (qca prog [] K)) : FSpec prog 53 args h K :=
  qay wfp [6, 16, 20] Go.Proofs.Try.func53 _ rfl (by kernel_rfl) (by kernel_rfl) (by kernel_rfl) Go.Proofs.Try.ntmps53 (by rw [hn]; decide) hw
theorem frun_54 {args : List AV} {h : List Entry} {K : AV → List Entry → Prop} (hn : args.length = 2) (hw : Rn prog [.code (yai Go.Proofs.Try.f54)] .normal (yav 0 args []) h (qca prog [] K)) : FSpec prog 54 args h K :=
  qay wfp [] Go.Proofs.Try.func54 _ rfl (by kernel_rfl) (by kernel_rfl) (by kernel_rfl) Go.Proofs.Try.ntmps54 (by rw [hn]; decide) hw
theorem frun_57 {args : List AV} {h : List Entry} {K : AV → List Entry → Prop} (hn : args.length = 1) (hw : Rn prog [.code (yai Go.Proofs.Try.f57)] .normal (yav 0 args [2, 4]) h (qca prog [.tmp 2] K)) : FSpec prog 57 args h K :=
  qay wfp [2, 4] Go.Proofs.Try.func57 _ rfl (by kernel_rfl) (by kernel_rfl) (by kernel_rfl) Go.Proofs.Try.ntmps57 (by rw [hn]; decide) hw
theorem frun_63 {args : List AV} {h : List Entry} {K : AV → List Entry → Prop} (hn : args.length = 1) (hw : Rn prog [.code (yai Go.Proofs.Try.f63)] .normal (yav 0 args [2]) h (qca prog [.tmp 2] K)) : FSpec prog 63 args h K :=
  qay wfp [2] Go.Proofs.Try.func63 _ rfl (by kernel_rfl) (by kernel_rfl) (by kernel_rfl) Go.Proofs.Try.ntmps63 (by rw [hn]; decide) hw
theorem frun_65 {args : List AV} {h : List Entry} {K : AV → List Entry → Prop} (hn : args.length = 1) (hw : Rn prog [.code (yai Go.Proofs.Try.f65)] .normal (yav 0 args [2, 3, 4, 5, 6, 7, 14, 22, 23, 29, 46]) h (qca prog [.tmp 2, .tmp 3] K)) : FSpec prog 65 args h K :=
  qay wfp [2, 3, 4, 5, 6, 7, 14, 22, 23, 29, 46] Go.Proofs.Try.func65 _ rfl (by kernel_rfl) (by kernel_rfl) (by kernel_rfl) Go.Proofs.Try.ntmps65 (by rw [hn]; decide) hw
theorem frun_66 {args : List AV} {h : List Entry} {K : AV → List Entry → Prop} (hn : args.length = 2) (hw : Rn prog [.code (yai Go.Proofs.Try.f66)] .normal (yav 0 args [4, 5, 12]) h (qca prog [.tmp 4] K)) : FSpec prog 66 args h K :=
  qay wfp [4, 5, 12] Go.Proofs.Try.func66 _ rfl (by kernel_rfl) (by kernel_rfl) (by kernel_rfl) Go.Proofs.Try.ntmps66 (by rw [hn]; decide) hw
theorem frun_67 {args : List AV} {h : List Entry} {K : AV → List Entry → Prop} (hn : args.length = 2) (hw : Rn prog [.code (yai Go.Proofs.Try.f67)] .normal (yav 0 args [4, 5, 6, 12, 16, 17, 18, 19]) h (qca prog [.tmp 4] K)) : FSpec prog 67 args h K :=
  qay wfp [4, 5, 6, 12, 16, 17, 18, 19] Go.Proofs.Try.func67 _ rfl (by kernel_rfl) (by kernel_rfl) (by kernel_rfl) Go.Proofs.Try.ntmps67 (by rw [hn]; decide) hw
theorem frun_68 {args : List AV} {h : List Entry} {K : AV → List Entry → Prop} (hn : args.length = 1) (hw : Rn prog [.code (yai Go.Proofs.Try.f68)] .normal (yav 0 args [2, 13]) h (qca prog [.tmp 2] K)) : FSpec prog 68 args h K :=
  qay wfp [2, 13] Go.Proofs.Try.func68 _ rfl (by kernel_rfl) (by kernel_rfl) (by kernel_rfl) Go.Proofs.Try.ntmps68 (by rw [hn]; decide) hw
theorem run_69 {args : List AV} {R : AV → Prop} (hn : args.length = 2) (hw : ∀ h, Rn prog [.code (yai Go.Proofs.Try.f69)] .normal (yav 0 args [4, 5, 10, 12, 13, 14, 24]) h (Fin prog [.tmp 4] h R)) : zbn prog 69 args R :=
  zar wfp [4, 5, 10, 12, 13, 14, 24] Go.Proofs.Try.func69 _ rfl (by kernel_rfl) (by kernel_rfl) (by kernel_rfl) Go.Proofs.Try.ntmps69 (by rw [hn]; decide) hw
theorem run_75 {args : List AV} {R : AV → Prop} (hn : args.length = 2) (hw : ∀ h, Rn prog [.code (yai Go.Proofs.Try.f75)] .normal (yav 0 args [4, 5, 10, 14, 25]) h (Fin prog [.tmp 4] h R)) : zbn prog 75 args R :=
  zar wfp [4, 5, 10, 14, 25] Go.Proofs.Try.func75 _ rfl (by kernel_rfl) (by kernel_rfl) (by kernel_rfl) Go.Proofs.Try.ntmps75 (by rw [hn]; decide) hw
theorem run_76 {args : List AV} {R : AV → Prop} (hn : args.length = 2) (hw : ∀ h, Rn prog [.code (yai Go.Proofs.Try.f76)] .normal (yav 0 args [2, 3, 4]) h (Fin prog [.tmp 4] h R)) : zbn prog 76 args R :=
  zar wfp [2, 3, 4] Go.Proofs.Try.func76 _ rfl (by kernel_rfl) (by kernel_rfl) (by kernel_rfl) Go.Proofs.Try.ntmps76 (by rw [hn]; decide) hw
theorem frun_85 {args : List AV} {h : List Entry} {K : AV → List Entry → Prop} (hn : args.length = 1) (hw : Rn prog [.code (yai Go.Proofs.Try.f85)] .normal (yav 0 args [1, 2, 3, 4, 6, 9, 30, 31, 32]) h (qca prog [.tmp 2, .tmp 3] K)) : FSpec prog 85 args h K :=
  qay wfp [1, 2, 3, 4, 6, 9, 30, 31, 32] Go.Proofs.Try.func85 _ rfl (by kernel_rfl) (by kernel_rfl) (by kernel_rfl) Go.Proofs.Try.ntmps85 (by rw [hn]; decide) hw
theorem run_86 {args : List AV} {R : AV → Prop} (hn : args.length = 1) (hw : ∀ h, Rn prog [.code (yai Go.Proofs.Try.f86)] .normal (yav 0 args [1, 2, 3, 31, 76, 79]) h (Fin prog [.tmp 2] h R)) : zbn prog 86 args R :=
  zar wfp [1, 2, 3, 31, 76, 79] Go.Proofs.Try.func86 _ rfl (by kernel_rfl) (by kernel_rfl) (by kernel_rfl) Go.Proofs.Try.ntmps86 (by rw [hn]; decide) hw
theorem frun_87 {args : List AV} {h : List Entry} {K : AV → List Entry → Prop} (hn : args.length = 1) (hw : Rn prog [.code (yai Go.Proofs.Try.f87)] .normal (yav 0 args [2, 3, 4, 5, 6, 7, 54]) h (qca prog [.cell 2 60, .tmp 3] K)) : FSpec prog 87 args h K :=
  qay wfp [2, 3, 4, 5, 6, 7, 54] Go.Proofs.Try.func87 _ rfl (by kernel_rfl) (by kernel_rfl) (by kernel_rfl) Go.Proofs.Try.ntmps87 (by rw [hn]; decide) hw
theorem run_89 {args : List AV} {R : AV → Prop} (hn : args.length = 1) (hw : ∀ h, Rn prog [.code (yai Go.Proofs.Try.f89)] .normal (yav 0 args [2]) h (Fin prog [.tmp 2] h R)) : zbn prog 89 args R :=
  zar wfp [2] Go.Proofs.Try.func89 _ rfl (by kernel_rfl) (by kernel_rfl) (by kernel_rfl) Go.Proofs.Try.ntmps89 (by rw [hn]; decide) hw
theorem run_90 {args : List AV} {R : AV → Prop} (hn : args.length = 1) (hw : ∀ h, Rn prog [.code (yai Go.Proofs.Try.f90)] .normal (yav 0 args [2]) h (Fin prog [.tmp 2] h R)) : zbn prog 90 args R :=
  zar wfp [2] Go.Proofs.Try.func90 _ rfl (by kernel_rfl) (by kernel_rfl) (by kernel_rfl) Go.Proofs.Try.ntmps90 (by rw [hn]; decide) hw
theorem frun_91 {args : List AV} {h : List Entry} {K : AV → List Entry → Prop} (hn : args.length = 4) (hw : Rn prog [.code (yai Go.Proofs.Try.f91)] .normal (yav 0 args [5, 8]) h (qca prog [] K)) : FSpec prog 91 args h K :=
  qay wfp [5, 8] Go.Proofs.Try.func91 _ rfl (by kernel_rfl) (by kernel_rfl) (by kernel_rfl) Go.Proofs.Try.ntmps91 (by rw [hn]; decide) hw
theorem frun_92 {args : List AV} {h : List Entry} {K : AV → List Entry → Prop} (hn : args.length = 2) (hw : Rn prog [.code (yai Go.Proofs.Try.f92)] .normal (yav 0 args [3, 20]) h (qca prog [] K)) : FSpec prog 92 args h K :=
  qay wfp [3, 20] Go.Proofs.Try.func92 _ rfl (by kernel_rfl) (by kernel_rfl) (by kernel_rfl) Go.Proofs.Try.ntmps92 (by rw [hn]; decide) hw
theorem frun_93 {args : List AV} {h : List Entry} {K : AV → List Entry → Prop} (hn : args.length = 2) (hw : Rn prog [.code (yai Go.Proofs.Try.f93)] .normal (yav 0 args [3, 4, 5, 6, 15, 41]) h (qca prog [] K)) : FSpec prog 93 args h K :=
  qay wfp [3, 4, 5, 6, 15, 41] Go.Proofs.Try.func93 _ rfl (by kernel_rfl) (by kernel_rfl) (by kernel_rfl) Go.Proofs.Try.ntmps93 (by rw [hn]; decide) hw
theorem run_94 {args : List AV} {R : AV → Prop} (hn : args.length = 2) (hw : ∀ h, Rn prog [.code (yai Go.Proofs.Try.f94)] .normal (yav 0 args [2, 4, 5, 10, 20]) h (Fin prog [.tmp 4] h R)) : zbn prog 94 args R :=
  zar wfp [2, 4, 5, 10, 20] Go.Proofs.Try.func94 _ rfl (by kernel_rfl) (by kernel_rfl) (by kernel_rfl) Go.Proofs.Try.ntmps94 (by rw [hn]; decide) hw
theorem frun_95 {args : List AV} {h : List Entry} {K : AV → List Entry → Prop} (hn : args.length = 2) (hw : Rn prog [.code (yai Go.Proofs.Try.f95)] .normal (yav 0 args [3, 4, 5, 39, 58, 74, 86]) h (qca prog [] K)) : FSpec prog 95 args h K :=
  qay wfp [3, 4, 5, 39, 58, 74, 86] Go.Proofs.Try.func95 _ rfl (by kernel_rfl) (by kernel_rfl) (by kernel_rfl) Go.Proofs.Try.ntmps95 (by rw [hn]; decide) hw
theorem frun_96 {args : List AV} {h : List Entry} {K : AV → List Entry → Prop} (hn : args.length = 2) (hw : Rn prog [.code (yai Go.Proofs.Try.f96)] .normal (yav 0 args [2, 3, 4]) h (qca prog [.tmp 4] K)) : FSpec prog 96 args h K :=
  qay wfp [2, 3, 4] Go.Proofs.Try.func96 _ rfl (by kernel_rfl) (by kernel_rfl) (by kernel_rfl) Go.Proofs.Try.ntmps96 (by rw [hn]; decide) hw
theorem frun_101 {args : List AV} {h : List Entry} {K : AV → List Entry → Prop} (hn : args.length = 2) (hw : Rn prog [.code (yai Go.Proofs.Try.f101)] .normal (yav 0 args [5]) h (qca prog [] K)) : FSpec prog 101 args h K :=
  qay wfp [5] Go.Proofs.Try.func101 _ rfl (by kernel_rfl) (by kernel_rfl) (by kernel_rfl) Go.Proofs.Try.ntmps101 (by rw [hn]; decide) hw
theorem frun_102 {args : List AV} {h : List Entry} {K : AV → List Entry → Prop} (hn : args.length = 2) (hw : Rn prog [.code (yai Go.Proofs.Try.f102)] .normal (yav 0 args [4, 5, 9]) h (qca prog [.tmp 4] K)) : FSpec prog 102 args h K :=
  qay wfp [4, 5, 9] Go.Proofs.Try.func102 _ rfl (by kernel_rfl) (by kernel_rfl) (by kernel_rfl) Go.Proofs.Try.ntmps102 (by rw [hn]; decide) hw
theorem run_104 {args : List AV} {R : AV → Prop} (hn : args.length = 2) (hw : ∀ h, Rn prog [.code (yai Go.Proofs.Try.f104)] .normal (yav 0 args [4]) h (Fin prog [.tmp 4] h R)) : zbn prog 104 args R :=
  zar wfp [4] Go.Proofs.Try.func104 _ rfl (by kernel_rfl) (by kernel_rfl) (by kernel_rfl) Go.Proofs.Try.ntmps104 (by rw [hn]; decide) hw
theorem run_105 {args : List AV} {R : AV → Prop} (hn : args.length = 1) (hw : ∀ h, Rn prog [.code (yai Go.Proofs.Try.f105)] .normal (yav 0 args [1, 2]) h (Fin prog [.tmp 2] h R)) : zbn prog 105 args R :=
  zar wfp [1, 2] Go.Proofs.Try.func105 _ rfl (by kernel_rfl) (by kernel_rfl) (by kernel_rfl) Go.Proofs.Try.ntmps105 (by rw [hn]; decide) hw
theorem run_106 {args : List AV} {R : AV → Prop} (hn : args.length = 1) (hw : ∀ h, Rn prog [.code (yai Go.Proofs.Try.f106)] .normal (yav 0 args [1, 2, 3, 4, 32, 44, 64]) h (Fin prog [.tmp 2] h R)) : zbn prog 106 args R :=
  zar wfp [1, 2, 3, 4, 32, 44, 64] Go.Proofs.Try.func106 _ rfl (by kernel_rfl) (by kernel_rfl) (by kernel_rfl) Go.Proofs.Try.ntmps106 (by rw [hn]; decide) hw
theorem frun_107 {args : List AV} {h : List Entry} {K : AV → List Entry → Prop} (hn : args.length = 2) (hw : Rn prog [.code (yai Go.Proofs.Try.f107)] .normal (yav 0 args [4, 5, 6, 7, 12, 19, 29]) h (qca prog [.tmp 4] K)) : FSpec prog 107 args h K :=
  qay wfp [4, 5, 6, 7, 12, 19, 29] Go.Proofs.Try.func107 _ rfl (by kernel_rfl) (by kernel_rfl) (by kernel_rfl) Go.Proofs.Try.ntmps107 (by rw [hn]; decide) hw
theorem frun_108 {args : List AV} {h : List Entry} {K : AV → List Entry → Prop} (hn : args.length = 1) (hw : Rn prog [.code (yai Go.Proofs.Try.f108)] .normal (yav 0 args [2, 4]) h (qca prog [.tmp 2] K)) : FSpec prog 108 args h K :=
  qay wfp [2, 4] Go.Proofs.Try.func108 _ rfl (by kernel_rfl) (by kernel_rfl) (by kernel_rfl) Go.Proofs.Try.ntmps108 (by rw [hn]; decide) hw
theorem run_109 {args : List AV} {R : AV → Prop} (hn : args.length = 2) (hw : ∀ h, Rn prog [.code (yai Go.Proofs.Try.f109)] .normal (yav 0 args [2, 3]) h (Fin prog [.tmp 3] h R)) : zbn prog 109 args R :=
  zar wfp [2, 3] Go.Proofs.Try.func109 _ rfl (by kernel_rfl) (by kernel_rfl) (by kernel_rfl) Go.Proofs.Try.ntmps109 (by rw [hn]; decide) hw
theorem frun_110 {args : List AV} {h : List Entry} {K : AV → List Entry → Prop} (hn : args.length = 1) (hw : Rn prog [.code (yai Go.Proofs.Try.f110)] .normal (yav 0 args [2, 4]) h (qca prog [.tmp 2] K)) : FSpec prog 110 args h K :=
  qay wfp [2, 4] Go.Proofs.Try.func110 _ rfl (by kernel_rfl) (by kernel_rfl) (by kernel_rfl) Go.Proofs.Try.ntmps110 (by rw [hn]; decide) hw
theorem frun_111 {args : List AV} {h : List Entry} {K : AV → List Entry → Prop} (hn : args.length = 2) (hw : Rn prog [.code (yai Go.Proofs.Try.f111)] .normal (yav 0 args [3]) h (qca prog [] K)) : FSpec prog 111 args h K :=
  qay wfp [3] Go.Proofs.Try.func111 _ rfl (by kernel_rfl) (by kernel_rfl) (by kernel_rfl) Go.Proofs.Try.ntmps111 (by rw [hn]; decide) hw
theorem frun_112 {args : List AV} {h : List Entry} {K : AV → List Entry → Prop} (hn : args.length = 1) (hw : Rn prog [.code (yai Go.Proofs.Try.f112)] .normal (yav 0 args [2, 44, 51, 54, 58, 93, 105, 110]) h (qca prog [] K)) : FSpec prog 112 args h K :=
  qay wfp [2, 44, 51, 54, 58, 93, 105, 110] Go.Proofs.Try.func112 _ rfl (by kernel_rfl) (by kernel_rfl) (by kernel_rfl) Go.Proofs.Try.ntmps112 (by rw [hn]; decide) hw
theorem run_113 {args : List AV} {R : AV → Prop} (hn : args.length = 1) (hw : ∀ h, Rn prog [.code (yai Go.Proofs.Try.f113)] .normal (yav 0 args [2, 3, 6, 10, 19]) h (Fin prog [.tmp 2] h R)) : zbn prog 113 args R :=
  zar wfp [2, 3, 6, 10, 19] Go.Proofs.Try.func113 _ rfl (by kernel_rfl) (by kernel_rfl) (by kernel_rfl) Go.Proofs.Try.ntmps113 (by rw [hn]; decide) hw
theorem run_114 {args : List AV} {R : AV → Prop} (hn : args.length = 2) (hw : ∀ h, Rn prog [.code (yai Go.Proofs.Try.f114)] .normal (yav 0 args [4, 5, 6, 14, 18, 59]) h (Fin prog [.tmp 4] h R)) : zbn prog 114 args R :=
  zar wfp [4, 5, 6, 14, 18, 59] Go.Proofs.Try.func114 _ rfl (by kernel_rfl) (by kernel_rfl) (by kernel_rfl) Go.Proofs.Try.ntmps114 (by rw [hn]; decide) hw
theorem run_115 {args : List AV} {R : AV → Prop} (hn : args.length = 2) (hw : ∀ h, Rn prog [.code (yai Go.Proofs.Try.f115)] .normal (yav 0 args [2, 4]) h (Fin prog [.tmp 4] h R)) : zbn prog 115 args R :=
  zar wfp [2, 4] Go.Proofs.Try.func115 _ rfl (by kernel_rfl) (by kernel_rfl) (by kernel_rfl) Go.Proofs.Try.ntmps115 (by rw [hn]; decide) hw
theorem run_116 {args : List AV} {R : AV → Prop} (hn : args.length = 1) (hw : ∀ h, Rn prog [.code (yai Go.Proofs.Try.f116)] .normal (yav 0 args [2]) h (Fin prog [.tmp 2] h R)) : zbn prog 116 args R :=
  zar wfp [2] Go.Proofs.Try.func116 _ rfl (by kernel_rfl) (by kernel_rfl) (by kernel_rfl) Go.Proofs.Try.ntmps116 (by rw [hn]; decide) hw
theorem run_117 {args : List AV} {R : AV → Prop} (hn : args.length = 1) (hw : ∀ h, Rn prog [.code (yai Go.Proofs.Try.f117)] .normal (yav 0 args [2]) h (Fin prog [.tmp 2] h R)) : zbn prog 117 args R :=
  zar wfp [2] Go.Proofs.Try.func117 _ rfl (by kernel_rfl) (by kernel_rfl) (by kernel_rfl) Go.Proofs.Try.ntmps117 (by rw [hn]; decide) hw
theorem run_118 {args : List AV} {R : AV → Prop} (hn : args.length = 2) (hw : ∀ h, Rn prog [.code (yai Go.Proofs.Try.f118)] .normal (yav 0 args [2, 4, 18, 21, 38]) h (Fin prog [.tmp 4] h R)) : zbn prog 118 args R :=
  zar wfp [2, 4, 18, 21, 38] Go.Proofs.Try.func118 _ rfl (by kernel_rfl) (by kernel_rfl) (by kernel_rfl) Go.Proofs.Try.ntmps118 (by rw [hn]; decide) hw
theorem frun_119 {args : List AV} {h : List Entry} {K : AV → List Entry → Prop} (hn : args.length = 1) (hw : Rn prog [.code (yai Go.Proofs.Try.f119)] .normal (yav 0 args [2, 3, 4, 6, 9, 14, 15, 16, 17, 25, 26, 32]) h (qca prog [.tmp 2, .tmp 3] K)) : FSpec prog 119 args h K :=
  qay wfp [2, 3, 4, 6, 9, 14, 15, 16, 17, 25, 26, 32] Go.Proofs.Try.func119 _ rfl (by kernel_rfl) (by kernel_rfl) (by kernel_rfl) Go.Proofs.Try.ntmps119 (by rw [hn]; decide) hw
theorem frun_120 {args : List AV} {h : List Entry} {K : AV → List Entry → Prop} (hn : args.length = 2) (hw : Rn prog [.code (yai Go.Proofs.Try.f120)] .normal (yav 0 args [4, 6]) h (qca prog [.tmp 4] K)) : FSpec prog 120 args h K :=
  qay wfp [4, 6] Go.Proofs.Try.func120 _ rfl (by kernel_rfl) (by kernel_rfl) (by kernel_rfl) Go.Proofs.Try.ntmps120 (by rw [hn]; decide) hw
theorem run_129 {args : List AV} {R : AV → Prop} (hn : args.length = 1) (hw : ∀ h, Rn prog [.code (yai Go.Proofs.Try.f129)] .normal (yav 0 args [2, 3]) h (Fin prog [.tmp 2] h R)) : zbn prog 129 args R :=
  zar wfp [2, 3] Go.Proofs.Try.func129 _ rfl (by kernel_rfl) (by kernel_rfl) (by kernel_rfl) Go.Proofs.Try.ntmps129 (by rw [hn]; decide) hw
theorem frun_130 {args : List AV} {h : List Entry} {K : AV → List Entry → Prop} (hn : args.length = 2) (hw : Rn prog [.code (yai Go.Proofs.Try.f130)] .normal (yav 0 args [3, 4, 5, 6, 7, 8, 9, 17, 36, 69, 89, 92]) h (qca prog [] K)) : FSpec prog 130 args h K :=
  qay wfp [3, 4, 5, 6, 7, 8, 9, 17, 36, 69, 89, 92] Go.Proofs.Try.func130 _ rfl (by kernel_rfl) (by kernel_rfl) (by kernel_rfl) Go.Proofs.Try.ntmps130 (by rw [hn]; decide) hw
theorem frun_131 {args : List AV} {h : List Entry} {K : AV → List Entry → Prop} (hn : args.length = 2) (hw : Rn prog [.code (yai Go.Proofs.Try.f131)] .normal (yav 0 args [4]) h (qca prog [.tmp 4] K)) : FSpec prog 131 args h K :=
  qay wfp [4] Go.Proofs.Try.func131 _ rfl (by kernel_rfl) (by kernel_rfl) (by kernel_rfl) Go.Proofs.Try.ntmps131 (by rw [hn]; decide) hw
theorem run_132 {args : List AV} {R : AV → Prop} (hn : args.length = 2) (hw : ∀ h, Rn prog [.code (yai Go.Proofs.Try.f132)] .normal (yav 0 args [4, 5, 6, 21, 25, 32, 42, 50, 58, 61]) h (Fin prog [.tmp 4] h R)) : zbn prog 132 args R :=
  zar wfp [4, 5, 6, 21, 25, 32, 42, 50, 58, 61] Go.Proofs.Try.func132 _ rfl (by kernel_rfl) (by kernel_rfl) (by kernel_rfl) Go.Proofs.Try.ntmps132 (by rw [hn]; decide) hw
theorem frun_133 {args : List AV} {h : List Entry} {K : AV → List Entry → Prop} (hn : args.length = 3) (hw : Rn prog [.code (yai Go.Proofs.Try.f133)] .normal (yav 0 args [5, 6, 8, 9, 10, 11, 26]) h (qca prog [] K)) : FSpec prog 133 args h K :=
  qay wfp [5, 6, 8, 9, 10, 11, 26] Go.Proofs.Try.func133 _ rfl (by kernel_rfl) (by kernel_rfl) (by kernel_rfl) Go.Proofs.Try.ntmps133 (by rw [hn]; decide) hw
theorem run_136 {args : List AV} {R : AV → Prop} (hn : args.length = 2) (hw : ∀ h, Rn prog [.code (yai Go.Proofs.Try.f136)] .normal (yav 0 args [4, 5, 7, 8, 9, 16]) h (Fin prog [.tmp 4] h R)) : zbn prog 136 args R :=
  zar wfp [4, 5, 7, 8, 9, 16] Go.Proofs.Try.func136 _ rfl (by kernel_rfl) (by kernel_rfl) (by kernel_rfl) Go.Proofs.Try.ntmps136 (by rw [hn]; decide) hw
theorem run_137 {args : List AV} {R : AV → Prop} (hn : args.length = 2) (hw : ∀ h, Rn prog [.code (yai Go.Proofs.Try.f137)] .normal (yav 0 args [4]) h (Fin prog [.tmp 4] h R)) : zbn prog 137 args R :=
  zar wfp [4] Go.Proofs.Try.func137 _ rfl (by kernel_rfl) (by kernel_rfl) (by kernel_rfl) Go.Proofs.Try.ntmps137 (by rw [hn]; decide) hw
theorem run_138 {args : List AV} {R : AV → Prop} (hn : args.length = 1) (hw : ∀ h, Rn prog [.code (yai Go.Proofs.Try.f138)] .normal (yav 0 args [2]) h (Fin prog [.tmp 2] h R)) : zbn prog 138 args R :=
  zar wfp [2] Go.Proofs.Try.func138 _ rfl (by kernel_rfl) (by kernel_rfl) (by kernel_rfl) Go.Proofs.Try.ntmps138 (by rw [hn]; decide) hw
theorem run_139 {args : List AV} {R : AV → Prop} (hn : args.length = 1) (hw : ∀ h, Rn prog [.code (yai Go.Proofs.Try.f139)] .normal (yav 0 args [2]) h (Fin prog [.tmp 2] h R)) : zbn prog 139 args R :=
  zar wfp [2] Go.Proofs.Try.func139 _ rfl (by kernel_rfl) (by kernel_rfl) (by kernel_rfl) Go.Proofs.Try.ntmps139 (by rw [hn]; decide) hw
theorem run_140 {args : List AV} {R : AV → Prop} (hn : args.length = 2) (hw : ∀ h, Rn prog [.code (yai Go.Proofs.Try.f140)] .normal (yav 0 args [4, 5, 7, 8, 9, 16]) h (Fin prog [.tmp 4] h R)) : zbn prog 140 args R :=
  zar wfp [4, 5, 7, 8, 9, 16] Go.Proofs.Try.func140 _ rfl (by kernel_rfl) (by kernel_rfl) (by kernel_rfl) Go.Proofs.Try.ntmps140 (by rw [hn]; decide) hw
theorem run_141 {args : List AV} {R : AV → Prop} (hn : args.length = 1) (hw : ∀ h, Rn prog [.code (yai Go.Proofs.Try.f141)] .normal (yav 0 args [2, 4]) h (Fin prog [.tmp 2] h R)) : zbn prog 141 args R :=
  zar wfp [2, 4] Go.Proofs.Try.func141 _ rfl (by kernel_rfl) (by kernel_rfl) (by kernel_rfl) Go.Proofs.Try.ntmps141 (by rw [hn]; decide) hw
theorem run_142 {args : List AV} {R : AV → Prop} (hn : args.length = 1) (hw : ∀ h, Rn prog [.code (yai Go.Proofs.Try.f142)] .normal (yav 0 args [2]) h (Fin prog [.tmp 2] h R)) : zbn prog 142 args R :=
  zar wfp [2] Go.Proofs.Try.func142 _ rfl (by kernel_rfl) (by kernel_rfl) (by kernel_rfl) Go.Proofs.Try.ntmps142 (by rw [hn]; decide) hw
theorem frun_143 {args : List AV} {h : List Entry} {K : AV → List Entry → Prop} (hn : args.length = 3) (hw : Rn prog [.code (yai Go.Proofs.Try.f143)] .normal (yav 0 args []) h (qca prog [] K)) : FSpec prog 143 args h K :=
  qay wfp [] Go.Proofs.Try.func143 _ rfl (by kernel_rfl) (by kernel_rfl) (by kernel_rfl) Go.Proofs.Try.ntmps143 (by rw [hn]; decide) hw
theorem frun_144 {args : List AV} {h : List Entry} {K : AV → List Entry → Prop} (hn : args.length = 1) (hw : Rn prog [.code (yai Go.Proofs.Try.f144)] .normal (yav 0 args [3]) h (qca prog [] K)) : FSpec prog 144 args h K :=
  qay wfp [3] Go.Proofs.Try.func144 _ rfl (by kernel_rfl) (by kernel_rfl) (by kernel_rfl) Go.Proofs.Try.ntmps144 (by rw [hn]; decide) hw
theorem zcq {args : List AV} {h : List Entry} {K : AV → List Entry → Prop} (hn : args.length = 3) (hw : Rn prog [.code (yai Go.Proofs.Try.f145)] .normal (yav 0 args [6, 48, 62, 66, 71]) h (qca prog [] K)) : FSpec prog 145 args h K :=
  qay wfp [6, 48, 62, 66, 71] Go.Proofs.Try.func145 _ rfl (by kernel_rfl) (by kernel_rfl) (by kernel_rfl) Go.Proofs.Try.ntmps145 (by rw [hn]; decide) hw
theorem run_146 {args : List AV} {R : AV → Prop} (hn : args.length = 2) (hw : ∀ h, Rn prog [.code (yai Go.Proofs.Try.f146)] .normal (yav 0 args [2, 3, 4]) h (Fin prog [.tmp 4] h R)) : zbn prog 146 args R :=
  zar wfp [2, 3, 4] Go.Proofs.Try.func146 _ rfl (by kernel_rfl) (by kernel_rfl) (by kernel_rfl) Go.Proofs.Try.ntmps146 (by rw [hn]; decide) hw
theorem frun_147 {args : List AV} {h : List Entry} {K : AV → List Entry → Prop} (hn : args.length = 1) (hw : Rn prog [.code (yai Go.Proofs.Try.f147)] .normal (yav 0 args [2, 29, 34]) h (qca prog [] K)) : FSpec prog 147 args h K :=
  qay wfp [2, 29, 34] Go.Proofs.Try.func147 _ rfl (by kernel_rfl) (by kernel_rfl) (by kernel_rfl) Go.Proofs.Try.ntmps147 (by rw [hn]; decide) hw
theorem run_148 {args : List AV} {R : AV → Prop} (hn : args.length = 2) (hw : ∀ h, Rn prog [.code (yai Go.Proofs.Try.f148)] .normal (yav 0 args [3, 4]) h (Fin prog [.tmp 4] h R)) : zbn prog 148 args R :=
  zar wfp [3, 4] Go.Proofs.Try.func148 _ rfl (by kernel_rfl) (by kernel_rfl) (by kernel_rfl) Go.Proofs.Try.ntmps148 (by rw [hn]; decide) hw
theorem run_149 {args : List AV} {R : AV → Prop} (hn : args.length = 1) (hw : ∀ h, Rn prog [.code (yai Go.Proofs.Try.f149)] .normal (yav 0 args [1, 2, 4, 5]) h (Fin prog [.tmp 2] h R)) : zbn prog 149 args R :=
  zar wfp [1, 2, 4, 5] Go.Proofs.Try.func149 _ rfl (by kernel_rfl) (by kernel_rfl) (by kernel_rfl) Go.Proofs.Try.ntmps149 (by rw [hn]; decide) hw
theorem run_158 {args : List AV} {R : AV → Prop} (hn : args.length = 1) (hw : ∀ h, Rn prog [.code (yai Go.Proofs.Try.f158)] .normal (yav 0 args [1, 2, 4, 5, 10]) h (Fin prog [.tmp 2] h R)) : zbn prog 158 args R :=
  zar wfp [1, 2, 4, 5, 10] Go.Proofs.Try.func158 _ rfl (by kernel_rfl) (by kernel_rfl) (by kernel_rfl) Go.Proofs.Try.ntmps158 (by rw [hn]; decide) hw
theorem frun_159 {args : List AV} {h : List Entry} {K : AV → List Entry → Prop} (hn : args.length = 2) (hw : Rn prog [.code (yai Go.Proofs.Try.f159)] .normal (yav 0 args [3]) h (qca prog [] K)) : FSpec prog 159 args h K :=
  qay wfp [3] Go.Proofs.Try.func159 _ rfl (by kernel_rfl) (by kernel_rfl) (by kernel_rfl) Go.Proofs.Try.ntmps159 (by rw [hn]; decide) hw
theorem run_160 {args : List AV} {R : AV → Prop} (hn : args.length = 2) (hw : ∀ h, Rn prog [.code (yai Go.Proofs.Try.f160)] .normal (yav 0 args [4, 5, 6, 7, 8, 13, 14, 15, 16, 22, 32]) h (Fin prog [.tmp 4] h R)) : zbn prog 160 args R :=
  zar wfp [4, 5, 6, 7, 8, 13, 14, 15, 16, 22, 32] Go.Proofs.Try.func160 _ rfl (by kernel_rfl) (by kernel_rfl) (by kernel_rfl) Go.Proofs.Try.ntmps160 (by rw [hn]; decide) hw
theorem frun_161 {args : List AV} {h : List Entry} {K : AV → List Entry → Prop} (hn : args.length = 1) (hw : Rn prog [.code (yai Go.Proofs.Try.f161)] .normal (yav 0 args [2, 3, 4, 5, 13, 30, 67, 75, 93]) h (qca prog [] K)) : FSpec prog 161 args h K :=
  qay wfp [2, 3, 4, 5, 13, 30, 67, 75, 93] Go.Proofs.Try.func161 _ rfl (by kernel_rfl) (by kernel_rfl) (by kernel_rfl) Go.Proofs.Try.ntmps161 (by rw [hn]; decide) hw
theorem frun_162 {args : List AV} {h : List Entry} {K : AV → List Entry → Prop} (hn : args.length = 2) (hw : Rn prog [.code (yai Go.Proofs.Try.f162)] .normal (yav 0 args []) h (qca prog [] K)) : FSpec prog 162 args h K :=
  qay wfp [] Go.Proofs.Try.func162 _ rfl (by kernel_rfl) (by kernel_rfl) (by kernel_rfl) Go.Proofs.Try.ntmps162 (by rw [hn]; decide) hw
theorem run_163 {args : List AV} {R : AV → Prop} (hn : args.length = 2) (hw : ∀ h, Rn prog [.code (yai Go.Proofs.Try.f163)] .normal (yav 0 args [2, 3]) h (Fin prog [.tmp 3] h R)) : zbn prog 163 args R :=
  zar wfp [2, 3] Go.Proofs.Try.func163 _ rfl (by kernel_rfl) (by kernel_rfl) (by kernel_rfl) Go.Proofs.Try.ntmps163 (by rw [hn]; decide) hw
theorem run_164 {args : List AV} {R : AV → Prop} (hn : args.length = 2) (hw : ∀ h, Rn prog [.code (yai Go.Proofs.Try.f164)] .normal (yav 0 args [4]) h (Fin prog [.tmp 4] h R)) : zbn prog 164 args R :=
  zar wfp [4] Go.Proofs.Try.func164 _ rfl (by kernel_rfl) (by kernel_rfl) (by kernel_rfl) Go.Proofs.Try.ntmps164 (by rw [hn]; decide) hw
theorem run_165 {args : List AV} {R : AV → Prop} (hn : args.length = 2) (hw : ∀ h, Rn prog [.code (yai Go.Proofs.Try.f165)] .normal (yav 0 args [4]) h (Fin prog [.tmp 4] h R)) : zbn prog 165 args R :=
  zar wfp [4] Go.Proofs.Try.func165 _ rfl (by kernel_rfl) (by kernel_rfl) (by kernel_rfl) Go.Proofs.Try.ntmps165 (by rw [hn]; decide) hw
theorem run_166 {args : List AV} {R : AV → Prop} (hn : args.length = 2) (hw : ∀ h, Rn prog [.code (yai Go.Proofs.Try.f166)] .normal (yav 0 args [2, 3]) h (Fin prog [.tmp 3] h R)) : zbn prog 166 args R :=
  zar wfp [2, 3] Go.Proofs.Try.func166 _ rfl (by kernel_rfl) (by kernel_rfl) (by kernel_rfl) Go.Proofs.Try.ntmps166 (by rw [hn]; decide) hw
theorem frun_171 {args : List AV} {h : List Entry} {K : AV → List Entry → Prop} (hn : args.length = 3) (hw : Rn prog [.code (yai Go.Proofs.Try.f171)] .normal (yav 0 args [6, 7, 16]) h (qca prog [.tmp 6] K)) : FSpec prog 171 args h K :=
  qay wfp [6, 7, 16] Go.Proofs.Try.func171 _ rfl (by kernel_rfl) (by kernel_rfl) (by kernel_rfl) Go.Proofs.Try.ntmps171 (by rw [hn]; decide) hw
theorem frun_172 {args : List AV} {h : List Entry} {K : AV → List Entry → Prop} (hn : args.length = 3) (hw : Rn prog [.code (yai Go.Proofs.Try.f172)] .normal (yav 0 args [6, 7, 16]) h (qca prog [.tmp 6] K)) : FSpec prog 172 args h K :=
  qay wfp [6, 7, 16] Go.Proofs.Try.func172 _ rfl (by kernel_rfl) (by kernel_rfl) (by kernel_rfl) Go.Proofs.Try.ntmps172 (by rw [hn]; decide) hw
theorem run_173 {args : List AV} {R : AV → Prop} (hn : args.length = 3) (hw : ∀ h, Rn prog [.code (yai Go.Proofs.Try.f173)] .normal (yav 0 args [6, 7, 8, 9, 14, 15, 16, 17, 18, 30]) h (Fin prog [.tmp 6] h R)) : zbn prog 173 args R :=
  zar wfp [6, 7, 8, 9, 14, 15, 16, 17, 18, 30] Go.Proofs.Try.func173 _ rfl (by kernel_rfl) (by kernel_rfl) (by kernel_rfl) Go.Proofs.Try.ntmps173 (by rw [hn]; decide) hw
theorem run_174 {args : List AV} {R : AV → Prop} (hn : args.length = 2) (hw : ∀ h, Rn prog [.code (yai Go.Proofs.Try.f174)] .normal (yav 0 args [2, 3, 4, 6, 7, 12, 17]) h (Fin prog [.tmp 4] h R)) : zbn prog 174 args R :=
  zar wfp [2, 3, 4, 6, 7, 12, 17] Go.Proofs.Try.func174 _ rfl (by kernel_rfl) (by kernel_rfl) (by kernel_rfl) Go.Proofs.Try.ntmps174 (by rw [hn]; decide) hw
theorem run_175 {args : List AV} {R : AV → Prop} (hn : args.length = 2) (hw : ∀ h, Rn prog [.code (yai Go.Proofs.Try.f175)] .normal (yav 0 args [4, 5, 7, 8, 9, 16]) h (Fin prog [.tmp 4] h R)) : zbn prog 175 args R :=
  zar wfp [4, 5, 7, 8, 9, 16] Go.Proofs.Try.func175 _ rfl (by kernel_rfl) (by kernel_rfl) (by kernel_rfl) Go.Proofs.Try.ntmps175 (by rw [hn]; decide) hw
end Go.Abs
