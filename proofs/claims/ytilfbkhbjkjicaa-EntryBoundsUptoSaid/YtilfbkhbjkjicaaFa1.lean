/- Fa1: a part of the proofs about the tuple space and its bytes. -/
import Derived.Test.YtilfbkhbjkjicaaWl
import Derived.Test.YtilfbkhbjkjicaaProg
set_option linter.all false
set_option maxRecDepth 100000
set_option maxHeartbeats 0
namespace Go.Abs
open Go
open Go.Proofs.Try (prog)
theorem wfp : WF prog := wf_of_table (by kernel_rfl)
theorem yae : prog.follows .mixedOrders = true := by kernel_rfl
@[push_cast] def yah (f : Func) : Code := f.body.getD .skip
structure Hold (p : Prop) : Prop where
  go : p
theorem fn_runH {P : Program} (hP : WF P) {f : FuncId} {fn : Func} {x : Code} {args : List AV} {R : AV → Prop} (ks : List Nat) (hf : P.funcs[f]? = some fn) (rs : List ResultVar) (hb : fn.body = some x) (hrs : fn.results.toList = rs) (hc : qce P f = true)
    (hok : zbi fn.ntmps x = true) {m : Nat} (hm : fn.ntmps = m) (hn : args.length ≤ m) (hw : ∀ h, Hold (Rn P [.code x] .normal (zat 0 args ks) h (Fin P rs h R))) : qbn P f args R :=
  zaq hP ks hf rs hb hrs hc hok hm hn fun h => (hw h).go
@[push_cast] theorem sh_2 : zab prog 2 = .int .i64 := by kernel_rfl
@[push_cast] theorem ok_2 : okT prog 2 = true := by kernel_rfl
@[push_cast] theorem zo_2 : zOK prog 2 = true := by kernel_rfl
@[push_cast] theorem za_2 : zai prog 2 = .int .i64 0 := by kernel_rfl
@[push_cast] theorem ce_2 : prog.cellsOf 2 = 1 := by kernel_rfl
@[push_cast] theorem ro_2 (k : Nat) : yak prog 2 k = decide (k ≤ 4294967296) := yaj (by kernel_rfl) zo_2
@[push_cast] theorem sh_3 : zab prog 3 = .int .i64 := by kernel_rfl
@[push_cast] theorem ok_3 : okT prog 3 = true := by kernel_rfl
@[push_cast] theorem zo_3 : zOK prog 3 = true := by kernel_rfl
@[push_cast] theorem za_3 : zai prog 3 = .int .i64 0 := by kernel_rfl
@[push_cast] theorem ce_3 : prog.cellsOf 3 = 1 := by kernel_rfl
@[push_cast] theorem ro_3 (k : Nat) : yak prog 3 k = decide (k ≤ 4294967296) := yaj (by kernel_rfl) zo_3
@[push_cast] theorem sh_4 : zab prog 4 = .bool := by kernel_rfl
@[push_cast] theorem ok_4 : okT prog 4 = true := by kernel_rfl
@[push_cast] theorem zo_4 : zOK prog 4 = true := by kernel_rfl
@[push_cast] theorem za_4 : zai prog 4 = .bool false := by kernel_rfl
@[push_cast] theorem ce_4 : prog.cellsOf 4 = 1 := by kernel_rfl
@[push_cast] theorem ro_4 (k : Nat) : yak prog 4 k = decide (k ≤ 4294967296) := yaj (by kernel_rfl) zo_4
@[push_cast] theorem sh_5 : zab prog 5 = .int .u8 := by kernel_rfl
@[push_cast] theorem ok_5 : okT prog 5 = true := by kernel_rfl
@[push_cast] theorem zo_5 : zOK prog 5 = true := by kernel_rfl
@[push_cast] theorem za_5 : zai prog 5 = .int .u8 0 := by kernel_rfl
@[push_cast] theorem ce_5 : prog.cellsOf 5 = 1 := by kernel_rfl
@[push_cast] theorem ro_5 (k : Nat) : yak prog 5 k = decide (k ≤ 4294967296) := yaj (by kernel_rfl) zo_5
@[push_cast] theorem sh_9 : zab prog 9 = .str := by kernel_rfl
@[push_cast] theorem ok_9 : okT prog 9 = true := by kernel_rfl
@[push_cast] theorem zo_9 : zOK prog 9 = true := by kernel_rfl
@[push_cast] theorem za_9 : zai prog 9 = .str ByteArray.empty := by kernel_rfl
@[push_cast] theorem ce_9 : prog.cellsOf 9 = 1 := by kernel_rfl
@[push_cast] theorem ro_9 (k : Nat) : yak prog 9 k = decide (k ≤ 4294967296) := yaj (by kernel_rfl) zo_9
@[push_cast] theorem sh_22 : zab prog 22 = .slice 87 := by kernel_rfl
@[push_cast] theorem ok_22 : okT prog 22 = true := by kernel_rfl
@[push_cast] theorem zo_22 : zOK prog 22 = true := by kernel_rfl
@[push_cast] theorem za_22 : zai prog 22 = .nils := by kernel_rfl
@[push_cast] theorem ce_22 : prog.cellsOf 22 = 1 := by kernel_rfl
@[push_cast] theorem ro_22 (k : Nat) : yak prog 22 k = decide (k ≤ 4294967296) := yaj (by kernel_rfl) zo_22
@[push_cast] theorem sh_23 : zab prog 23 = .slice 89 := by kernel_rfl
@[push_cast] theorem ok_23 : okT prog 23 = true := by kernel_rfl
@[push_cast] theorem zo_23 : zOK prog 23 = true := by kernel_rfl
@[push_cast] theorem za_23 : zai prog 23 = .nils := by kernel_rfl
@[push_cast] theorem ce_23 : prog.cellsOf 23 = 1 := by kernel_rfl
@[push_cast] theorem ro_23 (k : Nat) : yak prog 23 k = decide (k ≤ 4294967296) := yaj (by kernel_rfl) zo_23
@[push_cast] theorem sh_24 : zab prog 24 = .slice 160 := by kernel_rfl
@[push_cast] theorem ok_24 : okT prog 24 = true := by kernel_rfl
@[push_cast] theorem zo_24 : zOK prog 24 = true := by kernel_rfl
@[push_cast] theorem za_24 : zai prog 24 = .nils := by kernel_rfl
@[push_cast] theorem ce_24 : prog.cellsOf 24 = 1 := by kernel_rfl
@[push_cast] theorem ro_24 (k : Nat) : yak prog 24 k = decide (k ≤ 4294967296) := yaj (by kernel_rfl) zo_24
@[push_cast] theorem sh_26 : zab prog 26 = .struct := by kernel_rfl
@[push_cast] theorem fl_26 : qaj prog 26 = [(3, 0), (3, 1), (3, 2), (24, 3), (4, 4)] := by kernel_rfl
@[push_cast] theorem po_26 : qa4 prog 26 = true := by kernel_rfl
@[push_cast] theorem ok_26 : okT prog 26 = true := by kernel_rfl
@[push_cast] theorem zo_26 : zOK prog 26 = true := by kernel_rfl
@[push_cast] theorem za_26 : zai prog 26 = .agg 26 [.int .i64 0, .int .i64 0, .int .i64 0, .nils, .bool false] := by kernel_rfl
@[push_cast] theorem ce_26 : prog.cellsOf 26 = 5 := by kernel_rfl
@[push_cast] theorem ro_26 (k : Nat) : yak prog 26 k = decide (k ≤ 4294967296) := yaj (by kernel_rfl) zo_26
@[push_cast] theorem sh_27 : zab prog 27 = .arr 4 26 := by kernel_rfl
@[push_cast] theorem po_27 : qa4 prog 27 = true := by kernel_rfl
@[push_cast] theorem ok_27 : okT prog 27 = true := by kernel_rfl
@[push_cast] theorem zo_27 : zOK prog 27 = true := by kernel_rfl
@[push_cast] theorem za_27 : zai prog 27 = .agg 27 [.agg 26 [.int .i64 0, .int .i64 0, .int .i64 0, .nils, .bool false], .agg 26 [.int .i64 0, .int .i64 0, .int .i64 0, .nils, .bool false], .agg 26 [.int .i64 0, .int .i64 0, .int .i64 0, .nils, .bool false], .agg 26 [.int .i64 0, .int .i64 0, .int .i64 0, .nils, .bool false]] := by kernel_rfl
@[push_cast] theorem ce_27 : prog.cellsOf 27 = 20 := by kernel_rfl
@[push_cast] theorem ro_27 (k : Nat) : yak prog 27 k = decide (k ≤ 4294967296) := yaj (by kernel_rfl) zo_27
@[push_cast] theorem sh_29 : zab prog 29 = .struct := by kernel_rfl
@[push_cast] theorem fl_29 : qaj prog 29 = [(3, 0), (22, 1), (23, 2), (3, 3), (3, 4), (27, 5)] := by kernel_rfl
@[push_cast] theorem po_29 : qa4 prog 29 = true := by kernel_rfl
@[push_cast] theorem ok_29 : okT prog 29 = true := by kernel_rfl
@[push_cast] theorem zo_29 : zOK prog 29 = true := by kernel_rfl
@[push_cast] theorem za_29 : zai prog 29 = .agg 29 [.int .i64 0, .nils, .nils, .int .i64 0, .int .i64 0, .agg 27 [.agg 26 [.int .i64 0, .int .i64 0, .int .i64 0, .nils, .bool false], .agg 26 [.int .i64 0, .int .i64 0, .int .i64 0, .nils, .bool false], .agg 26 [.int .i64 0, .int .i64 0, .int .i64 0, .nils, .bool false], .agg 26 [.int .i64 0, .int .i64 0, .int .i64 0, .nils, .bool false]]] := by kernel_rfl
@[push_cast] theorem ce_29 : prog.cellsOf 29 = 25 := by kernel_rfl
@[push_cast] theorem ro_29 (k : Nat) : yak prog 29 k = decide (k ≤ 4294967296) := yaj (by kernel_rfl) zo_29
@[push_cast] theorem zck : zab prog 30 = .slice 5 := by kernel_rfl
@[push_cast] theorem ok_30 : okT prog 30 = true := by kernel_rfl
@[push_cast] theorem zo_30 : zOK prog 30 = true := by kernel_rfl
@[push_cast] theorem za_30 : zai prog 30 = .nils := by kernel_rfl
@[push_cast] theorem ce_30 : prog.cellsOf 30 = 1 := by kernel_rfl
@[push_cast] theorem ro_30 (k : Nat) : yak prog 30 k = decide (k ≤ 4294967296) := yaj (by kernel_rfl) zo_30
@[push_cast] theorem sh_36 : zab prog 36 = .arr 32 5 := by kernel_rfl
@[push_cast] theorem po_36 : qa4 prog 36 = true := by kernel_rfl
@[push_cast] theorem ok_36 : okT prog 36 = true := by kernel_rfl
@[push_cast] theorem zo_36 : zOK prog 36 = true := by kernel_rfl
@[push_cast] theorem za_36 : zai prog 36 = .agg 36 [.int .u8 0, .int .u8 0, .int .u8 0, .int .u8 0, .int .u8 0, .int .u8 0, .int .u8 0, .int .u8 0, .int .u8 0, .int .u8 0, .int .u8 0, .int .u8 0, .int .u8 0, .int .u8 0, .int .u8 0, .int .u8 0, .int .u8 0, .int .u8 0, .int .u8 0, .int .u8 0, .int .u8 0, .int .u8 0, .int .u8 0, .int .u8 0, .int .u8 0, .int .u8 0, .int .u8 0, .int .u8 0, .int .u8 0, .int .u8 0, .int .u8 0, .int .u8 0] := by kernel_rfl
@[push_cast] theorem ce_36 : prog.cellsOf 36 = 32 := by kernel_rfl
@[push_cast] theorem ro_36 (k : Nat) : yak prog 36 k = decide (k ≤ 4294967296) := yaj (by kernel_rfl) zo_36
@[push_cast] theorem sh_47 : zab prog 47 = .slice 60 := by kernel_rfl
@[push_cast] theorem ok_47 : okT prog 47 = true := by kernel_rfl
@[push_cast] theorem zo_47 : zOK prog 47 = true := by kernel_rfl
@[push_cast] theorem za_47 : zai prog 47 = .nils := by kernel_rfl
@[push_cast] theorem ce_47 : prog.cellsOf 47 = 1 := by kernel_rfl
@[push_cast] theorem ro_47 (k : Nat) : yak prog 47 k = decide (k ≤ 4294967296) := yaj (by kernel_rfl) zo_47
@[push_cast] theorem sh_49 : zab prog 49 = .struct := by kernel_rfl
@[push_cast] theorem fl_49 : qaj prog 49 = [(3, 0), (47, 1)] := by kernel_rfl
@[push_cast] theorem po_49 : qa4 prog 49 = true := by kernel_rfl
@[push_cast] theorem ok_49 : okT prog 49 = true := by kernel_rfl
@[push_cast] theorem zo_49 : zOK prog 49 = true := by kernel_rfl
@[push_cast] theorem za_49 : zai prog 49 = .agg 49 [.int .i64 0, .nils] := by kernel_rfl
@[push_cast] theorem ce_49 : prog.cellsOf 49 = 2 := by kernel_rfl
@[push_cast] theorem ro_49 (k : Nat) : yak prog 49 k = decide (k ≤ 4294967296) := yaj (by kernel_rfl) zo_49
@[push_cast] theorem sh_55 : zab prog 55 = .int .u64 := by kernel_rfl
@[push_cast] theorem ok_55 : okT prog 55 = true := by kernel_rfl
@[push_cast] theorem zo_55 : zOK prog 55 = true := by kernel_rfl
@[push_cast] theorem za_55 : zai prog 55 = .int .u64 0 := by kernel_rfl
@[push_cast] theorem ce_55 : prog.cellsOf 55 = 1 := by kernel_rfl
@[push_cast] theorem ro_55 (k : Nat) : yak prog 55 k = decide (k ≤ 4294967296) := yaj (by kernel_rfl) zo_55
@[push_cast] theorem sh_60 : zab prog 60 = .struct := by kernel_rfl
@[push_cast] theorem fl_60 : qaj prog 60 = [(3, 0), (3, 1), (3, 2), (24, 3), (24, 4), (3, 5)] := by kernel_rfl
@[push_cast] theorem po_60 : qa4 prog 60 = true := by kernel_rfl
@[push_cast] theorem ok_60 : okT prog 60 = true := by kernel_rfl
@[push_cast] theorem zo_60 : zOK prog 60 = true := by kernel_rfl
@[push_cast] theorem za_60 : zai prog 60 = .agg 60 [.int .i64 0, .int .i64 0, .int .i64 0, .nils, .nils, .int .i64 0] := by kernel_rfl
@[push_cast] theorem ce_60 : prog.cellsOf 60 = 6 := by kernel_rfl
@[push_cast] theorem ro_60 (k : Nat) : yak prog 60 k = decide (k ≤ 4294967296) := yaj (by kernel_rfl) zo_60
@[push_cast] theorem qc9 : zab prog 63 = .slice 26 := by kernel_rfl
@[push_cast] theorem ok_63 : okT prog 63 = true := by kernel_rfl
@[push_cast] theorem zo_63 : zOK prog 63 = true := by kernel_rfl
@[push_cast] theorem za_63 : zai prog 63 = .nils := by kernel_rfl
@[push_cast] theorem ce_63 : prog.cellsOf 63 = 1 := by kernel_rfl
@[push_cast] theorem ro_63 (k : Nat) : yak prog 63 k = decide (k ≤ 4294967296) := yaj (by kernel_rfl) zo_63
@[push_cast] theorem sh_70 : zab prog 70 = .slice 30 := by kernel_rfl
@[push_cast] theorem ok_70 : okT prog 70 = true := by kernel_rfl
@[push_cast] theorem zo_70 : zOK prog 70 = true := by kernel_rfl
@[push_cast] theorem za_70 : zai prog 70 = .nils := by kernel_rfl
@[push_cast] theorem ce_70 : prog.cellsOf 70 = 1 := by kernel_rfl
@[push_cast] theorem ro_70 (k : Nat) : yak prog 70 k = decide (k ≤ 4294967296) := yaj (by kernel_rfl) zo_70
@[push_cast] theorem sh_81 : zab prog 81 = .slice 3 := by kernel_rfl
@[push_cast] theorem ok_81 : okT prog 81 = true := by kernel_rfl
@[push_cast] theorem zo_81 : zOK prog 81 = true := by kernel_rfl
@[push_cast] theorem za_81 : zai prog 81 = .nils := by kernel_rfl
@[push_cast] theorem ce_81 : prog.cellsOf 81 = 1 := by kernel_rfl
@[push_cast] theorem ro_81 (k : Nat) : yak prog 81 k = decide (k ≤ 4294967296) := yaj (by kernel_rfl) zo_81
@[push_cast] theorem sh_85 : zab prog 85 = .func := by kernel_rfl
@[push_cast] theorem ok_85 : okT prog 85 = true := by kernel_rfl
@[push_cast] theorem zo_85 : zOK prog 85 = true := by kernel_rfl
@[push_cast] theorem za_85 : zai prog 85 = .nilfn := by kernel_rfl
@[push_cast] theorem ce_85 : prog.cellsOf 85 = 1 := by kernel_rfl
@[push_cast] theorem ro_85 (k : Nat) : yak prog 85 k = decide (k ≤ 4294967296) := yaj (by kernel_rfl) zo_85
@[push_cast] theorem sh_87 : zab prog 87 = .struct := by kernel_rfl
@[push_cast] theorem fl_87 : qaj prog 87 = [(3, 0), (3, 1), (24, 2)] := by kernel_rfl
@[push_cast] theorem po_87 : qa4 prog 87 = true := by kernel_rfl
@[push_cast] theorem ok_87 : okT prog 87 = true := by kernel_rfl
@[push_cast] theorem zo_87 : zOK prog 87 = true := by kernel_rfl
@[push_cast] theorem za_87 : zai prog 87 = .agg 87 [.int .i64 0, .int .i64 0, .nils] := by kernel_rfl
@[push_cast] theorem ce_87 : prog.cellsOf 87 = 3 := by kernel_rfl
@[push_cast] theorem ro_87 (k : Nat) : yak prog 87 k = decide (k ≤ 4294967296) := yaj (by kernel_rfl) zo_87
@[push_cast] theorem sh_89 : zab prog 89 = .struct := by kernel_rfl
@[push_cast] theorem fl_89 : qaj prog 89 = [(3, 0), (3, 1), (4, 2), (24, 3)] := by kernel_rfl
@[push_cast] theorem po_89 : qa4 prog 89 = true := by kernel_rfl
@[push_cast] theorem ok_89 : okT prog 89 = true := by kernel_rfl
@[push_cast] theorem zo_89 : zOK prog 89 = true := by kernel_rfl
@[push_cast] theorem za_89 : zai prog 89 = .agg 89 [.int .i64 0, .int .i64 0, .bool false, .nils] := by kernel_rfl
@[push_cast] theorem ce_89 : prog.cellsOf 89 = 4 := by kernel_rfl
@[push_cast] theorem ro_89 (k : Nat) : yak prog 89 k = decide (k ≤ 4294967296) := yaj (by kernel_rfl) zo_89
@[push_cast] theorem sh_94 : zab prog 94 = .struct := by kernel_rfl
@[push_cast] theorem fl_94 : qaj prog 94 = [(30, 0)] := by kernel_rfl
@[push_cast] theorem po_94 : qa4 prog 94 = true := by kernel_rfl
@[push_cast] theorem ok_94 : okT prog 94 = true := by kernel_rfl
@[push_cast] theorem zo_94 : zOK prog 94 = true := by kernel_rfl
@[push_cast] theorem za_94 : zai prog 94 = .agg 94 [.nils] := by kernel_rfl
@[push_cast] theorem ce_94 : prog.cellsOf 94 = 1 := by kernel_rfl
@[push_cast] theorem ro_94 (k : Nat) : yak prog 94 k = decide (k ≤ 4294967296) := yaj (by kernel_rfl) zo_94
@[push_cast] theorem sh_96 : zab prog 96 = .int .u64 := by kernel_rfl
@[push_cast] theorem ok_96 : okT prog 96 = true := by kernel_rfl
@[push_cast] theorem zo_96 : zOK prog 96 = true := by kernel_rfl
@[push_cast] theorem za_96 : zai prog 96 = .int .u64 0 := by kernel_rfl
@[push_cast] theorem ce_96 : prog.cellsOf 96 = 1 := by kernel_rfl
@[push_cast] theorem ro_96 (k : Nat) : yak prog 96 k = decide (k ≤ 4294967296) := yaj (by kernel_rfl) zo_96
@[push_cast] theorem sh_105 : zab prog 105 = .ptr 162 := by kernel_rfl
@[push_cast] theorem ok_105 : okT prog 105 = true := by kernel_rfl
@[push_cast] theorem zo_105 : zOK prog 105 = true := by kernel_rfl
@[push_cast] theorem za_105 : zai prog 105 = .nilptr := by kernel_rfl
@[push_cast] theorem ce_105 : prog.cellsOf 105 = 1 := by kernel_rfl
@[push_cast] theorem ro_105 (k : Nat) : yak prog 105 k = decide (k ≤ 4294967296) := yaj (by kernel_rfl) zo_105
@[push_cast] theorem sh_120 : zab prog 120 = .func := by kernel_rfl
@[push_cast] theorem ok_120 : okT prog 120 = true := by kernel_rfl
@[push_cast] theorem zo_120 : zOK prog 120 = true := by kernel_rfl
@[push_cast] theorem za_120 : zai prog 120 = .nilfn := by kernel_rfl
@[push_cast] theorem ce_120 : prog.cellsOf 120 = 1 := by kernel_rfl
@[push_cast] theorem ro_120 (k : Nat) : yak prog 120 k = decide (k ≤ 4294967296) := yaj (by kernel_rfl) zo_120
@[push_cast] theorem sh_122 : zab prog 122 = .func := by kernel_rfl
@[push_cast] theorem ok_122 : okT prog 122 = true := by kernel_rfl
@[push_cast] theorem zo_122 : zOK prog 122 = true := by kernel_rfl
@[push_cast] theorem za_122 : zai prog 122 = .nilfn := by kernel_rfl
@[push_cast] theorem ce_122 : prog.cellsOf 122 = 1 := by kernel_rfl
@[push_cast] theorem ro_122 (k : Nat) : yak prog 122 k = decide (k ≤ 4294967296) := yaj (by kernel_rfl) zo_122
@[push_cast] theorem sh_124 : zab prog 124 = .func := by kernel_rfl
@[push_cast] theorem ok_124 : okT prog 124 = true := by kernel_rfl
@[push_cast] theorem zo_124 : zOK prog 124 = true := by kernel_rfl
@[push_cast] theorem za_124 : zai prog 124 = .nilfn := by kernel_rfl
@[push_cast] theorem ce_124 : prog.cellsOf 124 = 1 := by kernel_rfl
@[push_cast] theorem ro_124 (k : Nat) : yak prog 124 k = decide (k ≤ 4294967296) := yaj (by kernel_rfl) zo_124
@[push_cast] theorem sh_130 : zab prog 130 = .ptr 132 := by kernel_rfl
@[push_cast] theorem ok_130 : okT prog 130 = true := by kernel_rfl
@[push_cast] theorem zo_130 : zOK prog 130 = true := by kernel_rfl
@[push_cast] theorem za_130 : zai prog 130 = .nilptr := by kernel_rfl
@[push_cast] theorem ce_130 : prog.cellsOf 130 = 1 := by kernel_rfl
@[push_cast] theorem ro_130 (k : Nat) : yak prog 130 k = decide (k ≤ 4294967296) := yaj (by kernel_rfl) zo_130
@[push_cast] theorem sh_132 : zab prog 132 = .struct := by kernel_rfl
@[push_cast] theorem fl_132 : qaj prog 132 = [(29, 0), (63, 25)] := by kernel_rfl
@[push_cast] theorem po_132 : qa4 prog 132 = true := by kernel_rfl
@[push_cast] theorem ok_132 : okT prog 132 = true := by kernel_rfl
@[push_cast] theorem zo_132 : zOK prog 132 = true := by kernel_rfl
@[push_cast] theorem za_132 : zai prog 132 = .agg 132 [.agg 29 [.int .i64 0, .nils, .nils, .int .i64 0, .int .i64 0, .agg 27 [.agg 26 [.int .i64 0, .int .i64 0, .int .i64 0, .nils, .bool false], .agg 26 [.int .i64 0, .int .i64 0, .int .i64 0, .nils, .bool false], .agg 26 [.int .i64 0, .int .i64 0, .int .i64 0, .nils, .bool false], .agg 26 [.int .i64 0, .int .i64 0, .int .i64 0, .nils, .bool false]]], .nils] := by kernel_rfl
@[push_cast] theorem ce_132 : prog.cellsOf 132 = 26 := by kernel_rfl
@[push_cast] theorem ro_132 (k : Nat) : yak prog 132 k = decide (k ≤ 4294967296) := yaj (by kernel_rfl) zo_132
@[push_cast] theorem sh_137 : zab prog 137 = .func := by kernel_rfl
@[push_cast] theorem ok_137 : okT prog 137 = true := by kernel_rfl
@[push_cast] theorem zo_137 : zOK prog 137 = true := by kernel_rfl
@[push_cast] theorem za_137 : zai prog 137 = .nilfn := by kernel_rfl
@[push_cast] theorem ce_137 : prog.cellsOf 137 = 1 := by kernel_rfl
@[push_cast] theorem ro_137 (k : Nat) : yak prog 137 k = decide (k ≤ 4294967296) := yaj (by kernel_rfl) zo_137
@[push_cast] theorem sh_138 : zab prog 138 = .func := by kernel_rfl
@[push_cast] theorem ok_138 : okT prog 138 = true := by kernel_rfl
@[push_cast] theorem zo_138 : zOK prog 138 = true := by kernel_rfl
@[push_cast] theorem za_138 : zai prog 138 = .nilfn := by kernel_rfl
@[push_cast] theorem ce_138 : prog.cellsOf 138 = 1 := by kernel_rfl
@[push_cast] theorem ro_138 (k : Nat) : yak prog 138 k = decide (k ≤ 4294967296) := yaj (by kernel_rfl) zo_138
@[push_cast] theorem sh_146 : zab prog 146 = .ptr 148 := by kernel_rfl
@[push_cast] theorem ok_146 : okT prog 146 = true := by kernel_rfl
@[push_cast] theorem zo_146 : zOK prog 146 = true := by kernel_rfl
@[push_cast] theorem za_146 : zai prog 146 = .nilptr := by kernel_rfl
@[push_cast] theorem ce_146 : prog.cellsOf 146 = 1 := by kernel_rfl
@[push_cast] theorem ro_146 (k : Nat) : yak prog 146 k = decide (k ≤ 4294967296) := yaj (by kernel_rfl) zo_146
@[push_cast] theorem sh_148 : zab prog 148 = .struct := by kernel_rfl
@[push_cast] theorem fl_148 : qaj prog 148 = [(29, 0), (60, 25), (63, 31)] := by kernel_rfl
@[push_cast] theorem po_148 : qa4 prog 148 = true := by kernel_rfl
@[push_cast] theorem ok_148 : okT prog 148 = true := by kernel_rfl
@[push_cast] theorem zo_148 : zOK prog 148 = true := by kernel_rfl
@[push_cast] theorem za_148 : zai prog 148 = .agg 148 [.agg 29 [.int .i64 0, .nils, .nils, .int .i64 0, .int .i64 0, .agg 27 [.agg 26 [.int .i64 0, .int .i64 0, .int .i64 0, .nils, .bool false], .agg 26 [.int .i64 0, .int .i64 0, .int .i64 0, .nils, .bool false], .agg 26 [.int .i64 0, .int .i64 0, .int .i64 0, .nils, .bool false], .agg 26 [.int .i64 0, .int .i64 0, .int .i64 0, .nils, .bool false]]], .agg 60 [.int .i64 0, .int .i64 0, .int .i64 0, .nils, .nils, .int .i64 0], .nils] := by kernel_rfl
@[push_cast] theorem ce_148 : prog.cellsOf 148 = 32 := by kernel_rfl
@[push_cast] theorem ro_148 (k : Nat) : yak prog 148 k = decide (k ≤ 4294967296) := yaj (by kernel_rfl) zo_148
@[push_cast] theorem sh_151 : zab prog 151 = .func := by kernel_rfl
@[push_cast] theorem ok_151 : okT prog 151 = true := by kernel_rfl
@[push_cast] theorem zo_151 : zOK prog 151 = true := by kernel_rfl
@[push_cast] theorem za_151 : zai prog 151 = .nilfn := by kernel_rfl
@[push_cast] theorem ce_151 : prog.cellsOf 151 = 1 := by kernel_rfl
@[push_cast] theorem ro_151 (k : Nat) : yak prog 151 k = decide (k ≤ 4294967296) := yaj (by kernel_rfl) zo_151
@[push_cast] theorem sh_155 : zab prog 155 = .arr 4 3 := by kernel_rfl
@[push_cast] theorem po_155 : qa4 prog 155 = true := by kernel_rfl
@[push_cast] theorem ok_155 : okT prog 155 = true := by kernel_rfl
@[push_cast] theorem zo_155 : zOK prog 155 = true := by kernel_rfl
@[push_cast] theorem za_155 : zai prog 155 = .agg 155 [.int .i64 0, .int .i64 0, .int .i64 0, .int .i64 0] := by kernel_rfl
@[push_cast] theorem ce_155 : prog.cellsOf 155 = 4 := by kernel_rfl
@[push_cast] theorem ro_155 (k : Nat) : yak prog 155 k = decide (k ≤ 4294967296) := yaj (by kernel_rfl) zo_155
@[push_cast] theorem sh_157 : zab prog 157 = .ptr 94 := by kernel_rfl
@[push_cast] theorem ok_157 : okT prog 157 = true := by kernel_rfl
@[push_cast] theorem zo_157 : zOK prog 157 = true := by kernel_rfl
@[push_cast] theorem za_157 : zai prog 157 = .nilptr := by kernel_rfl
@[push_cast] theorem ce_157 : prog.cellsOf 157 = 1 := by kernel_rfl
@[push_cast] theorem ro_157 (k : Nat) : yak prog 157 k = decide (k ≤ 4294967296) := yaj (by kernel_rfl) zo_157
@[push_cast] theorem sh_160 : zab prog 160 = .struct := by kernel_rfl
@[push_cast] theorem fl_160 : qaj prog 160 = [(3, 0), (2, 1), (9, 2)] := by kernel_rfl
@[push_cast] theorem po_160 : qa4 prog 160 = true := by kernel_rfl
@[push_cast] theorem ok_160 : okT prog 160 = true := by kernel_rfl
@[push_cast] theorem zo_160 : zOK prog 160 = true := by kernel_rfl
@[push_cast] theorem za_160 : zai prog 160 = .agg 160 [.int .i64 0, .int .i64 0, .str ByteArray.empty] := by kernel_rfl
@[push_cast] theorem ce_160 : prog.cellsOf 160 = 3 := by kernel_rfl
@[push_cast] theorem ro_160 (k : Nat) : yak prog 160 k = decide (k ≤ 4294967296) := yaj (by kernel_rfl) zo_160
@[push_cast] theorem sh_162 : zab prog 162 = .struct := by kernel_rfl
@[push_cast] theorem fl_162 : qaj prog 162 = [(30, 0), (4, 1)] := by kernel_rfl
@[push_cast] theorem po_162 : qa4 prog 162 = true := by kernel_rfl
@[push_cast] theorem ok_162 : okT prog 162 = true := by kernel_rfl
@[push_cast] theorem zo_162 : zOK prog 162 = true := by kernel_rfl
@[push_cast] theorem za_162 : zai prog 162 = .agg 162 [.nils, .bool false] := by kernel_rfl
@[push_cast] theorem ce_162 : prog.cellsOf 162 = 2 := by kernel_rfl
@[push_cast] theorem ro_162 (k : Nat) : yak prog 162 k = decide (k ≤ 4294967296) := yaj (by kernel_rfl) zo_162
@[push_cast] theorem sh_163 : zab prog 163 = .ptr 184 := by kernel_rfl
@[push_cast] theorem ok_163 : okT prog 163 = true := by kernel_rfl
@[push_cast] theorem zo_163 : zOK prog 163 = true := by kernel_rfl
@[push_cast] theorem za_163 : zai prog 163 = .nilptr := by kernel_rfl
@[push_cast] theorem ce_163 : prog.cellsOf 163 = 1 := by kernel_rfl
@[push_cast] theorem ro_163 (k : Nat) : yak prog 163 k = decide (k ≤ 4294967296) := yaj (by kernel_rfl) zo_163
@[push_cast] theorem sh_166 : zab prog 166 = .int .u32 := by kernel_rfl
@[push_cast] theorem ok_166 : okT prog 166 = true := by kernel_rfl
@[push_cast] theorem zo_166 : zOK prog 166 = true := by kernel_rfl
@[push_cast] theorem za_166 : zai prog 166 = .int .u32 0 := by kernel_rfl
@[push_cast] theorem ce_166 : prog.cellsOf 166 = 1 := by kernel_rfl
@[push_cast] theorem ro_166 (k : Nat) : yak prog 166 k = decide (k ≤ 4294967296) := yaj (by kernel_rfl) zo_166
@[push_cast] theorem sh_167 : zab prog 167 = .arr 8 166 := by kernel_rfl
@[push_cast] theorem po_167 : qa4 prog 167 = true := by kernel_rfl
@[push_cast] theorem ok_167 : okT prog 167 = true := by kernel_rfl
@[push_cast] theorem zo_167 : zOK prog 167 = true := by kernel_rfl
@[push_cast] theorem za_167 : zai prog 167 = .agg 167 [.int .u32 0, .int .u32 0, .int .u32 0, .int .u32 0, .int .u32 0, .int .u32 0, .int .u32 0, .int .u32 0] := by kernel_rfl
@[push_cast] theorem ce_167 : prog.cellsOf 167 = 8 := by kernel_rfl
@[push_cast] theorem ro_167 (k : Nat) : yak prog 167 k = decide (k ≤ 4294967296) := yaj (by kernel_rfl) zo_167
@[push_cast] theorem sh_169 : zab prog 169 = .arr 2 24 := by kernel_rfl
@[push_cast] theorem po_169 : qa4 prog 169 = true := by kernel_rfl
@[push_cast] theorem ok_169 : okT prog 169 = true := by kernel_rfl
@[push_cast] theorem zo_169 : zOK prog 169 = true := by kernel_rfl
@[push_cast] theorem za_169 : zai prog 169 = .agg 169 [.nils, .nils] := by kernel_rfl
@[push_cast] theorem ce_169 : prog.cellsOf 169 = 2 := by kernel_rfl
@[push_cast] theorem ro_169 (k : Nat) : yak prog 169 k = decide (k ≤ 4294967296) := yaj (by kernel_rfl) zo_169
@[push_cast] theorem sh_171 : zab prog 171 = .func := by kernel_rfl
@[push_cast] theorem ok_171 : okT prog 171 = true := by kernel_rfl
@[push_cast] theorem zo_171 : zOK prog 171 = true := by kernel_rfl
@[push_cast] theorem za_171 : zai prog 171 = .nilfn := by kernel_rfl
@[push_cast] theorem ce_171 : prog.cellsOf 171 = 1 := by kernel_rfl
@[push_cast] theorem ro_171 (k : Nat) : yak prog 171 k = decide (k ≤ 4294967296) := yaj (by kernel_rfl) zo_171
@[push_cast] theorem sh_180 : zab prog 180 = .func := by kernel_rfl
@[push_cast] theorem ok_180 : okT prog 180 = true := by kernel_rfl
@[push_cast] theorem zo_180 : zOK prog 180 = true := by kernel_rfl
@[push_cast] theorem za_180 : zai prog 180 = .nilfn := by kernel_rfl
@[push_cast] theorem ce_180 : prog.cellsOf 180 = 1 := by kernel_rfl
@[push_cast] theorem ro_180 (k : Nat) : yak prog 180 k = decide (k ≤ 4294967296) := yaj (by kernel_rfl) zo_180
@[push_cast] theorem sh_182 : zab prog 182 = .arr 64 5 := by kernel_rfl
@[push_cast] theorem po_182 : qa4 prog 182 = true := by kernel_rfl
@[push_cast] theorem ok_182 : okT prog 182 = true := by kernel_rfl
@[push_cast] theorem zo_182 : zOK prog 182 = true := by kernel_rfl
@[push_cast] theorem za_182 : zai prog 182 = .agg 182 [.int .u8 0, .int .u8 0, .int .u8 0, .int .u8 0, .int .u8 0, .int .u8 0, .int .u8 0, .int .u8 0, .int .u8 0, .int .u8 0, .int .u8 0, .int .u8 0, .int .u8 0, .int .u8 0, .int .u8 0, .int .u8 0, .int .u8 0, .int .u8 0, .int .u8 0, .int .u8 0, .int .u8 0, .int .u8 0, .int .u8 0, .int .u8 0, .int .u8 0, .int .u8 0, .int .u8 0, .int .u8 0, .int .u8 0, .int .u8 0, .int .u8 0, .int .u8 0, .int .u8 0, .int .u8 0, .int .u8 0, .int .u8 0, .int .u8 0, .int .u8 0, .int .u8 0, .int .u8 0, .int .u8 0, .int .u8 0, .int .u8 0, .int .u8 0, .int .u8 0, .int .u8 0, .int .u8 0, .int .u8 0, .int .u8 0, .int .u8 0, .int .u8 0, .int .u8 0, .int .u8 0, .int .u8 0, .int .u8 0, .int .u8 0, .int .u8 0, .int .u8 0, .int .u8 0, .int .u8 0, .int .u8 0, .int .u8 0, .int .u8 0, .int .u8 0] := by kernel_rfl
@[push_cast] theorem ce_182 : prog.cellsOf 182 = 64 := by kernel_rfl
@[push_cast] theorem ro_182 (k : Nat) : yak prog 182 k = decide (k ≤ 4294967296) := yaj (by kernel_rfl) zo_182
@[push_cast] theorem sh_184 : zab prog 184 = .struct := by kernel_rfl
@[push_cast] theorem fl_184 : qaj prog 184 = [(167, 0), (182, 8), (96, 72)] := by kernel_rfl
@[push_cast] theorem po_184 : qa4 prog 184 = true := by kernel_rfl
@[push_cast] theorem ok_184 : okT prog 184 = true := by kernel_rfl
@[push_cast] theorem zo_184 : zOK prog 184 = true := by kernel_rfl
@[push_cast] theorem za_184 : zai prog 184 = .agg 184 [.agg 167 [.int .u32 0, .int .u32 0, .int .u32 0, .int .u32 0, .int .u32 0, .int .u32 0, .int .u32 0, .int .u32 0], .agg 182 [.int .u8 0, .int .u8 0, .int .u8 0, .int .u8 0, .int .u8 0, .int .u8 0, .int .u8 0, .int .u8 0, .int .u8 0, .int .u8 0, .int .u8 0, .int .u8 0, .int .u8 0, .int .u8 0, .int .u8 0, .int .u8 0, .int .u8 0, .int .u8 0, .int .u8 0, .int .u8 0, .int .u8 0, .int .u8 0, .int .u8 0, .int .u8 0, .int .u8 0, .int .u8 0, .int .u8 0, .int .u8 0, .int .u8 0, .int .u8 0, .int .u8 0, .int .u8 0, .int .u8 0, .int .u8 0, .int .u8 0, .int .u8 0, .int .u8 0, .int .u8 0, .int .u8 0, .int .u8 0, .int .u8 0, .int .u8 0, .int .u8 0, .int .u8 0, .int .u8 0, .int .u8 0, .int .u8 0, .int .u8 0, .int .u8 0, .int .u8 0, .int .u8 0, .int .u8 0, .int .u8 0, .int .u8 0, .int .u8 0, .int .u8 0, .int .u8 0, .int .u8 0, .int .u8 0, .int .u8 0, .int .u8 0, .int .u8 0, .int .u8 0, .int .u8 0], .int .u64 0] := by kernel_rfl
@[push_cast] theorem ce_184 : prog.cellsOf 184 = 73 := by kernel_rfl
@[push_cast] theorem ro_184 (k : Nat) : yak prog 184 k = decide (k ≤ 4294967296) := yaj (by kernel_rfl) zo_184
@[push_cast] theorem sh_185 : zab prog 185 = .arr 64 166 := by kernel_rfl
@[push_cast] theorem po_185 : qa4 prog 185 = true := by kernel_rfl
@[push_cast] theorem ok_185 : okT prog 185 = true := by kernel_rfl
@[push_cast] theorem zo_185 : zOK prog 185 = true := by kernel_rfl
@[push_cast] theorem za_185 : zai prog 185 = .agg 185 [.int .u32 0, .int .u32 0, .int .u32 0, .int .u32 0, .int .u32 0, .int .u32 0, .int .u32 0, .int .u32 0, .int .u32 0, .int .u32 0, .int .u32 0, .int .u32 0, .int .u32 0, .int .u32 0, .int .u32 0, .int .u32 0, .int .u32 0, .int .u32 0, .int .u32 0, .int .u32 0, .int .u32 0, .int .u32 0, .int .u32 0, .int .u32 0, .int .u32 0, .int .u32 0, .int .u32 0, .int .u32 0, .int .u32 0, .int .u32 0, .int .u32 0, .int .u32 0, .int .u32 0, .int .u32 0, .int .u32 0, .int .u32 0, .int .u32 0, .int .u32 0, .int .u32 0, .int .u32 0, .int .u32 0, .int .u32 0, .int .u32 0, .int .u32 0, .int .u32 0, .int .u32 0, .int .u32 0, .int .u32 0, .int .u32 0, .int .u32 0, .int .u32 0, .int .u32 0, .int .u32 0, .int .u32 0, .int .u32 0, .int .u32 0, .int .u32 0, .int .u32 0, .int .u32 0, .int .u32 0, .int .u32 0, .int .u32 0, .int .u32 0, .int .u32 0] := by kernel_rfl
@[push_cast] theorem ce_185 : prog.cellsOf 185 = 64 := by kernel_rfl
@[push_cast] theorem ro_185 (k : Nat) : yak prog 185 k = decide (k ≤ 4294967296) := yaj (by kernel_rfl) zo_185
@[push_cast] theorem sh_202 : zab prog 202 = .func := by kernel_rfl
@[push_cast] theorem ok_202 : okT prog 202 = true := by kernel_rfl
@[push_cast] theorem zo_202 : zOK prog 202 = true := by kernel_rfl
@[push_cast] theorem za_202 : zai prog 202 = .nilfn := by kernel_rfl
@[push_cast] theorem ce_202 : prog.cellsOf 202 = 1 := by kernel_rfl
@[push_cast] theorem ro_202 (k : Nat) : yak prog 202 k = decide (k ≤ 4294967296) := yaj (by kernel_rfl) zo_202
theorem run_9 {args : List AV} {R : AV → Prop} (hn : args.length = 3) (hw : ∀ h, Rn prog [.code (yah Go.Proofs.Try.f9)] .normal (zat 0 args [6, 7, 8, 9, 10, 11, 12, 13, 14, 15, 16, 17, 33, 66, 114, 116]) h (Fin prog [.tmp 6] h R)) : qbn prog 9 args R :=
  zaq wfp [6, 7, 8, 9, 10, 11, 12, 13, 14, 15, 16, 17, 33, 66, 114, 116] Go.Proofs.Try.func9 _ rfl (by kernel_rfl) (by kernel_rfl) (by kernel_rfl) Go.Proofs.Try.ntmps9 (by rw [hn]; decide) hw
theorem run_22 {args : List AV} {R : AV → Prop} (hn : args.length = 2) (hw : ∀ h, Rn prog [.code (yah Go.Proofs.Try.f22)] .normal (zat 0 args [2, 3, 4, 5, 6, 7, 8, 9, 10, 11, 48, 53, 85, 90, 129, 131, 143]) h (Fin prog [.tmp 4] h R)) : qbn prog 22 args R :=
  zaq wfp [2, 3, 4, 5, 6, 7, 8, 9, 10, 11, 48, 53, 85, 90, 129, 131, 143] Go.Proofs.Try.func22 _ rfl (by kernel_rfl) (by kernel_rfl) (by kernel_rfl) Go.Proofs.Try.ntmps22 (by rw [hn]; decide) hw
theorem run_27 {args : List AV} {R : AV → Prop} (hn : args.length = 0) (hw : ∀ h, Rn prog [.code (yah Go.Proofs.Try.f27)] .normal (zat 0 args [0, 1, 2, 3, 4, 5, 6, 7, 8, 9, 12, 15]) h (Fin prog [.tmp 0] h R)) : qbn prog 27 args R :=
  zaq wfp [0, 1, 2, 3, 4, 5, 6, 7, 8, 9, 12, 15] Go.Proofs.Try.func27 _ rfl (by kernel_rfl) (by kernel_rfl) (by kernel_rfl) Go.Proofs.Try.ntmps27 (by rw [hn]; decide) hw
theorem frun_28 {args : List AV} {h : List Entry} {K : AV → List Entry → Prop} (hn : args.length = 1) (hw : Rn prog [.code (yah Go.Proofs.Try.f28)] .normal (zat 0 args [1, 2, 3, 4, 6, 7, 11, 22, 23, 24, 25]) h (qca prog [.tmp 2, .tmp 3] K)) : FSpec prog 28 args h K :=
  qav wfp [1, 2, 3, 4, 6, 7, 11, 22, 23, 24, 25] Go.Proofs.Try.func28 _ rfl (by kernel_rfl) (by kernel_rfl) (by kernel_rfl) Go.Proofs.Try.ntmps28 (by rw [hn]; decide) hw
theorem frun_30 {args : List AV} {h : List Entry} {K : AV → List Entry → Prop} (hn : args.length = 1) (hw : Rn prog [.code (yah Go.Proofs.Try.f30)] .normal (zat 0 args [2, 3, 4, 5, 6, 7, 8, 9, 20, 51]) h (qca prog [.cell 2 49, .tmp 3] K)) : FSpec prog 30 args h K :=
  qav wfp [2, 3, 4, 5, 6, 7, 8, 9, 20, 51] Go.Proofs.Try.func30 _ rfl (by kernel_rfl) (by kernel_rfl) (by kernel_rfl) Go.Proofs.Try.ntmps30 (by rw [hn]; decide) hw
theorem run_32 {args : List AV} {R : AV → Prop} (hn : args.length = 2) (hw : ∀ h, Rn prog [.code (yah Go.Proofs.Try.f32)] .normal (zat 0 args [4, 5, 6, 13]) h (Fin prog [.cell 4 29] h R)) : qbn prog 32 args R :=
  zaq wfp [4, 5, 6, 13] Go.Proofs.Try.func32 _ rfl (by kernel_rfl) (by kernel_rfl) (by kernel_rfl) Go.Proofs.Try.ntmps32 (by rw [hn]; decide) hw
theorem frun_34 {args : List AV} {h : List Entry} {K : AV → List Entry → Prop} (hn : args.length = 2) (hw : Rn prog [.code (yah Go.Proofs.Try.f34)] .normal (zat 0 args [2, 3, 4, 5, 6, 7, 8, 9, 10, 20, 29]) h (qca prog [.cell 4 29, .tmp 5, .tmp 6] K)) : FSpec prog 34 args h K :=
  qav wfp [2, 3, 4, 5, 6, 7, 8, 9, 10, 20, 29] Go.Proofs.Try.func34 _ rfl (by kernel_rfl) (by kernel_rfl) (by kernel_rfl) Go.Proofs.Try.ntmps34 (by rw [hn]; decide) hw
theorem run_42 {args : List AV} {R : AV → Prop} (hn : args.length = 1) (hw : ∀ h, Rn prog [.code (yah Go.Proofs.Try.f42)] .normal (zat 0 args [1, 2]) h (Fin prog [.tmp 2] h R)) : qbn prog 42 args R :=
  zaq wfp [1, 2] Go.Proofs.Try.func42 _ rfl (by kernel_rfl) (by kernel_rfl) (by kernel_rfl) Go.Proofs.Try.ntmps42 (by rw [hn]; decide) hw
theorem run_43 {args : List AV} {R : AV → Prop} (hn : args.length = 1) (hw : ∀ h, Rn prog [.code (yah Go.Proofs.Try.f43)] .normal (zat 0 args [2]) h (Fin prog [.cell 2 36] h R)) : qbn prog 43 args R :=
  zaq wfp [2] Go.Proofs.Try.func43 _ rfl (by kernel_rfl) (by kernel_rfl) (by kernel_rfl) Go.Proofs.Try.ntmps43 (by rw [hn]; decide) hw
theorem run_44 {args : List AV} {R : AV → Prop} (hn : args.length = 1) (hw : ∀ h, Rn prog [.code (yah Go.Proofs.Try.f44)] .normal (zat 0 args [2]) h (Fin prog [.cell 2 36] h R)) : qbn prog 44 args R :=
  zaq wfp [2] Go.Proofs.Try.func44 _ rfl (by kernel_rfl) (by kernel_rfl) (by kernel_rfl) Go.Proofs.Try.ntmps44 (by rw [hn]; decide) hw
theorem frun_46 {args : List AV} {h : List Entry} {K : AV → List Entry → Prop} (hn : args.length = 3) (hw : Rn prog [.code (yah Go.Proofs.Try.f46)] .normal (zat 0 args [3, 4, 5, 6, 7, 8, 9, 27, 64, 77]) h (qca prog [.cell 6 29, .tmp 7] K)) : FSpec prog 46 args h K :=
  qav wfp [3, 4, 5, 6, 7, 8, 9, 27, 64, 77] Go.Proofs.Try.func46 _ rfl (by kernel_rfl) (by kernel_rfl) (by kernel_rfl) Go.Proofs.Try.ntmps46 (by rw [hn]; decide) hw
theorem run_52 {args : List AV} {R : AV → Prop} (hn : args.length = 1) (hw : ∀ h, Rn prog [.code (yah Go.Proofs.Try.f52)] .normal (zat 0 args [1, 2, 3, 5, 7, 8, 9, 41, 43, 44, 45, 46, 53, 64, 67, 68, 69, 70, 92, 95, 96, 97, 103]) h (Fin prog [.tmp 2] h R)) : qbn prog 52 args R :=
  zaq wfp [1, 2, 3, 5, 7, 8, 9, 41, 43, 44, 45, 46, 53, 64, 67, 68, 69, 70, 92, 95, 96, 97, 103] Go.Proofs.Try.func52 _ rfl (by kernel_rfl) (by kernel_rfl) (by kernel_rfl) Go.Proofs.Try.ntmps52 (by rw [hn]; decide) hw
theorem frun_53 {args : List AV} {h : List Entry} {K : AV → List Entry → Prop} (hn : args.length = 3) (hw : Rn prog [.code (yah Go.Proofs.Try.f53)] .normal (zat 0 args [6, 16, 20]) h (qca prog [] K)) : FSpec prog 53 args h K :=
  qav wfp [6, 16, 20] Go.Proofs.Try.func53 _ rfl (by kernel_rfl) (by kernel_rfl) (by kernel_rfl) Go.Proofs.Try.ntmps53 (by rw [hn]; decide) hw
theorem frun_54 {args : List AV} {h : List Entry} {K : AV → List Entry → Prop} (hn : args.length = 2) (hw : Rn prog [.code (yah Go.Proofs.Try.f54)] .normal (zat 0 args []) h (qca prog [] K)) : FSpec prog 54 args h K :=
  qav wfp [] Go.Proofs.Try.func54 _ rfl (by kernel_rfl) (by kernel_rfl) (by kernel_rfl) Go.Proofs.Try.ntmps54 (by rw [hn]; decide) hw
theorem frun_57 {args : List AV} {h : List Entry} {K : AV → List Entry → Prop} (hn : args.length = 1) (hw : Rn prog [.code (yah Go.Proofs.Try.f57)] .normal (zat 0 args [2, 4]) h (qca prog [.tmp 2] K)) : FSpec prog 57 args h K :=
  qav wfp [2, 4] Go.Proofs.Try.func57 _ rfl (by kernel_rfl) (by kernel_rfl) (by kernel_rfl) Go.Proofs.Try.ntmps57 (by rw [hn]; decide) hw
theorem run_58 {args : List AV} {R : AV → Prop} (hn : args.length = 1) (hw : ∀ h, Rn prog [.code (yah Go.Proofs.Try.f58)] .normal (zat 0 args [2, 3, 4, 8]) h (Fin prog [.tmp 2] h R)) : qbn prog 58 args R :=
  zaq wfp [2, 3, 4, 8] Go.Proofs.Try.func58 _ rfl (by kernel_rfl) (by kernel_rfl) (by kernel_rfl) Go.Proofs.Try.ntmps58 (by rw [hn]; decide) hw
theorem frun_63 {args : List AV} {h : List Entry} {K : AV → List Entry → Prop} (hn : args.length = 1) (hw : Rn prog [.code (yah Go.Proofs.Try.f63)] .normal (zat 0 args [2]) h (qca prog [.tmp 2] K)) : FSpec prog 63 args h K :=
  qav wfp [2] Go.Proofs.Try.func63 _ rfl (by kernel_rfl) (by kernel_rfl) (by kernel_rfl) Go.Proofs.Try.ntmps63 (by rw [hn]; decide) hw
theorem frun_65 {args : List AV} {h : List Entry} {K : AV → List Entry → Prop} (hn : args.length = 1) (hw : Rn prog [.code (yah Go.Proofs.Try.f65)] .normal (zat 0 args [2, 3, 4, 5, 6, 7, 14, 22, 23, 29, 46]) h (qca prog [.tmp 2, .tmp 3] K)) : FSpec prog 65 args h K :=
  qav wfp [2, 3, 4, 5, 6, 7, 14, 22, 23, 29, 46] Go.Proofs.Try.func65 _ rfl (by kernel_rfl) (by kernel_rfl) (by kernel_rfl) Go.Proofs.Try.ntmps65 (by rw [hn]; decide) hw
theorem frun_66 {args : List AV} {h : List Entry} {K : AV → List Entry → Prop} (hn : args.length = 2) (hw : Rn prog [.code (yah Go.Proofs.Try.f66)] .normal (zat 0 args [4, 5, 12]) h (qca prog [.tmp 4] K)) : FSpec prog 66 args h K :=
  qav wfp [4, 5, 12] Go.Proofs.Try.func66 _ rfl (by kernel_rfl) (by kernel_rfl) (by kernel_rfl) Go.Proofs.Try.ntmps66 (by rw [hn]; decide) hw
theorem frun_67 {args : List AV} {h : List Entry} {K : AV → List Entry → Prop} (hn : args.length = 2) (hw : Rn prog [.code (yah Go.Proofs.Try.f67)] .normal (zat 0 args [4, 5, 6, 12, 16, 17, 18, 19]) h (qca prog [.tmp 4] K)) : FSpec prog 67 args h K :=
  qav wfp [4, 5, 6, 12, 16, 17, 18, 19] Go.Proofs.Try.func67 _ rfl (by kernel_rfl) (by kernel_rfl) (by kernel_rfl) Go.Proofs.Try.ntmps67 (by rw [hn]; decide) hw
theorem frun_68 {args : List AV} {h : List Entry} {K : AV → List Entry → Prop} (hn : args.length = 1) (hw : Rn prog [.code (yah Go.Proofs.Try.f68)] .normal (zat 0 args [2, 13]) h (qca prog [.tmp 2] K)) : FSpec prog 68 args h K :=
  qav wfp [2, 13] Go.Proofs.Try.func68 _ rfl (by kernel_rfl) (by kernel_rfl) (by kernel_rfl) Go.Proofs.Try.ntmps68 (by rw [hn]; decide) hw
theorem run_69 {args : List AV} {R : AV → Prop} (hn : args.length = 2) (hw : ∀ h, Rn prog [.code (yah Go.Proofs.Try.f69)] .normal (zat 0 args [4, 5, 10, 12, 13, 14, 24]) h (Fin prog [.tmp 4] h R)) : qbn prog 69 args R :=
  zaq wfp [4, 5, 10, 12, 13, 14, 24] Go.Proofs.Try.func69 _ rfl (by kernel_rfl) (by kernel_rfl) (by kernel_rfl) Go.Proofs.Try.ntmps69 (by rw [hn]; decide) hw
theorem run_75 {args : List AV} {R : AV → Prop} (hn : args.length = 2) (hw : ∀ h, Rn prog [.code (yah Go.Proofs.Try.f75)] .normal (zat 0 args [4, 5, 10, 14, 25]) h (Fin prog [.tmp 4] h R)) : qbn prog 75 args R :=
  zaq wfp [4, 5, 10, 14, 25] Go.Proofs.Try.func75 _ rfl (by kernel_rfl) (by kernel_rfl) (by kernel_rfl) Go.Proofs.Try.ntmps75 (by rw [hn]; decide) hw
theorem run_76 {args : List AV} {R : AV → Prop} (hn : args.length = 2) (hw : ∀ h, Rn prog [.code (yah Go.Proofs.Try.f76)] .normal (zat 0 args [2, 3, 4]) h (Fin prog [.tmp 4] h R)) : qbn prog 76 args R :=
  zaq wfp [2, 3, 4] Go.Proofs.Try.func76 _ rfl (by kernel_rfl) (by kernel_rfl) (by kernel_rfl) Go.Proofs.Try.ntmps76 (by rw [hn]; decide) hw
theorem run_77 {args : List AV} {R : AV → Prop} (hn : args.length = 1) (hw : ∀ h, Rn prog [.code (yah Go.Proofs.Try.f77)] .normal (zat 0 args [2, 3]) h (Fin prog [.cell 2 36] h R)) : qbn prog 77 args R :=
  zaq wfp [2, 3] Go.Proofs.Try.func77 _ rfl (by kernel_rfl) (by kernel_rfl) (by kernel_rfl) Go.Proofs.Try.ntmps77 (by rw [hn]; decide) hw
theorem run_78 {args : List AV} {R : AV → Prop} (hn : args.length = 1) (hw : ∀ h, Rn prog [.code (yah Go.Proofs.Try.f78)] .normal (zat 0 args [2, 3, 4, 5, 6, 7, 8, 9, 18, 27, 43, 51]) h (Fin prog [.cell 2 36] h R)) : qbn prog 78 args R :=
  zaq wfp [2, 3, 4, 5, 6, 7, 8, 9, 18, 27, 43, 51] Go.Proofs.Try.func78 _ rfl (by kernel_rfl) (by kernel_rfl) (by kernel_rfl) Go.Proofs.Try.ntmps78 (by rw [hn]; decide) hw
theorem frun_85 {args : List AV} {h : List Entry} {K : AV → List Entry → Prop} (hn : args.length = 1) (hw : Rn prog [.code (yah Go.Proofs.Try.f85)] .normal (zat 0 args [1, 2, 3, 4, 6, 9, 30, 31, 32]) h (qca prog [.tmp 2, .tmp 3] K)) : FSpec prog 85 args h K :=
  qav wfp [1, 2, 3, 4, 6, 9, 30, 31, 32] Go.Proofs.Try.func85 _ rfl (by kernel_rfl) (by kernel_rfl) (by kernel_rfl) Go.Proofs.Try.ntmps85 (by rw [hn]; decide) hw
theorem frun_87 {args : List AV} {h : List Entry} {K : AV → List Entry → Prop} (hn : args.length = 1) (hw : Rn prog [.code (yah Go.Proofs.Try.f87)] .normal (zat 0 args [2, 3, 4, 5, 6, 7, 54]) h (qca prog [.cell 2 60, .tmp 3] K)) : FSpec prog 87 args h K :=
  qav wfp [2, 3, 4, 5, 6, 7, 54] Go.Proofs.Try.func87 _ rfl (by kernel_rfl) (by kernel_rfl) (by kernel_rfl) Go.Proofs.Try.ntmps87 (by rw [hn]; decide) hw
theorem frun_96 {args : List AV} {h : List Entry} {K : AV → List Entry → Prop} (hn : args.length = 2) (hw : Rn prog [.code (yah Go.Proofs.Try.f96)] .normal (zat 0 args [2, 3, 4]) h (qca prog [.tmp 4] K)) : FSpec prog 96 args h K :=
  qav wfp [2, 3, 4] Go.Proofs.Try.func96 _ rfl (by kernel_rfl) (by kernel_rfl) (by kernel_rfl) Go.Proofs.Try.ntmps96 (by rw [hn]; decide) hw
theorem frun_101 {args : List AV} {h : List Entry} {K : AV → List Entry → Prop} (hn : args.length = 2) (hw : Rn prog [.code (yah Go.Proofs.Try.f101)] .normal (zat 0 args [5]) h (qca prog [] K)) : FSpec prog 101 args h K :=
  qav wfp [5] Go.Proofs.Try.func101 _ rfl (by kernel_rfl) (by kernel_rfl) (by kernel_rfl) Go.Proofs.Try.ntmps101 (by rw [hn]; decide) hw
theorem frun_102 {args : List AV} {h : List Entry} {K : AV → List Entry → Prop} (hn : args.length = 2) (hw : Rn prog [.code (yah Go.Proofs.Try.f102)] .normal (zat 0 args [4, 5, 9]) h (qca prog [.tmp 4] K)) : FSpec prog 102 args h K :=
  qav wfp [4, 5, 9] Go.Proofs.Try.func102 _ rfl (by kernel_rfl) (by kernel_rfl) (by kernel_rfl) Go.Proofs.Try.ntmps102 (by rw [hn]; decide) hw
theorem run_104 {args : List AV} {R : AV → Prop} (hn : args.length = 2) (hw : ∀ h, Rn prog [.code (yah Go.Proofs.Try.f104)] .normal (zat 0 args [4]) h (Fin prog [.tmp 4] h R)) : qbn prog 104 args R :=
  zaq wfp [4] Go.Proofs.Try.func104 _ rfl (by kernel_rfl) (by kernel_rfl) (by kernel_rfl) Go.Proofs.Try.ntmps104 (by rw [hn]; decide) hw
theorem run_105 {args : List AV} {R : AV → Prop} (hn : args.length = 1) (hw : ∀ h, Rn prog [.code (yah Go.Proofs.Try.f105)] .normal (zat 0 args [1, 2]) h (Fin prog [.tmp 2] h R)) : qbn prog 105 args R :=
  zaq wfp [1, 2] Go.Proofs.Try.func105 _ rfl (by kernel_rfl) (by kernel_rfl) (by kernel_rfl) Go.Proofs.Try.ntmps105 (by rw [hn]; decide) hw
theorem run_106 {args : List AV} {R : AV → Prop} (hn : args.length = 1) (hw : ∀ h, Rn prog [.code (yah Go.Proofs.Try.f106)] .normal (zat 0 args [1, 2, 3, 4, 32, 44, 64]) h (Fin prog [.tmp 2] h R)) : qbn prog 106 args R :=
  zaq wfp [1, 2, 3, 4, 32, 44, 64] Go.Proofs.Try.func106 _ rfl (by kernel_rfl) (by kernel_rfl) (by kernel_rfl) Go.Proofs.Try.ntmps106 (by rw [hn]; decide) hw
theorem frun_107 {args : List AV} {h : List Entry} {K : AV → List Entry → Prop} (hn : args.length = 2) (hw : Rn prog [.code (yah Go.Proofs.Try.f107)] .normal (zat 0 args [4, 5, 6, 7, 12, 19, 29]) h (qca prog [.tmp 4] K)) : FSpec prog 107 args h K :=
  qav wfp [4, 5, 6, 7, 12, 19, 29] Go.Proofs.Try.func107 _ rfl (by kernel_rfl) (by kernel_rfl) (by kernel_rfl) Go.Proofs.Try.ntmps107 (by rw [hn]; decide) hw
theorem frun_108 {args : List AV} {h : List Entry} {K : AV → List Entry → Prop} (hn : args.length = 1) (hw : Rn prog [.code (yah Go.Proofs.Try.f108)] .normal (zat 0 args [2, 4]) h (qca prog [.tmp 2] K)) : FSpec prog 108 args h K :=
  qav wfp [2, 4] Go.Proofs.Try.func108 _ rfl (by kernel_rfl) (by kernel_rfl) (by kernel_rfl) Go.Proofs.Try.ntmps108 (by rw [hn]; decide) hw
theorem run_109 {args : List AV} {R : AV → Prop} (hn : args.length = 2) (hw : ∀ h, Rn prog [.code (yah Go.Proofs.Try.f109)] .normal (zat 0 args [2, 3]) h (Fin prog [.tmp 3] h R)) : qbn prog 109 args R :=
  zaq wfp [2, 3] Go.Proofs.Try.func109 _ rfl (by kernel_rfl) (by kernel_rfl) (by kernel_rfl) Go.Proofs.Try.ntmps109 (by rw [hn]; decide) hw
theorem frun_110 {args : List AV} {h : List Entry} {K : AV → List Entry → Prop} (hn : args.length = 1) (hw : Rn prog [.code (yah Go.Proofs.Try.f110)] .normal (zat 0 args [2, 4]) h (qca prog [.tmp 2] K)) : FSpec prog 110 args h K :=
  qav wfp [2, 4] Go.Proofs.Try.func110 _ rfl (by kernel_rfl) (by kernel_rfl) (by kernel_rfl) Go.Proofs.Try.ntmps110 (by rw [hn]; decide) hw
theorem frun_111 {args : List AV} {h : List Entry} {K : AV → List Entry → Prop} (hn : args.length = 2) (hw : Rn prog [.code (yah Go.Proofs.Try.f111)] .normal (zat 0 args [3]) h (qca prog [] K)) : FSpec prog 111 args h K :=
  qav wfp [3] Go.Proofs.Try.func111 _ rfl (by kernel_rfl) (by kernel_rfl) (by kernel_rfl) Go.Proofs.Try.ntmps111 (by rw [hn]; decide) hw
theorem frun_112 {args : List AV} {h : List Entry} {K : AV → List Entry → Prop} (hn : args.length = 1) (hw : Rn prog [.code (yah Go.Proofs.Try.f112)] .normal (zat 0 args [2, 44, 51, 54, 58, 93, 105, 110]) h (qca prog [] K)) : FSpec prog 112 args h K :=
  qav wfp [2, 44, 51, 54, 58, 93, 105, 110] Go.Proofs.Try.func112 _ rfl (by kernel_rfl) (by kernel_rfl) (by kernel_rfl) Go.Proofs.Try.ntmps112 (by rw [hn]; decide) hw
theorem run_115 {args : List AV} {R : AV → Prop} (hn : args.length = 2) (hw : ∀ h, Rn prog [.code (yah Go.Proofs.Try.f115)] .normal (zat 0 args [2, 4]) h (Fin prog [.tmp 4] h R)) : qbn prog 115 args R :=
  zaq wfp [2, 4] Go.Proofs.Try.func115 _ rfl (by kernel_rfl) (by kernel_rfl) (by kernel_rfl) Go.Proofs.Try.ntmps115 (by rw [hn]; decide) hw
theorem run_116 {args : List AV} {R : AV → Prop} (hn : args.length = 1) (hw : ∀ h, Rn prog [.code (yah Go.Proofs.Try.f116)] .normal (zat 0 args [2]) h (Fin prog [.tmp 2] h R)) : qbn prog 116 args R :=
  zaq wfp [2] Go.Proofs.Try.func116 _ rfl (by kernel_rfl) (by kernel_rfl) (by kernel_rfl) Go.Proofs.Try.ntmps116 (by rw [hn]; decide) hw
theorem run_117 {args : List AV} {R : AV → Prop} (hn : args.length = 1) (hw : ∀ h, Rn prog [.code (yah Go.Proofs.Try.f117)] .normal (zat 0 args [2]) h (Fin prog [.tmp 2] h R)) : qbn prog 117 args R :=
  zaq wfp [2] Go.Proofs.Try.func117 _ rfl (by kernel_rfl) (by kernel_rfl) (by kernel_rfl) Go.Proofs.Try.ntmps117 (by rw [hn]; decide) hw
theorem run_118 {args : List AV} {R : AV → Prop} (hn : args.length = 2) (hw : ∀ h, Rn prog [.code (yah Go.Proofs.Try.f118)] .normal (zat 0 args [2, 4, 18, 21, 38]) h (Fin prog [.tmp 4] h R)) : qbn prog 118 args R :=
  zaq wfp [2, 4, 18, 21, 38] Go.Proofs.Try.func118 _ rfl (by kernel_rfl) (by kernel_rfl) (by kernel_rfl) Go.Proofs.Try.ntmps118 (by rw [hn]; decide) hw
theorem frun_119 {args : List AV} {h : List Entry} {K : AV → List Entry → Prop} (hn : args.length = 1) (hw : Rn prog [.code (yah Go.Proofs.Try.f119)] .normal (zat 0 args [2, 3, 4, 6, 9, 14, 15, 16, 17, 25, 26, 32]) h (qca prog [.tmp 2, .tmp 3] K)) : FSpec prog 119 args h K :=
  qav wfp [2, 3, 4, 6, 9, 14, 15, 16, 17, 25, 26, 32] Go.Proofs.Try.func119 _ rfl (by kernel_rfl) (by kernel_rfl) (by kernel_rfl) Go.Proofs.Try.ntmps119 (by rw [hn]; decide) hw
theorem frun_120 {args : List AV} {h : List Entry} {K : AV → List Entry → Prop} (hn : args.length = 2) (hw : Rn prog [.code (yah Go.Proofs.Try.f120)] .normal (zat 0 args [4, 6]) h (qca prog [.tmp 4] K)) : FSpec prog 120 args h K :=
  qav wfp [4, 6] Go.Proofs.Try.func120 _ rfl (by kernel_rfl) (by kernel_rfl) (by kernel_rfl) Go.Proofs.Try.ntmps120 (by rw [hn]; decide) hw
theorem frun_124 {args : List AV} {h : List Entry} {K : AV → List Entry → Prop} (hn : args.length = 0) (hw : Rn prog [.code (yah Go.Proofs.Try.f124)] .normal (zat 0 args [0]) h (qca prog [.tmp 0] K)) : FSpec prog 124 args h K :=
  qav wfp [0] Go.Proofs.Try.func124 _ rfl (by kernel_rfl) (by kernel_rfl) (by kernel_rfl) Go.Proofs.Try.ntmps124 (by rw [hn]; decide) hw
theorem frun_125 {args : List AV} {h : List Entry} {K : AV → List Entry → Prop} (hn : args.length = 2) (hw : Rn prog [.code (yah Go.Proofs.Try.f125)] .normal (zat 0 args [4, 5, 7, 25, 39]) h (qca prog [] K)) : FSpec prog 125 args h K :=
  qav wfp [4, 5, 7, 25, 39] Go.Proofs.Try.func125 _ rfl (by kernel_rfl) (by kernel_rfl) (by kernel_rfl) Go.Proofs.Try.ntmps125 (by rw [hn]; decide) hw
theorem frun_126 {args : List AV} {h : List Entry} {K : AV → List Entry → Prop} (hn : args.length = 1) (hw : Rn prog [.code (yah Go.Proofs.Try.f126)] .normal (zat 0 args [2, 3, 4, 5, 6, 7, 8, 9, 13, 26, 31, 49, 50, 51]) h (qca prog [.cell 2 36] K)) : FSpec prog 126 args h K :=
  qav wfp [2, 3, 4, 5, 6, 7, 8, 9, 13, 26, 31, 49, 50, 51] Go.Proofs.Try.func126 _ rfl (by kernel_rfl) (by kernel_rfl) (by kernel_rfl) Go.Proofs.Try.ntmps126 (by rw [hn]; decide) hw
theorem run_127 {args : List AV} {R : AV → Prop} (hn : args.length = 3) (hw : ∀ h, Rn prog [.code (yah Go.Proofs.Try.f127)] .normal (zat 0 args [3, 6, 7, 8, 9, 10, 11, 12, 13, 14, 15, 16, 17, 18, 19, 22, 69, 111, 191]) h (Fin prog [.cell 6 167] h R)) : qbn prog 127 args R :=
  zaq wfp [3, 6, 7, 8, 9, 10, 11, 12, 13, 14, 15, 16, 17, 18, 19, 22, 69, 111, 191] Go.Proofs.Try.func127 _ rfl (by kernel_rfl) (by kernel_rfl) (by kernel_rfl) Go.Proofs.Try.ntmps127 (by rw [hn]; decide) hw
theorem run_129 {args : List AV} {R : AV → Prop} (hn : args.length = 1) (hw : ∀ h, Rn prog [.code (yah Go.Proofs.Try.f129)] .normal (zat 0 args [2, 3]) h (Fin prog [.tmp 2] h R)) : qbn prog 129 args R :=
  zaq wfp [2, 3] Go.Proofs.Try.func129 _ rfl (by kernel_rfl) (by kernel_rfl) (by kernel_rfl) Go.Proofs.Try.ntmps129 (by rw [hn]; decide) hw
theorem frun_133 {args : List AV} {h : List Entry} {K : AV → List Entry → Prop} (hn : args.length = 3) (hw : Rn prog [.code (yah Go.Proofs.Try.f133)] .normal (zat 0 args [5, 6, 8, 9, 10, 11, 26]) h (qca prog [] K)) : FSpec prog 133 args h K :=
  qav wfp [5, 6, 8, 9, 10, 11, 26] Go.Proofs.Try.func133 _ rfl (by kernel_rfl) (by kernel_rfl) (by kernel_rfl) Go.Proofs.Try.ntmps133 (by rw [hn]; decide) hw
theorem run_136 {args : List AV} {R : AV → Prop} (hn : args.length = 2) (hw : ∀ h, Rn prog [.code (yah Go.Proofs.Try.f136)] .normal (zat 0 args [4, 5, 7, 8, 9, 16]) h (Fin prog [.tmp 4] h R)) : qbn prog 136 args R :=
  zaq wfp [4, 5, 7, 8, 9, 16] Go.Proofs.Try.func136 _ rfl (by kernel_rfl) (by kernel_rfl) (by kernel_rfl) Go.Proofs.Try.ntmps136 (by rw [hn]; decide) hw
theorem run_137 {args : List AV} {R : AV → Prop} (hn : args.length = 2) (hw : ∀ h, Rn prog [.code (yah Go.Proofs.Try.f137)] .normal (zat 0 args [4]) h (Fin prog [.tmp 4] h R)) : qbn prog 137 args R :=
  zaq wfp [4] Go.Proofs.Try.func137 _ rfl (by kernel_rfl) (by kernel_rfl) (by kernel_rfl) Go.Proofs.Try.ntmps137 (by rw [hn]; decide) hw
theorem run_138 {args : List AV} {R : AV → Prop} (hn : args.length = 1) (hw : ∀ h, Rn prog [.code (yah Go.Proofs.Try.f138)] .normal (zat 0 args [2]) h (Fin prog [.tmp 2] h R)) : qbn prog 138 args R :=
  zaq wfp [2] Go.Proofs.Try.func138 _ rfl (by kernel_rfl) (by kernel_rfl) (by kernel_rfl) Go.Proofs.Try.ntmps138 (by rw [hn]; decide) hw
theorem run_139 {args : List AV} {R : AV → Prop} (hn : args.length = 1) (hw : ∀ h, Rn prog [.code (yah Go.Proofs.Try.f139)] .normal (zat 0 args [2]) h (Fin prog [.tmp 2] h R)) : qbn prog 139 args R :=
  zaq wfp [2] Go.Proofs.Try.func139 _ rfl (by kernel_rfl) (by kernel_rfl) (by kernel_rfl) Go.Proofs.Try.ntmps139 (by rw [hn]; decide) hw
theorem run_140 {args : List AV} {R : AV → Prop} (hn : args.length = 2) (hw : ∀ h, Rn prog [.code (yah Go.Proofs.Try.f140)] .normal (zat 0 args [4, 5, 7, 8, 9, 16]) h (Fin prog [.tmp 4] h R)) : qbn prog 140 args R :=
  zaq wfp [4, 5, 7, 8, 9, 16] Go.Proofs.Try.func140 _ rfl (by kernel_rfl) (by kernel_rfl) (by kernel_rfl) Go.Proofs.Try.ntmps140 (by rw [hn]; decide) hw
theorem run_141 {args : List AV} {R : AV → Prop} (hn : args.length = 1) (hw : ∀ h, Rn prog [.code (yah Go.Proofs.Try.f141)] .normal (zat 0 args [2, 4]) h (Fin prog [.tmp 2] h R)) : qbn prog 141 args R :=
  zaq wfp [2, 4] Go.Proofs.Try.func141 _ rfl (by kernel_rfl) (by kernel_rfl) (by kernel_rfl) Go.Proofs.Try.ntmps141 (by rw [hn]; decide) hw
theorem run_142 {args : List AV} {R : AV → Prop} (hn : args.length = 1) (hw : ∀ h, Rn prog [.code (yah Go.Proofs.Try.f142)] .normal (zat 0 args [2]) h (Fin prog [.tmp 2] h R)) : qbn prog 142 args R :=
  zaq wfp [2] Go.Proofs.Try.func142 _ rfl (by kernel_rfl) (by kernel_rfl) (by kernel_rfl) Go.Proofs.Try.ntmps142 (by rw [hn]; decide) hw
theorem frun_143 {args : List AV} {h : List Entry} {K : AV → List Entry → Prop} (hn : args.length = 3) (hw : Rn prog [.code (yah Go.Proofs.Try.f143)] .normal (zat 0 args []) h (qca prog [] K)) : FSpec prog 143 args h K :=
  qav wfp [] Go.Proofs.Try.func143 _ rfl (by kernel_rfl) (by kernel_rfl) (by kernel_rfl) Go.Proofs.Try.ntmps143 (by rw [hn]; decide) hw
theorem frun_144 {args : List AV} {h : List Entry} {K : AV → List Entry → Prop} (hn : args.length = 1) (hw : Rn prog [.code (yah Go.Proofs.Try.f144)] .normal (zat 0 args [3]) h (qca prog [] K)) : FSpec prog 144 args h K :=
  qav wfp [3] Go.Proofs.Try.func144 _ rfl (by kernel_rfl) (by kernel_rfl) (by kernel_rfl) Go.Proofs.Try.ntmps144 (by rw [hn]; decide) hw
theorem ycl {args : List AV} {h : List Entry} {K : AV → List Entry → Prop} (hn : args.length = 3) (hw : Rn prog [.code (yah Go.Proofs.Try.f145)] .normal (zat 0 args [6, 48, 62, 66, 71]) h (qca prog [] K)) : FSpec prog 145 args h K :=
  qav wfp [6, 48, 62, 66, 71] Go.Proofs.Try.func145 _ rfl (by kernel_rfl) (by kernel_rfl) (by kernel_rfl) Go.Proofs.Try.ntmps145 (by rw [hn]; decide) hw
theorem run_146 {args : List AV} {R : AV → Prop} (hn : args.length = 2) (hw : ∀ h, Rn prog [.code (yah Go.Proofs.Try.f146)] .normal (zat 0 args [2, 3, 4]) h (Fin prog [.tmp 4] h R)) : qbn prog 146 args R :=
  zaq wfp [2, 3, 4] Go.Proofs.Try.func146 _ rfl (by kernel_rfl) (by kernel_rfl) (by kernel_rfl) Go.Proofs.Try.ntmps146 (by rw [hn]; decide) hw
theorem frun_147 {args : List AV} {h : List Entry} {K : AV → List Entry → Prop} (hn : args.length = 1) (hw : Rn prog [.code (yah Go.Proofs.Try.f147)] .normal (zat 0 args [2, 29, 34]) h (qca prog [] K)) : FSpec prog 147 args h K :=
  qav wfp [2, 29, 34] Go.Proofs.Try.func147 _ rfl (by kernel_rfl) (by kernel_rfl) (by kernel_rfl) Go.Proofs.Try.ntmps147 (by rw [hn]; decide) hw
theorem run_148 {args : List AV} {R : AV → Prop} (hn : args.length = 2) (hw : ∀ h, Rn prog [.code (yah Go.Proofs.Try.f148)] .normal (zat 0 args [3, 4]) h (Fin prog [.tmp 4] h R)) : qbn prog 148 args R :=
  zaq wfp [3, 4] Go.Proofs.Try.func148 _ rfl (by kernel_rfl) (by kernel_rfl) (by kernel_rfl) Go.Proofs.Try.ntmps148 (by rw [hn]; decide) hw
theorem run_149 {args : List AV} {R : AV → Prop} (hn : args.length = 1) (hw : ∀ h, Rn prog [.code (yah Go.Proofs.Try.f149)] .normal (zat 0 args [1, 2, 4, 5]) h (Fin prog [.tmp 2] h R)) : qbn prog 149 args R :=
  zaq wfp [1, 2, 4, 5] Go.Proofs.Try.func149 _ rfl (by kernel_rfl) (by kernel_rfl) (by kernel_rfl) Go.Proofs.Try.ntmps149 (by rw [hn]; decide) hw
theorem run_150 {args : List AV} {R : AV → Prop} (hn : args.length = 0) (hw : ∀ h, Rn prog [.code (yah Go.Proofs.Try.f150)] .normal (zat 0 args [0]) h (Fin prog [.cell 0 167] h R)) : qbn prog 150 args R :=
  zaq wfp [0] Go.Proofs.Try.func150 _ rfl (by kernel_rfl) (by kernel_rfl) (by kernel_rfl) Go.Proofs.Try.ntmps150 (by rw [hn]; decide) hw
theorem frun_151 {args : List AV} {h : List Entry} {K : AV → List Entry → Prop} (hn : args.length = 2) (hw : Rn prog [.code (yah Go.Proofs.Try.f151)] .normal (zat 0 args [4, 5, 6, 7, 8, 9, 10, 11, 12, 13, 14, 15, 16, 17, 18, 19, 23, 26, 27, 66, 112, 113, 203, 204]) h (qca prog [] K)) : FSpec prog 151 args h K :=
  qav wfp [4, 5, 6, 7, 8, 9, 10, 11, 12, 13, 14, 15, 16, 17, 18, 19, 23, 26, 27, 66, 112, 113, 203, 204] Go.Proofs.Try.func151 _ rfl (by kernel_rfl) (by kernel_rfl) (by kernel_rfl) Go.Proofs.Try.ntmps151 (by rw [hn]; decide) hw
theorem frun_152 {args : List AV} {h : List Entry} {K : AV → List Entry → Prop} (hn : args.length = 1) (hw : Rn prog [.code (yah Go.Proofs.Try.f152)] .normal (zat 0 args [2, 3, 5]) h (qca prog [.tmp 2] K)) : FSpec prog 152 args h K :=
  qav wfp [2, 3, 5] Go.Proofs.Try.func152 _ rfl (by kernel_rfl) (by kernel_rfl) (by kernel_rfl) Go.Proofs.Try.ntmps152 (by rw [hn]; decide) hw
theorem run_153 {args : List AV} {R : AV → Prop} (hn : args.length = 2) (hw : ∀ h, Rn prog [.code (yah Go.Proofs.Try.f153)] .normal (zat 0 args [4]) h (Fin prog [.tmp 4] h R)) : qbn prog 153 args R :=
  zaq wfp [4] Go.Proofs.Try.func153 _ rfl (by kernel_rfl) (by kernel_rfl) (by kernel_rfl) Go.Proofs.Try.ntmps153 (by rw [hn]; decide) hw
theorem run_158 {args : List AV} {R : AV → Prop} (hn : args.length = 1) (hw : ∀ h, Rn prog [.code (yah Go.Proofs.Try.f158)] .normal (zat 0 args [1, 2, 4, 5, 10]) h (Fin prog [.tmp 2] h R)) : qbn prog 158 args R :=
  zaq wfp [1, 2, 4, 5, 10] Go.Proofs.Try.func158 _ rfl (by kernel_rfl) (by kernel_rfl) (by kernel_rfl) Go.Proofs.Try.ntmps158 (by rw [hn]; decide) hw
theorem frun_159 {args : List AV} {h : List Entry} {K : AV → List Entry → Prop} (hn : args.length = 2) (hw : Rn prog [.code (yah Go.Proofs.Try.f159)] .normal (zat 0 args [3]) h (qca prog [] K)) : FSpec prog 159 args h K :=
  qav wfp [3] Go.Proofs.Try.func159 _ rfl (by kernel_rfl) (by kernel_rfl) (by kernel_rfl) Go.Proofs.Try.ntmps159 (by rw [hn]; decide) hw
theorem run_160 {args : List AV} {R : AV → Prop} (hn : args.length = 2) (hw : ∀ h, Rn prog [.code (yah Go.Proofs.Try.f160)] .normal (zat 0 args [4, 5, 6, 7, 8, 13, 14, 15, 16, 22, 32]) h (Fin prog [.tmp 4] h R)) : qbn prog 160 args R :=
  zaq wfp [4, 5, 6, 7, 8, 13, 14, 15, 16, 22, 32] Go.Proofs.Try.func160 _ rfl (by kernel_rfl) (by kernel_rfl) (by kernel_rfl) Go.Proofs.Try.ntmps160 (by rw [hn]; decide) hw
theorem frun_161 {args : List AV} {h : List Entry} {K : AV → List Entry → Prop} (hn : args.length = 1) (hw : Rn prog [.code (yah Go.Proofs.Try.f161)] .normal (zat 0 args [2, 3, 4, 5, 13, 30, 67, 75, 93]) h (qca prog [] K)) : FSpec prog 161 args h K :=
  qav wfp [2, 3, 4, 5, 13, 30, 67, 75, 93] Go.Proofs.Try.func161 _ rfl (by kernel_rfl) (by kernel_rfl) (by kernel_rfl) Go.Proofs.Try.ntmps161 (by rw [hn]; decide) hw
theorem frun_162 {args : List AV} {h : List Entry} {K : AV → List Entry → Prop} (hn : args.length = 2) (hw : Rn prog [.code (yah Go.Proofs.Try.f162)] .normal (zat 0 args []) h (qca prog [] K)) : FSpec prog 162 args h K :=
  qav wfp [] Go.Proofs.Try.func162 _ rfl (by kernel_rfl) (by kernel_rfl) (by kernel_rfl) Go.Proofs.Try.ntmps162 (by rw [hn]; decide) hw
theorem run_163 {args : List AV} {R : AV → Prop} (hn : args.length = 2) (hw : ∀ h, Rn prog [.code (yah Go.Proofs.Try.f163)] .normal (zat 0 args [2, 3]) h (Fin prog [.tmp 3] h R)) : qbn prog 163 args R :=
  zaq wfp [2, 3] Go.Proofs.Try.func163 _ rfl (by kernel_rfl) (by kernel_rfl) (by kernel_rfl) Go.Proofs.Try.ntmps163 (by rw [hn]; decide) hw
theorem run_164 {args : List AV} {R : AV → Prop} (hn : args.length = 2) (hw : ∀ h, Rn prog [.code (yah Go.Proofs.Try.f164)] .normal (zat 0 args [4]) h (Fin prog [.tmp 4] h R)) : qbn prog 164 args R :=
  zaq wfp [4] Go.Proofs.Try.func164 _ rfl (by kernel_rfl) (by kernel_rfl) (by kernel_rfl) Go.Proofs.Try.ntmps164 (by rw [hn]; decide) hw
theorem run_165 {args : List AV} {R : AV → Prop} (hn : args.length = 2) (hw : ∀ h, Rn prog [.code (yah Go.Proofs.Try.f165)] .normal (zat 0 args [4]) h (Fin prog [.tmp 4] h R)) : qbn prog 165 args R :=
  zaq wfp [4] Go.Proofs.Try.func165 _ rfl (by kernel_rfl) (by kernel_rfl) (by kernel_rfl) Go.Proofs.Try.ntmps165 (by rw [hn]; decide) hw
theorem run_166 {args : List AV} {R : AV → Prop} (hn : args.length = 2) (hw : ∀ h, Rn prog [.code (yah Go.Proofs.Try.f166)] .normal (zat 0 args [2, 3]) h (Fin prog [.tmp 3] h R)) : qbn prog 166 args R :=
  zaq wfp [2, 3] Go.Proofs.Try.func166 _ rfl (by kernel_rfl) (by kernel_rfl) (by kernel_rfl) Go.Proofs.Try.ntmps166 (by rw [hn]; decide) hw
theorem run_167 {args : List AV} {R : AV → Prop} (hn : args.length = 0) (hw : ∀ h, Hold (Rn prog [.code (yah Go.Proofs.Try.f167)] .normal (zat 0 args [0]) h (Fin prog [.cell 0 185] h R))) : qbn prog 167 args R :=
  fn_runH wfp [0] Go.Proofs.Try.func167 _ (by kernel_rfl) (by kernel_rfl) (by kernel_rfl) (by kernel_rfl) Go.Proofs.Try.ntmps167 (by rw [hn]; decide) hw
theorem run_168 {args : List AV} {R : AV → Prop} (hn : args.length = 2) (hw : ∀ h, Rn prog [.code (yah Go.Proofs.Try.f168)] .normal (zat 0 args [4, 5]) h (Fin prog [.tmp 4] h R)) : qbn prog 168 args R :=
  zaq wfp [4, 5] Go.Proofs.Try.func168 _ rfl (by kernel_rfl) (by kernel_rfl) (by kernel_rfl) Go.Proofs.Try.ntmps168 (by rw [hn]; decide) hw
theorem frun_171 {args : List AV} {h : List Entry} {K : AV → List Entry → Prop} (hn : args.length = 3) (hw : Rn prog [.code (yah Go.Proofs.Try.f171)] .normal (zat 0 args [6, 7, 16]) h (qca prog [.tmp 6] K)) : FSpec prog 171 args h K :=
  qav wfp [6, 7, 16] Go.Proofs.Try.func171 _ rfl (by kernel_rfl) (by kernel_rfl) (by kernel_rfl) Go.Proofs.Try.ntmps171 (by rw [hn]; decide) hw
theorem frun_172 {args : List AV} {h : List Entry} {K : AV → List Entry → Prop} (hn : args.length = 3) (hw : Rn prog [.code (yah Go.Proofs.Try.f172)] .normal (zat 0 args [6, 7, 16]) h (qca prog [.tmp 6] K)) : FSpec prog 172 args h K :=
  qav wfp [6, 7, 16] Go.Proofs.Try.func172 _ rfl (by kernel_rfl) (by kernel_rfl) (by kernel_rfl) Go.Proofs.Try.ntmps172 (by rw [hn]; decide) hw
theorem run_173 {args : List AV} {R : AV → Prop} (hn : args.length = 3) (hw : ∀ h, Rn prog [.code (yah Go.Proofs.Try.f173)] .normal (zat 0 args [6, 7, 8, 9, 14, 15, 16, 17, 18, 30]) h (Fin prog [.tmp 6] h R)) : qbn prog 173 args R :=
  zaq wfp [6, 7, 8, 9, 14, 15, 16, 17, 18, 30] Go.Proofs.Try.func173 _ rfl (by kernel_rfl) (by kernel_rfl) (by kernel_rfl) Go.Proofs.Try.ntmps173 (by rw [hn]; decide) hw
theorem run_174 {args : List AV} {R : AV → Prop} (hn : args.length = 2) (hw : ∀ h, Rn prog [.code (yah Go.Proofs.Try.f174)] .normal (zat 0 args [2, 3, 4, 6, 7, 12, 17]) h (Fin prog [.tmp 4] h R)) : qbn prog 174 args R :=
  zaq wfp [2, 3, 4, 6, 7, 12, 17] Go.Proofs.Try.func174 _ rfl (by kernel_rfl) (by kernel_rfl) (by kernel_rfl) Go.Proofs.Try.ntmps174 (by rw [hn]; decide) hw
theorem run_175 {args : List AV} {R : AV → Prop} (hn : args.length = 2) (hw : ∀ h, Rn prog [.code (yah Go.Proofs.Try.f175)] .normal (zat 0 args [4, 5, 7, 8, 9, 16]) h (Fin prog [.tmp 4] h R)) : qbn prog 175 args R :=
  zaq wfp [4, 5, 7, 8, 9, 16] Go.Proofs.Try.func175 _ rfl (by kernel_rfl) (by kernel_rfl) (by kernel_rfl) Go.Proofs.Try.ntmps175 (by rw [hn]; decide) hw
end Go.Abs
