/- Sy: a part of the proofs about the tuple space and its bytes. -/
import Derived.Test.YtilfbkhbjkjicaaEb
import Derived.Test.YtilfbkhbjkjicaaGv
import Derived.Test.YtilfbkhbjkjicaaRo
import Derived.Test.YtilfbkhbjkjicaaEh
set_option linter.all false
set_option maxRecDepth 100000
set_option maxHeartbeats 0
namespace Go.Abs
open Go
open Go.Proofs.Try (prog)
theorem ycz {h : List Entry} {D : DC} {st : List Ctl} {env : Env} {Q : yap} {kd kb : Nat} {B : List UInt8} {s : RS} (r : Rdr h kd kb B s) (m : Nat) (h1 : 1 ≤ m) (h8 : m ≤ 8)
    (hk : Dv prog (.int .u64 (s.num m).1) (.wr [(kd, rdE kb B (s.num m).2)]) [kd, kb] D st env h Q) : Dk prog 67 [.ref kd [0] 162, .int .i64 m] D st env h Q :=
  qdv [kd, kb] [(kd, rdE kb B (s.num m).2)] (fun h2 hh => c_RNum (r.same hh) m h1 h8) hk
theorem dk_row {h : List Entry} {D : DC} {st : List Ctl} {env : Env} {Q : yap} {kc kd kb : Nat} {B : List UInt8} {s : RS} (r : Rdr h kd kb B s) (hc : h[kc]? = some (pcE kd))
    (hk : Dv prog (eFs (ycj s).1) (.wr [(kd, rdE kb B (ycj s).2)]) [kd, kb, kc] D st env h Q) : Dk prog 64 [.ref kc [0] 105] D st env h Q :=
  qdv [kd, kb, kc] [(kd, rdE kb B (ycj s).2)] (fun h2 hh => c_Get1 (by rw [hh kc (by simp)]; exact hc) (r.same fun k hk => hh k (by simp at hk ⊢; omega))) hk
structure GS (n : Nat) (h0 : List Entry) (kd kb kc : Nat) (b : List UInt8) (s : RS) (z : AV) (H : List Entry) : Prop where
  tk : H.take n = h0
  t2 : H[n]? = some ⟨29, [z], .own⟩
  r : Rdr H kd kb b s
  c : H[kc]? = some (pcE kd)
  ld : n < kd
  lb : n < kb
  lc : n < kc
  dc : kc ≠ kd
  bc : kc ≠ kb
theorem GS.num {n : Nat} {h0 : List Entry} {kd kb kc : Nat} {b : List UInt8} {s : RS} {z : AV} {H : List Entry} (g : GS n h0 kd kb kc b s z H) (m : Nat) : GS n h0 kd kb kc b (s.num m).2 z (H.set kd (rdE kb b (s.num m).2)) :=
  ⟨by rw [List.take_set_of_le (by have := g.ld; omega)]; exact g.tk, by rw [List.getElem?_set_ne (by have := g.ld; omega)]; exact g.t2, g.r.num m, by rw [List.getElem?_set_ne (Ne.symm g.dc)]; exact g.c, g.ld, g.lb, g.lc, g.dc, g.bc⟩
theorem GS.row {n : Nat} {h0 : List Entry} {kd kb kc : Nat} {b : List UInt8} {s : RS} {z : AV} {H : List Entry} (g : GS n h0 kd kb kc b s z H) : GS n h0 kd kb kc b (ycj s).2 z (H.set kd (rdE kb b (ycj s).2)) :=
  ⟨by rw [List.take_set_of_le (by have := g.ld; omega)]; exact g.tk, by rw [List.getElem?_set_ne (by have := g.ld; omega)]; exact g.t2, g.r.text 1000, by rw [List.getElem?_set_ne (Ne.symm g.dc)]; exact g.c, g.ld, g.lb, g.lc, g.dc, g.bc⟩
theorem GS.app {n : Nat} {h0 : List Entry} {kd kb kc : Nat} {b : List UInt8} {s : RS} {z : AV} {H : List Entry} (g : GS n h0 kd kb kc b s z H) (hn : n ≤ H.length) (l : List Entry) : GS n h0 kd kb kc b s z (H ++ l) :=
  ⟨by rw [List.take_append_of_le_length hn]; exact g.tk, by rw [List.getElem?_append_left (zac g.t2)]; exact g.t2, g.r.keep (fun e he => by rw [List.getElem?_append_left (zac he)]; exact he) (fun e he => by rw [List.getElem?_append_left (zac he)]; exact he), by rw [List.getElem?_append_left (zac g.c)]; exact g.c, g.ld, g.lb, g.lc, g.dc, g.bc⟩
theorem GS.keep {n : Nat} {h0 : List Entry} {kd kb kc : Nat} {b : List UInt8} {s : RS} {z : AV} {H H' : List Entry} (g : GS n h0 kd kb kc b s z H) {T : TypeId} (hn : n ≤ H.length) (hl : H.length ≤ H'.length)
    (hT : T = 87 ∨ T = 89) (hk : ∀ j e, H[j]? = some e → (¬ n ≤ j ∨ e.T ≠ T) → H'[j]? = some e) : GS n h0 kd kb kc b s z H' where
  tk := by
    conv => rhs; rw [← g.tk]
    apply List.ext_getElem?
    intro j
    rw [List.getElem?_take, List.getElem?_take]
    split
    · rename_i hj
      rw [List.getElem?_eq_getElem (show j < H.length by omega)]
      exact hk j _ (List.getElem?_eq_getElem _) (.inl (by omega))
    · rfl
  t2 := hk _ _ g.t2 (.inr (by rcases hT with rfl | rfl <;> (show 29 ≠ _; decide)))
  r := g.r.keep (fun e he => hk _ _ he (.inr (by rw [g.r.d] at he; cases he; rcases hT with rfl | rfl <;> (show 162 ≠ _; decide)))) (fun e he => hk _ _ he (.inr (by rw [g.r.b] at he; cases he; rcases hT with rfl | rfl <;> (show 5 ≠ _; decide))))
  c := hk _ _ g.c (.inr (by rcases hT with rfl | rfl <;> (show 105 ≠ _; decide)))
  ld := g.ld
  lb := g.lb
  lc := g.lc
  dc := g.dc
  bc := g.bc
theorem GS.put {n : Nat} {h0 : List Entry} {kd kb kc : Nat} {b : List UInt8} {s : RS} {z : AV} {H : List Entry} (g : GS n h0 kd kb kc b s z H) {k : Nat} (hk : n < k) (hd : k ≠ kd) (hb : k ≠ kb) (hc : k ≠ kc) (E : Entry) : GS n h0 kd kb kc b s z (H.set k E) :=
  ⟨by rw [List.take_set_of_le (by omega)]; exact g.tk, by rw [List.getElem?_set_ne (by omega)]; exact g.t2, g.r.keep (fun e he => by rw [List.getElem?_set_ne hd]; exact he) (fun e he => by rw [List.getElem?_set_ne hb]; exact he), by rw [List.getElem?_set_ne hc]; exact g.c, g.ld, g.lb, g.lc, g.dc, g.bc⟩
theorem GS.to {n : Nat} {h0 : List Entry} {kd kb kc : Nat} {b : List UInt8} {s s' : RS} {z : AV} {H : List Entry} (g : GS n h0 kd kb kc b s z H) (o : s'.Of b) : GS n h0 kd kb kc b s' z (H.set kd (rdE kb b s')) :=
  ⟨by rw [List.take_set_of_le (by have := g.ld; omega)]; exact g.tk, by rw [List.getElem?_set_ne (by have := g.ld; omega)]; exact g.t2, g.r.set o.1 o.2, by rw [List.getElem?_set_ne (Ne.symm g.dc)]; exact g.c, g.ld, g.lb, g.lc, g.dc, g.bc⟩
def gL (s : RS) : Nat → List Rpl × RS
  | 0 => ([], s)
  | j + 1 => ((gL s j).1 ++ [(getL1 j (gL s j).2).1], (getL1 j (gL s j).2).2)
theorem gL_len (s : RS) : ∀ j, (gL s j).1.length = j
  | 0 => rfl
  | j + 1 => by simp [gL, gL_len s j]
theorem gL_all (s : RS) : ∀ j, ∀ x ∈ (gL s j).1, x.T.length ≤ 4294967296
  | 0 => by simp [gL]
  | j + 1 => by
    intro x hx
    rw [gL, List.mem_append, List.mem_singleton] at hx
    rcases hx with hx | rfl
    · exact gL_all s j x hx
    · have := rowR_len ((((gL s j).2.num 4).2.num 1).2.num 1).2
      simp only [getL1]; omega
theorem gL_4 (s : RS) : gL s 4 = getL4 s := by simp [gL, getL4]
def zR : AV := .agg 26 [.int .i64 0, .int .i64 0, .int .i64 0, .nils, .bool false]
def zL : AV := .agg 27 [zR, zR, zR, zR]
def zRp : Rpl := ⟨0, 0, 0, [], false⟩
def zSp : Spc := ⟨0, [], [], 0, 0, [zRp, zRp, zRp, zRp]⟩
theorem putS_len {s : Spc} (h : zbw s = true) : (qby s).length ≤ 40000 := by
  simp only [zbw, Bool.and_eq_true, mayH, decide_eq_true_eq] at h
  obtain ⟨l0, l1, l2, l3, hl, _⟩ := four_of h.2
  have a := qbd qcu s.Items
  have b := qbd zcu s.Waiters
  have c := qbd putL1_len s.Last
  rw [hl] at c
  simp only [qby, zcc, zch, qcc, nb, List.length_append, yak, hl]
  simp only [List.length_cons, List.length_nil] at c
  omega
theorem qdt (h H : List Entry) (hT : H.take h.length = h) (E : Entry) : (H.set h.length E).take h.length = h ∧ ∃ l, AV.tup [.agg 29 [.int .i64 0, .nils, .nils, .int .i64 0, .int .i64 0, .agg 27 [zR, zR, zR, zR]], .int .i64 2] = .tup l ∧ yas h.length (rzL (H.set h.length E) h.length l) = true ∧
    ∃ l', AV.tup (rzL (H.set h.length E) h.length l) = .tup l' ∧ argsOK prog [29, 3] l' ∧ wks prog [29, 3] l' = [eS zSp, .int .i64 2] := by
  refine ⟨by rw [List.take_set_of_le (Nat.le_refl _)]; exact hT, _, rfl, rfl, _, rfl, ⟨by simp only [rz]; rw [ty_agg]; rfl, by simp only [rz]; rw [zc6, sh_3]; rfl, trivial⟩, ?_⟩
  simp only [rzL, rz, zR, wks, yb2, ya6, zcr, qbu, wk_bool, qbr, za1, sh_29, fl_29, sh_22, sh_23, sh_27, sh_26, fl_26, zc5, List.zipWith_cons_cons, List.zipWith_nil_left, List.map_cons, List.map_nil, if_true]
  rfl
theorem get_good {h H : List Entry} (hT : H.take h.length = h) {v1 v2 : AV} {w0 w3 w4 : Int} {fI : List Itm} {fW : List Wtr} {fL : List Rpl} {z0 : AV} (y1 : Given (fun j => h.length ≤ j) H 87 v1 (fI.map eI)) (y2 : Given (fun j => h.length ≤ j) H 89 v2 (fW.map eW)) (ht : H[h.length]? = some (⟨29, [z0], .own⟩ : Entry)) (E : Entry) :
    (H.set h.length E).take h.length = h ∧ ∃ l, AV.tup [.agg 29 [.int .i64 w0, v1, v2, .int .i64 w3, .int .i64 w4, eL fL], .int .i64 0] = .tup l ∧ yas h.length (rzL (H.set h.length E) h.length l) = true ∧
    ∃ l', AV.tup (rzL (H.set h.length E) h.length l) = .tup l' ∧ argsOK prog [29, 3] l' ∧ wks prog [29, 3] l' = [eS ⟨w0, fI, fW, w3, w4, fL⟩, .int .i64 0] := by
  have y1 := y1.set ht (show 29 ≠ 87 by decide) E
  have y2 := y2.set ht (show 29 ≠ 89 by decide) E
  obtain ⟨x1, q1⟩ := y1.ex (P := prog) (U := 22) sh_22
  obtain ⟨x2, q2⟩ := y2.ex (P := prog) (U := 23) sh_23
  have r1 := q1.rz h.length fun j hj => hj
  have r2 := q2.rz h.length fun j hj => hj
  have f1 : zan h.length (rz (H.set h.length E) h.length v1) = true ∧ ∀ n, wk prog (n + 1) 22 (rz (H.set h.length E) h.length v1) = eIs fI := by
    rcases r1 with e | ⟨e, r⟩
    · rw [e]; exact ⟨qan _ (eIs_dat fI), fun n => qcb ..⟩
    · rw [r]; exact ⟨rfl, fun n => by rw [qbr, sh_22, za1, eIs, List.map_eq_nil_iff.1 e]; rfl⟩
  have f2 : zan h.length (rz (H.set h.length E) h.length v2) = true ∧ ∀ n, wk prog (n + 1) 23 (rz (H.set h.length E) h.length v2) = eWs fW := by
    rcases r2 with e | ⟨e, r⟩
    · rw [e]; exact ⟨qan _ (eWs_dat fW), fun n => qcb ..⟩
    · rw [r]; exact ⟨rfl, fun n => by rw [qbr, sh_23, za1, eWs, List.map_eq_nil_iff.1 e]; rfl⟩
  refine ⟨by rw [List.take_set_of_le (Nat.le_refl _)]; exact hT, _, rfl, ?_, _, rfl, ⟨by simp only [rz]; rw [ty_agg]; rfl, by simp only [rz]; rw [zc6, sh_3]; rfl, trivial⟩, ?_⟩
  · simp only [rzL, rz, yas, zan, f1.1, f2.1, ybr _ (eL_dat fL), qan _ (eL_dat fL), Bool.and_self]
  · simp only [rzL, rz, wks, yb2, ya6, qbu, sh_29, fl_29, List.zipWith_cons_cons, List.zipWith_nil_left, if_true, f1.2, f2.2, ybr _ (eL_dat fL), eL_wk]
    rfl
theorem c_sGet (b : List UInt8) (hb : b.length ≤ 100000000) : Fn prog 20 [eBs b] (.tup [eS ((ydm b).getD zSp), .int .i64 (if (ydm b).isSome = true then 0 else 2)]) := by
  refine ybm (R := fun r => ∃ l, r = .tup l ∧ argsOK prog [29, 3] l ∧ wks prog [29, 3] l = [eS ((ydm b).getD zSp), .int .i64 (if (ydm b).isSome = true then 0 else 2)]) [29, 3] (fn_tup wfp fun h => ?_) fun r h => h
  refine frun_20 rfl ?_
  repeat' (first
    | simp (implicitDefEqProofs := false) only [push_cast, reduceIte, reduceCtorEq, Nat.reduceAdd, Nat.reduceSub, Nat.reduceEqDiff, Nat.reduceLT, Nat.reduceLeDiff, Nat.reduceBEq, Nat.reduceMul, Int.reduceLT, Int.reduceLE, Int.reduceEq, Int.reduceToNat, Int.reduceMul, Int.reduceNeg, Go.Proofs.Try.f20, zas, qat, yat, yad, zae, qac, zad, yab, qad, sst, qab, yaa, qaa, List.replicate_succ, List.drop_zero]
    | refine Sp2.f ?_ ?_
    | refine Spl.f ?_ ?_ <;> intro hb
    | refine yac rfl (fun b hb => ?_)
    | refine zaa (U := [[], [], [], [1], [2], [], [1, 4], [2, 5], [], [], [0, 1, 2, 3, 4, 5, 6, 7, 8], []]) (H := [⟨0, [], .hole⟩]) zaf (by kernel_rfl) (by decide +kernel) (by kernel_rfl) ?_
    | refine zaa (U := [[], [], [], [1], [], [3], [1, 4], [], [], [1, 4, 7], [], [1], [], [], []]) (H := [⟨0, [], .hole⟩, ⟨0, [], .hole⟩]) zaf (by kernel_rfl) (by decide +kernel) (by kernel_rfl) ?_
    | refine zaa (U := [[], [], [], [1], [], [3], [1, 4], [], [3, 6], [1, 4, 7], [], [], [1, 4, 7], [], [1], [], [], []]) (H := [⟨0, [], .hole⟩, ⟨0, [], .hole⟩]) zaf (by kernel_rfl) (by decide +kernel) (by kernel_rfl) ?_
    | refine zaa (U := [[], [], [], [], [], [3], [4], [], [3, 6], [4, 7], [], [], [4, 7], [], [], [], []]) (H := []) zaf (by kernel_rfl) (by decide +kernel) (by kernel_rfl) ?_)
  refine ya4 (c_PNew b hb _) fun v H hP => ?_
  obtain ⟨kd, kb, l0, rfl, hH, hkd, hkb, r0⟩ := hP
  obtain ⟨z0, hz0⟩ : ∃ z0, H[h.length]? = some (⟨29, [z0], .own⟩ : Entry) := ⟨_, by rw [hH, List.append_assoc]; exact zar ..⟩
  have hT0 : H.take h.length = h := by rw [hH, List.append_assoc]; simp
  simp only [List.length_append, List.length_cons, List.length_nil, Nat.zero_add] at hkd hkb
  clear hH l0
  have hdl := zac r0.d
  have hbl := zac r0.b
  have o0 := r0.of
  repeat' (first
    | simp (implicitDefEqProofs := false) only [push_cast, reduceIte, reduceCtorEq, Nat.reduceAdd, Nat.reduceSub, Nat.reduceEqDiff, Nat.reduceLT, Nat.reduceLeDiff, Nat.reduceBEq, Nat.reduceMul, Int.reduceLT, Int.reduceLE, Int.reduceEq, Int.reduceToNat, Int.reduceMul, Int.reduceNeg, Go.Proofs.Try.f20, ybq, Bool.false_eq_true, if_false, Nat.zero_add, hdl, hbl, zaj hdl, yag hdl, za4 hdl, yaj hdl, zaj hbl, yag hbl, za4 hbl, yaj hbl, yad, zae, qac, zad, yab, qad, sst, qab, yaa, qaa, List.replicate_succ, List.drop_zero]
    | refine Sp2.f ?_ ?_
    | refine Spl.f ?_ ?_ <;> intro hb
    | refine yac rfl (fun b hb => ?_)
    | refine zaa (U := [[], [], [], [1], [2], [], [1, 4], [2, 5], [], [], [0, 1, 2, 3, 4, 5, 6, 7, 8], []]) (H := [⟨0, [], .hole⟩]) zaf (by kernel_rfl) (by decide +kernel) (by kernel_rfl) ?_
    | refine zaa (U := [[], [], [], [1], [], [3], [1, 4], [], [], [1, 4, 7], [], [1], [], [], []]) (H := [⟨0, [], .hole⟩, ⟨0, [], .hole⟩]) zaf (by kernel_rfl) (by decide +kernel) (by kernel_rfl) ?_
    | refine zaa (U := [[], [], [], [1], [], [3], [1, 4], [], [3, 6], [1, 4, 7], [], [], [1, 4, 7], [], [1], [], [], []]) (H := [⟨0, [], .hole⟩, ⟨0, [], .hole⟩]) zaf (by kernel_rfl) (by decide +kernel) (by kernel_rfl) ?_
    | refine zaa (U := [[], [], [], [], [], [3], [4], [], [3, 6], [4, 7], [], [], [4, 7], [], [], [], []]) (H := []) zaf (by kernel_rfl) (by decide +kernel) (by kernel_rfl) ?_
    | refine ycz (r0.more _) 8 (by omega) (by omega) ?_
    | refine ycz (r0.to (o0.num 8) _) 1 (by omega) (by omega) ?_
    | refine ycz (r0.to ((o0.num 8).num 1) _) 1 (by omega) (by omega) ?_)
  obtain ⟨s3, hs3⟩ : ∃ s3, s3 = ((((⟨b, false⟩ : RS).num 8).2.num 1).2.num 1).2 := ⟨_, rfl⟩
  have o3 : s3.Of b := by rw [hs3]; exact ((o0.num 8).num 1).num 1
  rw [← hs3]
  have r3 := r0.to o3 [pcE kd, ⟨29, [.agg 29 [.int .i64 (IntKind.i64.wrap ((⟨b, false⟩ : RS).num 8).1), .nils, .nils, .int .i64 (IntKind.i64.wrap (((⟨b, false⟩ : RS).num 8).2.num 1).1), .int .i64 (IntKind.i64.wrap ((((⟨b, false⟩ : RS).num 8).2.num 1).2.num 1).1), zL]], .own⟩]
  have g3 : GS h.length h kd kb H.length b s3 z0 _ := ⟨by rw [List.take_append_of_le_length (by simp; omega), List.take_set_of_le (by omega)]; exact hT0, by rw [List.getElem?_append_left (by simp; omega), List.getElem?_set_ne (by omega)]; exact hz0, r3, by rw [List.getElem?_append_right (by simp)]; simp, by omega, by omega, by omega, by omega, by omega⟩
  have k6 : (H.set kd (rdE kb b s3) ++ [pcE kd, ⟨29, [.agg 29 [.int .i64 (IntKind.i64.wrap ((⟨b, false⟩ : RS).num 8).1), .nils, .nils, .int .i64 (IntKind.i64.wrap (((⟨b, false⟩ : RS).num 8).2.num 1).1), .int .i64 (IntKind.i64.wrap ((((⟨b, false⟩ : RS).num 8).2.num 1).2.num 1).1), zL]], .own⟩])[H.length + 1]? = some (⟨29, [.agg 29 [.int .i64 (IntKind.i64.wrap ((⟨b, false⟩ : RS).num 8).1), .nils, .nils, .int .i64 (IntKind.i64.wrap (((⟨b, false⟩ : RS).num 8).2.num 1).1), .int .i64 (IntKind.i64.wrap ((((⟨b, false⟩ : RS).num 8).2.num 1).2.num 1).1), zL]], .own⟩ : Entry) := by
    have := qa9 (H.set kd (rdE kb b s3)) [pcE kd, (⟨29, [.agg 29 [.int .i64 (IntKind.i64.wrap ((⟨b, false⟩ : RS).num 8).1), .nils, .nils, .int .i64 (IntKind.i64.wrap (((⟨b, false⟩ : RS).num 8).2.num 1).1), .int .i64 (IntKind.i64.wrap ((((⟨b, false⟩ : RS).num 8).2.num 1).2.num 1).1), zL]], .own⟩ : Entry)] 1
    rw [List.length_set] at this
    exact this
  obtain ⟨kc, hkc⟩ : ∃ kc, kc = H.length := ⟨_, rfl⟩
  have hn0 := c_RNum r3 1 (by omega) (by omega)
  have g4 := g3.num 1
  have hcd : kd ≠ kc + 1 := by omega
  rw [← hkc] at g4 k6
  have k7 : (List.set _ kd (rdE kb b (s3.num 1).2))[kc + 1]? = _ := (List.getElem?_set_ne hcd).trans k6
  clear g3 r3 k6 r0 hz0 hT0
  refine yal hn0 ?_
  generalize List.set (H.set kd (rdE kb b s3) ++ [pcE kd, _]) kd (rdE kb b (s3.num 1).2) = H1 at g4 k7 ⊢
  have hcb : kb ≠ kc + 1 := by omega
  rw [← hkc]
  have hrgN := s3.num_range 1
  obtain ⟨N, hN⟩ : ∃ N : Nat, (N : Int) = (s3.num 1).1 := ⟨(s3.num 1).1.toNat, by omega⟩
  rw [← hN] at hn0 hrgN ⊢
  clear hn0 hkc
  obtain ⟨w0, hw0⟩ : ∃ w0, w0 = IntKind.i64.wrap ((⟨b, false⟩ : RS).num 8).1 := ⟨_, rfl⟩
  obtain ⟨w3, hw3⟩ : ∃ w3, w3 = IntKind.i64.wrap (((⟨b, false⟩ : RS).num 8).2.num 1).1 := ⟨_, rfl⟩
  obtain ⟨w4, hw4⟩ : ∃ w4, w4 = IntKind.i64.wrap ((((⟨b, false⟩ : RS).num 8).2.num 1).2.num 1).1 := ⟨_, rfl⟩
  rw [← hw0, ← hw3, ← hw4] at k7
  repeat' (first
    | simp (implicitDefEqProofs := false) only [push_cast, reduceIte, reduceCtorEq, Nat.reduceAdd, Nat.reduceSub, Nat.reduceEqDiff, Nat.reduceLT, Nat.reduceLeDiff, Nat.reduceBEq, Nat.reduceMul, Int.reduceLT, Int.reduceLE, Int.reduceEq, Int.reduceToNat, Int.reduceMul, Int.reduceNeg, Go.Proofs.Try.f20, yad, zae, qac, zad, yab, qad, sst, qab, yaa, qaa, List.replicate_succ, List.drop_zero]
    | refine Sp2.f ?_ ?_
    | refine Spl.f ?_ ?_ <;> intro hb
    | refine yac rfl (fun b hb => ?_)
    | refine zaa (U := [[], [], [], [1], [2], [], [1, 4], [2, 5], [], [], [0, 1, 2, 3, 4, 5, 6, 7, 8], []]) (H := [⟨0, [], .hole⟩]) zaf (by kernel_rfl) (by decide +kernel) (by kernel_rfl) ?_
    | refine zaa (U := [[], [], [], [1], [], [3], [1, 4], [], [], [1, 4, 7], [], [1], [], [], []]) (H := [⟨0, [], .hole⟩, ⟨0, [], .hole⟩]) zaf (by kernel_rfl) (by decide +kernel) (by kernel_rfl) ?_
    | refine zaa (U := [[], [], [], [1], [], [3], [1, 4], [], [3, 6], [1, 4, 7], [], [], [1, 4, 7], [], [1], [], [], []]) (H := [⟨0, [], .hole⟩, ⟨0, [], .hole⟩]) zaf (by kernel_rfl) (by decide +kernel) (by kernel_rfl) ?_
    | refine zaa (U := [[], [], [], [], [], [3], [4], [], [3, 6], [4, 7], [], [], [4, 7], [], [], [], []]) (H := []) zaf (by kernel_rfl) (by decide +kernel) (by kernel_rfl) ?_)
  refine qau (fun i env' H => i ≤ N ∧ GS h.length h kd kb kc b (zag qdd i (s3.num 1).2).2 z0 H ∧ (∃ v1, View (fun j => h.length ≤ j) H 87 v1 ((zag qdd i (s3.num 1).2).1.map eI) ∧ NilOr v1 ((zag qdd i (s3.num 1).2).1.map eI) ∧ H[kc + 1]? = some (⟨29, [.agg 29 [.int .i64 w0, v1, .nils, .int .i64 w3, .int .i64 w4, zL]], .own⟩ : Entry) ∧
    env' = (fun a : Nat → AV => [(0, eBs b), (2, .ref h.length [0] 29), (3, .int .i64 0), (4, .ref kc [0] 105), (5, .fn 64 [.ref kc [0] 105]), (6, .ref (kc + 1) [0] 29), (7, .int .u64 ((N : Int) - (i : Int))), (8, a 8), (9, a 9), (10, a 10), (11, a 11), (28, a 28), (48, a 48), (68, a 68), (69, a 69), (105, a 105)]) (lk env'))) N ⟨Nat.zero_le _, g4, .nils, .nil, fun _ => rfl, k7, ?_⟩ ?_
  · have e0 : (N : Int) - ((0 : Nat) : Int) = N := by simp
    rw [e0]; rfl
  clear g4 k7 H1
  rintro i env H ⟨hi, g, v1, hv, hnI, hk, henv⟩
  refine ⟨hi, ?_⟩
  rw [henv]
  generalize lk env = a
  clear henv env
  by_cases hlt : i < N
  · have c1 : decide ((0 : Int) < (N : Int) - (i : Int)) = true := by simp; omega
    have c2 : IntKind.wrap .u64 ((N : Int) - (i : Int) - 1) = (N : Int) - ((i : Int) + 1) := by rw [zak]; omega
    have hsn := ybw qdd i (s3.num 1).2
    have hln := ybb qdd i (s3.num 1).2
    generalize (zag qdd i (s3.num 1).2).2 = s at g hsn
    generalize hfs : (zag qdd i (s3.num 1).2).1 = fs at hv hsn hln
    have la := hv.lenAV
    rw [List.length_map] at la
    have e7 : decide (fs.length + 1 ≤ 4294967296) = true := by simp; omega
    have o0 := g.r.of
    have r0 := g.r
    have hdl := zac r0.d
    have hbl := zac r0.b
    have hcl := zac g.c
    have hkl := zac hk
    have hc0 := g.c
    have hkc1 : kc ≠ kd := g.dc
    have hkc2 : kc ≠ kb := g.bc
    have ne1 : (kd == kc + 1) = false := by simpa using hcd
    have hx : qdd s = (⟨IntKind.i64.wrap (s.num 1).1, IntKind.i64.wrap ((s.num 1).2.num 8).1, (ycj ((s.num 1).2.num 8).2).1⟩, (ycj ((s.num 1).2.num 8).2).2) := rfl
    have hc3 : ∀ (E : Entry) (l : List Entry), ((H.set kd E) ++ l)[kc]? = some (pcE kd) := fun E l => by rw [List.getElem?_append_left (by simpa using hcl), List.getElem?_set_ne (Ne.symm hkc1)]; exact hc0
    have hc4 : ∀ E : Entry, (H.set kd E)[kc]? = some (pcE kd) := fun E => by rw [List.getElem?_set_ne (Ne.symm hkc1)]; exact hc0
    have hk4 : ∀ E : Entry, (H.set kd E)[kc + 1]? = some (⟨29, [.agg 29 [.int .i64 w0, v1, .nils, .int .i64 w3, .int .i64 w4, zL]], .own⟩ : Entry) := fun E => by rw [List.getElem?_set_ne hcd]; exact hk
    have d1 : decide (kc + 1 = kd) = false := by simp; omega
    have d2 : decide (kd = kc + 1) = false := by simp; omega
    have d3 : decide (kc = kd) = false := by simp; omega
    have d4 : decide (kd = kc) = false := by simp; omega
    have d5 : decide (kc + 1 = kb) = false := by simp; omega
    have d6 : decide (kb = kc + 1) = false := by simp; omega
    obtain ⟨X, hX⟩ : ∃ X, X = (⟨IntKind.i64.wrap (s.num 1).1, IntKind.i64.wrap ((s.num 1).2.num 8).1, (ycj ((s.num 1).2.num 8).2).1⟩ : Itm) := ⟨_, rfl⟩
    have hvN := hv.set r0.d (show (rdE kb b s).T ≠ 87 from (by show 162 ≠ 87; decide)) (rdE kb b (ycj ((s.num 1).2.num 8).2).2)
    have hvN := hvN.app [(⟨87, [.agg 87 [.int .i64 (IntKind.i64.wrap (s.num 1).1), .int .i64 (IntKind.i64.wrap ((s.num 1).2.num 8).1), eFs (ycj ((s.num 1).2.num 8).2).1]], .own⟩ : Entry), ⟨0, [], .hole⟩]
    obtain ⟨vA, wr, rd, p1, p2, p3, hds⟩ := ds_app (P := prog) (n := H.length + 1) (eh := ⟨0, [], .hole⟩) (.agg 87 [.int .i64 (IntKind.i64.wrap (s.num 1).1), .int .i64 (IntKind.i64.wrap ((s.num 1).2.num 8).1), eFs (ycj ((s.num 1).2.num 8).2).1]) (by
      have := qa9 (H.set kd (rdE kb b (ycj ((s.num 1).2.num 8).2).2)) [(⟨87, [.agg 87 [.int .i64 (IntKind.i64.wrap (s.num 1).1), .int .i64 (IntKind.i64.wrap ((s.num 1).2.num 8).1), eFs (ycj ((s.num 1).2.num 8).2).1]], .own⟩ : Entry), ⟨0, [], .hole⟩] 1
      rw [List.length_set] at this
      exact this) rfl hvN
    have hvt : tyB prog vA 22 = true := p1.ty sh_22
    generalize hHA : yay _ wr = HA at p1 p2 p3
    have aK : HA[kc + 1]? = some (⟨29, [.agg 29 [.int .i64 w0, v1, .nils, .int .i64 w3, .int .i64 w4, zL]], .own⟩ : Entry) := p3 _ _ (by rw [List.getElem?_append_left (by simpa using hkl)]; exact hk4 _) (by omega) (.inr (by show 29 ≠ 87; decide))
    have hkA := zac aK
    have hnH : h.length ≤ H.length := by have := zac g.t2; omega
    have gA := (g.to ((o0.num 1).num 8).row).keep (H' := HA) (T := 87) (by simpa using hnH) (by rw [p2]; simp) (.inl rfl) fun j e hj hc => p3 j e (by rw [List.getElem?_append_left (zac hj)]; exact hj) (by have := zac hj; simp at this; omega) hc
    have hlc := g.lc
    have gB := gA.put (k := kc + 1) (by omega) (by omega) (by omega) (by omega)
    have vB := (p1.up (Y := fun j => h.length ≤ j) fun j hj => hj.elim id fun hj => by omega).set aK (show 29 ≠ 87 by decide)
    have kB : ∀ E : Entry, (HA.set (kc + 1) E)[kc + 1]? = some E := fun E => List.getElem?_set_self hkA
    repeat' (first
    | simp (implicitDefEqProofs := false) only [push_cast, reduceIte, reduceCtorEq, Nat.reduceAdd, Nat.reduceSub, Nat.reduceEqDiff, Nat.reduceLT, Nat.reduceLeDiff, Nat.reduceBEq, Nat.reduceMul, Int.reduceLT, Int.reduceLE, Int.reduceEq, Int.reduceToNat, Int.reduceMul, Int.reduceNeg, Go.Proofs.Try.f20, c1, c2, la, e7, ybq, Bool.false_eq_true, if_false, Nat.zero_add, hdl, hbl, hcl, hkl, hk, zds, aK, hkA, hc0, pcE, yav, yax, zax, hvt, hHA, hc4, hk4, d1, d2, d3, d4, d5, d6, zaj hdl, yag hdl, za4 hdl, yaj hdl, zaj hbl, yag hbl, za4 hbl, yaj hbl, zaj hcl, yag hcl, za4 hcl, yaj hcl, zaj hkl, yag hkl, za4 hkl, yaj hkl, yad, zae, qac, zad, yab, qad, sst, qab, yaa, qaa, List.replicate_succ, List.drop_zero]
    | refine Sp2.f ?_ ?_
    | refine Spl.f ?_ ?_ <;> intro hb
    | refine yac rfl (fun b hb => ?_)
    | refine zaa (U := [[], [], [], [1], [2], [], [1, 4], [2, 5], [], [], [0, 1, 2, 3, 4, 5, 6, 7, 8], []]) (H := [⟨0, [], .hole⟩]) zaf (by kernel_rfl) (by decide +kernel) (by kernel_rfl) ?_
    | refine zaa (U := [[], [], [], [1], [], [3], [1, 4], [], [], [1, 4, 7], [], [1], [], [], []]) (H := [⟨0, [], .hole⟩, ⟨0, [], .hole⟩]) zaf (by kernel_rfl) (by decide +kernel) (by kernel_rfl) ?_
    | refine zaa (U := [[], [], [], [1], [], [3], [1, 4], [], [3, 6], [1, 4, 7], [], [], [1, 4, 7], [], [1], [], [], []]) (H := [⟨0, [], .hole⟩, ⟨0, [], .hole⟩]) zaf (by kernel_rfl) (by decide +kernel) (by kernel_rfl) ?_
    | refine zaa (U := [[], [], [], [], [], [3], [4], [], [3, 6], [4, 7], [], [], [4, 7], [], [], [], []]) (H := []) zaf (by kernel_rfl) (by decide +kernel) (by kernel_rfl) ?_
    | refine ycz (r0.more _) 1 (by omega) (by omega) ?_
    | refine ycz (r0.to (o0.num 1) _) 8 (by omega) (by omega) ?_
    | refine dk_row (r0.to ((o0.num 1).num 8) _) (hc3 _ _) ?_
    | refine hds _ _ _ _ _ ?_)
    · omega
    rw [hsn, hx]
    refine ⟨hlt, gB _, vA, ?_, fun h => by simp at h, rfl⟩
    rw [List.map_append]
    exact vB _
  · have hiN : i = N := by omega
    subst hiN
    have c1 : decide ((0 : Int) < (i : Int) - (i : Int)) = false := by simp
    generalize hPI : zag qdd i (s3.num 1).2 = pI at g hv hnI
    have hPIl : pI.1.length = i := by rw [← hPI]; exact ybb ..
    obtain ⟨fI, s5⟩ := pI
    simp only at g hv hnI hPIl
    have hn1 : FSpec prog 67 [.ref kd [0] 162, .int .i64 1] H fun r' h' => r' = .int .u64 (s5.num 1).1 ∧ h' = H.set kd (rdE kb b (s5.num 1).2) := c_RNum g.r 1 (by omega) (by omega)
    have g5 := g.num 1
    have hvN := hv.set g.r.d (show (rdE kb b s5).T ≠ 87 from (by show 162 ≠ 87; decide)) (rdE kb b (s5.num 1).2)
    have k8 : (H.set kd (rdE kb b (s5.num 1).2))[kc + 1]? = _ := (List.getElem?_set_ne hcd).trans hk
    have hc0 := g.c
    have hcl := zac hc0
    generalize H.set kd (rdE kb b (s5.num 1).2) = H1 at hn1 g5 hvN k8
    have hrgM := s5.num_range 1
    obtain ⟨M, hM⟩ : ∃ M : Nat, (M : Int) = (s5.num 1).1 := ⟨(s5.num 1).1.toNat, by omega⟩
    rw [← hM] at hn1 hrgM
    clear g hv hk
    repeat' (first
    | simp (implicitDefEqProofs := false) only [push_cast, reduceIte, reduceCtorEq, Nat.reduceAdd, Nat.reduceSub, Nat.reduceEqDiff, Nat.reduceLT, Nat.reduceLeDiff, Nat.reduceBEq, Nat.reduceMul, Int.reduceLT, Int.reduceLE, Int.reduceEq, Int.reduceToNat, Int.reduceMul, Int.reduceNeg, Go.Proofs.Try.f20, c1, hc0, hcl, pcE, yad, zae, qac, zad, yab, qad, sst, qab, yaa, qaa, List.replicate_succ, List.drop_zero]
    | refine Sp2.f ?_ ?_
    | refine Spl.f ?_ ?_ <;> intro hb
    | refine yac rfl (fun b hb => ?_)
    | refine zaa (U := [[], [], [], [1], [2], [], [1, 4], [2, 5], [], [], [0, 1, 2, 3, 4, 5, 6, 7, 8], []]) (H := [⟨0, [], .hole⟩]) zaf (by kernel_rfl) (by decide +kernel) (by kernel_rfl) ?_
    | refine zaa (U := [[], [], [], [1], [], [3], [1, 4], [], [], [1, 4, 7], [], [1], [], [], []]) (H := [⟨0, [], .hole⟩, ⟨0, [], .hole⟩]) zaf (by kernel_rfl) (by decide +kernel) (by kernel_rfl) ?_
    | refine zaa (U := [[], [], [], [1], [], [3], [1, 4], [], [3, 6], [1, 4, 7], [], [], [1, 4, 7], [], [1], [], [], []]) (H := [⟨0, [], .hole⟩, ⟨0, [], .hole⟩]) zaf (by kernel_rfl) (by decide +kernel) (by kernel_rfl) ?_
    | refine zaa (U := [[], [], [], [], [], [3], [4], [], [3, 6], [4, 7], [], [], [4, 7], [], [], [], []]) (H := []) zaf (by kernel_rfl) (by decide +kernel) (by kernel_rfl) ?_
    | refine yal hn1 ?_)
    refine qau (fun j env' H => j ≤ M ∧ GS h.length h kd kb kc b (zag ydc j (s5.num 1).2).2 z0 H ∧ (∃ v1 v2, View (fun j => h.length ≤ j) H 87 v1 (fI.map eI) ∧ NilOr v1 (fI.map eI) ∧ View (fun j => h.length ≤ j) H 89 v2 ((zag ydc j (s5.num 1).2).1.map eW) ∧ NilOr v2 ((zag ydc j (s5.num 1).2).1.map eW) ∧ H[kc + 1]? = some (⟨29, [.agg 29 [.int .i64 w0, v1, v2, .int .i64 w3, .int .i64 w4, zL]], .own⟩ : Entry) ∧
      env' = (fun a : Nat → AV => [(0, eBs b), (2, .ref h.length [0] 29), (3, .int .i64 0), (4, .ref kc [0] 105), (5, .fn 64 [.ref kc [0] 105]), (6, .ref (kc + 1) [0] 29), (7, a 7), (8, .int .u64 ((M : Int) - (j : Int))), (9, a 9), (10, a 10), (11, a 11), (28, a 28), (48, a 48), (68, a 68), (69, a 69), (105, a 105)]) (lk env'))) M ⟨Nat.zero_le _, g5, v1, .nils, hvN, hnI, .nil, fun _ => rfl, k8, ?_⟩ ?_
    · have e0 : (M : Int) - ((0 : Nat) : Int) = M := by simp
      rw [e0]; rfl
    clear g5 k8 hvN hnI H1 c1 hi hc0 hcl hn1
    clear a v1
    rintro j env H ⟨hj, g, v1, v2, hv1, hnI, hv2, hnW, hk, henv⟩
    refine ⟨hj, ?_⟩
    rw [henv]
    generalize lk env = a
    clear henv env
    rename_i iN
    by_cases hlt : j < M
    · have c1 : decide ((0 : Int) < (M : Int) - (j : Int)) = true := by simp; omega
      have c2 : IntKind.wrap .u64 ((M : Int) - (j : Int) - 1) = (M : Int) - ((j : Int) + 1) := by rw [zak]; omega
      have hsn := ybw ydc j (s5.num 1).2
      have hln := ybb ydc j (s5.num 1).2
      generalize (zag ydc j (s5.num 1).2).2 = s at g hsn
      generalize hfs : (zag ydc j (s5.num 1).2).1 = fs at hv2 hsn hln
      have la := hv2.lenAV
      rw [List.length_map] at la
      have e7 : decide (fs.length + 1 ≤ 4294967296) = true := by simp; omega
      have o0 := g.r.of
      have r0 := g.r
      have hdl := zac r0.d
      have hbl := zac r0.b
      have hcl := zac g.c
      have hkl := zac hk
      have hc0 := g.c
      have hkc1 : kc ≠ kd := g.dc
      have hkc2 : kc ≠ kb := g.bc
      have ne1 : (kd == kc + 1) = false := by simpa using hcd
      have hx : ydc s = (⟨IntKind.i64.wrap (s.num 1).1, IntKind.i64.wrap ((s.num 1).2.num 4).1, (((s.num 1).2.num 4).2.num 1).1 == 1, (ycj (((s.num 1).2.num 4).2.num 1).2).1⟩, (ycj (((s.num 1).2.num 4).2.num 1).2).2) := rfl
      have hc3 : ∀ (E : Entry) (l : List Entry), ((H.set kd E) ++ l)[kc]? = some (pcE kd) := fun E l => by rw [List.getElem?_append_left (by simpa using hcl), List.getElem?_set_ne (Ne.symm hkc1)]; exact hc0
      have hc4 : ∀ E : Entry, (H.set kd E)[kc]? = some (pcE kd) := fun E => by rw [List.getElem?_set_ne (Ne.symm hkc1)]; exact hc0
      have hk4 : ∀ E : Entry, (H.set kd E)[kc + 1]? = some (⟨29, [.agg 29 [.int .i64 w0, v1, v2, .int .i64 w3, .int .i64 w4, zL]], .own⟩ : Entry) := fun E => by rw [List.getElem?_set_ne hcd]; exact hk
      have d1 : decide (kc + 1 = kd) = false := by simp; omega
      have d2 : decide (kd = kc + 1) = false := by simp; omega
      have d3 : decide (kc = kd) = false := by simp; omega
      have d4 : decide (kd = kc) = false := by simp; omega
      have d5 : decide (kc + 1 = kb) = false := by simp; omega
      have d6 : decide (kb = kc + 1) = false := by simp; omega
      have hvN := hv2.set r0.d (show (rdE kb b s).T ≠ 89 from (by show 162 ≠ 89; decide)) (rdE kb b (ycj (((s.num 1).2.num 4).2.num 1).2).2)
      have hvN := hvN.app [(⟨89, [.agg 89 [.int .i64 (IntKind.i64.wrap (s.num 1).1), .int .i64 (IntKind.i64.wrap ((s.num 1).2.num 4).1), .bool ((((s.num 1).2.num 4).2.num 1).1 == 1), eFs (ycj (((s.num 1).2.num 4).2.num 1).2).1]], .own⟩ : Entry), ⟨0, [], .hole⟩]
      obtain ⟨vA, wr, rd, p1, p2, p3, hds⟩ := ds_app (P := prog) (n := H.length + 1) (eh := ⟨0, [], .hole⟩) (.agg 89 [.int .i64 (IntKind.i64.wrap (s.num 1).1), .int .i64 (IntKind.i64.wrap ((s.num 1).2.num 4).1), .bool ((((s.num 1).2.num 4).2.num 1).1 == 1), eFs (ycj (((s.num 1).2.num 4).2.num 1).2).1]) (by
        have := qa9 (H.set kd (rdE kb b (ycj (((s.num 1).2.num 4).2.num 1).2).2)) [(⟨89, [.agg 89 [.int .i64 (IntKind.i64.wrap (s.num 1).1), .int .i64 (IntKind.i64.wrap ((s.num 1).2.num 4).1), .bool ((((s.num 1).2.num 4).2.num 1).1 == 1), eFs (ycj (((s.num 1).2.num 4).2.num 1).2).1]], .own⟩ : Entry), ⟨0, [], .hole⟩] 1
        rw [List.length_set] at this
        exact this) rfl hvN
      have hvt : tyB prog vA 23 = true := p1.ty sh_23
      generalize hHA : yay _ wr = HA at p1 p2 p3
      have aK : HA[kc + 1]? = some (⟨29, [.agg 29 [.int .i64 w0, v1, v2, .int .i64 w3, .int .i64 w4, zL]], .own⟩ : Entry) := p3 _ _ (by rw [List.getElem?_append_left (by simpa using hkl)]; exact hk4 _) (by omega) (.inr (by show 29 ≠ 89; decide))
      have hkA := zac aK
      have hnH : h.length ≤ H.length := by have := zac g.t2; omega
      have gA := (g.to (((o0.num 1).num 4).num 1).row).keep (H' := HA) (T := 89) (by simpa using hnH) (by rw [p2]; simp) (.inr rfl) fun j e hj hc => p3 j e (by rw [List.getElem?_append_left (zac hj)]; exact hj) (by have := zac hj; simp at this; omega) hc
      have hlc := g.lc
      have gB := gA.put (k := kc + 1) (by omega) (by omega) (by omega) (by omega)
      have vB := (p1.up (Y := fun j => h.length ≤ j) fun j hj => hj.elim id fun hj => by omega).set aK (show 29 ≠ 89 by decide)
      have vI := (hv1.set r0.d (show (rdE kb b s).T ≠ 87 from (by show 162 ≠ 87; decide)) (rdE kb b (ycj (((s.num 1).2.num 4).2.num 1).2).2))
      have vI := View.mono (X' := fun j => h.length ≤ j) (h' := HA) vI (fun _ hj => hj) fun j es hj0 hj => p3 j _ (by rw [List.getElem?_append_left (zac hj)]; exact hj) (by have := zac hj; simp at this; omega) (.inr (by show 87 ≠ 89; decide))
      have vI := vI.set aK (show 29 ≠ 87 by decide) (⟨29, [.agg 29 [.int .i64 w0, v1, vA, .int .i64 w3, .int .i64 w4, zL]], .own⟩)
      have kB : ∀ E : Entry, (HA.set (kc + 1) E)[kc + 1]? = some E := fun E => List.getElem?_set_self hkA
      repeat' (first
    | simp (implicitDefEqProofs := false) only [push_cast, reduceIte, reduceCtorEq, Nat.reduceAdd, Nat.reduceSub, Nat.reduceEqDiff, Nat.reduceLT, Nat.reduceLeDiff, Nat.reduceBEq, Nat.reduceMul, Int.reduceLT, Int.reduceLE, Int.reduceEq, Int.reduceToNat, Int.reduceMul, Int.reduceNeg, Go.Proofs.Try.f20, c1, c2, la, e7, ybq, Bool.false_eq_true, if_false, Nat.zero_add, hdl, hbl, hcl, hkl, hk, zds, aK, hkA, hc0, pcE, yav, yax, zax, hvt, hHA, hc4, hk4, d1, d2, d3, d4, d5, d6, zaj hdl, yag hdl, za4 hdl, yaj hdl, zaj hbl, yag hbl, za4 hbl, yaj hbl, zaj hcl, yag hcl, za4 hcl, yaj hcl, zaj hkl, yag hkl, za4 hkl, yaj hkl, yad, zae, qac, zad, yab, qad, sst, qab, yaa, qaa, List.replicate_succ, List.drop_zero]
    | refine Sp2.f ?_ ?_
    | refine Spl.f ?_ ?_ <;> intro hb
    | refine yac rfl (fun b hb => ?_)
    | refine zaa (U := [[], [], [], [1], [2], [], [1, 4], [2, 5], [], [], [0, 1, 2, 3, 4, 5, 6, 7, 8], []]) (H := [⟨0, [], .hole⟩]) zaf (by kernel_rfl) (by decide +kernel) (by kernel_rfl) ?_
    | refine zaa (U := [[], [], [], [1], [], [3], [1, 4], [], [], [1, 4, 7], [], [1], [], [], []]) (H := [⟨0, [], .hole⟩, ⟨0, [], .hole⟩]) zaf (by kernel_rfl) (by decide +kernel) (by kernel_rfl) ?_
    | refine zaa (U := [[], [], [], [1], [], [3], [1, 4], [], [3, 6], [1, 4, 7], [], [], [1, 4, 7], [], [1], [], [], []]) (H := [⟨0, [], .hole⟩, ⟨0, [], .hole⟩]) zaf (by kernel_rfl) (by decide +kernel) (by kernel_rfl) ?_
    | refine zaa (U := [[], [], [], [], [], [3], [4], [], [3, 6], [4, 7], [], [], [4, 7], [], [], [], []]) (H := []) zaf (by kernel_rfl) (by decide +kernel) (by kernel_rfl) ?_
    | refine ycz (r0.more _) 1 (by omega) (by omega) ?_
    | refine ycz (r0.to (o0.num 1) _) 4 (by omega) (by omega) ?_
    | refine ycz (r0.to ((o0.num 1).num 4) _) 1 (by omega) (by omega) ?_
    | refine dk_row (r0.to (((o0.num 1).num 4).num 1) _) (hc3 _ _) ?_
    | refine hds _ _ _ _ _ ?_)
      · omega
      rw [hsn, hx]
      refine ⟨hlt, gB _, v1, vA, vI, hnI, ?_, fun h => by simp at h, rfl⟩
      rw [List.map_append]
      exact vB _
    · have hjM : j = M := by omega
      subst hjM
      have c1 : decide ((0 : Int) < (j : Int) - (j : Int)) = false := by simp
      generalize hPW : zag ydc j (s5.num 1).2 = pW at g hv2 hnW
      have hPWl : pW.1.length = j := by rw [← hPW]; exact ybb ..
      obtain ⟨fW, s6⟩ := pW
      simp only at g hv2 hnW hPWl
      repeat' (first
    | simp (implicitDefEqProofs := false) only [push_cast, reduceIte, reduceCtorEq, Nat.reduceAdd, Nat.reduceSub, Nat.reduceEqDiff, Nat.reduceLT, Nat.reduceLeDiff, Nat.reduceBEq, Nat.reduceMul, Int.reduceLT, Int.reduceLE, Int.reduceEq, Int.reduceToNat, Int.reduceMul, Int.reduceNeg, Go.Proofs.Try.f20, c1, yad, zae, qac, zad, yab, qad, sst, qab, yaa, qaa, List.replicate_succ, List.drop_zero]
    | refine Sp2.f ?_ ?_
    | refine Spl.f ?_ ?_ <;> intro hb
    | refine yac rfl (fun b hb => ?_)
    | refine zaa (U := [[], [], [], [1], [2], [], [1, 4], [2, 5], [], [], [0, 1, 2, 3, 4, 5, 6, 7, 8], []]) (H := [⟨0, [], .hole⟩]) zaf (by kernel_rfl) (by decide +kernel) (by kernel_rfl) ?_
    | refine zaa (U := [[], [], [], [1], [], [3], [1, 4], [], [], [1, 4, 7], [], [1], [], [], []]) (H := [⟨0, [], .hole⟩, ⟨0, [], .hole⟩]) zaf (by kernel_rfl) (by decide +kernel) (by kernel_rfl) ?_
    | refine zaa (U := [[], [], [], [1], [], [3], [1, 4], [], [3, 6], [1, 4, 7], [], [], [1, 4, 7], [], [1], [], [], []]) (H := [⟨0, [], .hole⟩, ⟨0, [], .hole⟩]) zaf (by kernel_rfl) (by decide +kernel) (by kernel_rfl) ?_
    | refine zaa (U := [[], [], [], [], [], [3], [4], [], [3, 6], [4, 7], [], [], [4, 7], [], [], [], []]) (H := []) zaf (by kernel_rfl) (by decide +kernel) (by kernel_rfl) ?_)
      refine qau (fun k env' H => k ≤ 4 ∧ GS h.length h kd kb kc b (gL s6 k).2 z0 H ∧ View (fun j => h.length ≤ j) H 87 v1 (fI.map eI) ∧ View (fun j => h.length ≤ j) H 89 v2 (fW.map eW) ∧ H[kc + 1]? = some (⟨29, [.agg 29 [.int .i64 w0, v1, v2, .int .i64 w3, .int .i64 w4, .agg 27 ((gL s6 k).1.map eR ++ List.replicate (4 - k) zR)]], .own⟩ : Entry) ∧
        env' = (fun a : Nat → AV => [(0, eBs b), (2, .ref h.length [0] 29), (3, .int .i64 0), (4, .ref kc [0] 105), (5, .fn 64 [.ref kc [0] 105]), (6, .ref (kc + 1) [0] 29), (7, a 7), (8, a 8), (9, a 9), (10, a 10), (11, a 11), (28, a 28), (48, a 48), (68, .int .i64 (k : Int)), (69, a 69), (105, a 105)]) (lk env')) 4 ⟨Nat.zero_le _, g, hv1, hv2, hk, ?_⟩ ?_
      · rfl
      clear g hk hv1 hv2 c1 hj
      clear a H
      rintro k env H ⟨hk4, g, hv1, hv2, hk, henv⟩
      refine ⟨hk4, ?_⟩
      rw [henv]
      generalize lk env = a
      clear henv env
      by_cases hlt : k < 4
      · have c1 : decide ((k : Int) < 4) = true := by simp; omega
        have hsn : gL s6 (k + 1) = ((gL s6 k).1 ++ [(getL1 k (gL s6 k).2).1], (getL1 k (gL s6 k).2).2) := rfl
        have hln := gL_len s6 k
        have hr4 : (0 ≤ (k : Int) ∧ (k : Int) < ((4 : Nat) : Int)) = True := by simp; omega
        have hr5 : (0 ≤ (k : Int) ∧ (k : Int) < 4) = True := by simp; omega
        have hrep : List.replicate (4 - k) zR = zR :: List.replicate (4 - (k + 1)) zR := by
          rw [show 4 - k = (4 - (k + 1)) + 1 by omega]; rfl
        rw [hrep] at hk
        generalize (gL s6 k).2 = s at g hsn
        generalize hfs : (gL s6 k).1 = fs at hk hsn hln
        have gp1 : (fs.map eR ++ zR :: List.replicate (4 - (k + 1)) zR)[k]? = some zR := by rw [List.getElem?_append_right (by simp [hln])]; simp [hln]
        have gp2 : ∀ y, (fs.map eR ++ zR :: List.replicate (4 - (k + 1)) zR).set k y = fs.map eR ++ y :: List.replicate (4 - (k + 1)) zR := fun y => by rw [List.set_append_right _ _ (by simp [hln])]; simp [hln]
        have o0 := g.r.of
        have r0 := g.r
        have hdl := zac r0.d
        have hbl := zac r0.b
        have hcl := zac g.c
        have hkl := zac hk
        have hc0 := g.c
        have hkc1 : kc ≠ kd := g.dc
        have hkc2 : kc ≠ kb := g.bc
        have hlc := g.lc
        have ne1 : (kd == kc + 1) = false := by simpa using hcd
        have hx : getL1 k s = (⟨k, IntKind.i64.wrap (s.num 4).1, IntKind.i64.wrap ((s.num 4).2.num 1).1, (ycj (((s.num 4).2.num 1).2.num 1).2).1, (((s.num 4).2.num 1).2.num 1).1 == 1⟩, (ycj (((s.num 4).2.num 1).2.num 1).2).2) := rfl
        have hc4 : ∀ E : Entry, (H.set kd E)[kc]? = some (pcE kd) := fun E => by rw [List.getElem?_set_ne (Ne.symm hkc1)]; exact hc0
        have hc3 : ∀ (E : Entry) (l : List Entry), ((H.set kd E) ++ l)[kc]? = some (pcE kd) := fun E l => by rw [List.getElem?_append_left (by simpa using hcl), List.getElem?_set_ne (Ne.symm hkc1)]; exact hc0
        have hk5 : ∀ E : Entry, (H.set kd E)[kc + 1]? = _ := fun E => (List.getElem?_set_ne hcd).trans hk
        have d1 : decide (kc + 1 = kd) = false := by simp; omega
        have d2 : decide (kd = kc + 1) = false := by simp; omega
        have d3 : decide (kc = kd) = false := by simp; omega
        have d4 : decide (kd = kc) = false := by simp; omega
        have d5 : decide (kc + 1 = kb) = false := by simp; omega
        have d6 : decide (kb = kc + 1) = false := by simp; omega
        have gB := (g.to (((o0.num 4).num 1).num 1).row).put (k := kc + 1) (by omega) (by omega) (by omega) (by omega)
        have vI := (hv1.set r0.d (show (rdE kb b s).T ≠ 87 from (by show 162 ≠ 87; decide)) (rdE kb b (ycj (((s.num 4).2.num 1).2.num 1).2).2)).set (hk5 _) (show 29 ≠ 87 by decide)
        have vW := (hv2.set r0.d (show (rdE kb b s).T ≠ 89 from (by show 162 ≠ 89; decide)) (rdE kb b (ycj (((s.num 4).2.num 1).2.num 1).2).2)).set (hk5 _) (show 29 ≠ 89 by decide)
        repeat' (first
    | simp (implicitDefEqProofs := false) only [push_cast, reduceIte, reduceCtorEq, Nat.reduceAdd, Nat.reduceSub, Nat.reduceEqDiff, Nat.reduceLT, Nat.reduceLeDiff, Nat.reduceBEq, Nat.reduceMul, Int.reduceLT, Int.reduceLE, Int.reduceEq, Int.reduceToNat, Int.reduceMul, Int.reduceNeg, Go.Proofs.Try.f20, c1, qae (show k < 9223372036854775807 by omega), hr4, hr5, qbz, gp1, gp2, ybq, Bool.false_eq_true, if_false, Nat.zero_add, hdl, hbl, hcl, hkl, hk, zds, hc0, pcE, yav, yax, zax, hc4, hk5, d1, d2, d3, d4, d5, d6, Int.toNat_natCast, zaj hdl, yag hdl, za4 hdl, yaj hdl, zaj hbl, yag hbl, za4 hbl, yaj hbl, zaj hcl, yag hcl, za4 hcl, yaj hcl, zaj hkl, yag hkl, za4 hkl, yaj hkl, yad, zae, qac, zad, yab, qad, sst, qab, yaa, qaa, List.replicate_succ, List.drop_zero]
    | refine Sp2.f ?_ ?_
    | refine Spl.f ?_ ?_ <;> intro hb
    | refine yac rfl (fun b hb => ?_)
    | refine zaa (U := [[], [], [], [1], [2], [], [1, 4], [2, 5], [], [], [0, 1, 2, 3, 4, 5, 6, 7, 8], []]) (H := [⟨0, [], .hole⟩]) zaf (by kernel_rfl) (by decide +kernel) (by kernel_rfl) ?_
    | refine zaa (U := [[], [], [], [1], [], [3], [1, 4], [], [], [1, 4, 7], [], [1], [], [], []]) (H := [⟨0, [], .hole⟩, ⟨0, [], .hole⟩]) zaf (by kernel_rfl) (by decide +kernel) (by kernel_rfl) ?_
    | refine zaa (U := [[], [], [], [1], [], [3], [1, 4], [], [3, 6], [1, 4, 7], [], [], [1, 4, 7], [], [1], [], [], []]) (H := [⟨0, [], .hole⟩, ⟨0, [], .hole⟩]) zaf (by kernel_rfl) (by decide +kernel) (by kernel_rfl) ?_
    | refine zaa (U := [[], [], [], [], [], [3], [4], [], [3, 6], [4, 7], [], [], [4, 7], [], [], [], []]) (H := []) zaf (by kernel_rfl) (by decide +kernel) (by kernel_rfl) ?_
    | refine ycz r0 4 (by omega) (by omega) ?_
    | refine ycz (r0.at (o0.num 4)) 1 (by omega) (by omega) ?_
    | refine ycz (r0.at ((o0.num 4).num 1)) 1 (by omega) (by omega) ?_
    | refine dk_row (r0.at (((o0.num 4).num 1).num 1)) (hc4 _) ?_)
        rw [hsn, hx]
        refine ⟨by omega, gB _, vI _, vW _, ?_⟩
        simp only [List.map_append, List.map_cons, List.map_nil, List.append_assoc, List.cons_append, List.nil_append, eR]
      · have hk4' : k = 4 := by omega
        subst hk4'
        clear hk4 hlt
        have c1 : decide (((4 : Nat) : Int) < 4) = false := by decide
        have hlL := gL_len s6 4
        have hparse : parseS ⟨b, false⟩ = (⟨w0, fI, fW, w3, w4, (gL s6 4).1⟩, (gL s6 4).2) := by
          simp only [parseS, ← hs3, ← hN, Int.toNat_natCast, hPI, ← hM, hPW, gL_4, hw0, hw3, hw4]
        have sI := yb6 (f := qdd) (p := fun x : Itm => x.T.length ≤ 4294967296) (fun s => by have := rowR_len ((s.num 1).2.num 8).2; simp only [qdd]; omega) i (s3.num 1).2
        have sW := yb6 (f := ydc) (p := fun x : Wtr => x.P.length ≤ 4294967296) (fun s => by have := rowR_len (((s.num 1).2.num 4).2.num 1).2; simp only [ydc]; omega) j (s5.num 1).2
        rw [hPI] at sI
        rw [hPW] at sW
        have hsm0 : (⟨w0, fI, fW, w3, w4, (gL s6 4).1⟩ : Spc).Small := ⟨⟨by show fI.length ≤ _; omega, sI⟩, ⟨by show fW.length ≤ _; omega, sW⟩, ⟨by show (gL s6 4).1.length ≤ _; omega, gL_all s6 4⟩, hlL⟩
        have hget : ydm b = (if (gL s6 4).2.fine = true ∧ zbw ⟨w0, fI, fW, w3, w4, (gL s6 4).1⟩ = true ∧ qby ⟨w0, fI, fW, w3, w4, (gL s6 4).1⟩ = b then some ⟨w0, fI, fW, w3, w4, (gL s6 4).1⟩ else none) := by
          rw [ydm, hparse]
        have hk : H[kc + 1]? = some (⟨29, [.agg 29 [.int .i64 w0, v1, v2, .int .i64 w3, .int .i64 w4, eL (gL s6 4).1]], .own⟩ : Entry) := by
          rw [hk]; simp [eL]
        generalize (gL s6 4).1 = fL at hk hlL hparse hsm0 hget
        generalize (gL s6 4).2 = s7 at g hparse hget
        obtain ⟨p, hp⟩ : ∃ p, p = (⟨w0, fI, fW, w3, w4, fL⟩ : Spc) := ⟨_, rfl⟩
        rw [← hp] at hsm0 hget
        have hnH : h.length ≤ H.length := by have := zac g.t2; omega
        obtain ⟨H1, y1, l1, e1, f1⟩ := hv1.give wfp hnI
        have g1 := g.keep (T := 87) hnH (by rw [l1]; exact Nat.le_refl _) (.inl rfl) e1
        have k1 := e1 _ _ hk (.inr (by show 29 ≠ 87; decide))
        have hv2' := View.mono hv2 (fun _ h => h) fun j es _ hj => e1 j _ hj (.inr (by show 89 ≠ 87; decide))
        obtain ⟨H2, y2, l2, e2, f2⟩ := View.give wfp hv2' hnW
        have g2 := g1.keep (T := 89) (by rw [l1]; exact hnH) (by rw [l2]; exact Nat.le_refl _) (.inr rfl) e2
        have k2 := e2 _ _ k1 (.inr (by show 29 ≠ 89; decide))
        have y1 := y1.mono (fun _ h => h) fun j es _ hj => e2 j _ hj (.inr (by show 87 ≠ 89; decide))
        obtain ⟨x1, q1⟩ := y1.ex (U := 22) sh_22
        obtain ⟨x2, q2⟩ := y2.ex (U := 23) sh_23
        have hput : FSpec prog 15 [.agg 29 [.int .i64 w0, x1, x2, .int .i64 w3, .int .i64 w4, eL fL]] H (fun r' h' => r' = .tup [eBs (if zbw p = true then qby p else []), .int .i64 (if zbw p = true then 0 else 1)] ∧ h' = H2) :=
          f1 _ _ _ (f2 _ _ _ (FSpec.read wfp (args' := [eS p]) (by
            simp only [List.map_cons, List.map_nil, bz_aggE, bz_intE, q1.bz, q2.bz, bz_dat 3 _ (eL_dat fL), hp]; rfl) (c_sPut p hsm0)))
        have w1 : wk prog 5 22 v1 = x1 := q1.wk 4
        have w2 : wk prog 5 23 v2 = x2 := q2.wk 4
        have t1 := q1.ty
        have t2 := q2.ty
        have p1 := q1.pl
        have p2 := q2.pl
        have hEnd := c_REnd g2.r
        have hc0 := g2.c
        have hcl := zac hc0
        have hcl' : kc < H.length := by rw [← l1, ← l2]; exact hcl
        have hkl := zac k2
        have hT2 := g2.t2
        have hlT := zac hT2
        have hkl0 := zac hk
        have g3 := g2.to g2.r.of
        have hT3 := g3.t2
        have m1 : zbw p = true → (qby p).length ≤ 4294967296 := fun hm => by have := putS_len hm; omega
        have k3 := (List.getElem?_set_ne hcd (a := rdE kb b s7)).trans k2
        have hEnd : FSpec prog 68 [.ref kd [0] 162] H2 fun r' h' => r' = .int .i64 (if s7.fine = true then 0 else 2) ∧ h' = H2.set kd (rdE kb b s7) := hEnd
        have b20 : ((2 : Int) != 0) = true := rfl
        have b10 : ((1 : Int) != 0) = true := rfl
        have b00 : ((0 : Int) != 0) = false := rfl
        cases hfi : s7.fine <;> cases hma : zbw p <;> rw [hfi] at hEnd <;> rw [hma] at hput
        · have hg : ydm b = none := by rw [hget, if_neg (by rw [hfi]; simp)]
          rw [hg]
          repeat' (first
    | simp (implicitDefEqProofs := false) only [push_cast, reduceIte, reduceCtorEq, Nat.reduceAdd, Nat.reduceSub, Nat.reduceEqDiff, Nat.reduceLT, Nat.reduceLeDiff, Nat.reduceBEq, Nat.reduceMul, Int.reduceLT, Int.reduceLE, Int.reduceEq, Int.reduceToNat, Int.reduceMul, Int.reduceNeg, Go.Proofs.Try.f20, qbz, hk, hkl0, w1, w2, t1, t2, p1, p2, eL_wk, qbq, hc0, hcl, k2, hkl, k3, hT2, hT3, hlT, pcE, zas, qat, yat, b20, b10, b00, yad, zae, qac, zad, yab, qad, sst, qab, yaa, qaa, List.replicate_succ, List.drop_zero]
    | refine Sp2.f ?_ ?_
    | refine Spl.f ?_ ?_ <;> intro hb
    | refine yac rfl (fun b hb => ?_)
    | refine zaa (U := [[], [], [], [1], [2], [], [1, 4], [2, 5], [], [], [0, 1, 2, 3, 4, 5, 6, 7, 8], []]) (H := [⟨0, [], .hole⟩]) zaf (by kernel_rfl) (by decide +kernel) (by kernel_rfl) ?_
    | refine zaa (U := [[], [], [], [1], [], [3], [1, 4], [], [], [1, 4, 7], [], [1], [], [], []]) (H := [⟨0, [], .hole⟩, ⟨0, [], .hole⟩]) zaf (by kernel_rfl) (by decide +kernel) (by kernel_rfl) ?_
    | refine zaa (U := [[], [], [], [1], [], [3], [1, 4], [], [3, 6], [1, 4, 7], [], [], [1, 4, 7], [], [1], [], [], []]) (H := [⟨0, [], .hole⟩, ⟨0, [], .hole⟩]) zaf (by kernel_rfl) (by decide +kernel) (by kernel_rfl) ?_
    | refine zaa (U := [[], [], [], [], [], [3], [4], [], [3, 6], [4, 7], [], [], [4, 7], [], [], [], []]) (H := []) zaf (by kernel_rfl) (by decide +kernel) (by kernel_rfl) ?_
    | refine yal hput ?_
    | refine yal hEnd ?_)
          exact qdt _ _ g3.tk _
        · have hg : ydm b = none := by rw [hget, if_neg (by rw [hfi]; simp)]
          rw [hg]
          repeat' (first
    | simp (implicitDefEqProofs := false) only [push_cast, reduceIte, reduceCtorEq, Nat.reduceAdd, Nat.reduceSub, Nat.reduceEqDiff, Nat.reduceLT, Nat.reduceLeDiff, Nat.reduceBEq, Nat.reduceMul, Int.reduceLT, Int.reduceLE, Int.reduceEq, Int.reduceToNat, Int.reduceMul, Int.reduceNeg, Go.Proofs.Try.f20, qbz, hk, hkl0, w1, w2, t1, t2, p1, p2, eL_wk, qbq, hc0, hcl, k2, hkl, k3, hT2, hT3, hlT, pcE, zas, qat, yat, b20, b10, b00, yad, zae, qac, zad, yab, qad, sst, qab, yaa, qaa, List.replicate_succ, List.drop_zero]
    | refine Sp2.f ?_ ?_
    | refine Spl.f ?_ ?_ <;> intro hb
    | refine yac rfl (fun b hb => ?_)
    | refine zaa (U := [[], [], [], [1], [2], [], [1, 4], [2, 5], [], [], [0, 1, 2, 3, 4, 5, 6, 7, 8], []]) (H := [⟨0, [], .hole⟩]) zaf (by kernel_rfl) (by decide +kernel) (by kernel_rfl) ?_
    | refine zaa (U := [[], [], [], [1], [], [3], [1, 4], [], [], [1, 4, 7], [], [1], [], [], []]) (H := [⟨0, [], .hole⟩, ⟨0, [], .hole⟩]) zaf (by kernel_rfl) (by decide +kernel) (by kernel_rfl) ?_
    | refine zaa (U := [[], [], [], [1], [], [3], [1, 4], [], [3, 6], [1, 4, 7], [], [], [1, 4, 7], [], [1], [], [], []]) (H := [⟨0, [], .hole⟩, ⟨0, [], .hole⟩]) zaf (by kernel_rfl) (by decide +kernel) (by kernel_rfl) ?_
    | refine zaa (U := [[], [], [], [], [], [3], [4], [], [3, 6], [4, 7], [], [], [4, 7], [], [], [], []]) (H := []) zaf (by kernel_rfl) (by decide +kernel) (by kernel_rfl) ?_
    | refine yal hput ?_
    | refine yal hEnd ?_)
          exact qdt _ _ g3.tk _
        · have hg : ydm b = none := by rw [hget, if_neg (by rw [hma]; simp)]
          rw [hg]
          repeat' (first
    | simp (implicitDefEqProofs := false) only [push_cast, reduceIte, reduceCtorEq, Nat.reduceAdd, Nat.reduceSub, Nat.reduceEqDiff, Nat.reduceLT, Nat.reduceLeDiff, Nat.reduceBEq, Nat.reduceMul, Int.reduceLT, Int.reduceLE, Int.reduceEq, Int.reduceToNat, Int.reduceMul, Int.reduceNeg, Go.Proofs.Try.f20, qbz, hk, hkl0, w1, w2, t1, t2, p1, p2, eL_wk, qbq, hc0, hcl, k2, hkl, k3, hT2, hT3, hlT, pcE, zas, qat, yat, b20, b10, b00, yad, zae, qac, zad, yab, qad, sst, qab, yaa, qaa, List.replicate_succ, List.drop_zero]
    | refine Sp2.f ?_ ?_
    | refine Spl.f ?_ ?_ <;> intro hb
    | refine yac rfl (fun b hb => ?_)
    | refine zaa (U := [[], [], [], [1], [2], [], [1, 4], [2, 5], [], [], [0, 1, 2, 3, 4, 5, 6, 7, 8], []]) (H := [⟨0, [], .hole⟩]) zaf (by kernel_rfl) (by decide +kernel) (by kernel_rfl) ?_
    | refine zaa (U := [[], [], [], [1], [], [3], [1, 4], [], [], [1, 4, 7], [], [1], [], [], []]) (H := [⟨0, [], .hole⟩, ⟨0, [], .hole⟩]) zaf (by kernel_rfl) (by decide +kernel) (by kernel_rfl) ?_
    | refine zaa (U := [[], [], [], [1], [], [3], [1, 4], [], [3, 6], [1, 4, 7], [], [], [1, 4, 7], [], [1], [], [], []]) (H := [⟨0, [], .hole⟩, ⟨0, [], .hole⟩]) zaf (by kernel_rfl) (by decide +kernel) (by kernel_rfl) ?_
    | refine zaa (U := [[], [], [], [], [], [3], [4], [], [3, 6], [4, 7], [], [], [4, 7], [], [], [], []]) (H := []) zaf (by kernel_rfl) (by decide +kernel) (by kernel_rfl) ?_
    | refine yal hput ?_
    | refine yal hEnd ?_)
          exact qdt _ _ g3.tk _
        · have hEq := c_Equal_B (qby p) b (m1 hma) (by omega)
          cases hq : qby p == b
          · rw [hq] at hEq
            have hg : ydm b = none := by rw [hget, if_neg (by rintro ⟨_, _, e⟩; rw [e] at hq; simp at hq)]
            rw [hg]
            repeat' (first
    | simp (implicitDefEqProofs := false) only [push_cast, reduceIte, reduceCtorEq, Nat.reduceAdd, Nat.reduceSub, Nat.reduceEqDiff, Nat.reduceLT, Nat.reduceLeDiff, Nat.reduceBEq, Nat.reduceMul, Int.reduceLT, Int.reduceLE, Int.reduceEq, Int.reduceToNat, Int.reduceMul, Int.reduceNeg, Go.Proofs.Try.f20, qbz, hk, hkl0, w1, w2, t1, t2, p1, p2, eL_wk, qbq, hc0, hcl, k2, hkl, k3, hT2, hT3, hlT, pcE, zas, qat, yat, b20, b10, b00, yad, zae, qac, zad, yab, qad, sst, qab, yaa, qaa, List.replicate_succ, List.drop_zero]
    | refine Sp2.f ?_ ?_
    | refine Spl.f ?_ ?_ <;> intro hb
    | refine yac rfl (fun b hb => ?_)
    | refine zaa (U := [[], [], [], [1], [2], [], [1, 4], [2, 5], [], [], [0, 1, 2, 3, 4, 5, 6, 7, 8], []]) (H := [⟨0, [], .hole⟩]) zaf (by kernel_rfl) (by decide +kernel) (by kernel_rfl) ?_
    | refine zaa (U := [[], [], [], [1], [], [3], [1, 4], [], [], [1, 4, 7], [], [1], [], [], []]) (H := [⟨0, [], .hole⟩, ⟨0, [], .hole⟩]) zaf (by kernel_rfl) (by decide +kernel) (by kernel_rfl) ?_
    | refine zaa (U := [[], [], [], [1], [], [3], [1, 4], [], [3, 6], [1, 4, 7], [], [], [1, 4, 7], [], [1], [], [], []]) (H := [⟨0, [], .hole⟩, ⟨0, [], .hole⟩]) zaf (by kernel_rfl) (by decide +kernel) (by kernel_rfl) ?_
    | refine zaa (U := [[], [], [], [], [], [3], [4], [], [3, 6], [4, 7], [], [], [4, 7], [], [], [], []]) (H := []) zaf (by kernel_rfl) (by decide +kernel) (by kernel_rfl) ?_
    | refine yal hput ?_
    | refine yal hEnd ?_
    | refine zay hEq ?_)
            exact qdt _ _ g3.tk _
          · rw [hq] at hEq
            have hg : ydm b = some p := by rw [hget, if_pos ⟨hfi, hma, eq_of_beq hq⟩]
            rw [hg]
            repeat' (first
    | simp (implicitDefEqProofs := false) only [push_cast, reduceIte, reduceCtorEq, Nat.reduceAdd, Nat.reduceSub, Nat.reduceEqDiff, Nat.reduceLT, Nat.reduceLeDiff, Nat.reduceBEq, Nat.reduceMul, Int.reduceLT, Int.reduceLE, Int.reduceEq, Int.reduceToNat, Int.reduceMul, Int.reduceNeg, Go.Proofs.Try.f20, qbz, hk, hkl0, w1, w2, t1, t2, p1, p2, eL_wk, qbq, hc0, hcl, k2, hkl, k3, hT2, hT3, hlT, pcE, zas, qat, yat, b20, b10, b00, yad, zae, qac, zad, yab, qad, sst, qab, yaa, qaa, List.replicate_succ, List.drop_zero]
    | refine Sp2.f ?_ ?_
    | refine Spl.f ?_ ?_ <;> intro hb
    | refine yac rfl (fun b hb => ?_)
    | refine zaa (U := [[], [], [], [1], [2], [], [1, 4], [2, 5], [], [], [0, 1, 2, 3, 4, 5, 6, 7, 8], []]) (H := [⟨0, [], .hole⟩]) zaf (by kernel_rfl) (by decide +kernel) (by kernel_rfl) ?_
    | refine zaa (U := [[], [], [], [1], [], [3], [1, 4], [], [], [1, 4, 7], [], [1], [], [], []]) (H := [⟨0, [], .hole⟩, ⟨0, [], .hole⟩]) zaf (by kernel_rfl) (by decide +kernel) (by kernel_rfl) ?_
    | refine zaa (U := [[], [], [], [1], [], [3], [1, 4], [], [3, 6], [1, 4, 7], [], [], [1, 4, 7], [], [1], [], [], []]) (H := [⟨0, [], .hole⟩, ⟨0, [], .hole⟩]) zaf (by kernel_rfl) (by decide +kernel) (by kernel_rfl) ?_
    | refine zaa (U := [[], [], [], [], [], [3], [4], [], [3, 6], [4, 7], [], [], [4, 7], [], [], [], []]) (H := []) zaf (by kernel_rfl) (by decide +kernel) (by kernel_rfl) ?_
    | refine yal hput ?_
    | refine yal hEnd ?_
    | refine zay hEq ?_)
            rw [hp]
            exact get_good g3.tk (y1.set g2.r.d (show (rdE kb b s7).T ≠ 87 from (by show 162 ≠ 87; decide)) _) (y2.set g2.r.d (show (rdE kb b s7).T ≠ 89 from (by show 162 ≠ 89; decide)) _) hT3 _
end Go.Abs
set_option linter.all false
set_option maxRecDepth 100000
set_option maxHeartbeats 0
namespace Go.Abs
open Go
open Go.Proofs.Try (prog)
theorem eH_wk (n : Nat) (x : List UInt8) : wk prog (n + 2) 36 (eH x) = eH x := by
  rw [eH, yb2, if_pos rfl, sh_36, zcr]
  congr 1
  rw [List.map_map]
  exact List.map_congr_left fun a _ => qbu ..
def digS (s : Spc) : List UInt8 := if zbw s = true then qdx (statB ++ qby s) else List.replicate 32 0
theorem c_Digest (s : Spc) (hs : s.Small) : Fn prog 16 [eS s] (.tup [eH (digS s), .int .i64 (if zbw s = true then 0 else 1)]) := by
  have hp := c_sPut s hs
  have b10 : ((1 : Int) != 0) = true := rfl
  have b00 : ((0 : Int) != 0) = false := rfl
  refine ybm (R := fun r => r = .tup [eH (digS s), .int .i64 (if zbw s = true then 0 else 1)]) [36, 3] (fn_tup wfp fun h => ?_) fun r hr => ⟨_, hr, ⟨eH_ty _, by rw [zc6, sh_3]; rfl, trivial⟩, by simp only [wks, eH_wk, qbu]⟩
  have fin : ∀ (x : List UInt8) (c : Int) (H : List Entry), ∃ l, AV.tup [eH x, .int .i64 c] = .tup l ∧ yas h.length (rzL H h.length l) = true ∧ AV.tup (rzL H h.length l) = .tup [eH x, .int .i64 c] := fun x c H => by
    have e : rzL H h.length [eH x, .int .i64 c] = [eH x, .int .i64 c] := by simp only [rzL, ybr _ (zcg x), rz]
    exact ⟨_, rfl, by rw [e]; simp only [yas, qan _ (zcg x), zan, Bool.and_self], by rw [e]⟩
  refine frun_16 rfl ?_
  cases hm : zbw s <;> rw [hm] at hp <;> simp only [digS, hm]
  · repeat' (first
    | simp (implicitDefEqProofs := false) only [push_cast, reduceIte, reduceCtorEq, Nat.reduceAdd, Nat.reduceSub, Nat.reduceEqDiff, Nat.reduceLT, Nat.reduceLeDiff, Nat.reduceBEq, Nat.reduceMul, Int.reduceLT, Int.reduceLE, Int.reduceEq, Int.reduceToNat, Int.reduceMul, Int.reduceNeg, Go.Proofs.Try.f16, qcp, zcq, ycp, eH_ty, ydv, b10, b00, qbq, yad, zae, qac, zad, yab, qad, sst, qab, yaa, qaa, List.replicate_succ, List.drop_zero]
    | refine Sp2.f ?_ ?_
    | refine Spl.f ?_ ?_ <;> intro hb
    | refine yac rfl (fun b hb => ?_)
    | refine zay hp ?_)
    exact fin (List.replicate 32 0) 1 _
  · have ho := c_OfBytes (qby s) (by have := putS_len hm; omega)
    repeat' (first
    | simp (implicitDefEqProofs := false) only [push_cast, reduceIte, reduceCtorEq, Nat.reduceAdd, Nat.reduceSub, Nat.reduceEqDiff, Nat.reduceLT, Nat.reduceLeDiff, Nat.reduceBEq, Nat.reduceMul, Int.reduceLT, Int.reduceLE, Int.reduceEq, Int.reduceToNat, Int.reduceMul, Int.reduceNeg, Go.Proofs.Try.f16, qcp, zcq, ycp, zas, qat, yat, eH_ty, ydv, b10, b00, qbq, yad, zae, qac, zad, yab, qad, sst, qab, yaa, qaa, List.replicate_succ, List.drop_zero]
    | refine Sp2.f ?_ ?_
    | refine Spl.f ?_ ?_ <;> intro hb
    | refine yac rfl (fun b hb => ?_)
    | refine zay hp ?_
    | refine zay ho ?_)
    exact fin (qdx (statB ++ qby s)) 0 _
theorem newS_small9 (r w : Int) : (qc2 r w).Small := ⟨⟨by simp [qc2], by simp [qc2]⟩, ⟨by simp [qc2], by simp [qc2]⟩, ⟨by simp [qc2], by simp [qc2]⟩, rfl⟩
theorem newS_in (r w : Int) : (qc2 r w).In := ⟨by simp [qc2], by simp [qc2], by simp [qc2]⟩
def S16 : Spc := ⟨0, [], [], 16, 7, (qc2 15 7).Last⟩
theorem t9a : zbw (qc2 15 7) = true := by kernel_rfl
theorem t9b : zbw S16 = false := by kernel_rfl
theorem t9c : (qby (qc2 15 7)).length = 52 := by kernel_rfl
theorem t9d : ydm [] = none := by kernel_rfl
theorem t9e : ydm (qby (qc2 15 7)) = some (qc2 15 7) := getS_put t9a (newS_in 15 7)
theorem S16_small : S16.Small := ⟨⟨by simp [S16], by simp [S16]⟩, ⟨by simp [S16], by simp [S16]⟩, ⟨by simp [S16, qc2], by simp [S16, qc2]⟩, rfl⟩
theorem c_told9 : Fn prog 13 [] (.bool true) := by
  have p1 := c_sPut (qc2 15 7) (newS_small9 15 7)
  have p2 := c_sPut S16 S16_small
  have g1 := c_sGet (qby (qc2 15 7)) (by rw [t9c]; decide)
  have g2 := c_sGet [] (by decide)
  have d1 := c_Digest (qc2 15 7) (newS_small9 15 7)
  have o1 := c_OfBytes (qby (qc2 15 7)) (by rw [t9c]; decide)
  have hq := eqH_self (qdx (statB ++ qby (qc2 15 7)))
  have hd : digS (qc2 15 7) = qdx (statB ++ qby (qc2 15 7)) := by rw [digS, if_pos t9a]
  have hl := t9c
  have sN : setP (eS (qc2 15 7)) [3] (.int .i64 16) = some (eS S16) := rfl
  have gW : qbg (eS (qc2 15 7)) [4] = some (.int .i64 7) := rfl
  rw [t9e] at g1
  rw [t9d] at g2
  rw [t9a] at p1 d1
  rw [t9b] at p2
  rw [hd] at d1
  have hL : zcp prog 30 (eBs (qby (qc2 15 7))) = .ret (.int .i64 52) [] := by rw [eBs, ybt, List.length_map, t9c]; rfl
  generalize qby (qc2 15 7) = B at hL p1 g1 d1 o1 hq hl
  generalize qdx (statB ++ B) = D at d1 o1 hq
  refine run_13 rfl fun h => ?_
  repeat' (first
    | simp (implicitDefEqProofs := false) only [push_cast, reduceIte, reduceCtorEq, Nat.reduceAdd, Nat.reduceSub, Nat.reduceEqDiff, Nat.reduceLT, Nat.reduceLeDiff, Nat.reduceBEq, Nat.reduceMul, Int.reduceLT, Int.reduceLE, Int.reduceEq, Int.reduceToNat, Int.reduceMul, Int.reduceNeg, Go.Proofs.Try.f13, qcp, zcq, ycp, zas, qat, yat, eH_ty, ydv, qbq, sN, gW, hq, hL, eH, yad, zae, qac, zad, yab, qad, sst, qab, yaa, qaa, List.replicate_succ, List.drop_zero]
    | refine Sp2.f ?_ ?_
    | refine Spl.f ?_ ?_ <;> intro hb
    | refine yac rfl (fun b hb => ?_)
    | refine zaa (U := [[], [], [], [], [], [], [], [], [], [], [], [], [], [], [], [], [], [], [], [], [], [], [], [21], [], [], [], [], [], [], [], [], [], [], []]) (H := []) zaf (by kernel_rfl) (by decide +kernel) (by kernel_rfl) ?_
    | refine zay (c_New 15 7) ?_
    | refine zay p1 ?_
    | refine zay p2 ?_
    | refine zay g1 ?_
    | refine zay g2 ?_
    | refine zay d1 ?_
    | refine zay o1 ?_
    | refine zaq o1 ?_)
end Go.Abs
