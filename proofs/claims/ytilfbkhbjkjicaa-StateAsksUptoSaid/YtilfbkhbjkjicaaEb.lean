/- Eb: a part of the proofs about the tuple space and its bytes. -/
import Derived.Test.YtilfbkhbjkjicaaTg
import Derived.Test.YtilfbkhbjkjicaaSf
set_option linter.all false
set_option maxRecDepth 100000
set_option maxHeartbeats 0
namespace Go.Abs
open Go
open Go.Proofs.Try (prog)
theorem c_sFields (l : List Fld) (hl : l.length ≤ 4294967296) : Fn prog 55 [eFs l] (eBs (yah l)) := by
  refine run_55 rfl fun h => ?_
  repeat' (first
    | simp (implicitDefEqProofs := false) only [push_cast, reduceIte, reduceCtorEq, Nat.reduceAdd, Nat.reduceSub, Nat.reduceEqDiff, Nat.reduceLT, Nat.reduceLeDiff, Nat.reduceBEq, Nat.reduceMul, Int.reduceLT, Int.reduceLE, Int.reduceEq, Int.reduceToNat, Int.reduceMul, Int.reduceNeg, Go.Proofs.Try.f55, yav, yax, zax, zas, qat, yat, yad, zae, qac, zad, yab, qad, sst, qab, yaa, qaa, List.replicate_succ, List.drop_zero]
    | refine Sp2.f ?_ ?_
    | refine Spl.f ?_ ?_ <;> intro hb
    | refine yac rfl (fun b hb => ?_)
    | refine zay (c_tPut l hl) ?_)
  exact ⟨qat _, by rw [ybr _ (zbd _)]; exact qan _ (zbd _), ybr _ (zbd _)⟩
theorem c_sBit (b : Bool) : Fn prog 56 [.bool b] (.int .u64 (zdp b)) := by
  refine run_56 rfl fun h => ?_
  cases b
  · repeat' (first
    | simp (implicitDefEqProofs := false) only [push_cast, reduceIte, reduceCtorEq, Nat.reduceAdd, Nat.reduceSub, Nat.reduceEqDiff, Nat.reduceLT, Nat.reduceLeDiff, Nat.reduceBEq, Nat.reduceMul, Int.reduceLT, Int.reduceLE, Int.reduceEq, Int.reduceToNat, Int.reduceMul, Int.reduceNeg, Go.Proofs.Try.f56]
    | refine Sp2.f ?_ ?_
    | refine Spl.f ?_ ?_ <;> intro hb
    | refine yac rfl (fun b hb => ?_))
    rfl
  · repeat' (first
    | simp (implicitDefEqProofs := false) only [push_cast, reduceIte, reduceCtorEq, Nat.reduceAdd, Nat.reduceSub, Nat.reduceEqDiff, Nat.reduceLT, Nat.reduceLeDiff, Nat.reduceBEq, Nat.reduceMul, Int.reduceLT, Int.reduceLE, Int.reduceEq, Int.reduceToNat, Int.reduceMul, Int.reduceNeg, Go.Proofs.Try.f56]
    | refine Sp2.f ?_ ?_
    | refine Spl.f ?_ ?_ <;> intro hb
    | refine yac rfl (fun b hb => ?_))
    rfl
structure PS (n : Nat) (h0 : List Entry) (k : Nat) (l : List UInt8) (cs : List (Nat × Entry)) (H : List Entry) : Prop where
  tk : H.take n = h0
  ln : n ≤ H.length
  ex : ∃ X : Nat → Prop, (∀ j, X j → n ≤ j) ∧ Wr X k l H ∧ ∀ c ∈ cs, H[c.1]? = some c.2 ∧ ¬ X c.1
theorem PS.got {n : Nat} {h0 : List Entry} {k : Nat} {l : List UInt8} {cs : List (Nat × Entry)} {H : List Entry} (p : PS n h0 k l cs H) {c : Nat × Entry} (hc : c ∈ cs) : H[c.1]? = some c.2 := by
  obtain ⟨_, _, X, _, _, h⟩ := p
  exact (h c hc).1
theorem PS.call {f : FuncId} {args : List AV} {n : Nat} {h0 : List Entry} {k : Nat} {l l' : List UInt8} {cs : List (Nat × Entry)} {H : List Entry} (p : PS n h0 k l cs H) (hw : ∀ X, Wr X k l H → WMth f args X k H l') :
    FSpec prog f (.ref k [0] 94 :: args) H fun r' h'' => r' = .tup [] ∧ PS n h0 k l' cs h'' := by
  obtain ⟨tk, ln, X, hX, w, hc⟩ := p
  refine (hw X w).mono fun r' h'' ⟨e, w2, kp⟩ => ⟨e, (kp.take ln hX).trans tk, Nat.le_trans ln kp.len, yc7 X H h'', zcx hX ln, w2, fun c hcs => ?_⟩
  obtain ⟨a, b⟩ := hc c hcs
  refine ⟨kp.get a b, fun hg => hg.elim b fun hg => ?_⟩
  have := zac a
  omega
theorem PS.add {n : Nat} {h0 : List Entry} {k : Nat} {l : List UInt8} {cs : List (Nat × Entry)} {H : List Entry} (p : PS n h0 k l cs H) (E : Entry) : PS n h0 k l ((H.length, E) :: cs) (H ++ [E]) := by
  obtain ⟨tk, ln, X, hX, w, hc⟩ := p
  refine ⟨by rw [List.take_append_of_le_length ln]; exact tk, by simp; omega, X, hX, w.app _, fun c hcs => ?_⟩
  rcases List.mem_cons.1 hcs with rfl | hcs
  · exact ⟨zar .., fun hx => absurd (w.bd _ hx) (Nat.lt_irrefl _)⟩
  · obtain ⟨a, b⟩ := hc c hcs
    exact ⟨by rw [List.getElem?_append_left (zac a)]; exact a, b⟩
theorem PS.less {n : Nat} {h0 : List Entry} {k : Nat} {l : List UInt8} {c : Nat × Entry} {cs : List (Nat × Entry)} {H : List Entry} (p : PS n h0 k l (c :: cs) H) : PS n h0 k l cs H := by
  obtain ⟨tk, ln, X, hX, w, hc⟩ := p
  exact ⟨tk, ln, X, hX, w, fun d hd => hc d (List.mem_cons_of_mem _ hd)⟩
theorem PS.len {n : Nat} {h0 : List Entry} {k : Nat} {l : List UInt8} {cs : List (Nat × Entry)} {H : List Entry} (p : PS n h0 k l cs H) : l.length ≤ 100000000 := by
  obtain ⟨_, _, X, _, w, _⟩ := p
  exact w.big
theorem PS.num {n : Nat} {h0 : List Entry} {k : Nat} {l : List UInt8} {cs : List (Nat × Entry)} {H : List Entry} (p : PS n h0 k l cs H) (v : Int) (m : Nat) (h1 : 1 ≤ m) (h8 : m ≤ 8) (hl : l.length ≤ 10000000) :
    FSpec prog 53 [.ref k [0] 94, .int .u64 v, .int .i64 m] H fun r' h'' => r' = .tup [] ∧ PS n h0 k (l ++ beN v m) cs h'' :=
  p.call fun X w => c_WNum w v m h1 h8 (by omega)
theorem PS.text {n : Nat} {h0 : List Entry} {k : Nat} {l : List UInt8} {cs : List (Nat × Entry)} {H : List Entry} (p : PS n h0 k l cs H) (b : List UInt8) (hl : l.length + b.length ≤ 10000000) :
    FSpec prog 54 [.ref k [0] 94, eBs b] H fun r' h'' => r' = .tup [] ∧ PS n h0 k (l ++ qaz b) cs h'' :=
  p.call fun X w => c_WText w b (by omega)
theorem PS.bytes {n : Nat} {h0 : List Entry} {k : Nat} {l : List UInt8} {cs : List (Nat × Entry)} {H : List Entry} (p : PS n h0 k l cs H) :
    FSpec prog 57 [.ref k [0] 94] H fun r' h'' => r' = eBs l ∧ h'' = H := by
  obtain ⟨_, _, X, _, w, _⟩ := p
  exact c_WBytes w
end Go.Abs
set_option linter.all false
set_option maxRecDepth 100000
set_option maxHeartbeats 0
namespace Go.Abs
open Go
open Go.Proofs.Try (prog)
theorem qcu (x : Itm) : (zcv x).length ≤ 284 := by
  have := qa4 x.T
  simp only [zcv, nb, qaz, List.length_append, yak]; omega
theorem zcu (x : Wtr) : (ycu x).length ≤ 284 := by
  have := qa4 x.P
  simp only [ycu, nb, qaz, List.length_append, yak]; omega
theorem putL1_len (x : Rpl) : (qbj x).length ≤ 284 := by
  have := qa4 x.T
  simp only [qbj, nb, qaz, List.length_append, yak]; omega
theorem qbd {α : Type} {f : α → List UInt8} (hf : ∀ x, (f x).length ≤ 284) : ∀ (l : List α), (l.flatMap f).length ≤ 284 * l.length
  | [] => by simp
  | x :: l => by
    have h1 := hf x
    have h2 := qbd hf l
    rw [List.flatMap_cons, List.length_append, List.length_cons]; omega
theorem flat_snoc {α : Type} {f : α → List UInt8} (l : List α) {i : Nat} {x : α} (h : l[i]? = some x) : (l.take (i + 1)).flatMap f = (l.take i).flatMap f ++ f x := by
  rw [List.take_add_one, h, Option.toList_some, List.flatMap_append]; simp
def spE (s : Spc) : Entry := ⟨29, [eS s], .own⟩
theorem c_sPut (s : Spc) (hs : s.Small) : Fn prog 15 [eS s] (.tup [eBs (if zbw s = true then qby s else []), .int .i64 (if zbw s = true then 0 else 1)]) := by
  refine ybm (R := fun r => ∃ v, r = .tup [v, .int .i64 (if zbw s = true then 0 else 1)] ∧ RawOK (if zbw s = true then qby s else []) v) [30, 3] (fn_tup wfp fun h => ?_) ?_
  rotate_left
  · rintro r ⟨v, rfl, hv⟩
    refine ⟨_, rfl, ⟨hv.ty.1, by rw [zc6, sh_3]; rfl, trivial⟩, ?_⟩
    simp only [wks, hv.ty.2.2, qbu]
  refine frun_15 rfl ?_
  have hmay := c_sMay s hs
  cases hm : zbw s with
  | false =>
    rw [hm] at hmay
    repeat' (first
    | simp (implicitDefEqProofs := false) only [push_cast, reduceIte, reduceCtorEq, Nat.reduceAdd, Nat.reduceSub, Nat.reduceEqDiff, Nat.reduceLT, Nat.reduceLeDiff, Nat.reduceBEq, Nat.reduceMul, Int.reduceLT, Int.reduceLE, Int.reduceEq, Int.reduceToNat, Int.reduceMul, Int.reduceNeg, Go.Proofs.Try.f15, fk_tt, qcp, zcq, ycp, yad, zae, qac, zad, yab, qad, sst, qab, yaa, qaa, List.replicate_succ, List.drop_zero]
    | refine Sp2.f ?_ ?_
    | refine Spl.f ?_ ?_ <;> intro hb
    | refine yac rfl (fun b hb => ?_)
    | refine zay hmay ?_)
    exact ⟨_, rfl, rfl, .nils, rfl, .inr ⟨rfl, rfl⟩⟩
  | true =>
    rw [hm] at hmay
    have hm2 := hm
    simp only [zbw, mayH, Bool.and_eq_true, decide_eq_true_eq] at hm2
    have hI : s.Items.length ≤ 64 := by omega
    have hW : s.Waiters.length ≤ 16 := by omega
    have cI : IntKind.wrap .u64 (s.Items.length : Int) = s.Items.length := by rw [zak]; omega
    have cW : IntKind.wrap .u64 (s.Waiters.length : Int) = s.Waiters.length := by rw [zak]; omega
    clear hm2
    have g0 : qbg (eS s) [0] = some (.int .i64 s.Now) := rfl
    have g1 : qbg (eS s) [1] = some (.list 87 (s.Items.map eI)) := rfl
    have g2 : qbg (eS s) [2] = some (.list 89 (s.Waiters.map eW)) := rfl
    have g3 : qbg (eS s) [3] = some (.int .i64 s.Read) := rfl
    have g4 : qbg (eS s) [4] = some (.int .i64 s.Write) := rfl
    have g5 : qbg (eS s) [5] = some (eL s.Last) := rfl
    have p0 : PS h.length h (h.length + 1) [] [(h.length, spE s)] (h ++ [spE s, wrE .nils]) := by
      refine ⟨by simp, by simp, fun j => j = h.length + 1, fun j hj => by omega, ⟨fun j hj => by subst hj; simp, rfl, ⟨.nils, qa9 .., .nil⟩, Nat.zero_le _⟩, fun c hc => ?_⟩
      rw [List.mem_singleton.1 hc]
      exact ⟨zar .., by simp⟩
    have q0 : FSpec prog 53 [.ref (h.length + 1) [0] 94, .int .u64 (IntKind.u64.wrap s.Now), .int .i64 8] (h ++ [spE s, wrE .nils]) _ := p0.num (IntKind.u64.wrap s.Now) 8 (by omega) (by omega) (by simp)
    repeat' (first
    | simp (implicitDefEqProofs := false) only [push_cast, reduceIte, reduceCtorEq, Nat.reduceAdd, Nat.reduceSub, Nat.reduceEqDiff, Nat.reduceLT, Nat.reduceLeDiff, Nat.reduceBEq, Nat.reduceMul, Int.reduceLT, Int.reduceLE, Int.reduceEq, Int.reduceToNat, Int.reduceMul, Int.reduceNeg, Go.Proofs.Try.f15, g0, qcp, zcq, ycp, yad, zae, qac, zad, yab, qad, sst, qab, yaa, qaa, List.replicate_succ, List.drop_zero]
    | refine Sp2.f ?_ ?_
    | refine Spl.f ?_ ?_ <;> intro hb
    | refine yac rfl (fun b hb => ?_)
    | refine zay hmay ?_)
    refine ya4 q0 fun v H hp => ?_
    have p1 := hp.2
    clear q0 p0
    have hc := p1.got (List.mem_singleton.2 rfl)
    have q1 : FSpec prog 53 [.ref (h.length + 1) [0] 94, .int .u64 (IntKind.u64.wrap s.Read), .int .i64 1] H _ := p1.num (IntKind.u64.wrap s.Read) 1 (by omega) (by omega) (by simp [yak])
    repeat' (first
    | simp (implicitDefEqProofs := false) only [push_cast, reduceIte, reduceCtorEq, Nat.reduceAdd, Nat.reduceSub, Nat.reduceEqDiff, Nat.reduceLT, Nat.reduceLeDiff, Nat.reduceBEq, Nat.reduceMul, Int.reduceLT, Int.reduceLE, Int.reduceEq, Int.reduceToNat, Int.reduceMul, Int.reduceNeg, Go.Proofs.Try.f15, hc, spE, g3, yad, zae, qac, zad, yab, qad, sst, qab, yaa, qaa, List.replicate_succ, List.drop_zero]
    | refine Sp2.f ?_ ?_
    | refine Spl.f ?_ ?_ <;> intro hb
    | refine yac rfl (fun b hb => ?_))
    refine ya4 q1 fun v H2 hp => ?_
    have p2 := hp.2
    clear q1 p1 hc
    have hc := p2.got (List.mem_singleton.2 rfl)
    have q2 : FSpec prog 53 [.ref (h.length + 1) [0] 94, .int .u64 (IntKind.u64.wrap s.Write), .int .i64 1] H2 _ := p2.num (IntKind.u64.wrap s.Write) 1 (by omega) (by omega) (by simp [yak])
    repeat' (first
    | simp (implicitDefEqProofs := false) only [push_cast, reduceIte, reduceCtorEq, Nat.reduceAdd, Nat.reduceSub, Nat.reduceEqDiff, Nat.reduceLT, Nat.reduceLeDiff, Nat.reduceBEq, Nat.reduceMul, Int.reduceLT, Int.reduceLE, Int.reduceEq, Int.reduceToNat, Int.reduceMul, Int.reduceNeg, Go.Proofs.Try.f15, hc, spE, g4, yad, zae, qac, zad, yab, qad, sst, qab, yaa, qaa, List.replicate_succ, List.drop_zero]
    | refine Sp2.f ?_ ?_
    | refine Spl.f ?_ ?_ <;> intro hb
    | refine yac rfl (fun b hb => ?_))
    refine ya4 q2 fun v H3 hp => ?_
    have p3 := hp.2
    clear q2 p2 hc
    have hc := p3.got (List.mem_singleton.2 rfl)
    have q3 : FSpec prog 53 [.ref (h.length + 1) [0] 94, .int .u64 s.Items.length, .int .i64 1] H3 _ := p3.num (s.Items.length : Int) 1 (by omega) (by omega) (by simp [yak])
    repeat' (first
    | simp (implicitDefEqProofs := false) only [push_cast, reduceIte, reduceCtorEq, Nat.reduceAdd, Nat.reduceSub, Nat.reduceEqDiff, Nat.reduceLT, Nat.reduceLeDiff, Nat.reduceBEq, Nat.reduceMul, Int.reduceLT, Int.reduceLE, Int.reduceEq, Int.reduceToNat, Int.reduceMul, Int.reduceNeg, Go.Proofs.Try.f15, hc, spE, g1, cI, List.length_map, yad, zae, qac, zad, yab, qad, sst, qab, yaa, qaa, List.replicate_succ, List.drop_zero]
    | refine Sp2.f ?_ ?_
    | refine Spl.f ?_ ?_ <;> intro hb
    | refine yac rfl (fun b hb => ?_))
    refine ya4 q3 fun v H4 hp => ?_
    have p4 := hp.2
    clear q3 p3 hc
    have hc := p4.got (List.mem_singleton.2 rfl)
    have hl4 : (([] ++ beN (IntKind.u64.wrap s.Now) 8 ++ beN (IntKind.u64.wrap s.Read) 1 ++ beN (IntKind.u64.wrap s.Write) 1 ++ beN (s.Items.length : Int) 1 : List UInt8)).length ≤ 100 := by simp [yak]
    have hput : qby s = ([] ++ beN (IntKind.u64.wrap s.Now) 8 ++ beN (IntKind.u64.wrap s.Read) 1 ++ beN (IntKind.u64.wrap s.Write) 1 ++ beN (s.Items.length : Int) 1 : List UInt8) ++ zcc s.Items ++ beN s.Waiters.length 1 ++ zch s.Waiters ++ qcc s.Last := by simp [qby, nb]
    generalize ([] ++ beN (IntKind.u64.wrap s.Now) 8 ++ beN (IntKind.u64.wrap s.Read) 1 ++ beN (IntKind.u64.wrap s.Write) 1 ++ beN (s.Items.length : Int) 1 : List UInt8) = l4 at p4 hl4 hput
    repeat' (first
    | simp (implicitDefEqProofs := false) only [push_cast, reduceIte, reduceCtorEq, Nat.reduceAdd, Nat.reduceSub, Nat.reduceEqDiff, Nat.reduceLT, Nat.reduceLeDiff, Nat.reduceBEq, Nat.reduceMul, Int.reduceLT, Int.reduceLE, Int.reduceEq, Int.reduceToNat, Int.reduceMul, Int.reduceNeg, Go.Proofs.Try.f15, hc, spE, g1, List.length_map, yad, zae, qac, zad, yab, qad, sst, qab, yaa, qaa, List.replicate_succ, List.drop_zero]
    | refine Sp2.f ?_ ?_
    | refine Spl.f ?_ ?_ <;> intro hb
    | refine yac rfl (fun b hb => ?_))
    rw [← qa8]
    refine qce 2 (fun e env' H => e = .normal ∧ PS h.length h (h.length + 1) (l4 ++ zcc s.Items) [(h.length, spE s)] H ∧ env' = (fun a : Nat → AV => [(0, eS s), (1, .ref h.length [0] 29), (2, .nils), (3, .int .i64 0), (4, .ref (h.length + 1) [0] 94), (6, a 6), (8, a 8), (10, a 10), (13, a 13), (32, a 32), (33, a 33), (34, a 34), (35, a 35), (57, a 57), (58, a 58), (59, a 59), (60, a 60), (81, a 81), (82, a 82), (83, a 83)]) (lk env')) ?_ ?_
    · simp only [List.take_succ_cons, List.take_zero, qa8]
      refine qau (fun i env' H => i ≤ s.Items.length ∧ PS h.length h (h.length + 1) (l4 ++ zcc (s.Items.take i)) [(h.length, spE s)] H ∧ env' = (fun a : Nat → AV => [(0, eS s), (1, .ref h.length [0] 29), (2, .nils), (3, .int .i64 0), (4, .ref (h.length + 1) [0] 94), (6, a 6), (8, a 8), (10, a 10), (13, a 13), (32, .list 87 (s.Items.map eI)), (33, .int .i64 s.Items.length), (34, .int .i64 i), (35, a 35), (57, a 57), (58, a 58), (59, a 59), (60, a 60), (81, a 81), (82, a 82), (83, a 83)]) (lk env')) s.Items.length ⟨Nat.zero_le _, by simpa [zcc] using p4, rfl⟩ ?_
      rintro i env H ⟨hi, p, henv⟩
      refine ⟨hi, ?_⟩
      rw [henv]
      generalize lk env = a
      clear henv env
      by_cases hlt : i < s.Items.length
      · obtain ⟨x, hx⟩ : ∃ x, s.Items[i]? = some x := ⟨_, List.getElem?_eq_getElem hlt⟩
        have hi9 : i < 9223372036854775807 := by omega
        have gx := zal eI hx
        have hxT := hs.items.2 x (List.mem_of_getElem? hx)
        have hfb := qa4 x.T
        have hpl : (zcc (s.Items.take i)).length ≤ 284 * 64 := by
          have := qbd qcu (s.Items.take i)
          have h2 : (s.Items.take i).length ≤ 64 := by simp; omega
          show ((s.Items.take i).flatMap zcv).length ≤ _
          omega
        have hps : zcc (s.Items.take (i + 1)) = zcc (s.Items.take i) ++ zcv x := flat_snoc _ hx
        have hl0 : (l4 ++ zcc (s.Items.take i)).length ≤ 1000000 := by rw [List.length_append]; omega
        have pA := p.add ⟨87, [eI x], .own⟩
        have hc := pA.got (List.mem_cons_self ..)
        have hHl := zac hc
        have i0 : qbg (eI x) [0] = some (.int .i64 x.Owner) := rfl
        have i1 : qbg (eI x) [1] = some (.int .i64 x.Until) := rfl
        have i2 : qbg (eI x) [2] = some (eFs x.T) := rfl
        repeat' (first
    | simp (implicitDefEqProofs := false) only [push_cast, reduceIte, reduceCtorEq, Nat.reduceAdd, Nat.reduceSub, Nat.reduceEqDiff, Nat.reduceLT, Nat.reduceLeDiff, Nat.reduceBEq, Nat.reduceMul, Int.reduceLT, Int.reduceLE, Int.reduceEq, Int.reduceToNat, Int.reduceMul, Int.reduceNeg, Go.Proofs.Try.f15, zau hlt, yar hlt, gx, eI_ty, List.length_map, Int.toNat_natCast, i0, i1, i2, yad, zae, qac, zad, yab, qad, sst, qab, yaa, qaa, List.replicate_succ, List.drop_zero]
    | refine Sp2.f ?_ ?_
    | refine Spl.f ?_ ?_ <;> intro hb
    | refine yac rfl (fun b hb => ?_))
        have z1 : FSpec prog 53 [.ref (h.length + 1) [0] 94, .int .u64 (IntKind.u64.wrap x.Owner), .int .i64 1] _ _ := pA.num (IntKind.u64.wrap x.Owner) 1 (by omega) (by omega) (by simp only [List.length_append, yak]; omega)
        refine ya4 z1 fun v1 K1 hp1 => ?_
        have y1 := hp1.2
        have hc1 := y1.got (List.mem_cons_self ..)
        repeat' (first
    | simp (implicitDefEqProofs := false) only [push_cast, reduceIte, reduceCtorEq, Nat.reduceAdd, Nat.reduceSub, Nat.reduceEqDiff, Nat.reduceLT, Nat.reduceLeDiff, Nat.reduceBEq, Nat.reduceMul, Int.reduceLT, Int.reduceLE, Int.reduceEq, Int.reduceToNat, Int.reduceMul, Int.reduceNeg, Go.Proofs.Try.f15, hc1, i0, i1, i2, yav, yax, zax, zas, qat, yat, yad, zae, qac, zad, yab, qad, sst, qab, yaa, qaa, List.replicate_succ, List.drop_zero]
    | refine Sp2.f ?_ ?_
    | refine Spl.f ?_ ?_ <;> intro hb
    | refine yac rfl (fun b hb => ?_))
        have z2 : FSpec prog 53 [.ref (h.length + 1) [0] 94, .int .u64 (IntKind.u64.wrap x.Until), .int .i64 8] _ _ := y1.num (IntKind.u64.wrap x.Until) 8 (by omega) (by omega) (by simp only [List.length_append, yak]; omega)
        refine ya4 z2 fun v2 K2 hp2 => ?_
        have y2 := hp2.2
        have hc2 := y2.got (List.mem_cons_self ..)
        repeat' (first
    | simp (implicitDefEqProofs := false) only [push_cast, reduceIte, reduceCtorEq, Nat.reduceAdd, Nat.reduceSub, Nat.reduceEqDiff, Nat.reduceLT, Nat.reduceLeDiff, Nat.reduceBEq, Nat.reduceMul, Int.reduceLT, Int.reduceLE, Int.reduceEq, Int.reduceToNat, Int.reduceMul, Int.reduceNeg, Go.Proofs.Try.f15, hc2, i0, i1, i2, yav, yax, zax, zas, qat, yat, yad, zae, qac, zad, yab, qad, sst, qab, yaa, qaa, List.replicate_succ, List.drop_zero]
    | refine Sp2.f ?_ ?_
    | refine Spl.f ?_ ?_ <;> intro hb
    | refine yac rfl (fun b hb => ?_)
    | refine zay (c_sFields x.T hxT) ?_)
        have z3 : FSpec prog 54 [.ref (h.length + 1) [0] 94, eBs (yah x.T)] _ _ := y2.text (yah x.T) (by simp only [List.length_append, yak]; omega)
        refine ya4 z3 fun v3 K3 hp3 => ?_
        have y3 := hp3.2
        have hc3 := y3.got (List.mem_cons_self ..)
        repeat' (first
    | simp (implicitDefEqProofs := false) only [push_cast, reduceIte, reduceCtorEq, Nat.reduceAdd, Nat.reduceSub, Nat.reduceEqDiff, Nat.reduceLT, Nat.reduceLeDiff, Nat.reduceBEq, Nat.reduceMul, Int.reduceLT, Int.reduceLE, Int.reduceEq, Int.reduceToNat, Int.reduceMul, Int.reduceNeg, Go.Proofs.Try.f15, qae hi9, yad, zae, qac, zad, yab, qad, sst, qab, yaa, qaa, List.replicate_succ, List.drop_zero]
    | refine Sp2.f ?_ ?_
    | refine Spl.f ?_ ?_ <;> intro hb
    | refine yac rfl (fun b hb => ?_))
        refine ⟨hlt, ?_⟩
        rw [hps]
        have yz := y3.less
        simp only [List.append_assoc] at yz ⊢
        exact yz
      · have hie : i = s.Items.length := by omega
        rw [hie, List.take_length] at p
        repeat' (first
    | simp (implicitDefEqProofs := false) only [push_cast, reduceIte, reduceCtorEq, Nat.reduceAdd, Nat.reduceSub, Nat.reduceEqDiff, Nat.reduceLT, Nat.reduceLeDiff, Nat.reduceBEq, Nat.reduceMul, Int.reduceLT, Int.reduceLE, Int.reduceEq, Int.reduceToNat, Int.reduceMul, Int.reduceNeg, Go.Proofs.Try.f15, ya5 hlt, yad, zae, qac, zad, yab, qad, sst, qab, yaa, qaa, List.replicate_succ, List.drop_zero]
    | refine Sp2.f ?_ ?_
    | refine Spl.f ?_ ?_ <;> intro hb
    | refine yac rfl (fun b hb => ?_))
        exact p
    rintro _ env' H5 ⟨rfl, p5, henv⟩
    rw [henv]
    generalize lk env' = a
    clear henv env'
    simp only [List.drop_succ_cons, List.drop_zero]
    have hI5 : (zcc s.Items).length ≤ 284 * 64 := by
      have := qbd qcu s.Items
      show (s.Items.flatMap zcv).length ≤ _
      omega
    have hc := p5.got (List.mem_singleton.2 rfl)
    have q5 : FSpec prog 53 [.ref (h.length + 1) [0] 94, .int .u64 s.Waiters.length, .int .i64 1] H5 _ := p5.num (s.Waiters.length : Int) 1 (by omega) (by omega) (by rw [List.length_append]; omega)
    repeat' (first
    | simp (implicitDefEqProofs := false) only [push_cast, reduceIte, reduceCtorEq, Nat.reduceAdd, Nat.reduceSub, Nat.reduceEqDiff, Nat.reduceLT, Nat.reduceLeDiff, Nat.reduceBEq, Nat.reduceMul, Int.reduceLT, Int.reduceLE, Int.reduceEq, Int.reduceToNat, Int.reduceMul, Int.reduceNeg, Go.Proofs.Try.f15, hc, spE, g2, cW, List.length_map, yad, zae, qac, zad, yab, qad, sst, qab, yaa, qaa, List.replicate_succ, List.drop_zero]
    | refine Sp2.f ?_ ?_
    | refine Spl.f ?_ ?_ <;> intro hb
    | refine yac rfl (fun b hb => ?_))
    refine ya4 q5 fun v H6 hp => ?_
    have p6 := hp.2
    clear q5 p5 hc
    have hc := p6.got (List.mem_singleton.2 rfl)
    have hl6 : (l4 ++ zcc s.Items ++ beN (s.Waiters.length : Int) 1).length ≤ 20000 := by simp only [List.length_append, yak]; omega
    generalize l4 ++ zcc s.Items ++ beN (s.Waiters.length : Int) 1 = l6 at p6 hl6 hput
    repeat' (first
    | simp (implicitDefEqProofs := false) only [push_cast, reduceIte, reduceCtorEq, Nat.reduceAdd, Nat.reduceSub, Nat.reduceEqDiff, Nat.reduceLT, Nat.reduceLeDiff, Nat.reduceBEq, Nat.reduceMul, Int.reduceLT, Int.reduceLE, Int.reduceEq, Int.reduceToNat, Int.reduceMul, Int.reduceNeg, Go.Proofs.Try.f15, hc, spE, g2, List.length_map, yad, zae, qac, zad, yab, qad, sst, qab, yaa, qaa, List.replicate_succ, List.drop_zero]
    | refine Sp2.f ?_ ?_
    | refine Spl.f ?_ ?_ <;> intro hb
    | refine yac rfl (fun b hb => ?_))
    rw [← qa8]
    refine qce 2 (fun e env' H => e = .normal ∧ PS h.length h (h.length + 1) (l6 ++ zch s.Waiters) [(h.length, spE s)] H ∧ env' = (fun a : Nat → AV => [(0, eS s), (1, .ref h.length [0] 29), (2, .nils), (3, .int .i64 0), (4, .ref (h.length + 1) [0] 94), (6, a 6), (8, a 8), (10, a 10), (13, a 13), (32, a 32), (33, a 33), (34, a 34), (35, a 35), (57, a 57), (58, a 58), (59, a 59), (60, a 60), (81, a 81), (82, a 82), (83, a 83)]) (lk env')) ?_ ?_
    · simp only [List.take_succ_cons, List.take_zero, qa8]
      refine qau (fun i env' H => i ≤ s.Waiters.length ∧ PS h.length h (h.length + 1) (l6 ++ zch (s.Waiters.take i)) [(h.length, spE s)] H ∧ env' = (fun a : Nat → AV => [(0, eS s), (1, .ref h.length [0] 29), (2, .nils), (3, .int .i64 0), (4, .ref (h.length + 1) [0] 94), (6, a 6), (8, a 8), (10, a 10), (13, a 13), (32, a 32), (33, a 33), (34, a 34), (35, a 35), (57, .list 89 (s.Waiters.map eW)), (58, .int .i64 s.Waiters.length), (59, .int .i64 i), (60, a 60), (81, a 81), (82, a 82), (83, a 83)]) (lk env')) s.Waiters.length ⟨Nat.zero_le _, by simpa [zch] using p6, rfl⟩ ?_
      rintro i env H ⟨hi, p, henv⟩
      refine ⟨hi, ?_⟩
      rw [henv]
      generalize lk env = a
      clear henv env
      by_cases hlt : i < s.Waiters.length
      · obtain ⟨x, hx⟩ : ∃ x, s.Waiters[i]? = some x := ⟨_, List.getElem?_eq_getElem hlt⟩
        have hi9 : i < 9223372036854775807 := by omega
        have gx := zal eW hx
        have hxT := hs.waiters.2 x (List.mem_of_getElem? hx)
        have hfb := qa4 x.P
        have hpl : (zch (s.Waiters.take i)).length ≤ 284 * 64 := by
          have := qbd zcu (s.Waiters.take i)
          have h2 : (s.Waiters.take i).length ≤ 64 := by simp; omega
          show ((s.Waiters.take i).flatMap ycu).length ≤ _
          omega
        have hps : zch (s.Waiters.take (i + 1)) = zch (s.Waiters.take i) ++ ycu x := flat_snoc _ hx
        have hl0 : (l6 ++ zch (s.Waiters.take i)).length ≤ 1000000 := by rw [List.length_append]; omega
        have pA := p.add ⟨89, [eW x], .own⟩
        have hc := pA.got (List.mem_cons_self ..)
        have hHl := zac hc
        have i0 : qbg (eW x) [0] = some (.int .i64 x.Client) := rfl
        have i1 : qbg (eW x) [1] = some (.int .i64 x.Seq) := rfl
        have i2 : qbg (eW x) [2] = some (.bool x.Take) := rfl
        have i3 : qbg (eW x) [3] = some (eFs x.P) := rfl
        repeat' (first
    | simp (implicitDefEqProofs := false) only [push_cast, reduceIte, reduceCtorEq, Nat.reduceAdd, Nat.reduceSub, Nat.reduceEqDiff, Nat.reduceLT, Nat.reduceLeDiff, Nat.reduceBEq, Nat.reduceMul, Int.reduceLT, Int.reduceLE, Int.reduceEq, Int.reduceToNat, Int.reduceMul, Int.reduceNeg, Go.Proofs.Try.f15, zau hlt, yar hlt, gx, eW_ty, List.length_map, Int.toNat_natCast, i0, i1, i2, i3, yad, zae, qac, zad, yab, qad, sst, qab, yaa, qaa, List.replicate_succ, List.drop_zero]
    | refine Sp2.f ?_ ?_
    | refine Spl.f ?_ ?_ <;> intro hb
    | refine yac rfl (fun b hb => ?_))
        have z1 : FSpec prog 53 [.ref (h.length + 1) [0] 94, .int .u64 (IntKind.u64.wrap x.Client), .int .i64 1] _ _ := pA.num (IntKind.u64.wrap x.Client) 1 (by omega) (by omega) (by simp only [List.length_append, yak]; omega)
        refine ya4 z1 fun v1 K1 hp1 => ?_
        have y1 := hp1.2
        have hc1 := y1.got (List.mem_cons_self ..)
        repeat' (first
    | simp (implicitDefEqProofs := false) only [push_cast, reduceIte, reduceCtorEq, Nat.reduceAdd, Nat.reduceSub, Nat.reduceEqDiff, Nat.reduceLT, Nat.reduceLeDiff, Nat.reduceBEq, Nat.reduceMul, Int.reduceLT, Int.reduceLE, Int.reduceEq, Int.reduceToNat, Int.reduceMul, Int.reduceNeg, Go.Proofs.Try.f15, hc1, i0, i1, i2, i3, yav, yax, zax, zas, qat, yat, yad, zae, qac, zad, yab, qad, sst, qab, yaa, qaa, List.replicate_succ, List.drop_zero]
    | refine Sp2.f ?_ ?_
    | refine Spl.f ?_ ?_ <;> intro hb
    | refine yac rfl (fun b hb => ?_))
        have z2 : FSpec prog 53 [.ref (h.length + 1) [0] 94, .int .u64 (IntKind.u64.wrap x.Seq), .int .i64 4] _ _ := y1.num (IntKind.u64.wrap x.Seq) 4 (by omega) (by omega) (by simp only [List.length_append, yak]; omega)
        refine ya4 z2 fun v2 K2 hp2 => ?_
        have y2 := hp2.2
        have hc2 := y2.got (List.mem_cons_self ..)
        repeat' (first
    | simp (implicitDefEqProofs := false) only [push_cast, reduceIte, reduceCtorEq, Nat.reduceAdd, Nat.reduceSub, Nat.reduceEqDiff, Nat.reduceLT, Nat.reduceLeDiff, Nat.reduceBEq, Nat.reduceMul, Int.reduceLT, Int.reduceLE, Int.reduceEq, Int.reduceToNat, Int.reduceMul, Int.reduceNeg, Go.Proofs.Try.f15, hc2, i0, i1, i2, i3, yav, yax, zax, zas, qat, yat, yad, zae, qac, zad, yab, qad, sst, qab, yaa, qaa, List.replicate_succ, List.drop_zero]
    | refine Sp2.f ?_ ?_
    | refine Spl.f ?_ ?_ <;> intro hb
    | refine yac rfl (fun b hb => ?_)
    | refine zay (c_sBit x.Take) ?_)
        have z3 : FSpec prog 53 [.ref (h.length + 1) [0] 94, .int .u64 (zdp x.Take), .int .i64 1] _ _ := y2.num (zdp x.Take) 1 (by omega) (by omega) (by simp only [List.length_append, yak]; omega)
        refine ya4 z3 fun v3 K3 hp3 => ?_
        have y3 := hp3.2
        have hc3 := y3.got (List.mem_cons_self ..)
        repeat' (first
    | simp (implicitDefEqProofs := false) only [push_cast, reduceIte, reduceCtorEq, Nat.reduceAdd, Nat.reduceSub, Nat.reduceEqDiff, Nat.reduceLT, Nat.reduceLeDiff, Nat.reduceBEq, Nat.reduceMul, Int.reduceLT, Int.reduceLE, Int.reduceEq, Int.reduceToNat, Int.reduceMul, Int.reduceNeg, Go.Proofs.Try.f15, hc3, i0, i1, i2, i3, yav, yax, zax, zas, qat, yat, yad, zae, qac, zad, yab, qad, sst, qab, yaa, qaa, List.replicate_succ, List.drop_zero]
    | refine Sp2.f ?_ ?_
    | refine Spl.f ?_ ?_ <;> intro hb
    | refine yac rfl (fun b hb => ?_)
    | refine zay (c_sFields x.P hxT) ?_)
        have z4 : FSpec prog 54 [.ref (h.length + 1) [0] 94, eBs (yah x.P)] _ _ := y3.text (yah x.P) (by simp only [List.length_append, yak]; omega)
        refine ya4 z4 fun v4 K4 hp4 => ?_
        have y4 := hp4.2
        have hc4 := y4.got (List.mem_cons_self ..)
        repeat' (first
    | simp (implicitDefEqProofs := false) only [push_cast, reduceIte, reduceCtorEq, Nat.reduceAdd, Nat.reduceSub, Nat.reduceEqDiff, Nat.reduceLT, Nat.reduceLeDiff, Nat.reduceBEq, Nat.reduceMul, Int.reduceLT, Int.reduceLE, Int.reduceEq, Int.reduceToNat, Int.reduceMul, Int.reduceNeg, Go.Proofs.Try.f15, qae hi9, yad, zae, qac, zad, yab, qad, sst, qab, yaa, qaa, List.replicate_succ, List.drop_zero]
    | refine Sp2.f ?_ ?_
    | refine Spl.f ?_ ?_ <;> intro hb
    | refine yac rfl (fun b hb => ?_))
        refine ⟨hlt, ?_⟩
        rw [hps]
        have yz := y4.less
        simp only [List.append_assoc] at yz ⊢
        exact yz
      · have hie : i = s.Waiters.length := by omega
        rw [hie, List.take_length] at p
        repeat' (first
    | simp (implicitDefEqProofs := false) only [push_cast, reduceIte, reduceCtorEq, Nat.reduceAdd, Nat.reduceSub, Nat.reduceEqDiff, Nat.reduceLT, Nat.reduceLeDiff, Nat.reduceBEq, Nat.reduceMul, Int.reduceLT, Int.reduceLE, Int.reduceEq, Int.reduceToNat, Int.reduceMul, Int.reduceNeg, Go.Proofs.Try.f15, ya5 hlt, yad, zae, qac, zad, yab, qad, sst, qab, yaa, qaa, List.replicate_succ, List.drop_zero]
    | refine Sp2.f ?_ ?_
    | refine Spl.f ?_ ?_ <;> intro hb
    | refine yac rfl (fun b hb => ?_))
        exact p
    rintro _ env' H7 ⟨rfl, p7, henv⟩
    rw [henv]
    generalize lk env' = a
    clear henv env'
    simp only [List.drop_succ_cons, List.drop_zero]
    have hW7 : (zch s.Waiters).length ≤ 284 * 64 := by
      have := qbd zcu s.Waiters
      show (s.Waiters.flatMap ycu).length ≤ _
      omega
    have hc := p7.got (List.mem_singleton.2 rfl)
    have hl7 : (l6 ++ zch s.Waiters).length ≤ 40000 := by rw [List.length_append]; omega
    generalize l6 ++ zch s.Waiters = l7 at p7 hl7 hput
    have h4 := hs.four
    have hL4 : s.Last.length ≤ 64 := by omega
    repeat' (first
    | simp (implicitDefEqProofs := false) only [push_cast, reduceIte, reduceCtorEq, Nat.reduceAdd, Nat.reduceSub, Nat.reduceEqDiff, Nat.reduceLT, Nat.reduceLeDiff, Nat.reduceBEq, Nat.reduceMul, Int.reduceLT, Int.reduceLE, Int.reduceEq, Int.reduceToNat, Int.reduceMul, Int.reduceNeg, Go.Proofs.Try.f15, hc, spE, g5, yad, zae, qac, zad, yab, qad, sst, qab, yaa, qaa, List.replicate_succ, List.drop_zero]
    | refine Sp2.f ?_ ?_
    | refine Spl.f ?_ ?_ <;> intro hb
    | refine yac rfl (fun b hb => ?_))
    rw [← qa8]
    refine qce 2 (fun e env' H => e = .normal ∧ PS h.length h (h.length + 1) (l7 ++ qcc s.Last) [(h.length, spE s)] H ∧ env' = (fun a : Nat → AV => [(0, eS s), (1, .ref h.length [0] 29), (2, .nils), (3, .int .i64 0), (4, .ref (h.length + 1) [0] 94), (6, a 6), (8, a 8), (10, a 10), (13, a 13), (32, a 32), (33, a 33), (34, a 34), (35, a 35), (57, a 57), (58, a 58), (59, a 59), (60, a 60), (81, a 81), (82, a 82), (83, a 83)]) (lk env')) ?_ ?_
    · simp only [List.take_succ_cons, List.take_zero, qa8]
      refine qau (fun i env' H => i ≤ s.Last.length ∧ PS h.length h (h.length + 1) (l7 ++ qcc (s.Last.take i)) [(h.length, spE s)] H ∧ env' = (fun a : Nat → AV => [(0, eS s), (1, .ref h.length [0] 29), (2, .nils), (3, .int .i64 0), (4, .ref (h.length + 1) [0] 94), (6, a 6), (8, a 8), (10, a 10), (13, a 13), (32, a 32), (33, a 33), (34, a 34), (35, a 35), (57, a 57), (58, a 58), (59, a 59), (60, a 60), (81, eL s.Last), (82, .int .i64 i), (83, a 83)]) (lk env')) s.Last.length ⟨Nat.zero_le _, by simpa [qcc] using p7, rfl⟩ ?_
      rintro i env H ⟨hi, p, henv⟩
      refine ⟨hi, ?_⟩
      rw [henv]
      generalize lk env = a
      clear henv env
      by_cases hlt : i < s.Last.length
      · obtain ⟨x, hx⟩ : ∃ x, s.Last[i]? = some x := ⟨_, List.getElem?_eq_getElem hlt⟩
        have hi9 : i < 9223372036854775807 := by omega
        have gx := zal eR hx
        have hxT := hs.last.2 x (List.mem_of_getElem? hx)
        have hfb := qa4 x.T
        have hpl : (qcc (s.Last.take i)).length ≤ 284 * 64 := by
          have := qbd putL1_len (s.Last.take i)
          have h2 : (s.Last.take i).length ≤ 64 := by simp; omega
          show ((s.Last.take i).flatMap qbj).length ≤ _
          omega
        have hps : qcc (s.Last.take (i + 1)) = qcc (s.Last.take i) ++ qbj x := flat_snoc _ hx
        have hl0 : (l7 ++ qcc (s.Last.take i)).length ≤ 1000000 := by rw [List.length_append]; omega
        have pA := p.add ⟨26, [eR x], .own⟩
        have hc := pA.got (List.mem_cons_self ..)
        have hHl := zac hc
        have i0 : qbg (eR x) [1] = some (.int .i64 x.Seq) := rfl
        have i1 : qbg (eR x) [2] = some (.int .i64 x.Kind) := rfl
        have i2 : qbg (eR x) [4] = some (.bool x.Late) := rfl
        have i3 : qbg (eR x) [3] = some (eFs x.T) := rfl
        have c4 : decide ((i : Int) < 4) = true := by simp; omega
        have r4 : (0 ≤ (i : Int) ∧ (i : Int) < 4) = True := by simp; omega
        repeat' (first
    | simp (implicitDefEqProofs := false) only [push_cast, reduceIte, reduceCtorEq, Nat.reduceAdd, Nat.reduceSub, Nat.reduceEqDiff, Nat.reduceLT, Nat.reduceLeDiff, Nat.reduceBEq, Nat.reduceMul, Int.reduceLT, Int.reduceLE, Int.reduceEq, Int.reduceToNat, Int.reduceMul, Int.reduceNeg, Go.Proofs.Try.f15, c4, r4, qbz, eL, gx, eR_ty, List.length_map, Int.toNat_natCast, i0, i1, i2, i3, yad, zae, qac, zad, yab, qad, sst, qab, yaa, qaa, List.replicate_succ, List.drop_zero]
    | refine Sp2.f ?_ ?_
    | refine Spl.f ?_ ?_ <;> intro hb
    | refine yac rfl (fun b hb => ?_))
        have z1 : FSpec prog 53 [.ref (h.length + 1) [0] 94, .int .u64 (IntKind.u64.wrap x.Seq), .int .i64 4] _ _ := pA.num (IntKind.u64.wrap x.Seq) 4 (by omega) (by omega) (by simp only [List.length_append, yak]; omega)
        refine ya4 z1 fun v1 K1 hp1 => ?_
        have y1 := hp1.2
        have hc1 := y1.got (List.mem_cons_self ..)
        repeat' (first
    | simp (implicitDefEqProofs := false) only [push_cast, reduceIte, reduceCtorEq, Nat.reduceAdd, Nat.reduceSub, Nat.reduceEqDiff, Nat.reduceLT, Nat.reduceLeDiff, Nat.reduceBEq, Nat.reduceMul, Int.reduceLT, Int.reduceLE, Int.reduceEq, Int.reduceToNat, Int.reduceMul, Int.reduceNeg, Go.Proofs.Try.f15, hc1, i0, i1, i2, i3, yav, yax, zax, zas, qat, yat, yad, zae, qac, zad, yab, qad, sst, qab, yaa, qaa, List.replicate_succ, List.drop_zero]
    | refine Sp2.f ?_ ?_
    | refine Spl.f ?_ ?_ <;> intro hb
    | refine yac rfl (fun b hb => ?_))
        have z2 : FSpec prog 53 [.ref (h.length + 1) [0] 94, .int .u64 (IntKind.u64.wrap x.Kind), .int .i64 1] _ _ := y1.num (IntKind.u64.wrap x.Kind) 1 (by omega) (by omega) (by simp only [List.length_append, yak]; omega)
        refine ya4 z2 fun v2 K2 hp2 => ?_
        have y2 := hp2.2
        have hc2 := y2.got (List.mem_cons_self ..)
        repeat' (first
    | simp (implicitDefEqProofs := false) only [push_cast, reduceIte, reduceCtorEq, Nat.reduceAdd, Nat.reduceSub, Nat.reduceEqDiff, Nat.reduceLT, Nat.reduceLeDiff, Nat.reduceBEq, Nat.reduceMul, Int.reduceLT, Int.reduceLE, Int.reduceEq, Int.reduceToNat, Int.reduceMul, Int.reduceNeg, Go.Proofs.Try.f15, hc2, i0, i1, i2, i3, yav, yax, zax, zas, qat, yat, yad, zae, qac, zad, yab, qad, sst, qab, yaa, qaa, List.replicate_succ, List.drop_zero]
    | refine Sp2.f ?_ ?_
    | refine Spl.f ?_ ?_ <;> intro hb
    | refine yac rfl (fun b hb => ?_)
    | refine zay (c_sBit x.Late) ?_)
        have z3 : FSpec prog 53 [.ref (h.length + 1) [0] 94, .int .u64 (zdp x.Late), .int .i64 1] _ _ := y2.num (zdp x.Late) 1 (by omega) (by omega) (by simp only [List.length_append, yak]; omega)
        refine ya4 z3 fun v3 K3 hp3 => ?_
        have y3 := hp3.2
        have hc3 := y3.got (List.mem_cons_self ..)
        repeat' (first
    | simp (implicitDefEqProofs := false) only [push_cast, reduceIte, reduceCtorEq, Nat.reduceAdd, Nat.reduceSub, Nat.reduceEqDiff, Nat.reduceLT, Nat.reduceLeDiff, Nat.reduceBEq, Nat.reduceMul, Int.reduceLT, Int.reduceLE, Int.reduceEq, Int.reduceToNat, Int.reduceMul, Int.reduceNeg, Go.Proofs.Try.f15, hc3, i0, i1, i2, i3, yav, yax, zax, zas, qat, yat, yad, zae, qac, zad, yab, qad, sst, qab, yaa, qaa, List.replicate_succ, List.drop_zero]
    | refine Sp2.f ?_ ?_
    | refine Spl.f ?_ ?_ <;> intro hb
    | refine yac rfl (fun b hb => ?_)
    | refine zay (c_sFields x.T hxT) ?_)
        have z4 : FSpec prog 54 [.ref (h.length + 1) [0] 94, eBs (yah x.T)] _ _ := y3.text (yah x.T) (by simp only [List.length_append, yak]; omega)
        refine ya4 z4 fun v4 K4 hp4 => ?_
        have y4 := hp4.2
        have hc4 := y4.got (List.mem_cons_self ..)
        repeat' (first
    | simp (implicitDefEqProofs := false) only [push_cast, reduceIte, reduceCtorEq, Nat.reduceAdd, Nat.reduceSub, Nat.reduceEqDiff, Nat.reduceLT, Nat.reduceLeDiff, Nat.reduceBEq, Nat.reduceMul, Int.reduceLT, Int.reduceLE, Int.reduceEq, Int.reduceToNat, Int.reduceMul, Int.reduceNeg, Go.Proofs.Try.f15, qae hi9, yad, zae, qac, zad, yab, qad, sst, qab, yaa, qaa, List.replicate_succ, List.drop_zero]
    | refine Sp2.f ?_ ?_
    | refine Spl.f ?_ ?_ <;> intro hb
    | refine yac rfl (fun b hb => ?_))
        refine ⟨hlt, ?_⟩
        rw [hps]
        have yz := y4.less
        simp only [List.append_assoc] at yz ⊢
        exact yz
      · have hie : i = s.Last.length := by omega
        rw [hie, List.take_length] at p
        have c4 : decide ((i : Int) < 4) = false := by simp; omega
        repeat' (first
    | simp (implicitDefEqProofs := false) only [push_cast, reduceIte, reduceCtorEq, Nat.reduceAdd, Nat.reduceSub, Nat.reduceEqDiff, Nat.reduceLT, Nat.reduceLeDiff, Nat.reduceBEq, Nat.reduceMul, Int.reduceLT, Int.reduceLE, Int.reduceEq, Int.reduceToNat, Int.reduceMul, Int.reduceNeg, Go.Proofs.Try.f15, c4, yad, zae, qac, zad, yab, qad, sst, qab, yaa, qaa, List.replicate_succ, List.drop_zero]
    | refine Sp2.f ?_ ?_
    | refine Spl.f ?_ ?_ <;> intro hb
    | refine yac rfl (fun b hb => ?_))
        exact p
    rintro _ env' H9 ⟨rfl, p9, henv⟩
    rw [henv]
    generalize lk env' = a
    clear henv env'
    simp only [List.drop_succ_cons, List.drop_zero]
    rw [hput.symm] at p9
    repeat' (first
    | simp (implicitDefEqProofs := false) only [push_cast, reduceIte, reduceCtorEq, Nat.reduceAdd, Nat.reduceSub, Nat.reduceEqDiff, Nat.reduceLT, Nat.reduceLeDiff, Nat.reduceBEq, Nat.reduceMul, Int.reduceLT, Int.reduceLE, Int.reduceEq, Int.reduceToNat, Int.reduceMul, Int.reduceNeg, Go.Proofs.Try.f15, fk_tt, yad, zae, qac, zad, yab, qad, sst, qab, yaa, qaa, List.replicate_succ, List.drop_zero]
    | refine Sp2.f ?_ ?_
    | refine Spl.f ?_ ?_ <;> intro hb
    | refine yac rfl (fun b hb => ?_)
    | refine yal p9.bytes ?_)
    refine ⟨rfl, p9.tk, [eBs (qby s), .int .i64 0], rfl, ?_, ?_⟩
    · simp only [rzL, ybr _ (zbd _), rz, yas, qan _ (zbd _), zan, Bool.and_self]
    · simp only [rzL, ybr _ (zbd _), rz]
      exact ⟨_, rfl, .inl rfl⟩
end Go.Abs
set_option linter.all false
set_option maxRecDepth 100000
set_option maxHeartbeats 0
namespace Go.Abs
open Go
open Go.Proofs.Try (prog)
theorem flatL_map {α : Type} (f : α → AV) (hf : ∀ x, flat (f x) = true) : ∀ l : List α, flatL (l.map f) = true
  | [] => rfl
  | x :: l => by rw [List.map_cons, flatL, hf, flatL_map f hf l]; rfl
theorem eH_flat (l : List UInt8) : flat (eH l) = true := by rw [eH, flat]; exact flatL_map eB (fun _ => rfl) l
def statB : List UInt8 := [83, 84, 65, 84]
theorem bwV {H : List Entry} {k n lo : Nat} {l : List UInt8} {es : List AV} (z : List AV) (hk : H[k]? = some ⟨5, es, .own⟩) (hes : es = l.map eB ++ z) (hn : n = l.length) :
    [bw H 8 (.win k [] 5 0 n lo)] = [.list 5 (l.map eB)] := by
  have hv : View (fun _ => True) H 5 (.win k [] 5 0 n lo) (l.map eB) := View.mk' z trivial hk hes (by rw [hn]; simp)
  subst hes; subst hn
  rw [bw_winE, hk, bwWin_own]
  have : qaq (l.map eB ++ z) [] 0 l.length = some (l.map eB) := by simp [qaq]
  rw [this, bwWinO_some, yde _ _ (yaw eB yc8 l)]
theorem c_OfBytes (bs : List UInt8) (hl : bs.length ≤ 90000000) : Fn prog 23 [eBs bs] (eH (qdx (statB ++ bs))) := by
  have hs := c_Sum (statB ++ bs) (by simp [statB]; omega)
  refine run_23 rfl fun h => ?_
  have e1 : decide (4 + bs.length ≤ 4294967296) = true := by simp; omega
  repeat' (first
    | simp (implicitDefEqProofs := false) only [push_cast, reduceIte, reduceCtorEq, Nat.reduceAdd, Nat.reduceSub, Nat.reduceEqDiff, Nat.reduceLT, Nat.reduceLeDiff, Nat.reduceBEq, Nat.reduceMul, Int.reduceLT, Int.reduceLE, Int.reduceEq, Int.reduceToNat, Int.reduceMul, Int.reduceNeg, Go.Proofs.Try.f23, e1, eBs, List.length_map, zas, qat, yat, eH_ty, ydv, hE0, yad, zae, qac, zad, yab, qad, sst, qab, yaa, qaa, List.replicate_succ, List.drop_zero]
    | refine Sp2.f ?_ ?_
    | refine Spl.f ?_ ?_ <;> intro hb
    | refine yac rfl (fun b hb => ?_)
    | refine k_borrow wfp (args' := [eBs (statB ++ bs)]) ?_ hs ?_ (eH_flat _) ?_)
  · exact bwV (List.drop (4 + bs.length) (statB.map eB)) (qa9 h _ 1) rfl (by simp [statB]; omega)
  · exact qan (n := 0) _ (zbd _)
  · exact ⟨ydv _, by rw [ybr _ (zcg _)]; exact qan _ (zcg _), ybr _ (zcg _)⟩
  · exact bwV [] (qa9 h _ 2) (by rw [List.append_nil]; rfl) (by simp [statB]; omega)
  · exact qan (n := 0) _ (zbd _)
  · exact ⟨ydv _, by rw [ybr _ (zcg _)]; exact qan _ (zcg _), ybr _ (zcg _)⟩
theorem RS.text_short {s : RS} {B : List UInt8} (h : s.l = B.drop (B.length - s.l.length)) (hl : s.l.length ≤ B.length) (hB : B.length ≤ 100000000) (m : Int) : (s.text m).1.length ≤ 100000000 := by
  have h1 := RS.num_suf h hl 4
  rw [RS.text]
  generalize (if max m 0 < (s.num 4).1 then (-1 : Int) else (s.num 4).1) = q
  unfold RS.raw
  split
  · simp only [List.length_take]; omega
  · simp
def pcE (kd : Nat) : Entry := ⟨105, [.ref kd [0] 162], .own⟩
theorem c_Get1 {h : List Entry} {kc kd kb : Nat} {B : List UInt8} {s : RS} (hc : h[kc]? = some (pcE kd)) (r : Rdr h kd kb B s) :
    FSpec prog 64 [.ref kc [0] 105] h fun r' h' => r' = eFs (ycj s).1 ∧ h' = h.set kd (rdE kb B (ycj s).2) := by
  have lc := zac hc
  have hg := c_tGet (s.text 1000).1 (RS.text_short r.suf r.len r.big 1000)
  have ht := c_RText r 1000
  have hr2 : (ycj s).2 = (s.text 1000).2 := rfl
  have hr1 : (ycj s).1 = (qc7 (s.text 1000).1).getD [] := rfl
  rw [hr2, hr1]
  refine frun_64 rfl ?_
  repeat' (first
    | simp (implicitDefEqProofs := false) only [push_cast, reduceIte, reduceCtorEq, Nat.reduceAdd, Nat.reduceSub, Nat.reduceEqDiff, Nat.reduceLT, Nat.reduceLeDiff, Nat.reduceBEq, Nat.reduceMul, Int.reduceLT, Int.reduceLE, Int.reduceEq, Int.reduceToNat, Int.reduceMul, Int.reduceNeg, Go.Proofs.Try.f64, hc, lc, pcE, yad, zae, qac, zad, yab, qad, sst, qab, yaa, qaa, List.replicate_succ, List.drop_zero]
    | refine Sp2.f ?_ ?_
    | refine Spl.f ?_ ?_ <;> intro hb
    | refine yac rfl (fun b hb => ?_))
  refine ya4 ht fun v H hv => ?_
  obtain ⟨hv, rfl⟩ := hv
  have h1 := hv.ty.1
  have h2 := hv.ty.2.1
  have h3 := hv.ty.2.2
  repeat' (first
    | simp (implicitDefEqProofs := false) only [push_cast, reduceIte, reduceCtorEq, Nat.reduceAdd, Nat.reduceSub, Nat.reduceEqDiff, Nat.reduceLT, Nat.reduceLeDiff, Nat.reduceBEq, Nat.reduceMul, Int.reduceLT, Int.reduceLE, Int.reduceEq, Int.reduceToNat, Int.reduceMul, Int.reduceNeg, Go.Proofs.Try.f64, h1, h2, h3, yav, yax, zax, yad, zae, qac, zad, yab, qad, sst, qab, yaa, qaa, List.replicate_succ, List.drop_zero]
    | refine Sp2.f ?_ ?_
    | refine Spl.f ?_ ?_ <;> intro hb
    | refine yac rfl (fun b hb => ?_)
    | refine zay hg ?_)
end Go.Abs
set_option linter.all false
set_option maxRecDepth 100000
set_option maxHeartbeats 0
namespace Go.Abs
open Go
open Go.Proofs.Try (prog)
theorem all2_beq : ∀ l m : List UInt8, qb0 (fun x y : UInt8 => x == y) l m = (l == m)
  | [], [] => rfl
  | [], _ :: _ => rfl
  | _ :: _, [] => rfl
  | x :: l, y :: m => by simp [qb0, all2_beq l m]
theorem eqB (x y : UInt8) : ((x.toNat : Int) == (y.toNat : Int)) = (x == y) := by
  by_cases h : x = y
  · subst h; simp
  · have : x.toNat ≠ y.toNat := fun e => h (UInt8.toNat_inj.mp e)
    have e1 : ((x.toNat : Int) == (y.toNat : Int)) = false := by simp only [beq_eq_false_iff_ne]; omega
    rw [e1]
    exact (beq_eq_false_iff_ne.mpr h).symm
theorem c_Equal_B (l m : List UInt8) (hl : l.length ≤ 4294967296) (hm : m.length ≤ 4294967296) : Fn prog 69 [eBs l, eBs m] (.bool (l == m)) := by
  rw [← all2_beq]
  refine run_69 rfl fun h => ?_
  by_cases hlen : l.length = m.length
  · repeat' (first
    | simp (implicitDefEqProofs := false) only [push_cast, reduceIte, reduceCtorEq, Nat.reduceAdd, Nat.reduceSub, Nat.reduceEqDiff, Nat.reduceLT, Nat.reduceLeDiff, Nat.reduceBEq, Nat.reduceMul, Int.reduceLT, Int.reduceLE, Int.reduceEq, Int.reduceToNat, Int.reduceMul, Int.reduceNeg, Go.Proofs.Try.f69, eBs, List.length_map, eq_len hlen]
    | refine Sp2.f ?_ ?_
    | refine Spl.f ?_ ?_ <;> intro hb
    | refine yac rfl (fun b hb => ?_)
    | refine zaa (U := [[], [], [], [], [], [], [], [], []]) (H := []) zaf (by kernel_rfl) (by decide +kernel) (by kernel_rfl) ?_)
    refine qax (fun i a => [(0, eBs l), (1, eBs m), (4, .bool false), (5, a 5), (10, a 10), (12, .int .i64 l.length), (13, .int .i64 i), (14, a 14), (24, a 24)]) (fun _ g => h ++ g) (fun i => i ≤ l.length ∧ ∀ j x y, j < i → l[j]? = some x → m[j]? = some y → (x == y) = true) l.length (za3 rfl ⟨[], (List.append_nil h).symm⟩ ⟨Nat.zero_le _, fun j x y hj => absurd hj (Nat.not_lt_zero j)⟩) ?_
    rintro i a g' ⟨hi, hinv⟩
    refine ⟨hi, ?_⟩
    by_cases hlt : i < l.length
    · have hlt' : i < m.length := by omega
      have hx : l[i]? = some l[i] := List.getElem?_eq_getElem hlt
      have hy : m[i]? = some m[i] := List.getElem?_eq_getElem hlt'
      have hq := eqB l[i] m[i]
      repeat' (first
    | simp (implicitDefEqProofs := false) only [push_cast, reduceIte, reduceCtorEq, Nat.reduceAdd, Nat.reduceSub, Nat.reduceEqDiff, Nat.reduceLT, Nat.reduceLeDiff, Nat.reduceBEq, Nat.reduceMul, Int.reduceLT, Int.reduceLE, Int.reduceEq, Int.reduceToNat, Int.reduceMul, Int.reduceNeg, Go.Proofs.Try.f69, eBs, List.length_map, zau hlt, yar hlt, yar hlt', zal eB hx, zal eB hy, eB, eqA, hq, Int.toNat_natCast, qae (show i < 9223372036854775807 by omega)]
    | refine Sp2.f ?_ ?_
    | refine Spl.f ?_ ?_ <;> intro hb
    | refine yac rfl (fun b hb => ?_)
    | refine zaa (U := [[], [], [], [], [], [], [], [], []]) (H := []) zaf (by kernel_rfl) (by decide +kernel) (by kernel_rfl) ?_
    | refine za3 ?_ ⟨_, rfl⟩ ?_)
      · have hb := ‹((l[i].toNat : Int) != (m[i].toNat : Int)) = true›
        rw [bne, hq, Bool.not_eq_true'] at hb
        rw [zbo hx hy hb]
      · have hb := ‹((l[i].toNat : Int) != (m[i].toNat : Int)) = false›
        rw [bne, hq, Bool.not_eq_false'] at hb
        exact ⟨hlt, qbf hx hy hb hinv⟩
    · repeat' (first
    | simp (implicitDefEqProofs := false) only [push_cast, reduceIte, reduceCtorEq, Nat.reduceAdd, Nat.reduceSub, Nat.reduceEqDiff, Nat.reduceLT, Nat.reduceLeDiff, Nat.reduceBEq, Nat.reduceMul, Int.reduceLT, Int.reduceLE, Int.reduceEq, Int.reduceToNat, Int.reduceMul, Int.reduceNeg, Go.Proofs.Try.f69, List.length_map, ya5 hlt]
    | refine Sp2.f ?_ ?_
    | refine Spl.f ?_ ?_ <;> intro hb
    | refine yac rfl (fun b hb => ?_)
    | refine zaa (U := [[], [], [], [], [], [], [], [], []]) (H := []) zaf (by kernel_rfl) (by decide +kernel) (by kernel_rfl) ?_)
      rw [zbx hlen fun j x y hj => hinv j x y (by omega)]
  · repeat' (first
    | simp (implicitDefEqProofs := false) only [push_cast, reduceIte, reduceCtorEq, Nat.reduceAdd, Nat.reduceSub, Nat.reduceEqDiff, Nat.reduceLT, Nat.reduceLeDiff, Nat.reduceBEq, Nat.reduceMul, Int.reduceLT, Int.reduceLE, Int.reduceEq, Int.reduceToNat, Int.reduceMul, Int.reduceNeg, Go.Proofs.Try.f69, eBs, List.length_map, neq_len hlen]
    | refine Sp2.f ?_ ?_
    | refine Spl.f ?_ ?_ <;> intro hb
    | refine yac rfl (fun b hb => ?_)
    | refine zaa (U := [[], [], [], [], [], [], [], [], []]) (H := []) zaf (by kernel_rfl) (by decide +kernel) (by kernel_rfl) ?_)
    rw [qcm hlen]
end Go.Abs
