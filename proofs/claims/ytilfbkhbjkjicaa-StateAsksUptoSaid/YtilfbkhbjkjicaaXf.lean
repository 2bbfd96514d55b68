/- Xf: a part of the proofs about the tuple space and its bytes. -/
import Derived.Test.YtilfbkhbjkjicaaXe
import Derived.Test.YtilfbkhbjkjicaaSy
set_option linter.all false
set_option maxRecDepth 100000
set_option maxHeartbeats 0
namespace Go.Abs
open Go
open Go.Proofs.Try (prog)
theorem zdo {h2 : List Entry} {k n lo : Nat} {ls : List (List UInt8)} (hn : ls.length = n) (h0 : ls ≠ []) (hc : ls.length ≤ 1000) (hl : ls.flatten.length ≤ 100000000) (e1 : h2[k]? = some ⟨30, ls.map eBs, .own⟩) :
    FSpec prog 58 [.win k [] 30 0 n lo] h2 fun r' h'' => r' = eBs ls.flatten ∧ h'' = yay h2 [(k, ⟨30, ls.map eBs, .fz⟩)] := by
  subst hn
  have l1 := zac e1
  refine FSpec.freeze wfp e1 rfl (by simpa using h0) ?_
  simp only [fzE, yay]
  have q1 : (h2.set k (⟨30, ls.map eBs, .fz⟩ : Entry))[k]? = some (⟨30, ls.map eBs, .fz⟩ : Entry) := List.getElem?_set_self l1
  have w1 : qaq (ls.map eBs) [] 0 ls.length = some (ls.map eBs) := by simp [qaq, List.take_of_length_le]
  have hb : ∀ (H : List Entry) (n : Nat) (l : List (List UInt8)), (l.map eBs).map (bzd H n) = l.map eBs := fun H n l => by
    rw [List.map_map]
    exact List.map_congr_left fun x _ => bzd_datw _ _ (zbd x)
  refine FSpec.readd wfp 3 ?_ (c_Cat ls hc hl)
  rw [List.map_cons, List.map_nil, bzd_winS q1 w1, hb]
theorem c_PutSpace6 (s : Spc) (hm : zbw s = true) : Fn prog 18 [eS s] (eBs (qby s)) := by
  have hm2 := hm
  simp only [zbw, Bool.and_eq_true, List.all_eq_true] at hm2
  obtain ⟨⟨⟨⟨a1, a2⟩, a3⟩, a4⟩, a5⟩ := hm2
  simp only [mayH, Bool.and_eq_true, decide_eq_true_eq] at a1
  obtain ⟨⟨⟨⟨⟨b1, b2⟩, b3⟩, b4⟩, b5⟩, b6⟩ := a1
  have hsl := putS_len hm
  have g0 : qbg (eS s) [0] = some (.int .i64 s.Now) := rfl
  have g1 : qbg (eS s) [1] = some (eIs s.Items) := rfl
  have g2 : qbg (eS s) [2] = some (eWs s.Waiters) := rfl
  have g3 : qbg (eS s) [3] = some (.int .i64 s.Read) := rfl
  have g4 : qbg (eS s) [4] = some (.int .i64 s.Write) := rfl
  have hI : zcp prog 22 (eIs s.Items) = .ret (.int .i64 s.Items.length) [] := by rw [eIs, ybt, List.length_map]; rfl
  have hW : zcp prog 23 (eWs s.Waiters) = .ret (.int .i64 s.Waiters.length) [] := by rw [eWs, ybt, List.length_map]; rfl
  have n0 := qco (IntKind.wrap .u64 s.Now) 8 (by omega) (by omega)
  have n3 := qco (IntKind.wrap .u64 s.Read) 1 (by omega) (by omega)
  have n4 := qco (IntKind.wrap .u64 s.Write) 1 (by omega) (by omega)
  have n1 := qco (IntKind.wrap .u64 s.Items.length) 1 (by omega) (by omega)
  have n2 := qco (IntKind.wrap .u64 s.Waiters.length) 1 (by omega) (by omega)
  refine run_18 rfl fun h => ?_
  repeat' (first
    | simp (implicitDefEqProofs := false) only [push_cast, reduceIte, reduceCtorEq, Nat.reduceAdd, Nat.reduceSub, Nat.reduceEqDiff, Nat.reduceLT, Nat.reduceLeDiff, Nat.reduceBEq, Nat.reduceMul, Int.reduceLT, Int.reduceLE, Int.reduceEq, Int.reduceToNat, Int.reduceMul, Int.reduceNeg, Go.Proofs.Try.f18, g0, g1, g3, g4, hI, qcp, zcq, ycp, zas, qat, yat, ybq, Bool.false_eq_true, if_false, Nat.zero_add, yad, zae, qac, zad, yab, qad, sst, qab, yaa, qaa, List.replicate_succ, List.drop_zero]
    | refine Sp2.f ?_ ?_
    | refine Spl.f ?_ ?_ <;> intro hb
    | refine yac rfl (fun b hb => ?_)
    | refine zaa (U := [[], [], [], [], [], [3], [3], [], [], [3, 7], [3, 7], [], [], [3, 7, 11], [], [3, 7, 11], [], [], [], []]) (H := [⟨0, [], .hole⟩]) zaf (by kernel_rfl) (by decide +kernel) (by kernel_rfl) ?_
    | refine zaa (U := [[], [], [], [], [], [], [4], [4], [], [], [4, 8], [], [], [], [], []]) (H := [⟨0, [], .hole⟩]) zaf (by kernel_rfl) (by decide +kernel) (by kernel_rfl) ?_
    | refine zaa (U := [[], [], [], [], [], [], [4], [4], [], [], [4, 8], [], [], [4, 8, 11], [], [], [], [], []]) (H := [⟨0, [], .hole⟩]) zaf (by kernel_rfl) (by decide +kernel) (by kernel_rfl) ?_
    | refine zaa (U := [[], [], [], [], [], [], [4], [4], [], [], [4, 8], [], [], [4, 8, 11], [], [], [], [], []]) (H := [⟨0, [], .hole⟩]) zaf (by kernel_rfl) (by decide +kernel) (by kernel_rfl) ?_
    | refine zaq n0 ?_
    | refine zaq n3 ?_
    | refine zaq n4 ?_
    | refine zaq n1 ?_)
  obtain ⟨l4, hl4⟩ : ∃ l4, l4 = nb s.Now 8 ++ (nb s.Read 1 ++ (nb s.Write 1 ++ beN s.Items.length 1)) := ⟨_, rfl⟩
  have hll4 : l4.length = 11 := by rw [hl4]; simp [nb, yak]
  have hIw : IntKind.wrap .u64 (s.Items.length : Int) = s.Items.length := by rw [zak]; omega
  have hWw : IntKind.wrap .u64 (s.Waiters.length : Int) = s.Waiters.length := by rw [zak]; omega
  have hfl : [beN (IntKind.wrap .u64 s.Now) 8, beN (IntKind.wrap .u64 s.Read) 1, beN (IntKind.wrap .u64 s.Write) 1, beN (IntKind.wrap .u64 s.Items.length) 1].flatten = l4 := by
    rw [hl4, hIw]; simp [nb]
  have hput : qby s = l4 ++ (zcc s.Items ++ (beN s.Waiters.length 1 ++ (zch s.Waiters ++ qcc s.Last))) := by rw [hl4]; simp [qby]
  refine qdv [h.length + 1] [(h.length + 1, ⟨30, [beN (IntKind.wrap .u64 s.Now) 8, beN (IntKind.wrap .u64 s.Read) 1, beN (IntKind.wrap .u64 s.Write) 1, beN (IntKind.wrap .u64 s.Items.length) 1].map eBs, .fz⟩)] (fun h2 hh => zdo (ls := [beN (IntKind.wrap .u64 s.Now) 8, beN (IntKind.wrap .u64 s.Read) 1, beN (IntKind.wrap .u64 s.Write) 1, beN (IntKind.wrap .u64 s.Items.length) 1]) rfl (by simp) (by simp) (by rw [hfl]; omega) (by rw [hh _ (by simp), qa9]; rfl)) ?_
  rw [hfl]
  repeat' (first
    | simp (implicitDefEqProofs := false) only [push_cast, reduceIte, reduceCtorEq, Nat.reduceAdd, Nat.reduceSub, Nat.reduceEqDiff, Nat.reduceLT, Nat.reduceLeDiff, Nat.reduceBEq, Nat.reduceMul, Int.reduceLT, Int.reduceLE, Int.reduceEq, Int.reduceToNat, Int.reduceMul, Int.reduceNeg, Go.Proofs.Try.f18, zas, qat, yat, ybq, Bool.false_eq_true, if_false, Nat.zero_add, yad, zae, qac, zad, yab, qad, sst, qab, yaa, qaa, List.replicate_succ, List.drop_zero]
    | refine Sp2.f ?_ ?_
    | refine Spl.f ?_ ?_ <;> intro hb
    | refine yac rfl (fun b hb => ?_)
    | refine zaa (U := [[], [], [], [], [], [3], [3], [], [], [3, 7], [3, 7], [], [], [3, 7, 11], [], [3, 7, 11], [], [], [], []]) (H := [⟨0, [], .hole⟩]) zaf (by kernel_rfl) (by decide +kernel) (by kernel_rfl) ?_
    | refine zaa (U := [[], [], [], [], [], [], [4], [4], [], [], [4, 8], [], [], [], [], []]) (H := [⟨0, [], .hole⟩]) zaf (by kernel_rfl) (by decide +kernel) (by kernel_rfl) ?_
    | refine zaa (U := [[], [], [], [], [], [], [4], [4], [], [], [4, 8], [], [], [4, 8, 11], [], [], [], [], []]) (H := [⟨0, [], .hole⟩]) zaf (by kernel_rfl) (by decide +kernel) (by kernel_rfl) ?_
    | refine zaa (U := [[], [], [], [], [], [], [4], [4], [], [], [4, 8], [], [], [4, 8, 11], [], [], [], [], []]) (H := [⟨0, [], .hole⟩]) zaf (by kernel_rfl) (by decide +kernel) (by kernel_rfl) ?_)
  have hsp : (h ++ [(⟨29, [eS s], .own⟩ : Entry), ⟨30, [eBs (beN (IntKind.wrap .u64 s.Now) 8), eBs (beN (IntKind.wrap .u64 s.Read) 1), eBs (beN (IntKind.wrap .u64 s.Write) 1), eBs (beN (IntKind.wrap .u64 s.Items.length) 1)], .fz⟩])[h.length]? = some ⟨29, [eS s], .own⟩ := zar ..
  refine qau (fun i env' H => i ≤ s.Items.length ∧ H.take h.length = h ∧ H[h.length]? = some ⟨29, [eS s], .own⟩ ∧ env' = (fun a : Nat → AV => [(0, eS s), (1, .ref h.length [0] 29), (2, .nils), (3, eBs (l4 ++ zcc (s.Items.take i))), (4, .int .i64 (i : Int)), (5, a 5), (6, a 6), (7, a 7), (8, a 8), (9, a 9), (33, a 33), (68, a 68), (95, a 95)]) (lk env')) s.Items.length ⟨Nat.zero_le _, by simp, hsp, by rw [List.take_zero, zcc, List.flatMap_nil, List.append_nil]; rfl⟩ ?_
  clear hsp
  rintro i env H ⟨hi, hT, hsp, henv⟩
  refine ⟨hi, ?_⟩
  rw [henv]
  generalize lk env = a
  clear henv env
  have hspl := zac hsp
  by_cases hlt : i < s.Items.length
  · obtain ⟨x, hx⟩ : ∃ x, s.Items[i]? = some x := ⟨_, List.getElem?_eq_getElem hlt⟩
    have gx := zal eI hx
    have hmx := a2 x (List.mem_of_getElem? hx)
    have hxT : qcf x.T = true := by simp only [qdo, Bool.and_eq_true] at hmx; exact ycf hmx.2
    have m0 := qco (IntKind.wrap .u64 x.Owner) 1 (by omega) (by omega)
    have m1 := qco (IntKind.wrap .u64 x.Until) 8 (by omega) (by omega)
    have m2 := zc0 x.T (.inl hxT)
    have m3 := c_Text1 (yah x.T) (by have := qa4 x.T; omega)
    have hsn : l4 ++ zcc (s.Items.take (i + 1)) = [l4 ++ zcc (s.Items.take i), beN (IntKind.wrap .u64 x.Owner) 1, beN (IntKind.wrap .u64 x.Until) 8, qaz (yah x.T)].flatten := by
      rw [List.take_add_one, hx, Option.toList_some, zcc, List.flatMap_append]; simp [zcc, zcv, nb]
    have hln : (l4 ++ zcc (s.Items.take (i + 1))).length ≤ 100000000 := by
      have := qbd qcu (s.Items.take (i + 1))
      rw [List.length_append, hll4, zcc]
      have : (s.Items.take (i + 1)).length ≤ 64 := by simp; omega
      omega
    repeat' (first
    | simp (implicitDefEqProofs := false) only [push_cast, reduceIte, reduceCtorEq, Nat.reduceAdd, Nat.reduceSub, Nat.reduceEqDiff, Nat.reduceLT, Nat.reduceLeDiff, Nat.reduceBEq, Nat.reduceMul, Int.reduceLT, Int.reduceLE, Int.reduceEq, Int.reduceToNat, Int.reduceMul, Int.reduceNeg, Go.Proofs.Try.f18, g1, hI, hsp, hspl, gx, eI, eIs, zau hlt, yar hlt, List.length_map, Int.toNat_natCast, qae (show i < 9223372036854775807 by omega), zas, qat, yat, yav, yax, zax, ybq, Bool.false_eq_true, if_false, Nat.zero_add, zaj hspl, yag hspl, za4 hspl, yaj hspl, yad, zae, qac, zad, yab, qad, sst, qab, yaa, qaa, List.replicate_succ, List.drop_zero]
    | refine Sp2.f ?_ ?_
    | refine Spl.f ?_ ?_ <;> intro hb
    | refine yac rfl (fun b hb => ?_)
    | refine zaa (U := [[], [], [], [], [], [3], [3], [], [], [3, 7], [3, 7], [], [], [3, 7, 11], [], [3, 7, 11], [], [], [], []]) (H := [⟨0, [], .hole⟩]) zaf (by kernel_rfl) (by decide +kernel) (by kernel_rfl) ?_
    | refine zaa (U := [[], [], [], [], [], [], [4], [4], [], [], [4, 8], [], [], [], [], []]) (H := [⟨0, [], .hole⟩]) zaf (by kernel_rfl) (by decide +kernel) (by kernel_rfl) ?_
    | refine zaa (U := [[], [], [], [], [], [], [4], [4], [], [], [4, 8], [], [], [4, 8, 11], [], [], [], [], []]) (H := [⟨0, [], .hole⟩]) zaf (by kernel_rfl) (by decide +kernel) (by kernel_rfl) ?_
    | refine zaa (U := [[], [], [], [], [], [], [4], [4], [], [], [4, 8], [], [], [4, 8, 11], [], [], [], [], []]) (H := [⟨0, [], .hole⟩]) zaf (by kernel_rfl) (by decide +kernel) (by kernel_rfl) ?_
    | refine zaq m0 ?_
    | refine zaq m1 ?_
    | refine zaq m2 ?_
    | refine zaq m3 ?_)
    refine qdv [H.length + 1] [(H.length + 1, ⟨30, [l4 ++ zcc (s.Items.take i), beN (IntKind.wrap .u64 x.Owner) 1, beN (IntKind.wrap .u64 x.Until) 8, qaz (yah x.T)].map eBs, .fz⟩)] (fun h2 hh => zdo (ls := [l4 ++ zcc (s.Items.take i), beN (IntKind.wrap .u64 x.Owner) 1, beN (IntKind.wrap .u64 x.Until) 8, qaz (yah x.T)]) rfl (by simp) (by simp) (by rw [← hsn]; exact hln) (by rw [hh _ (by simp), qa9]; rfl)) ?_
    rw [← hsn]
    repeat' (first
    | simp (implicitDefEqProofs := false) only [push_cast, reduceIte, reduceCtorEq, Nat.reduceAdd, Nat.reduceSub, Nat.reduceEqDiff, Nat.reduceLT, Nat.reduceLeDiff, Nat.reduceBEq, Nat.reduceMul, Int.reduceLT, Int.reduceLE, Int.reduceEq, Int.reduceToNat, Int.reduceMul, Int.reduceNeg, Go.Proofs.Try.f18, Int.toNat_natCast, qae (show i < 9223372036854775807 by omega), zas, qat, yat, ybq, Bool.false_eq_true, if_false, Nat.zero_add, yad, zae, qac, zad, yab, qad, sst, qab, yaa, qaa, List.replicate_succ, List.drop_zero]
    | refine Sp2.f ?_ ?_
    | refine Spl.f ?_ ?_ <;> intro hb
    | refine yac rfl (fun b hb => ?_)
    | refine zaa (U := [[], [], [], [], [], [3], [3], [], [], [3, 7], [3, 7], [], [], [3, 7, 11], [], [3, 7, 11], [], [], [], []]) (H := [⟨0, [], .hole⟩]) zaf (by kernel_rfl) (by decide +kernel) (by kernel_rfl) ?_
    | refine zaa (U := [[], [], [], [], [], [], [4], [4], [], [], [4, 8], [], [], [], [], []]) (H := [⟨0, [], .hole⟩]) zaf (by kernel_rfl) (by decide +kernel) (by kernel_rfl) ?_
    | refine zaa (U := [[], [], [], [], [], [], [4], [4], [], [], [4, 8], [], [], [4, 8, 11], [], [], [], [], []]) (H := [⟨0, [], .hole⟩]) zaf (by kernel_rfl) (by decide +kernel) (by kernel_rfl) ?_
    | refine zaa (U := [[], [], [], [], [], [], [4], [4], [], [], [4, 8], [], [], [4, 8, 11], [], [], [], [], []]) (H := [⟨0, [], .hole⟩]) zaf (by kernel_rfl) (by decide +kernel) (by kernel_rfl) ?_)
    exact ⟨hlt, by rw [List.take_append_of_le_length (by omega)]; exact hT, by rw [List.getElem?_append_left hspl]; exact hsp⟩
  have hie : i = s.Items.length := by omega
  subst hie
  rw [List.take_length]
  obtain ⟨l6, hl6⟩ : ∃ l6, l6 = l4 ++ zcc s.Items ++ beN s.Waiters.length 1 := ⟨_, rfl⟩
  have hll6 : l6.length ≤ 20000 := by
    have := qbd qcu s.Items
    rw [hl6, List.length_append, List.length_append, hll4, yak, zcc]; omega
  have hfl6 : [l4 ++ zcc s.Items, beN (IntKind.wrap .u64 s.Waiters.length) 1].flatten = l6 := by rw [hl6, hWw]; simp
  repeat' (first
    | simp (implicitDefEqProofs := false) only [push_cast, reduceIte, reduceCtorEq, Nat.reduceAdd, Nat.reduceSub, Nat.reduceEqDiff, Nat.reduceLT, Nat.reduceLeDiff, Nat.reduceBEq, Nat.reduceMul, Int.reduceLT, Int.reduceLE, Int.reduceEq, Int.reduceToNat, Int.reduceMul, Int.reduceNeg, Go.Proofs.Try.f18, g1, g2, hI, hW, hsp, hspl, ya5 hlt, zas, qat, yat, ybq, Bool.false_eq_true, if_false, Nat.zero_add, zaj hspl, yag hspl, za4 hspl, yaj hspl, yad, zae, qac, zad, yab, qad, sst, qab, yaa, qaa, List.replicate_succ, List.drop_zero]
    | refine Sp2.f ?_ ?_
    | refine Spl.f ?_ ?_ <;> intro hb
    | refine yac rfl (fun b hb => ?_)
    | refine zaa (U := [[], [], [], [], [], [3], [3], [], [], [3, 7], [3, 7], [], [], [3, 7, 11], [], [3, 7, 11], [], [], [], []]) (H := [⟨0, [], .hole⟩]) zaf (by kernel_rfl) (by decide +kernel) (by kernel_rfl) ?_
    | refine zaa (U := [[], [], [], [], [], [], [4], [4], [], [], [4, 8], [], [], [], [], []]) (H := [⟨0, [], .hole⟩]) zaf (by kernel_rfl) (by decide +kernel) (by kernel_rfl) ?_
    | refine zaa (U := [[], [], [], [], [], [], [4], [4], [], [], [4, 8], [], [], [4, 8, 11], [], [], [], [], []]) (H := [⟨0, [], .hole⟩]) zaf (by kernel_rfl) (by decide +kernel) (by kernel_rfl) ?_
    | refine zaa (U := [[], [], [], [], [], [], [4], [4], [], [], [4, 8], [], [], [4, 8, 11], [], [], [], [], []]) (H := [⟨0, [], .hole⟩]) zaf (by kernel_rfl) (by decide +kernel) (by kernel_rfl) ?_
    | refine zay n2 ?_)
  refine ya4 (zdo (k := H.length) (ls := [l4 ++ zcc s.Items, beN (IntKind.wrap .u64 s.Waiters.length) 1]) rfl (by simp) (by simp) (by rw [hfl6]; omega) (by rw [zar]; rfl)) ?_
  rintro r' h' ⟨rfl, rfl⟩
  rw [hfl6]
  simp only [yay]
  have hT2 : ((H ++ [(⟨30, [eBs (l4 ++ zcc s.Items), eBs (beN (IntKind.wrap .u64 s.Waiters.length) 1)], .own⟩ : Entry)]).set H.length ⟨30, [l4 ++ zcc s.Items, beN (IntKind.wrap .u64 s.Waiters.length) 1].map eBs, .fz⟩).take h.length = h := by
    rw [List.take_set_of_le (by omega), List.take_append_of_le_length (by omega)]; exact hT
  have hsp2 : ((H ++ [(⟨30, [eBs (l4 ++ zcc s.Items), eBs (beN (IntKind.wrap .u64 s.Waiters.length) 1)], .own⟩ : Entry)]).set H.length ⟨30, [l4 ++ zcc s.Items, beN (IntKind.wrap .u64 s.Waiters.length) 1].map eBs, .fz⟩)[h.length]? = some ⟨29, [eS s], .own⟩ := by
    rw [List.getElem?_set_ne (by omega), List.getElem?_append_left hspl]; exact hsp
  generalize (H ++ [(⟨30, [eBs (l4 ++ zcc s.Items), eBs (beN (IntKind.wrap .u64 s.Waiters.length) 1)], .own⟩ : Entry)]).set H.length _ = H2 at hT2 hsp2 ⊢
  clear hsp hT hspl
  repeat' (first
    | simp (implicitDefEqProofs := false) only [push_cast, reduceIte, reduceCtorEq, Nat.reduceAdd, Nat.reduceSub, Nat.reduceEqDiff, Nat.reduceLT, Nat.reduceLeDiff, Nat.reduceBEq, Nat.reduceMul, Int.reduceLT, Int.reduceLE, Int.reduceEq, Int.reduceToNat, Int.reduceMul, Int.reduceNeg, Go.Proofs.Try.f18, yad, zae, qac, zad, yab, qad, sst, qab, yaa, qaa, List.replicate_succ, List.drop_zero]
    | refine Sp2.f ?_ ?_
    | refine Spl.f ?_ ?_ <;> intro hb
    | refine yac rfl (fun b hb => ?_)
    | refine zaa (U := [[], [], [], [], [], [3], [3], [], [], [3, 7], [3, 7], [], [], [3, 7, 11], [], [3, 7, 11], [], [], [], []]) (H := [⟨0, [], .hole⟩]) zaf (by kernel_rfl) (by decide +kernel) (by kernel_rfl) ?_
    | refine zaa (U := [[], [], [], [], [], [], [4], [4], [], [], [4, 8], [], [], [], [], []]) (H := [⟨0, [], .hole⟩]) zaf (by kernel_rfl) (by decide +kernel) (by kernel_rfl) ?_
    | refine zaa (U := [[], [], [], [], [], [], [4], [4], [], [], [4, 8], [], [], [4, 8, 11], [], [], [], [], []]) (H := [⟨0, [], .hole⟩]) zaf (by kernel_rfl) (by decide +kernel) (by kernel_rfl) ?_
    | refine zaa (U := [[], [], [], [], [], [], [4], [4], [], [], [4, 8], [], [], [4, 8, 11], [], [], [], [], []]) (H := [⟨0, [], .hole⟩]) zaf (by kernel_rfl) (by decide +kernel) (by kernel_rfl) ?_)
  refine qau (fun i env' H => i ≤ s.Waiters.length ∧ H.take h.length = h ∧ H[h.length]? = some ⟨29, [eS s], .own⟩ ∧ env' = (fun a : Nat → AV => [(0, eS s), (1, .ref h.length [0] 29), (2, .nils), (3, eBs (l6 ++ zch (s.Waiters.take i))), (4, .int .i64 s.Items.length), (5, a 5), (6, .int .i64 (i : Int)), (7, a 7), (8, a 8), (9, a 9), (33, a 33), (68, a 68), (95, a 95)]) (lk env')) s.Waiters.length ⟨Nat.zero_le _, hT2, hsp2, by rw [List.take_zero, zch, List.flatMap_nil, List.append_nil]; rfl⟩ ?_
  clear hT2 hsp2 H2
  rintro i env H ⟨hi, hT, hsp, henv⟩
  refine ⟨hi, ?_⟩
  rw [henv]
  generalize lk env = a
  clear henv env
  have hspl := zac hsp
  clear hlt
  by_cases hlt : i < s.Waiters.length
  · obtain ⟨x, hx⟩ : ∃ x, s.Waiters[i]? = some x := ⟨_, List.getElem?_eq_getElem hlt⟩
    have gx := zal eW hx
    have hmx := a4 x (List.mem_of_getElem? hx)
    have hxT : qcf x.P = true := by simp only [ydt, Bool.and_eq_true] at hmx; exact hmx.2
    have m0 := qco (IntKind.wrap .u64 x.Client) 1 (by omega) (by omega)
    have m1 := qco (IntKind.wrap .u64 x.Seq) 4 (by omega) (by omega)
    have m4 := c_bit6 x.Take
    have m2 := zc0 x.P (.inl hxT)
    have m3 := c_Text1 (yah x.P) (by have := qa4 x.P; omega)
    have hsn : l6 ++ zch (s.Waiters.take (i + 1)) = [l6 ++ zch (s.Waiters.take i), beN (IntKind.wrap .u64 x.Client) 1, beN (IntKind.wrap .u64 x.Seq) 4, beN (zdp x.Take) 1, qaz (yah x.P)].flatten := by
      rw [List.take_add_one, hx, Option.toList_some, zch, List.flatMap_append]; simp [zch, ycu, nb]
    have hln : (l6 ++ zch (s.Waiters.take (i + 1))).length ≤ 100000000 := by
      have := qbd zcu (s.Waiters.take (i + 1))
      rw [List.length_append, zch]
      have : (s.Waiters.take (i + 1)).length ≤ 16 := by simp; omega
      omega
    repeat' (first
    | simp (implicitDefEqProofs := false) only [push_cast, reduceIte, reduceCtorEq, Nat.reduceAdd, Nat.reduceSub, Nat.reduceEqDiff, Nat.reduceLT, Nat.reduceLeDiff, Nat.reduceBEq, Nat.reduceMul, Int.reduceLT, Int.reduceLE, Int.reduceEq, Int.reduceToNat, Int.reduceMul, Int.reduceNeg, Go.Proofs.Try.f18, g2, hW, hsp, hspl, gx, eW, eWs, zau hlt, yar hlt, List.length_map, Int.toNat_natCast, qae (show i < 9223372036854775807 by omega), zas, qat, yat, yav, yax, zax, ybq, Bool.false_eq_true, if_false, Nat.zero_add, zaj hspl, yag hspl, za4 hspl, yaj hspl, yad, zae, qac, zad, yab, qad, sst, qab, yaa, qaa, List.replicate_succ, List.drop_zero]
    | refine Sp2.f ?_ ?_
    | refine Spl.f ?_ ?_ <;> intro hb
    | refine yac rfl (fun b hb => ?_)
    | refine zaa (U := [[], [], [], [], [], [3], [3], [], [], [3, 7], [3, 7], [], [], [3, 7, 11], [], [3, 7, 11], [], [], [], []]) (H := [⟨0, [], .hole⟩]) zaf (by kernel_rfl) (by decide +kernel) (by kernel_rfl) ?_
    | refine zaa (U := [[], [], [], [], [], [], [4], [4], [], [], [4, 8], [], [], [], [], []]) (H := [⟨0, [], .hole⟩]) zaf (by kernel_rfl) (by decide +kernel) (by kernel_rfl) ?_
    | refine zaa (U := [[], [], [], [], [], [], [4], [4], [], [], [4, 8], [], [], [4, 8, 11], [], [], [], [], []]) (H := [⟨0, [], .hole⟩]) zaf (by kernel_rfl) (by decide +kernel) (by kernel_rfl) ?_
    | refine zaa (U := [[], [], [], [], [], [], [4], [4], [], [], [4, 8], [], [], [4, 8, 11], [], [], [], [], []]) (H := [⟨0, [], .hole⟩]) zaf (by kernel_rfl) (by decide +kernel) (by kernel_rfl) ?_
    | refine zaq m0 ?_
    | refine zaq m1 ?_
    | refine zaq m4 ?_
    | refine zaq m2 ?_
    | refine zaq m3 ?_)
    refine qdv [H.length + 1] [(H.length + 1, ⟨30, [l6 ++ zch (s.Waiters.take i), beN (IntKind.wrap .u64 x.Client) 1, beN (IntKind.wrap .u64 x.Seq) 4, beN (zdp x.Take) 1, qaz (yah x.P)].map eBs, .fz⟩)] (fun h2 hh => zdo (ls := [l6 ++ zch (s.Waiters.take i), beN (IntKind.wrap .u64 x.Client) 1, beN (IntKind.wrap .u64 x.Seq) 4, beN (zdp x.Take) 1, qaz (yah x.P)]) rfl (by simp) (by simp) (by rw [← hsn]; exact hln) (by rw [hh _ (by simp), qa9]; rfl)) ?_
    rw [← hsn]
    repeat' (first
    | simp (implicitDefEqProofs := false) only [push_cast, reduceIte, reduceCtorEq, Nat.reduceAdd, Nat.reduceSub, Nat.reduceEqDiff, Nat.reduceLT, Nat.reduceLeDiff, Nat.reduceBEq, Nat.reduceMul, Int.reduceLT, Int.reduceLE, Int.reduceEq, Int.reduceToNat, Int.reduceMul, Int.reduceNeg, Go.Proofs.Try.f18, Int.toNat_natCast, qae (show i < 9223372036854775807 by omega), zas, qat, yat, ybq, Bool.false_eq_true, if_false, Nat.zero_add, yad, zae, qac, zad, yab, qad, sst, qab, yaa, qaa, List.replicate_succ, List.drop_zero]
    | refine Sp2.f ?_ ?_
    | refine Spl.f ?_ ?_ <;> intro hb
    | refine yac rfl (fun b hb => ?_)
    | refine zaa (U := [[], [], [], [], [], [3], [3], [], [], [3, 7], [3, 7], [], [], [3, 7, 11], [], [3, 7, 11], [], [], [], []]) (H := [⟨0, [], .hole⟩]) zaf (by kernel_rfl) (by decide +kernel) (by kernel_rfl) ?_
    | refine zaa (U := [[], [], [], [], [], [], [4], [4], [], [], [4, 8], [], [], [], [], []]) (H := [⟨0, [], .hole⟩]) zaf (by kernel_rfl) (by decide +kernel) (by kernel_rfl) ?_
    | refine zaa (U := [[], [], [], [], [], [], [4], [4], [], [], [4, 8], [], [], [4, 8, 11], [], [], [], [], []]) (H := [⟨0, [], .hole⟩]) zaf (by kernel_rfl) (by decide +kernel) (by kernel_rfl) ?_
    | refine zaa (U := [[], [], [], [], [], [], [4], [4], [], [], [4, 8], [], [], [4, 8, 11], [], [], [], [], []]) (H := [⟨0, [], .hole⟩]) zaf (by kernel_rfl) (by decide +kernel) (by kernel_rfl) ?_)
    exact ⟨hlt, by rw [List.take_append_of_le_length (by omega)]; exact hT, by rw [List.getElem?_append_left hspl]; exact hsp⟩
  have hie : i = s.Waiters.length := by omega
  subst hie
  rw [List.take_length]
  obtain ⟨l7, hl7⟩ : ∃ l7, l7 = l6 ++ zch s.Waiters := ⟨_, rfl⟩
  have hll7 : l7.length ≤ 30000 := by
    have := qbd zcu s.Waiters
    rw [hl7, List.length_append, zch]; omega
  rw [← hl7]
  repeat' (first
    | simp (implicitDefEqProofs := false) only [push_cast, reduceIte, reduceCtorEq, Nat.reduceAdd, Nat.reduceSub, Nat.reduceEqDiff, Nat.reduceLT, Nat.reduceLeDiff, Nat.reduceBEq, Nat.reduceMul, Int.reduceLT, Int.reduceLE, Int.reduceEq, Int.reduceToNat, Int.reduceMul, Int.reduceNeg, Go.Proofs.Try.f18, g2, hW, hsp, hspl, ya5 hlt, zaj hspl, yag hspl, za4 hspl, yaj hspl, yad, zae, qac, zad, yab, qad, sst, qab, yaa, qaa, List.replicate_succ, List.drop_zero]
    | refine Sp2.f ?_ ?_
    | refine Spl.f ?_ ?_ <;> intro hb
    | refine yac rfl (fun b hb => ?_)
    | refine zaa (U := [[], [], [], [], [], [3], [3], [], [], [3, 7], [3, 7], [], [], [3, 7, 11], [], [3, 7, 11], [], [], [], []]) (H := [⟨0, [], .hole⟩]) zaf (by kernel_rfl) (by decide +kernel) (by kernel_rfl) ?_
    | refine zaa (U := [[], [], [], [], [], [], [4], [4], [], [], [4, 8], [], [], [], [], []]) (H := [⟨0, [], .hole⟩]) zaf (by kernel_rfl) (by decide +kernel) (by kernel_rfl) ?_
    | refine zaa (U := [[], [], [], [], [], [], [4], [4], [], [], [4, 8], [], [], [4, 8, 11], [], [], [], [], []]) (H := [⟨0, [], .hole⟩]) zaf (by kernel_rfl) (by decide +kernel) (by kernel_rfl) ?_
    | refine zaa (U := [[], [], [], [], [], [], [4], [4], [], [], [4, 8], [], [], [4, 8, 11], [], [], [], [], []]) (H := [⟨0, [], .hole⟩]) zaf (by kernel_rfl) (by decide +kernel) (by kernel_rfl) ?_)
  obtain ⟨x0, x1, x2, x3, hL, ml0, ml1, ml2, ml3⟩ := four_of a5
  have hLl : s.Last.length = 4 := by rw [hL]; rfl
  have hLP : ∀ x ∈ s.Last, qcf x.T = true ∨ x.T = [] := by
    have key : ∀ {x : Rpl} {c : Int}, zc7 x c = true → qcf x.T = true ∨ x.T = [] := fun {x c} h => by
      simp only [zc7, Bool.and_eq_true, decide_eq_true_eq] at h
      have h4 := h.2
      split at h4
      · simp only [Bool.and_eq_true, decide_eq_true_eq] at h4; exact .inr h4.1.2
      · split at h4
        · exact .inl (ycf h4)
        · simp only [Bool.and_eq_true, decide_eq_true_eq] at h4; exact .inr h4.1.2
    intro x hx
    rw [hL] at hx
    simp only [List.mem_cons, List.not_mem_nil, or_false] at hx
    rcases hx with rfl | rfl | rfl | rfl
    · exact key ml0
    · exact key ml1
    · exact key ml2
    · exact key ml3
  refine qau (fun i env' H => i ≤ 4 ∧ H.take h.length = h ∧ H[h.length]? = some ⟨29, [eS s], .own⟩ ∧ env' = (fun a : Nat → AV => [(0, eS s), (1, .ref h.length [0] 29), (2, .nils), (3, eBs (l7 ++ qcc (s.Last.take i))), (4, .int .i64 s.Items.length), (5, a 5), (6, .int .i64 s.Waiters.length), (7, a 7), (8, .int .i64 (i : Int)), (9, a 9), (33, a 33), (68, a 68), (95, a 95)]) (lk env')) 4 ⟨Nat.zero_le _, hT, hsp, by rw [List.take_zero, qcc, List.flatMap_nil, List.append_nil]; rfl⟩ ?_
  clear hT hsp hspl H hlt
  rintro i env H ⟨hi, hT, hsp, henv⟩
  refine ⟨hi, ?_⟩
  rw [henv]
  generalize lk env = a
  clear henv env
  have hspl := zac hsp
  by_cases hlt : i < 4
  · obtain ⟨x, hx⟩ : ∃ x, s.Last[i]? = some x := ⟨_, List.getElem?_eq_getElem (by omega)⟩
    have gx : qbg (eS s) [5, i] = some (eR x) := by
      show qbg (eL s.Last) [i] = _
      simp only [eL, qbg, List.getElem?_map, hx, Option.map_some]
    have hxT := hLP x (List.mem_of_getElem? hx)
    have m0 := qco (IntKind.wrap .u64 x.Seq) 4 (by omega) (by omega)
    have m1 := qco (IntKind.wrap .u64 x.Kind) 1 (by omega) (by omega)
    have m4 := c_bit6 x.Late
    have m2 := zc0 x.T hxT
    have m3 := c_Text1 (yah x.T) (by have := qa4 x.T; omega)
    have hsn : l7 ++ qcc (s.Last.take (i + 1)) = [l7 ++ qcc (s.Last.take i), beN (IntKind.wrap .u64 x.Seq) 4, beN (IntKind.wrap .u64 x.Kind) 1, beN (zdp x.Late) 1, qaz (yah x.T)].flatten := by
      rw [List.take_add_one, hx, Option.toList_some, qcc, List.flatMap_append]; simp [qcc, qbj, nb]
    have hln : (l7 ++ qcc (s.Last.take (i + 1))).length ≤ 100000000 := by
      have := qbd putL1_len (s.Last.take (i + 1))
      rw [List.length_append, qcc]
      have : (s.Last.take (i + 1)).length ≤ 4 := by simp; omega
      omega
    have c1 : decide ((i : Int) < 4) = true := by simp; omega
    have c2 : (0 ≤ (i : Int) ∧ (i : Int) < 4) = True := by simp; omega
    repeat' (first
    | simp (implicitDefEqProofs := false) only [push_cast, reduceIte, reduceCtorEq, Nat.reduceAdd, Nat.reduceSub, Nat.reduceEqDiff, Nat.reduceLT, Nat.reduceLeDiff, Nat.reduceBEq, Nat.reduceMul, Int.reduceLT, Int.reduceLE, Int.reduceEq, Int.reduceToNat, Int.reduceMul, Int.reduceNeg, Go.Proofs.Try.f18, c1, c2, qbz, hsp, hspl, gx, eR, Int.toNat_natCast, qae (show i < 9223372036854775807 by omega), zas, qat, yat, yav, yax, zax, ybq, Bool.false_eq_true, if_false, Nat.zero_add, zaj hspl, yag hspl, za4 hspl, yaj hspl, yad, zae, qac, zad, yab, qad, sst, qab, yaa, qaa, List.replicate_succ, List.drop_zero]
    | refine Sp2.f ?_ ?_
    | refine Spl.f ?_ ?_ <;> intro hb
    | refine yac rfl (fun b hb => ?_)
    | refine zaa (U := [[], [], [], [], [], [3], [3], [], [], [3, 7], [3, 7], [], [], [3, 7, 11], [], [3, 7, 11], [], [], [], []]) (H := [⟨0, [], .hole⟩]) zaf (by kernel_rfl) (by decide +kernel) (by kernel_rfl) ?_
    | refine zaa (U := [[], [], [], [], [], [], [4], [4], [], [], [4, 8], [], [], [], [], []]) (H := [⟨0, [], .hole⟩]) zaf (by kernel_rfl) (by decide +kernel) (by kernel_rfl) ?_
    | refine zaa (U := [[], [], [], [], [], [], [4], [4], [], [], [4, 8], [], [], [4, 8, 11], [], [], [], [], []]) (H := [⟨0, [], .hole⟩]) zaf (by kernel_rfl) (by decide +kernel) (by kernel_rfl) ?_
    | refine zaa (U := [[], [], [], [], [], [], [4], [4], [], [], [4, 8], [], [], [4, 8, 11], [], [], [], [], []]) (H := [⟨0, [], .hole⟩]) zaf (by kernel_rfl) (by decide +kernel) (by kernel_rfl) ?_
    | refine zaq m0 ?_
    | refine zaq m1 ?_
    | refine zaq m4 ?_
    | refine zaq m2 ?_
    | refine zaq m3 ?_)
    refine qdv [H.length + 1] [(H.length + 1, ⟨30, [l7 ++ qcc (s.Last.take i), beN (IntKind.wrap .u64 x.Seq) 4, beN (IntKind.wrap .u64 x.Kind) 1, beN (zdp x.Late) 1, qaz (yah x.T)].map eBs, .fz⟩)] (fun h2 hh => zdo (ls := [l7 ++ qcc (s.Last.take i), beN (IntKind.wrap .u64 x.Seq) 4, beN (IntKind.wrap .u64 x.Kind) 1, beN (zdp x.Late) 1, qaz (yah x.T)]) rfl (by simp) (by simp) (by rw [← hsn]; exact hln) (by rw [hh _ (by simp), qa9]; rfl)) ?_
    rw [← hsn]
    repeat' (first
    | simp (implicitDefEqProofs := false) only [push_cast, reduceIte, reduceCtorEq, Nat.reduceAdd, Nat.reduceSub, Nat.reduceEqDiff, Nat.reduceLT, Nat.reduceLeDiff, Nat.reduceBEq, Nat.reduceMul, Int.reduceLT, Int.reduceLE, Int.reduceEq, Int.reduceToNat, Int.reduceMul, Int.reduceNeg, Go.Proofs.Try.f18, Int.toNat_natCast, qae (show i < 9223372036854775807 by omega), zas, qat, yat, ybq, Bool.false_eq_true, if_false, Nat.zero_add, yad, zae, qac, zad, yab, qad, sst, qab, yaa, qaa, List.replicate_succ, List.drop_zero]
    | refine Sp2.f ?_ ?_
    | refine Spl.f ?_ ?_ <;> intro hb
    | refine yac rfl (fun b hb => ?_)
    | refine zaa (U := [[], [], [], [], [], [3], [3], [], [], [3, 7], [3, 7], [], [], [3, 7, 11], [], [3, 7, 11], [], [], [], []]) (H := [⟨0, [], .hole⟩]) zaf (by kernel_rfl) (by decide +kernel) (by kernel_rfl) ?_
    | refine zaa (U := [[], [], [], [], [], [], [4], [4], [], [], [4, 8], [], [], [], [], []]) (H := [⟨0, [], .hole⟩]) zaf (by kernel_rfl) (by decide +kernel) (by kernel_rfl) ?_
    | refine zaa (U := [[], [], [], [], [], [], [4], [4], [], [], [4, 8], [], [], [4, 8, 11], [], [], [], [], []]) (H := [⟨0, [], .hole⟩]) zaf (by kernel_rfl) (by decide +kernel) (by kernel_rfl) ?_
    | refine zaa (U := [[], [], [], [], [], [], [4], [4], [], [], [4, 8], [], [], [4, 8, 11], [], [], [], [], []]) (H := [⟨0, [], .hole⟩]) zaf (by kernel_rfl) (by decide +kernel) (by kernel_rfl) ?_)
    exact ⟨by omega, by rw [List.take_append_of_le_length (by omega)]; exact hT, by rw [List.getElem?_append_left hspl]; exact hsp⟩
  have c1 : decide ((i : Int) < 4) = false := by simp; omega
  have hend : l7 ++ qcc (s.Last.take i) = qby s := by
    rw [List.take_of_length_le (by omega), hput, hl7, hl6]; simp
  rw [hend]
  repeat' (first
    | simp (implicitDefEqProofs := false) only [push_cast, reduceIte, reduceCtorEq, Nat.reduceAdd, Nat.reduceSub, Nat.reduceEqDiff, Nat.reduceLT, Nat.reduceLeDiff, Nat.reduceBEq, Nat.reduceMul, Int.reduceLT, Int.reduceLE, Int.reduceEq, Int.reduceToNat, Int.reduceMul, Int.reduceNeg, Go.Proofs.Try.f18, c1, zas, qat, yad, zae, qac, zad, yab, qad, sst, qab, yaa, qaa, List.replicate_succ, List.drop_zero]
    | refine Sp2.f ?_ ?_
    | refine Spl.f ?_ ?_ <;> intro hb
    | refine yac rfl (fun b hb => ?_)
    | refine zaa (U := [[], [], [], [], [], [3], [3], [], [], [3, 7], [3, 7], [], [], [3, 7, 11], [], [3, 7, 11], [], [], [], []]) (H := [⟨0, [], .hole⟩]) zaf (by kernel_rfl) (by decide +kernel) (by kernel_rfl) ?_
    | refine zaa (U := [[], [], [], [], [], [], [4], [4], [], [], [4, 8], [], [], [], [], []]) (H := [⟨0, [], .hole⟩]) zaf (by kernel_rfl) (by decide +kernel) (by kernel_rfl) ?_
    | refine zaa (U := [[], [], [], [], [], [], [4], [4], [], [], [4, 8], [], [], [4, 8, 11], [], [], [], [], []]) (H := [⟨0, [], .hole⟩]) zaf (by kernel_rfl) (by decide +kernel) (by kernel_rfl) ?_
    | refine zaa (U := [[], [], [], [], [], [], [4], [4], [], [], [4, 8], [], [], [4, 8, 11], [], [], [], [], []]) (H := [⟨0, [], .hole⟩]) zaf (by kernel_rfl) (by decide +kernel) (by kernel_rfl) ?_)
  exact ⟨hT, res_mk (zbd _) rfl⟩
end Go.Abs
