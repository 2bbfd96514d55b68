/- Sl: a part of the proofs about the tuple space and its bytes. -/
import Derived.Test.YtilfbkhbjkjicaaSp2
set_option linter.all false
set_option maxRecDepth 100000
set_option maxHeartbeats 0
namespace Go.Abs
open Go
open Go.Proofs.Try (prog)
theorem c_CloneO_Item (l : List AV) (h : List Entry) (hl : l.length ≤ 4294967296) : FSpec prog 108 [.list 87 l] h fun r h' => Keeps (fun _ => False) h h' ∧ View (ybh (fun _ => False) h h') h' 87 r l := by
  refine frun_108 rfl ?_
  repeat' (first
    | simp (implicitDefEqProofs := false) only [push_cast, reduceIte, reduceCtorEq, Nat.reduceAdd, Nat.reduceSub, Nat.reduceEqDiff, Nat.reduceLT, Nat.reduceLeDiff, Nat.reduceBEq, Nat.reduceMul, Int.reduceLT, Int.reduceLE, Int.reduceEq, Int.reduceToNat, Int.reduceMul, Int.reduceNeg, Go.Proofs.Try.f108]
    | refine Sp2.f ?_ ?_
    | refine Spl.f ?_ ?_ <;> intro hb
    | refine yac rfl (fun b hb => ?_))
  · rename_i hn
    have : l = [] := by
      cases b with
      | false => simp at hb
      | true =>
        by_cases hl : l = []
        · exact hl
        · simp [hl] at hn
    subst this
    rw [qcv]
    exact ⟨.refl _ _, .nil⟩
  · exact hl
  · have : l = [] := List.eq_nil_of_length_eq_zero (by omega)
    subst this
    refine ⟨⟨by simp, fun j hj _ => by simp [zad hj]⟩, View.win (l := []) (z := []) (.inr ⟨Nat.le_refl _, by simp⟩) ?_⟩
    simp [zao]
  · refine ⟨⟨by simp, fun j hj _ => by simp [zad hj]⟩, ?_⟩
    refine View.win (l := l) (z := []) (.inr ⟨by omega, by simp⟩) ?_
    simp [za0]
theorem c_CloneO_Waiter (l : List AV) (h : List Entry) (hl : l.length ≤ 4294967296) : FSpec prog 110 [.list 89 l] h fun r h' => Keeps (fun _ => False) h h' ∧ View (ybh (fun _ => False) h h') h' 89 r l := by
  refine frun_110 rfl ?_
  repeat' (first
    | simp (implicitDefEqProofs := false) only [push_cast, reduceIte, reduceCtorEq, Nat.reduceAdd, Nat.reduceSub, Nat.reduceEqDiff, Nat.reduceLT, Nat.reduceLeDiff, Nat.reduceBEq, Nat.reduceMul, Int.reduceLT, Int.reduceLE, Int.reduceEq, Int.reduceToNat, Int.reduceMul, Int.reduceNeg, Go.Proofs.Try.f110]
    | refine Sp2.f ?_ ?_
    | refine Spl.f ?_ ?_ <;> intro hb
    | refine yac rfl (fun b hb => ?_))
  · rename_i hn
    have : l = [] := by
      cases b with
      | false => simp at hb
      | true =>
        by_cases hl : l = []
        · exact hl
        · simp [hl] at hn
    subst this
    rw [qcv]
    exact ⟨.refl _ _, .nil⟩
  · exact hl
  · have : l = [] := List.eq_nil_of_length_eq_zero (by omega)
    subst this
    refine ⟨⟨by simp, fun j hj _ => by simp [zad hj]⟩, View.win (l := []) (z := []) (.inr ⟨Nat.le_refl _, by simp⟩) ?_⟩
    simp [zao]
  · refine ⟨⟨by simp, fun j hj _ => by simp [zad hj]⟩, ?_⟩
    refine View.win (l := l) (z := []) (.inr ⟨by omega, by simp⟩) ?_
    simp [za0]
theorem c_Delete_Item {l z : List AV} {k lo i : Nat} {h : List Entry} (hk : h[k]? = some ⟨87, l ++ z, .own⟩) (hi : i < l.length) (hl : l.length ≤ 4294967296) :
    FSpec prog 172 [.win k [] 87 0 l.length lo, .int .i64 i, .int .i64 (i + 1 : Nat)] h fun r h' => r = .win k [] 87 0 (l.length - 1) (max l.length lo) ∧ h' = h.set k ⟨87, l.eraseIdx i ++ (zai prog 87 :: z), .own⟩ ++ [⟨0, [], .hole⟩] := by
  have hkl := qab hk
  have hne : ((i : Int) == (i : Int) + 1) = false := by simp; omega
  have htn : ((i : Int) + 1).toNat = i + 1 := by omega
  have hwc : (i + (1 + (l.length - (i + 1))) ≤ (l ++ z).length) = True := by simp; omega
  have hwg : (List.drop (i + 1) (l ++ z)).take (l.length - (i + 1)) = l.drop (i + 1) := by
    rw [List.drop_append_of_le_length (by omega), List.take_append_of_le_length (by simp), List.take_of_length_le (by simp)]
  have hmx : (l.length - 1 ≤ max l.length lo) = True := by simp; omega
  have hsub : l.length - (l.length - 1) = 1 := by omega
  have hl1 : l.length - 1 + 1 = l.length := by omega
  have hld : (l.drop (i + 1)).length = l.length - (i + 1) := by simp
  have hsum : i + (l.length - (i + 1)) = l.length - 1 := by omega
  have hes : (l ++ z).take i ++ (l.drop (i + 1) ++ (l ++ z).drop (l.length - 1)) = l.eraseIdx i ++ (l.drop (l.length - 1) ++ z) := by
    rw [List.take_append_of_le_length (by omega), List.drop_append_of_le_length (by omega), List.eraseIdx_eq_take_drop_succ, List.append_assoc]
  have hel : (l.eraseIdx i).length = l.length - 1 := List.length_eraseIdx_of_lt hi
  have hcl : ∀ v : AV, (l.eraseIdx i ++ (l.drop (l.length - 1) ++ z)).take (l.length - 1) ++ (v :: (l.eraseIdx i ++ (l.drop (l.length - 1) ++ z)).drop l.length) = l.eraseIdx i ++ (v :: z) := by
    intro v
    rw [List.take_append_of_le_length (by omega), List.take_of_length_le (by omega), List.drop_append, hel, List.drop_eq_nil_of_le (by omega), List.nil_append, List.drop_append, List.drop_drop]
    simp only [List.length_drop, hsub]
    rw [List.drop_eq_nil_of_le (by omega)]
    simp
  refine frun_172 rfl ?_
  repeat' (first
    | simp (implicitDefEqProofs := false) only [push_cast, reduceIte, reduceCtorEq, Nat.reduceAdd, Nat.reduceSub, Nat.reduceEqDiff, Nat.reduceLT, Nat.reduceLeDiff, Nat.reduceBEq, Nat.reduceMul, Int.reduceLT, Int.reduceLE, Int.reduceEq, Int.reduceToNat, Int.reduceMul, Int.reduceNeg, Go.Proofs.Try.f172, hne, htn, hk, hkl, Int.toNat_natCast, zad, zae, qac, yad, yab, qad, Nat.sub_zero, hwc, hwg, hmx, hsub, hl1, hcl, List.replicate_succ, hld, hsum, hes, yai hkl, qaf hkl, zax hkl, qai hkl]
    | refine Sp2.f ?_ ?_
    | refine Spl.f ?_ ?_ <;> intro hb
    | refine yac rfl (fun b hb => ?_)
    | refine zaa (U := [[], [], [], [], [], [2], [], []]) (H := [⟨0, [], .hole⟩]) yae (by kernel_rfl) (by decide +kernel) (by kernel_rfl) ?_)
  all_goals first
    | omega
    | (simp; omega)
    | rfl
theorem zbt {l z : List AV} {k lo i : Nat} {h : List Entry} (hk : h[k]? = some ⟨89, l ++ z, .own⟩) (hi : i < l.length) (hl : l.length ≤ 4294967296) :
    FSpec prog 171 [.win k [] 89 0 l.length lo, .int .i64 i, .int .i64 (i + 1 : Nat)] h fun r h' => r = .win k [] 89 0 (l.length - 1) (max l.length lo) ∧ h' = h.set k ⟨89, l.eraseIdx i ++ (zai prog 89 :: z), .own⟩ ++ [⟨0, [], .hole⟩] := by
  have hkl := qab hk
  have hne : ((i : Int) == (i : Int) + 1) = false := by simp; omega
  have htn : ((i : Int) + 1).toNat = i + 1 := by omega
  have hwc : (i + (1 + (l.length - (i + 1))) ≤ (l ++ z).length) = True := by simp; omega
  have hwg : (List.drop (i + 1) (l ++ z)).take (l.length - (i + 1)) = l.drop (i + 1) := by
    rw [List.drop_append_of_le_length (by omega), List.take_append_of_le_length (by simp), List.take_of_length_le (by simp)]
  have hmx : (l.length - 1 ≤ max l.length lo) = True := by simp; omega
  have hsub : l.length - (l.length - 1) = 1 := by omega
  have hl1 : l.length - 1 + 1 = l.length := by omega
  have hld : (l.drop (i + 1)).length = l.length - (i + 1) := by simp
  have hsum : i + (l.length - (i + 1)) = l.length - 1 := by omega
  have hes : (l ++ z).take i ++ (l.drop (i + 1) ++ (l ++ z).drop (l.length - 1)) = l.eraseIdx i ++ (l.drop (l.length - 1) ++ z) := by
    rw [List.take_append_of_le_length (by omega), List.drop_append_of_le_length (by omega), List.eraseIdx_eq_take_drop_succ, List.append_assoc]
  have hel : (l.eraseIdx i).length = l.length - 1 := List.length_eraseIdx_of_lt hi
  have hcl : ∀ v : AV, (l.eraseIdx i ++ (l.drop (l.length - 1) ++ z)).take (l.length - 1) ++ (v :: (l.eraseIdx i ++ (l.drop (l.length - 1) ++ z)).drop l.length) = l.eraseIdx i ++ (v :: z) := by
    intro v
    rw [List.take_append_of_le_length (by omega), List.take_of_length_le (by omega), List.drop_append, hel, List.drop_eq_nil_of_le (by omega), List.nil_append, List.drop_append, List.drop_drop]
    simp only [List.length_drop, hsub]
    rw [List.drop_eq_nil_of_le (by omega)]
    simp
  refine frun_171 rfl ?_
  repeat' (first
    | simp (implicitDefEqProofs := false) only [push_cast, reduceIte, reduceCtorEq, Nat.reduceAdd, Nat.reduceSub, Nat.reduceEqDiff, Nat.reduceLT, Nat.reduceLeDiff, Nat.reduceBEq, Nat.reduceMul, Int.reduceLT, Int.reduceLE, Int.reduceEq, Int.reduceToNat, Int.reduceMul, Int.reduceNeg, Go.Proofs.Try.f171, hne, htn, hk, hkl, Int.toNat_natCast, zad, zae, qac, yad, yab, qad, Nat.sub_zero, hwc, hwg, hmx, hsub, hl1, hcl, List.replicate_succ, hld, hsum, hes, yai hkl, qaf hkl, zax hkl, qai hkl]
    | refine Sp2.f ?_ ?_
    | refine Spl.f ?_ ?_ <;> intro hb
    | refine yac rfl (fun b hb => ?_)
    | refine zaa (U := [[], [], [], [], [], [2], [], []]) (H := [⟨0, [], .hole⟩]) yae (by kernel_rfl) (by decide +kernel) (by kernel_rfl) ?_)
  all_goals first
    | omega
    | (simp; omega)
    | rfl
end Go.Abs
