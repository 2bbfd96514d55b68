/- Sp3: a part of the proofs about the tuple space and its bytes. -/
import Derived.Test.YtilfbkhbjkjicaaSp2
set_option linter.all false
set_option maxRecDepth 100000
set_option maxHeartbeats 0
namespace Go.Abs
open Go
open Go.Proofs.Try (prog)
def cnt (l : List Itm) (c : Int) : Nat := l.countP fun x => decide (x.Owner = c)
theorem cnt_take {l : List Itm} {i : Nat} {x : Itm} (h : l[i]? = some x) (c : Int) : cnt (l.take (i + 1)) c = cnt (l.take i) c + if x.Owner = c then 1 else 0 := by
  rw [cnt, List.take_add_one, h, Option.toList_some, List.countP_append, List.countP_singleton]
  simp [cnt]
theorem cnt_le (l : List Itm) (c : Int) (i : Nat) : cnt (l.take i) c ≤ cnt l c := by
  conv => rhs; rw [← List.take_append_drop i l]
  rw [cnt, cnt, List.countP_append]
  omega
theorem cnt_len (l : List Itm) (c : Int) : cnt l c ≤ l.length := List.countP_le_length
def ydt (x : Wtr) : Bool := zat x.Client && decide (1 ≤ x.Seq) && decide (x.Seq ≤ 1073741824) && qcf x.P
def mayH (s : Spc) : Bool := decide (0 ≤ s.Now) && decide (s.Now ≤ 1099511627776) && decide (s.Read.fdiv 16 = 0) && decide (s.Write.fdiv 16 = 0) && decide (s.Items.length ≤ 64) && decide (s.Waiters.length ≤ 16)
def zbw (s : Spc) : Bool := mayH s && s.Items.all (fun x => qdo x s.Now) && [0, 1, 2, 3].all (fun c => decide (cnt s.Items c ≤ 24)) && s.Waiters.all ydt && qb0 zc7 s.Last [0, 1, 2, 3]
theorem mayS_head {s : Spc} (h : mayH s = false) : zbw s = false := by simp [zbw, h]
theorem mayS_item {s : Spc} {i : Nat} {x : Itm} (hx : s.Items[i]? = some x) (h : qdo x s.Now = false) : zbw s = false := by
  have : s.Items.all (fun x => qdo x s.Now) = false := by rw [List.all_eq_false]; exact ⟨x, List.mem_of_getElem? hx, by simp [h]⟩
  simp [zbw, this]
theorem mayS_cnt {s : Spc} {i : Nat} {c : Int} (hc : c = 0 ∨ c = 1 ∨ c = 2 ∨ c = 3) (h : 24 < cnt (s.Items.take i) c) : zbw s = false := by
  have h1 := cnt_le s.Items c i
  have : [0, 1, 2, 3].all (fun c => decide (cnt s.Items c ≤ 24)) = false := by
    rw [List.all_eq_false]; exact ⟨c, by simpa using hc, by simp; omega⟩
  simp only [zbw, this, Bool.and_false, Bool.false_and]
theorem mayS_wtr {s : Spc} {i : Nat} {x : Wtr} (hx : s.Waiters[i]? = some x) (h : ydt x = false) : zbw s = false := by
  have : s.Waiters.all ydt = false := by rw [List.all_eq_false]; exact ⟨x, List.mem_of_getElem? hx, by simp [h]⟩
  simp [zbw, this]
theorem ycm {α : Type} {p : α → Bool} {l : List α} (h : ∀ j x, j < l.length → l[j]? = some x → p x = true) : l.all p = true := by
  rw [List.all_eq_true]
  intro x hx
  obtain ⟨j, hj, rfl⟩ := List.getElem_of_mem hx
  exact h j _ hj (List.getElem?_eq_getElem hj)
theorem ybz {α : Type} {p : α → Bool} {l : List α} {i : Nat} {x : α} (hx : l[i]? = some x) (hp : p x = true) (hb : ∀ j y, j < i → l[j]? = some y → p y = true) : ∀ j y, j < i + 1 → l[j]? = some y → p y = true := by
  intro j y hj hy
  by_cases h : j = i
  · subst h; rw [hx] at hy; cases hy; exact hp
  · exact hb j y (by omega) hy
def owns (l : List Itm) : AV := .agg 155 [.int .i64 (cnt l 0), .int .i64 (cnt l 1), .int .i64 (cnt l 2), .int .i64 (cnt l 3)]
theorem own_cases {x : Itm} {now : Int} (h : qdo x now = true) : x.Owner = 0 ∨ x.Owner = 1 ∨ x.Owner = 2 ∨ x.Owner = 3 := by
  simp only [qdo, zat, Bool.and_eq_true, decide_eq_true_eq] at h
  omega
theorem qbz : ((4 : Nat) : Int) = 4 := rfl
theorem pow4 : (2 : Int) ^ min 4 (IntKind.bits .i64) = 16 := rfl
theorem c_sMay (s : Spc) (hs : s.Small) : Fn prog 52 [eS s] (.bool (zbw s)) := by
  refine run_52 rfl fun h => ?_
  repeat' (first
    | simp (implicitDefEqProofs := false) only [push_cast, reduceIte, reduceCtorEq, Nat.reduceAdd, Nat.reduceSub, Nat.reduceEqDiff, Nat.reduceLT, Nat.reduceLeDiff, Nat.reduceBEq, Nat.reduceMul, Int.reduceLT, Int.reduceLE, Int.reduceEq, Int.reduceToNat, Int.reduceMul, Int.reduceNeg, Go.Proofs.Try.f52, eS, eIs, eWs, eL, List.length_map, pow4]
    | refine Sp2.f ?_ ?_
    | refine Spl.f ?_ ?_ <;> intro hb
    | refine yac rfl (fun b hb => ?_))
  all_goals first
    | (rw [mayS_head (by simp only [mayH]; grind)]; done)
    | skip
  have hH : mayH s = true := by simp only [mayH]; grind
  refine qax (fun i a => [(0, eS s), (1, .ref h.length [0] 29), (2, .bool false), (3, .ref (h.length + 1) [0] 155), (5, a 5), (7, a 7), (8, a 8), (9, a 9), (41, a 41), (43, eIs s.Items), (44, .int .i64 s.Items.length), (45, .int .i64 i), (46, a 46), (53, a 53), (64, a 64), (67, a 67), (68, a 68), (69, a 69), (70, a 70), (92, a 92), (95, a 95), (96, a 96), (97, a 97), (103, a 103)]) (fun i g => h ++ (⟨29, [eS s], .own⟩ :: ⟨155, [owns (s.Items.take i)], .own⟩ :: g)) (fun i => i ≤ s.Items.length ∧ (∀ j x, j < i → s.Items[j]? = some x → qdo x s.Now = true) ∧ ∀ c, c = 0 ∨ c = 1 ∨ c = 2 ∨ c = 3 → cnt (s.Items.take i) c ≤ 24) s.Items.length (za3 rfl ⟨[], ?_⟩ ⟨Nat.zero_le _, fun j x hj => by omega, fun c _ => by simp [cnt]⟩) ?_
  · rfl
  rintro i a g' ⟨hi, hinv, hcnt⟩
  refine ⟨hi, ?_⟩
  by_cases hlt : i < s.Items.length
  · obtain ⟨x, hx⟩ : ∃ x, s.Items[i]? = some x := ⟨_, List.getElem?_eq_getElem hlt⟩
    have hxT := hs.items.2 x (List.mem_of_getElem? hx)
    have hi9 : i < 9223372036854775807 := by have := hs.items.1; omega
    by_cases hm : qdo x s.Now = true
    · have hcl := own_cases hm
      have hst := fun c => cnt_take hx c
      have hbd : ∀ c, cnt (s.Items.take i) c < 9223372036854775807 := fun c => by have := cnt_le s.Items c i; have := cnt_len s.Items c; have := hs.items.1; omega
      obtain ⟨o, u, t⟩ := x
      simp only at hcl hxT hst
      rcases hcl with rfl | rfl | rfl | rfl
      all_goals
        have e0 := hst 0; have e1 := hst 1; have e2 := hst 2; have e3 := hst 3
        simp only [Int.reduceEq, reduceIte, Nat.add_zero] at e0 e1 e2 e3
        repeat' (first
    | simp (implicitDefEqProofs := false) only [push_cast, reduceIte, reduceCtorEq, Nat.reduceAdd, Nat.reduceSub, Nat.reduceEqDiff, Nat.reduceLT, Nat.reduceLeDiff, Nat.reduceBEq, Nat.reduceMul, Int.reduceLT, Int.reduceLE, Int.reduceEq, Int.reduceToNat, Int.reduceMul, Int.reduceNeg, Go.Proofs.Try.f52, eS, eI, eIs, eWs, eL, List.length_map, zau hlt, yar hlt, zal eI hx, Int.toNat_natCast, hm, eFs, owns, qbz, qae (hbd _), qae hi9]
    | refine Sp2.f ?_ ?_
    | refine Spl.f ?_ ?_ <;> intro hb
    | refine yac rfl (fun b hb => ?_)
    | refine zay (c_mayItem ⟨_, u, t⟩ s.Now hxT) ?_
    | refine za3 ?_ ⟨_, by simp only [e0, e1, e2, e3]; rfl⟩ ?_)
      all_goals first
        | rfl
        | (simp only [decide_eq_true_eq] at hb; rw [mayS_cnt (i := i + 1) (c := 0) (by simp) (by omega)]; done)
        | (simp only [decide_eq_true_eq] at hb; rw [mayS_cnt (i := i + 1) (c := 1) (by simp) (by omega)]; done)
        | (simp only [decide_eq_true_eq] at hb; rw [mayS_cnt (i := i + 1) (c := 2) (by simp) (by omega)]; done)
        | (simp only [decide_eq_true_eq] at hb; rw [mayS_cnt (i := i + 1) (c := 3) (by simp) (by omega)]; done)
        | (refine ⟨hlt, ybz hx hm hinv, fun c hc => ?_⟩
           have := hcnt c hc
           simp only [decide_eq_false_iff_not] at hb
           rcases hc with rfl | rfl | rfl | rfl <;> omega)
    · have hm : qdo x s.Now = false := by simpa using hm
      repeat' (first
    | simp (implicitDefEqProofs := false) only [push_cast, reduceIte, reduceCtorEq, Nat.reduceAdd, Nat.reduceSub, Nat.reduceEqDiff, Nat.reduceLT, Nat.reduceLeDiff, Nat.reduceBEq, Nat.reduceMul, Int.reduceLT, Int.reduceLE, Int.reduceEq, Int.reduceToNat, Int.reduceMul, Int.reduceNeg, Go.Proofs.Try.f52, eS, eI, eIs, eWs, eL, List.length_map, zau hlt, yar hlt, zal eI hx, Int.toNat_natCast, hm, eFs]
    | refine Sp2.f ?_ ?_
    | refine Spl.f ?_ ?_ <;> intro hb
    | refine yac rfl (fun b hb => ?_)
    | refine zay (c_mayItem x s.Now hxT) ?_
    | refine za3 ?_ ⟨_, rfl⟩ ?_)
      rw [mayS_item hx hm]
  · have hall : s.Items.all (fun x => qdo x s.Now) = true := ycm fun j x hj hx => hinv j x (by omega) hx
    have hc24 : [0, 1, 2, 3].all (fun c => decide (cnt s.Items c ≤ 24)) = true := by
      have e : s.Items.take i = s.Items := List.take_of_length_le (by omega)
      rw [e] at hcnt
      rw [List.all_eq_true]
      intro c hc
      exact decide_eq_true (hcnt c (by simpa using hc))
    clear hcnt hinv
    repeat' (first
    | simp (implicitDefEqProofs := false) only [push_cast, reduceIte, reduceCtorEq, Nat.reduceAdd, Nat.reduceSub, Nat.reduceEqDiff, Nat.reduceLT, Nat.reduceLeDiff, Nat.reduceBEq, Nat.reduceMul, Int.reduceLT, Int.reduceLE, Int.reduceEq, Int.reduceToNat, Int.reduceMul, Int.reduceNeg, Go.Proofs.Try.f52, eS, eIs, eWs, eL, List.length_map, ya5 hlt]
    | refine Sp2.f ?_ ?_
    | refine Spl.f ?_ ?_ <;> intro hb
    | refine yac rfl (fun b hb => ?_))
    refine qax (fun i a => [(0, eS s), (1, .ref h.length [0] 29), (2, .bool false), (3, a 3), (5, a 5), (7, a 7), (8, a 8), (9, a 9), (41, a 41), (43, a 43), (44, a 44), (45, a 45), (46, a 46), (53, a 53), (64, a 64), (67, eWs s.Waiters), (68, .int .i64 s.Waiters.length), (69, .int .i64 i), (70, a 70), (92, a 92), (95, a 95), (96, a 96), (97, a 97), (103, a 103)]) (fun i g => h ++ (⟨29, [eS s], .own⟩ :: g)) (fun i => i ≤ s.Waiters.length ∧ (∀ j x, j < i → s.Waiters[j]? = some x → ydt x = true)) s.Waiters.length (za3 rfl ⟨_, rfl⟩ ⟨Nat.zero_le _, fun j x hj => by omega⟩) ?_
    clear hlt hi i a g'
    rintro i a g' ⟨hi, hinv⟩
    refine ⟨hi, ?_⟩
    by_cases hlt : i < s.Waiters.length
    · obtain ⟨x, hx⟩ : ∃ x, s.Waiters[i]? = some x := ⟨_, List.getElem?_eq_getElem hlt⟩
      have hxP := hs.waiters.2 x (List.mem_of_getElem? hx)
      have hi9 : i < 9223372036854775807 := by have := hs.waiters.1; omega
      repeat' (first
    | simp (implicitDefEqProofs := false) only [push_cast, reduceIte, reduceCtorEq, Nat.reduceAdd, Nat.reduceSub, Nat.reduceEqDiff, Nat.reduceLT, Nat.reduceLeDiff, Nat.reduceBEq, Nat.reduceMul, Int.reduceLT, Int.reduceLE, Int.reduceEq, Int.reduceToNat, Int.reduceMul, Int.reduceNeg, Go.Proofs.Try.f52, eS, eW, eIs, eWs, eL, List.length_map, zau hlt, yar hlt, zal eW hx, Int.toNat_natCast, eFs, qbz, qae hi9]
    | refine Sp2.f ?_ ?_
    | refine Spl.f ?_ ?_ <;> intro hb
    | refine yac rfl (fun b hb => ?_)
    | refine zay (c_client _) ?_
    | refine zay (zb0 x.P hxP) ?_
    | refine za3 ?_ ⟨_, rfl⟩ ?_)
      all_goals first
        | rfl
        | (rw [mayS_wtr hx (by simp only [ydt]; grind)]; done)
        | exact ⟨hlt, ybz hx (by simp only [ydt]; grind) hinv⟩
    · have hallW : s.Waiters.all ydt = true := ycm fun j x hj hx => hinv j x (by omega) hx
      clear hinv
      repeat' (first
    | simp (implicitDefEqProofs := false) only [push_cast, reduceIte, reduceCtorEq, Nat.reduceAdd, Nat.reduceSub, Nat.reduceEqDiff, Nat.reduceLT, Nat.reduceLeDiff, Nat.reduceBEq, Nat.reduceMul, Int.reduceLT, Int.reduceLE, Int.reduceEq, Int.reduceToNat, Int.reduceMul, Int.reduceNeg, Go.Proofs.Try.f52, eS, eIs, eWs, eL, List.length_map, ya5 hlt]
    | refine Sp2.f ?_ ?_
    | refine Spl.f ?_ ?_ <;> intro hb
    | refine yac rfl (fun b hb => ?_))
      refine qax (fun i a => [(0, eS s), (1, .ref h.length [0] 29), (2, .bool false), (3, a 3), (5, a 5), (7, a 7), (8, a 8), (9, a 9), (41, a 41), (43, a 43), (44, a 44), (45, a 45), (46, a 46), (53, a 53), (64, a 64), (67, a 67), (68, a 68), (69, a 69), (70, a 70), (92, a 92), (95, eL s.Last), (96, .int .i64 i), (97, a 97), (103, a 103)]) (fun i g => h ++ (⟨29, [eS s], .own⟩ :: g)) (fun i => i ≤ s.Last.length ∧ (∀ j x y, j < i → s.Last[j]? = some x → [(0 : Int), 1, 2, 3][j]? = some y → zc7 x y = true)) s.Last.length (za3 rfl ⟨_, rfl⟩ ⟨Nat.zero_le _, fun j x y hj => by omega⟩) ?_
      clear hlt hi i a g'
      rintro i a g' ⟨hi, hinv⟩
      refine ⟨hi, ?_⟩
      have h4 := hs.four
      by_cases hlt : i < s.Last.length
      · obtain ⟨x, hx⟩ : ∃ x, s.Last[i]? = some x := ⟨_, List.getElem?_eq_getElem hlt⟩
        have hxT := hs.last.2 x (List.mem_of_getElem? hx)
        have hi9 : i < 9223372036854775807 := by omega
        have hi4 : i < 4 := by omega
        have hy : [(0 : Int), 1, 2, 3][i]? = some (i : Int) := by
          rcases (by omega : i = 0 ∨ i = 1 ∨ i = 2 ∨ i = 3) with rfl | rfl | rfl | rfl <;> rfl
        have hc4 : decide ((i : Int) < 4) = true := by simp; omega
        have hr4 : (0 ≤ (i : Int) ∧ (i : Int) < 4) = True := by simp; omega
        by_cases hm : zc7 x i = true
        · repeat' (first
    | simp (implicitDefEqProofs := false) only [push_cast, reduceIte, reduceCtorEq, Nat.reduceAdd, Nat.reduceSub, Nat.reduceEqDiff, Nat.reduceLT, Nat.reduceLeDiff, Nat.reduceBEq, Nat.reduceMul, Int.reduceLT, Int.reduceLE, Int.reduceEq, Int.reduceToNat, Int.reduceMul, Int.reduceNeg, Go.Proofs.Try.f52, eS, eR, eIs, eWs, eL, List.length_map, hc4, hr4, zal eR hx, Int.toNat_natCast, eFs, qbz, hm, qae hi9]
    | refine Sp2.f ?_ ?_
    | refine Spl.f ?_ ?_ <;> intro hb
    | refine yac rfl (fun b hb => ?_)
    | refine zay (c_mayLast x _ hxT) ?_
    | refine za3 ?_ ⟨_, rfl⟩ ?_)
          all_goals first
            | rfl
            | exact ⟨hlt, qbf hx hy hm hinv⟩
        · have hm : zc7 x i = false := by simpa using hm
          repeat' (first
    | simp (implicitDefEqProofs := false) only [push_cast, reduceIte, reduceCtorEq, Nat.reduceAdd, Nat.reduceSub, Nat.reduceEqDiff, Nat.reduceLT, Nat.reduceLeDiff, Nat.reduceBEq, Nat.reduceMul, Int.reduceLT, Int.reduceLE, Int.reduceEq, Int.reduceToNat, Int.reduceMul, Int.reduceNeg, Go.Proofs.Try.f52, eS, eR, eIs, eWs, eL, List.length_map, hc4, hr4, zal eR hx, Int.toNat_natCast, eFs, qbz, hm, qae hi9]
    | refine Sp2.f ?_ ?_
    | refine Spl.f ?_ ?_ <;> intro hb
    | refine yac rfl (fun b hb => ?_)
    | refine zay (c_mayLast x _ hxT) ?_
    | refine za3 ?_ ⟨_, rfl⟩ ?_)
          have : qb0 zc7 s.Last [0, 1, 2, 3] = false := zbo hx hy hm
          simp only [zbw, this, Bool.and_false]
      · have hL : qb0 zc7 s.Last [0, 1, 2, 3] = true := zbx (by simpa using h4) fun j x y hj hx hy => hinv j x y (by omega) hx hy
        have hc4 : decide ((i : Int) < 4) = false := by simp; omega
        repeat' (first
    | simp (implicitDefEqProofs := false) only [push_cast, reduceIte, reduceCtorEq, Nat.reduceAdd, Nat.reduceSub, Nat.reduceEqDiff, Nat.reduceLT, Nat.reduceLeDiff, Nat.reduceBEq, Nat.reduceMul, Int.reduceLT, Int.reduceLE, Int.reduceEq, Int.reduceToNat, Int.reduceMul, Int.reduceNeg, Go.Proofs.Try.f52, eS, eIs, eWs, eL, List.length_map, hc4]
    | refine Sp2.f ?_ ?_
    | refine Spl.f ?_ ?_ <;> intro hb
    | refine yac rfl (fun b hb => ?_))
        simp only [zbw, hH, hall, hc24, hallW, hL, Bool.and_self]
end Go.Abs
