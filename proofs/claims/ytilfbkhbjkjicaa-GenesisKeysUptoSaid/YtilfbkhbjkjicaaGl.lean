/- Gl: a part of the proofs about the tuple space and its bytes. -/
import Derived.Test.YtilfbkhbjkjicaaGc
set_option linter.all false
set_option maxRecDepth 100000
set_option maxHeartbeats 0
namespace Go.Abs
open Go
open Go.Proofs.Try (prog)
/-! ### genesis.Link -/
def linkB : List UInt8 := [76, 73, 78, 75]
def linkG (g : Gen) : List UInt8 := if mayG g = true then shaS (linkB ++ (anchorG g ++ digS (firstG g))) else List.replicate 32 0
theorem anchorG_len (g : Gen) : (anchorG g).length = 32 := by unfold anchorG; split <;> simp [shaS_len]
theorem mayT_len9 {l : List Fld} (h : mayT l = true) : l.length ≤ 6 := by
  simp only [mayT, Bool.and_eq_true, decide_eq_true_eq] at h; exact h.1.2
theorem mayP_len9 {l : List Fld} (h : mayP l = true) : l.length ≤ 6 := by
  simp only [mayP, Bool.and_eq_true, decide_eq_true_eq] at h; exact h.1.2
theorem mayL_len9 {x : Rpl} {c : Int} (h : mayL x c = true) : x.T.length ≤ 6 := by
  simp only [mayL, Bool.and_eq_true] at h
  have h2 := h.2
  split at h2
  · simp only [Bool.and_eq_true, decide_eq_true_eq] at h2; rw [h2.1.2]; simp
  · split at h2
    · exact mayT_len9 h2
    · simp only [Bool.and_eq_true, decide_eq_true_eq] at h2; rw [h2.1.2]; simp
theorem mayS_small9 {s : Spc} (h : mayS s = true) : s.Small := by
  simp only [mayS, mayH, Bool.and_eq_true, decide_eq_true_eq, List.all_eq_true] at h
  obtain ⟨⟨⟨⟨h1, h7⟩, h8⟩, h9⟩, h10⟩ := h
  obtain ⟨a, b, c, d, hl, ha, hb, hc, hd⟩ := four_of h10
  have la := mayL_len9 ha
  have lb := mayL_len9 hb
  have lc := mayL_len9 hc
  have ld := mayL_len9 hd
  refine ⟨⟨by omega, fun x hx => ?_⟩, ⟨by omega, fun x hx => ?_⟩, ⟨by rw [hl]; simp, fun x hx => ?_⟩, by rw [hl]; rfl⟩
  · have := h7 x hx
    simp only [mayI, Bool.and_eq_true] at this
    have := mayT_len9 this.2; omega
  · have := h9 x hx
    simp only [mayW, Bool.and_eq_true] at this
    have := mayP_len9 this.2; omega
  · rw [hl] at hx
    simp only [List.mem_cons, List.not_mem_nil, or_false] at hx
    rcases hx with rfl | rfl | rfl | rfl <;> omega
theorem firstG_small (g : Gen) : (firstG g).Small := by
  have hz : zSp.Small := ⟨⟨by decide, by simp [zSp]⟩, ⟨by decide, by simp [zSp]⟩, ⟨by decide, by simp [zSp, zRp]⟩, rfl⟩
  unfold firstG
  split
  · split
    · exact newS_small9 _ _
    · cases h : getS g.Start with
      | none => exact hz
      | some s => exact mayS_small9 (getS_some h).1
  · exact hz
theorem bzd_eBs (H : List Entry) (n : Nat) (l : List UInt8) : (l.map eB).map (bzd H n) = l.map eB := by
  rw [List.map_map]
  refine List.map_congr_left fun x _ => ?_
  cases n <;> rfl
theorem bzd_winE (h : List Entry) (n k : Nat) (p : List Nat) (T : TypeId) (fr m lo : Nat) : bzd h (n + 1) (.win k p T fr m lo) = bzdWin (bzd h n) T p fr m (.win k p T fr m lo) h[k]? := rfl
theorem link_call {h2 : List Entry} {k1 k2 k3 k4 : Nat} {A B C : List UInt8} (hA : A.length = 4) (hB : B.length = 32) (hC : C.length = 32)
    (e1 : h2[k1]? = some (⟨30, [.win k2 [] 5 0 4 4, .win k3 [0] 5 0 32 32, .win k4 [0] 5 0 32 32], .own⟩ : Entry)) (e2 : h2[k2]? = some (⟨5, A.map eB, .own⟩ : Entry)) (e3 : h2[k3]? = some (⟨36, [eH B], .own⟩ : Entry)) (e4 : h2[k4]? = some (⟨36, [eH C], .own⟩ : Entry))
    (d : k1 ≠ k2 ∧ k1 ≠ k3 ∧ k1 ≠ k4 ∧ k2 ≠ k3 ∧ k2 ≠ k4 ∧ k3 ≠ k4) :
    FSpec prog 134 [.win k1 [] 30 0 3 3] h2 fun r' h'' => r' = eBs (A ++ (B ++ C)) ∧ h'' = wrAll h2 [(k1, ⟨30, [.win k2 [] 5 0 4 4, .win k3 [0] 5 0 32 32, .win k4 [0] 5 0 32 32], .fz⟩), (k2, ⟨5, A.map eB, .fz⟩), (k3, ⟨36, [eH B], .fz⟩), (k4, ⟨36, [eH C], .fz⟩)] := by
  obtain ⟨d12, d13, d14, d23, d24, d34⟩ := d
  have l1 := lt_some e1
  have l2 := lt_some e2
  have l3 := lt_some e3
  have l4 := lt_some e4
  refine FSpec.freeze wfp e1 rfl (by simp) ?_
  refine FSpec.freeze wfp (k := k2) (e := ⟨5, A.map eB, .own⟩) (by rw [List.getElem?_set_ne d12]; exact e2) rfl (by intro e; have := congrArg List.length e; simp [hA] at this) ?_
  refine FSpec.freeze wfp (k := k3) (e := ⟨36, [eH B], .own⟩) (by rw [List.getElem?_set_ne d23, List.getElem?_set_ne d13]; exact e3) rfl (by simp) ?_
  refine FSpec.freeze wfp (k := k4) (e := ⟨36, [eH C], .own⟩) (by rw [List.getElem?_set_ne d34, List.getElem?_set_ne d24, List.getElem?_set_ne d14]; exact e4) rfl (by simp) ?_
  have hc := c_Concat [A, B, C] (by simp) (by simp [hA, hB, hC])
  have hfl : [A, B, C].flatten = A ++ (B ++ C) := by simp
  rw [hfl] at hc
  simp only [fzE, wrAll]
  generalize hH : ((((h2.set k1 _).set k2 _).set k3 _).set k4 _) = H
  have q1 : H[k1]? = some (⟨30, [.win k2 [] 5 0 4 4, .win k3 [0] 5 0 32 32, .win k4 [0] 5 0 32 32], .fz⟩ : Entry) := by
    rw [← hH, List.getElem?_set_ne (Ne.symm d14), List.getElem?_set_ne (Ne.symm d13), List.getElem?_set_ne (Ne.symm d12), List.getElem?_set_self l1]
  have q2 : H[k2]? = some (⟨5, A.map eB, .fz⟩ : Entry) := by
    rw [← hH, List.getElem?_set_ne (Ne.symm d24), List.getElem?_set_ne (Ne.symm d23), List.getElem?_set_self (by simpa using l2)]
  have q3 : H[k3]? = some (⟨36, [eH B], .fz⟩ : Entry) := by
    rw [← hH, List.getElem?_set_ne (Ne.symm d34), List.getElem?_set_self (by simpa using l3)]
  have q4 : H[k4]? = some (⟨36, [eH C], .fz⟩ : Entry) := by
    rw [← hH, List.getElem?_set_self (by simpa using l4)]
  refine FSpec.readd wfp (args' := [eKs [A, B, C]]) 5 ?_ hc
  have w1 : winGet [AV.win k2 [] 5 0 4 4, AV.win k3 [0] 5 0 32 32, AV.win k4 [0] 5 0 32 32] [] 0 3 = some [AV.win k2 [] 5 0 4 4, AV.win k3 [0] 5 0 32 32, AV.win k4 [0] 5 0 32 32] := rfl
  have w2 : winGet (A.map eB) [] 0 4 = some (A.map eB) := by simp [winGet, hA, List.take_of_length_le]
  have w3 : winGet [eH B] [0] 0 32 = some (B.map eB) := by simp [winGet, getE, getP, eH, hB, List.take_of_length_le]
  have w4 : winGet [eH C] [0] 0 32 = some (C.map eB) := by simp [winGet, getE, getP, eH, hC, List.take_of_length_le]
  simp only [List.map_cons, List.map_nil, bzd_winE, q1, bzdWin, if_true, w1, q2, q3, q4, w2, w3, w4, bzd_eBs, eKs, eBs]
theorem c32N : ((32 : Nat) : Int) = 32 := rfl
theorem c_gLink (g : Gen) (hg : g.Small) : Fn prog 98 [eG g] (eH (linkG g)) := by
  have hp := c_gMay g hg
  have ha := c_Anchor g hg
  have hf := c_First g hg
  have hd := c_Digest (firstG g) (firstG_small g)
  refine run_98 rfl fun h => ?_
  cases hm : mayG g <;> rw [hm] at hp <;> simp only [linkG, hm]
  · repeat' (first
    | simp (implicitDefEqProofs := false) only [push_cast, reduceIte, reduceCtorEq, Nat.reduceAdd, Nat.reduceSub, Nat.reduceEqDiff, Nat.reduceLT, Nat.reduceLeDiff, Nat.reduceBEq, Nat.reduceMul, Int.reduceLT, Int.reduceLE, Int.reduceEq, Int.reduceToNat, Int.reduceMul, Int.reduceNeg, Go.Proofs.Try.f98, eG_ty, eG_pl, eG_wk, ap_lo, st_lo, st_ne, st_eq, len_st, st_st, sst, at_set, at_set0, at_set2, List.replicate_succ, List.drop_zero]
    | refine Sp2.f ?_ ?_
    | refine Spl.f ?_ ?_ <;> intro hb
    | refine rq_mk rfl (fun b hb => ?_)
    | refine r_draw (U := [[], [], [0, 1], [0, 1, 2], [], [], [], []]) (H := [⟨0, [], .hole⟩, ⟨0, [], .hole⟩]) hmix (by kernel_rfl) (by decide +kernel) (by kernel_rfl) ?_
    | refine k_fn hp ?_)
    exact res_mk (eH_dat (List.replicate 32 0)) rfl
  · repeat' (first
    | simp (implicitDefEqProofs := false) only [push_cast, reduceIte, reduceCtorEq, Nat.reduceAdd, Nat.reduceSub, Nat.reduceEqDiff, Nat.reduceLT, Nat.reduceLeDiff, Nat.reduceBEq, Nat.reduceMul, Int.reduceLT, Int.reduceLE, Int.reduceEq, Int.reduceToNat, Int.reduceMul, Int.reduceNeg, Go.Proofs.Try.f98, eG_ty, eG_pl, eG_wk, eS_ty, eS_pl, eS_wk, eH_ty, eH_pl, c32N, isc_tmp, Bool.false_eq_true, if_false, Nat.zero_add, ap_lo, st_lo, st_ne, st_eq, len_st, st_st, sst, at_set, at_set0, at_set2, List.replicate_succ, List.drop_zero]
    | refine Sp2.f ?_ ?_
    | refine Spl.f ?_ ?_ <;> intro hb
    | refine rq_mk rfl (fun b hb => ?_)
    | refine r_draw (U := [[], [], [0, 1], [0, 1, 2], [], [], [], []]) (H := [⟨0, [], .hole⟩, ⟨0, [], .hole⟩]) hmix (by kernel_rfl) (by decide +kernel) (by kernel_rfl) ?_
    | refine k_fn hp ?_
    | refine k_fn ha ?_
    | refine k_fn hf ?_
    | refine k_fn hd ?_)
    have hs := c_Sum (linkB ++ (anchorG g ++ digS (firstG g))) (by simp [linkB, anchorG_len, digS_len])
    refine dk_sets [h.length + 5, h.length + 4, h.length + 2, h.length + 3] [(h.length + 5, ⟨30, [.win (h.length + 4) [] 5 0 4 4, .win (h.length + 2) [0] 5 0 32 32, .win (h.length + 3) [0] 5 0 32 32], .fz⟩), (h.length + 4, ⟨5, linkB.map eB, .fz⟩), (h.length + 2, ⟨36, [eH (anchorG g)], .fz⟩), (h.length + 3, ⟨36, [eH (digS (firstG g))], .fz⟩)] (fun h2 hh => link_call (A := linkB) (B := anchorG g) (C := digS (firstG g)) rfl (anchorG_len g) (digS_len _) (by rw [hh _ (by simp), get_at]; rfl) (by rw [hh _ (by simp), get_at]; rfl) (by rw [hh _ (by simp), get_at]; rfl) (by rw [hh _ (by simp), get_at]; rfl) (by omega)) ?_
    repeat' (first
    | simp (implicitDefEqProofs := false) only [push_cast, reduceIte, reduceCtorEq, Nat.reduceAdd, Nat.reduceSub, Nat.reduceEqDiff, Nat.reduceLT, Nat.reduceLeDiff, Nat.reduceBEq, Nat.reduceMul, Int.reduceLT, Int.reduceLE, Int.reduceEq, Int.reduceToNat, Int.reduceMul, Int.reduceNeg, Go.Proofs.Try.f98, eBs_ty, eBs_pl, eBs_wk, eH_ty, eH_pl, ap_lo, st_lo, st_ne, st_eq, len_st, st_st, sst, at_set, at_set0, at_set2, List.replicate_succ, List.drop_zero]
    | refine Sp2.f ?_ ?_
    | refine Spl.f ?_ ?_ <;> intro hb
    | refine rq_mk rfl (fun b hb => ?_)
    | refine r_draw (U := [[], [], [0, 1], [0, 1, 2], [], [], [], []]) (H := [⟨0, [], .hole⟩, ⟨0, [], .hole⟩]) hmix (by kernel_rfl) (by decide +kernel) (by kernel_rfl) ?_
    | refine dk_pure hs ?_)
    exact res_mk (eH_dat _) rfl

end Go.Abs
