/- Gu: a part of the proofs about the tuple space and its bytes. -/
import Derived.Test.YtilfbkhbjkjicaaGt
import Derived.Test.YtilfbkhbjkjicaaBx
import Derived.Test.YtilfbkhbjkjicaaGv
set_option linter.all false
set_option maxRecDepth 100000
set_option maxHeartbeats 0
namespace Go.Abs
open Go
open Go.Proofs.Try (prog)
/-! ### chirographlaw10.GenesisTurned -/
theorem formK_fake (i : Nat) (hi : i < 10) : formK (fakeK i) = true := by
  rcases (by omega : i = 0 ∨ i = 1 ∨ i = 2 ∨ i = 3 ∨ i = 4 ∨ i = 5 ∨ i = 6 ∨ i = 7 ∨ i = 8 ∨ i = 9) with rfl | rfl | rfl | rfl | rfl | rfl | rfl | rfl | rfl | rfl <;> decide +kernel
theorem fake_may {f : Nat} {r w : Int} (hf : f ≤ 2) (h0 : 0 ≤ r) (h1 : r < 16) (h2 : 0 ≤ w) (h3 : w < 16) : mayG (fakeG f r w) = true := by
  have e1 : r.fdiv 16 = 0 := by rw [Int.fdiv_eq_ediv_of_nonneg _ (by omega)]; omega
  have e2 : w.fdiv 16 = 0 := by rw [Int.fdiv_eq_ediv_of_nonneg _ (by omega)]; omega
  have e3 : (fakeG f r w).Keys.all formK = true := by
    rw [List.all_eq_true]
    intro x hx
    simp only [fakeG, List.mem_map, List.mem_range] at hx
    obtain ⟨i, hi, rfl⟩ := hx
    exact formK_fake i (by omega)
  have e4 : ((fakeG f r w).Keys.length : Int) = 3 * (f : Int) + 1 := by simp [fakeG]; omega
  have h : headG (fakeG f r w) = true := by
    simp only [headG, e4, Bool.and_eq_true, decide_eq_true_eq]
    refine ⟨⟨⟨⟨?_, ?_⟩, ?_⟩, ?_⟩, ?_⟩
    · show (0 : Int) ≤ (f : Int); omega
    · show (f : Int) ≤ 2; omega
    · exact e1
    · exact e2
    · rfl
  rw [mayG, h, e3]; rfl
theorem mayG_small {g : Gen} (h : mayG g = true) : g.Small := by
  obtain ⟨h1, _, _, h2, h3, h4⟩ := mayG_parts h
  exact ⟨by omega, fun x hx => by rw [h3 x hx]; omega, by omega⟩
theorem fake_ne (f : Nat) (r w : Int) : (fakeG f r w).Keys ≠ [] := by
  intro e
  have := congrArg List.length e
  simp [fakeG] at this
/-- a genesis whose keys are one's own, given up ahead of a call -/
theorem fz_kit {h H l : List Entry} {v : AV} {G : Gen} (hT : H.take h.length = h) (hHl : h.length ≤ H.length) (ho : OwnRows (fun j => h.length ≤ j) H v G.Keys) (hne : G.Keys ≠ []) (hS : G.Start = []) :
    ∃ H1 : List Entry, H1.length = H.length + l.length ∧ H1.take h.length = h ∧ (∀ (j : Nat) (e : Entry), l[j]? = some e → H1[H.length + j]? = some e) ∧
      (∀ H2 : List Entry, (∀ (j : Nat) (e : Entry), j < H1.length → H1[j]? = some e → H2[j]? = some e) → [ownG G v].map (bzd H2 4) = [eG G]) ∧
      (∀ (g : FuncId) (args raw : List AV) (d : Option Tmp) (s : List Ctl) (env : Env) (Q : APost), Rk prog g args raw d s env H1 Q → Rk prog g args raw d s env (H ++ l) Q) := by
  have hX : ∀ j, (h.length ≤ j ∧ j < H.length) → j ∈ List.range' h.length (H.length - h.length) := fun j hj => by rw [List.mem_range'_1]; omega
  have ho2 : OwnRows (fun j => h.length ≤ j ∧ j < H.length) (H ++ l) v G.Keys := ho.inn _
  have hF := FzIn.mk (H := H ++ l) hX
  refine ⟨frzL (List.range' h.length (H.length - h.length)) (H ++ l), by rw [frzL_len]; simp, ?_, fun j e hj => ?_, fun H2 h2 => ?_, fun g args raw d s env Q hk => k_frzL _ hk⟩
  · rw [frzL_take _ _ fun k hk => by rw [List.mem_range'_1] at hk; exact hk.1, List.take_append_of_le_length hHl]; exact hT
  · rw [frzL_get, if_neg (by rw [List.mem_range'_1]; omega), get_at]; exact hj
  · exact ownG_bzd hS (ho2.bzd hne (hF.keep fun j e hj he => h2 j e (lt_some he) he) 1)
theorem c_GenesisTurned (f r w at' : Int) (c : UInt8) : Fn prog 8 [.int .i64 f, .int .i64 r, .int .i64 w, .int .i64 at', .int .u8 c.toNat] (.bool true) := by
  refine run_8 rfl fun h => ?_
  obtain ⟨kf, hkf, hf0, hf3⟩ := mod_small9 f 3 (by omega)
  obtain ⟨nf, rfl⟩ : ∃ nf : Nat, kf = (nf : Int) := ⟨kf.toNat, by omega⟩
  have hr := bits15 r
  have hw := bits15 w
  generalize hR : bits .and .i64 r 15 = r' at hr
  generalize hW : bits .and .i64 w 15 = w' at hw
  repeat' (first
    | simp (implicitDefEqProofs := false) only [push_cast, reduceIte, reduceCtorEq, Nat.reduceAdd, Nat.reduceSub, Nat.reduceEqDiff, Nat.reduceLT, Nat.reduceLeDiff, Nat.reduceBEq, Nat.reduceMul, Int.reduceLT, Int.reduceLE, Int.reduceEq, Int.reduceToNat, Int.reduceMul, Int.reduceNeg, Go.Proofs.Try.f8, hkf, hR, hW, ap_lo, st_lo, st_ne, st_eq, len_st, st_st, sst, at_set, at_set0, at_set2, List.replicate_succ, List.drop_zero]
    | refine Sp2.f ?_ ?_
    | refine Spl.f ?_ ?_ <;> intro hb
    | refine rq_mk rfl (fun b hb => ?_))
  refine k_spec (c_Fake nf r' w' (by omega) _) fun v H hP => ?_
  obtain ⟨hT, v, rfl, ho⟩ := hP
  have hne := fake_ne nf r' w'
  have hty := ho.ty
  have hpl := ho.pl
  have hwk := ho.wk hne
  have hHl : h.length ≤ H.length := by rw [← hT]; simp; omega
  have hmay := fake_may (f := nf) (by omega) hr.1 hr.2 hw.1 hw.2
  have hsm := fakeG_small nf r' w'
  repeat' (first
    | simp (implicitDefEqProofs := false) only [push_cast, reduceIte, reduceCtorEq, Nat.reduceAdd, Nat.reduceSub, Nat.reduceEqDiff, Nat.reduceLT, Nat.reduceLeDiff, Nat.reduceBEq, Nat.reduceMul, Int.reduceLT, Int.reduceLE, Int.reduceEq, Int.reduceToNat, Int.reduceMul, Int.reduceNeg, Go.Proofs.Try.f8, hwk, hty, hpl, ap_lo, st_lo, st_ne, st_eq, len_st, st_st, sst, at_set, at_set0, at_set2, List.replicate_succ, List.drop_zero]
    | refine Sp2.f ?_ ?_
    | refine Spl.f ?_ ?_ <;> intro hb
    | refine rq_mk rfl (fun b hb => ?_))
  obtain ⟨H1, hLn, hTk, hc, hown, hgo⟩ := fz_kit (l := [(⟨72, [.agg 72 [.int .i64 nf, .int .i64 r', .int .i64 w', v, .nils]], .own⟩ : Entry)]) hT hHl ho hne rfl
  refine hgo _ _ _ _ _ _ _ ?_
  have hc := hc 0 _ rfl
  rw [Nat.add_zero] at hc
  have hcl := lt_some hc
  have p1 := c_gPut (fakeG nf r' w') hsm
  rw [hmay] at p1
  have q1 : FSpec prog 39 [ownG (fakeG nf r' w') v] H1 _ := FSpec.readd wfp 4 (hown H1 fun j e _ he => he) p1
  refine k_det q1 ?_
  have hgp := getG_put hmay
  have hB9 := putG_len hmay hsm
  have hB1 : 1 ≤ (putG (fakeG nf r' w')).length := by simp [putG, nb, beN_len]
  have hBs : (putG (fakeG nf r' w')).length ≤ 900000 := by
    have h7 : (fakeG nf r' w').Keys.flatten.length ≤ 1000 := by
      have : ∀ l : List Nat, ((l.map fakeK).flatten).length = 56 * l.length := fun l => by
        induction l with
        | nil => rfl
        | cons a l ih => rw [List.map_cons, List.flatten_cons, List.length_append, ih, fakeK_len, List.length_cons]; omega
      simp only [fakeG]
      rw [this]
      simp; omega
    have h8 : (fakeG nf r' w').Start = [] := rfl
    simp only [putG, h8, nb, beN_len, textB, List.length_append, List.length_nil]
    omega
  generalize hBB : putG (fakeG nf r' w') = B at *
  obtain ⟨k, hk, hkl⟩ := mod_len at' hB1 (by omega)
  have hL : stLen prog 30 (eBs B) = .ret (.int .i64 B.length) [] := by rw [eBs, stLen_list, List.length_map]; rfl
  have z0 : ((B.length : Int) == 0) = false := by rw [beq_eq_false_iff_ne]; omega
  have n0 : (IntKind.wrap .u64 (B.length : Int) = 0) = False := by
    rw [wrap_u64]; apply eq_false; omega
  have q0 : (0 = B.length) = False := by apply eq_false; omega
  have q1' : (B.length = 0) = False := by apply eq_false; omega
  have q2 : (B.length ≤ 0) = False := by apply eq_false; omega
  have q4 : decide (B.length ≤ 4294967296) = true := by simp; omega
  have q6 : List.take B.length (B.map eB) = B.map eB := by rw [List.take_of_length_le]; simp
  obtain ⟨x, hx⟩ : ∃ x, B[k]? = some x := ⟨_, List.getElem?_eq_getElem hkl⟩
  have q7 : (B.map eB)[k]? = some (.int .u8 x.toNat) := by rw [List.getElem?_map, hx]; rfl
  have q8 := xor_u8 x c
  have q9 : ∀ y : UInt8, (B.map eB).set k (.int .u8 y.toNat) = (B.set k y).map eB := fun y => by rw [List.map_set]; rfl
  have b00 : ((0 : Int) != 0) = false := rfl
  repeat' (first
    | simp (implicitDefEqProofs := false) only [push_cast, reduceIte, reduceCtorEq, Nat.reduceAdd, Nat.reduceSub, Nat.reduceEqDiff, Nat.reduceLT, Nat.reduceLeDiff, Nat.reduceBEq, Nat.reduceMul, Int.reduceLT, Int.reduceLE, Int.reduceEq, Int.reduceToNat, Int.reduceMul, Int.reduceNeg, Go.Proofs.Try.f8, hc, hcl, eBs, b00, z0, n0, hk, q0, q1', q2, q4, q6, q7, q8, q9, in_row hkl, Nat.le_refl, List.length_map, Int.toNat_natCast, ap_lo, st_lo, st_ne, st_eq, len_st, st_st, sst, at_set, at_set0, at_set2, List.replicate_succ, List.drop_zero]
    | refine Sp2.f ?_ ?_
    | refine Spl.f ?_ ?_ <;> intro hb
    | refine rq_mk rfl (fun b hb => ?_))
  have hT1 : (H1 ++ [(⟨5, [], .dead⟩ : Entry), ⟨5, (B.set k (x ^^^ c)).map eB, .own⟩])[H1.length + 1]? = some (⟨5, (B.set k (x ^^^ c)).map eB, .own⟩ : Entry) := get_at ..
  have hlen : (B.set k (x ^^^ c)).length = B.length := by simp
  have hT0 : B.set k (x ^^^ c) ≠ [] := by intro e; rw [e] at hlen; simp at hlen; omega
  have g4 := c_gGet (B.set k (x ^^^ c)) (by omega)
  have e22 : ((2 : Int) == 2) = true := rfl
  have e00 : ((0 : Int) == 0) = true := rfl
  have b20 : ((2 : Int) != 0) = true := rfl
  have hz1 := u8z c
  have hz2 := u8z' c
  refine k_giveBs hT1 rfl hT0 hlen.symm g4 ?_
  cases hG : getG (B.set k (x ^^^ c)) with
  | none =>
    have hc0 : (c == 0) = false := by
      rw [beq_eq_false_iff_ne]
      rintro rfl
      rw [set_xor0 hx, hgp] at hG
      cases hG
    rw [hc0] at hz2
    repeat' (first
    | simp (implicitDefEqProofs := false) only [push_cast, reduceIte, reduceCtorEq, Nat.reduceAdd, Nat.reduceSub, Nat.reduceEqDiff, Nat.reduceLT, Nat.reduceLeDiff, Nat.reduceBEq, Nat.reduceMul, Int.reduceLT, Int.reduceLE, Int.reduceEq, Int.reduceToNat, Int.reduceMul, Int.reduceNeg, Go.Proofs.Try.f8, b20, e22, hz2, eG_ty, eG_pl, ap_lo, st_lo, st_ne, st_eq, len_st, st_st, sst, at_set, at_set0, at_set2, List.replicate_succ, List.drop_zero]
    | refine Sp2.f ?_ ?_
    | refine Spl.f ?_ ?_ <;> intro hb
    | refine rq_mk rfl (fun b hb => ?_)
    | refine k_fn c_told10 ?_)
    all_goals (rw [List.take_append_of_le_length (by omega)]; exact hTk)
  | some y =>
    obtain ⟨hy, hyB⟩ := getG_some hG
    have hys := mayG_small hy
    have p2 := c_gPut y hys
    rw [hy, hyB] at p2
    have s2 := c_gSame (fakeG nf r' w') y hsm hys
    have hfin : sameG (fakeG nf r' w') y = (c == 0) := by
      rw [← putG_same hmay hy, hyB, hBB]
      cases hc : (c == 0) with
      | true => rw [eq_of_beq hc, set_xor0 hx]; simp
      | false =>
        rw [beq_eq_false_iff_ne]
        intro e
        rw [set_xor1 hx e.symm] at hc
        simp at hc
    rw [hfin] at s2
    have s1 := c_Same1 (B.set k (x ^^^ c)) (B.set k (x ^^^ c))
    rw [beq_self_eq_true] at s1
    repeat' (first
    | simp (implicitDefEqProofs := false) only [push_cast, reduceIte, reduceCtorEq, Nat.reduceAdd, Nat.reduceSub, Nat.reduceEqDiff, Nat.reduceLT, Nat.reduceLeDiff, Nat.reduceBEq, Nat.reduceMul, Int.reduceLT, Int.reduceLE, Int.reduceEq, Int.reduceToNat, Int.reduceMul, Int.reduceNeg, Go.Proofs.Try.f8, b00, e00, eG_ty, eG_pl, eG_wk, eBs_ty, eBs_pl, eBs_wk, ap_lo, st_lo, st_ne, st_eq, len_st, st_st, sst, at_set, at_set0, at_set2, List.replicate_succ, List.drop_zero]
    | refine Sp2.f ?_ ?_
    | refine Spl.f ?_ ?_ <;> intro hb
    | refine rq_mk rfl (fun b hb => ?_)
    | refine k_fn c_told10 ?_
    | refine k_fn p2 ?_)
    refine k_readBs0 (k := H1.length + 1) (get_at ..) hlen.symm (a' := [eBs (B.set k (x ^^^ c))]) (by simp only [List.map_cons, List.map_nil, bz_dat 4 _ (eBs_dat _)]) s1 ?_
    have q3 : FSpec prog 41 [ownG (fakeG nf r' w') v, eG y] (H1 ++ [(⟨5, [], .dead⟩ : Entry), ⟨5, (B.set k (x ^^^ c)).map eB, .fz⟩, ⟨72, [eG y], .own⟩]) _ := FSpec.readd wfp 4 (by
      have := hown (H1 ++ [(⟨5, [], .dead⟩ : Entry), ⟨5, (B.set k (x ^^^ c)).map eB, .fz⟩, ⟨72, [eG y], .own⟩]) fun j e hj he => by rw [List.getElem?_append_left hj]; exact he
      rw [List.map_cons, List.map_nil] at this
      rw [List.map_cons, List.map_cons, List.map_nil, bzd_dat 4 _ (eG_dat y), List.cons_eq_cons.1 this |>.1]) s2
    repeat' (first
    | simp (implicitDefEqProofs := false) only [push_cast, reduceIte, reduceCtorEq, Nat.reduceAdd, Nat.reduceSub, Nat.reduceEqDiff, Nat.reduceLT, Nat.reduceLeDiff, Nat.reduceBEq, Nat.reduceMul, Int.reduceLT, Int.reduceLE, Int.reduceEq, Int.reduceToNat, Int.reduceMul, Int.reduceNeg, Go.Proofs.Try.f8, hc, hcl, hwk, hty, hpl, b00, e00, hz1, beq_self_eq_true, eG_ty, eG_pl, eG_wk, eBs_ty, eBs_pl, eBs_wk, ap_lo, st_lo, st_ne, st_eq, len_st, st_st, sst, at_set, at_set0, at_set2, List.replicate_succ, List.drop_zero]
    | refine Sp2.f ?_ ?_
    | refine Spl.f ?_ ?_ <;> intro hb
    | refine rq_mk rfl (fun b hb => ?_)
    | refine k_det q3 ?_)
    all_goals (rw [List.take_append_of_le_length (by omega)]; exact hTk)

end Go.Abs
