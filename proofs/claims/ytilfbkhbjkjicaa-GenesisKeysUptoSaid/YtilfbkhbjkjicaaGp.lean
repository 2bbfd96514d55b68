/- Gp: a part of the proofs about the tuple space and its bytes. -/
import Derived.Test.YtilfbkhbjkjicaaGm
set_option linter.all false
set_option maxRecDepth 100000
set_option maxHeartbeats 0
namespace Go.Abs
open Go
open Go.Proofs.Try (prog)
/-! ### genesis.Put -/
def putG (g : Gen) : List UInt8 := nb g.F 1 ++ (nb g.Read 1 ++ (nb g.Write 1 ++ (g.Keys.flatten ++ textB g.Start)))
def geE (g : Gen) : Entry := ⟨72, [eG g], .own⟩
theorem PS.raw {n : Nat} {h0 : List Entry} {k : Nat} {l : List UInt8} {cs : List (Nat × Entry)} {H : List Entry} (p : PS n h0 k l cs H) (b : List UInt8) (hl : l.length + b.length ≤ 10000000) :
    FSpec prog 101 [.ref k [0] 94, eBs b] H fun r' h'' => r' = .tup [] ∧ PS n h0 k (l ++ b) cs h'' :=
  p.call fun X w => c_WRaw w b (by omega)
theorem flatten_len : ∀ (l : List (List UInt8)), (∀ x ∈ l, x.length ≤ 1000000) → l.flatten.length ≤ 1000000 * l.length
  | [], _ => by simp
  | x :: l, h => by
    have h1 := h x (by simp)
    have h2 := flatten_len l fun y hy => h y (by simp [hy])
    rw [List.flatten_cons, List.length_append, List.length_cons]; omega
theorem flatten_snoc (l : List (List UInt8)) {i : Nat} {x : List UInt8} (h : l[i]? = some x) : (l.take (i + 1)).flatten = (l.take i).flatten ++ x := by
  rw [List.take_add_one, h, Option.toList_some, List.flatten_append]; simp
theorem formK_len {x : List UInt8} (h : formK x = true) : x.length = 56 := by
  rw [formK, decide_eq_true_eq, widthK] at h
  split at h
  · rename_i hc; exact hc.1
  · omega
theorem c_gPut (g : Gen) (hg : g.Small) : Fn prog 39 [eG g] (.tup [eBs (if mayG g = true then putG g else []), .int .i64 (if mayG g = true then 0 else 1)]) := by
  refine pure_wk_tup (R := fun r => ∃ v, r = .tup [v, .int .i64 (if mayG g = true then 0 else 1)] ∧ RawOK (if mayG g = true then putG g else []) v) [30, 3] (fn_tup wfp fun h => ?_) ?_
  rotate_left
  · rintro r ⟨v, rfl, hv⟩
    refine ⟨_, rfl, ⟨hv.ty.1, by rw [ty_int, sh_3]; rfl, trivial⟩, ?_⟩
    simp only [wks, hv.ty.2.2, wk_int]
  refine frun_39 rfl ?_
  have hmay := c_gMay g hg
  cases hm : mayG g with
  | false =>
    rw [hm] at hmay
    repeat' (first
    | simp (implicitDefEqProofs := false) only [push_cast, reduceIte, reduceCtorEq, Nat.reduceAdd, Nat.reduceSub, Nat.reduceEqDiff, Nat.reduceLT, Nat.reduceLeDiff, Nat.reduceBEq, Nat.reduceMul, Int.reduceLT, Int.reduceLE, Int.reduceEq, Int.reduceToNat, Int.reduceMul, Int.reduceNeg, Go.Proofs.Try.f39, fk_tt, eG_ty, eG_pl, eG_wk, ap_lo, st_lo, st_ne, st_eq, len_st, st_st, sst, at_set, at_set0, at_set2, List.replicate_succ, List.drop_zero]
    | refine Sp2.f ?_ ?_
    | refine Spl.f ?_ ?_ <;> intro hb
    | refine rq_mk rfl (fun b hb => ?_)
    | refine k_fn hmay ?_)
    exact ⟨_, rfl, rfl, .nils, rfl, .inr ⟨rfl, rfl⟩⟩
  | true =>
    rw [hm] at hmay
    have hm2 := hm
    simp only [mayG, headG, Bool.and_eq_true, decide_eq_true_eq] at hm2
    have hK : g.Keys.length ≤ 7 := by omega
    have hform := hm2.2.1
    clear hm2
    have g0 : getP (eG g) [0] = some (.int .i64 g.F) := rfl
    have g1 : getP (eG g) [1] = some (.int .i64 g.Read) := rfl
    have g2 : getP (eG g) [2] = some (.int .i64 g.Write) := rfl
    have g3 : getP (eG g) [3] = some (.list 30 (g.Keys.map eBs)) := rfl
    have g4 : getP (eG g) [4] = some (eBs g.Start) := rfl
    have p0 : PS h.length h (h.length + 1) [] [(h.length, geE g)] (h ++ [geE g, wrE .nils]) := by
      refine ⟨by simp, by simp, fun j => j = h.length + 1, fun j hj => by omega, ⟨fun j hj => by subst hj; simp, rfl, ⟨.nils, get_at .., .nil⟩, Nat.zero_le _⟩, fun c hc => ?_⟩
      rw [List.mem_singleton.1 hc]
      exact ⟨get_at0 .., by simp⟩
    have q0 : FSpec prog 53 [.ref (h.length + 1) [0] 94, .int .u64 (IntKind.u64.wrap g.F), .int .i64 1] (h ++ [geE g, wrE .nils]) _ := p0.num (IntKind.u64.wrap g.F) 1 (by omega) (by omega) (by simp)
    repeat' (first
    | simp (implicitDefEqProofs := false) only [push_cast, reduceIte, reduceCtorEq, Nat.reduceAdd, Nat.reduceSub, Nat.reduceEqDiff, Nat.reduceLT, Nat.reduceLeDiff, Nat.reduceBEq, Nat.reduceMul, Int.reduceLT, Int.reduceLE, Int.reduceEq, Int.reduceToNat, Int.reduceMul, Int.reduceNeg, Go.Proofs.Try.f39, g0, eG_ty, eG_pl, eG_wk, ap_lo, st_lo, st_ne, st_eq, len_st, st_st, sst, at_set, at_set0, at_set2, List.replicate_succ, List.drop_zero]
    | refine Sp2.f ?_ ?_
    | refine Spl.f ?_ ?_ <;> intro hb
    | refine rq_mk rfl (fun b hb => ?_)
    | refine k_fn hmay ?_)
    refine k_spec q0 fun v H hp => ?_
    have p1 := hp.2
    clear q0 p0
    have hc := p1.got (List.mem_singleton.2 rfl)
    have q1 : FSpec prog 53 [.ref (h.length + 1) [0] 94, .int .u64 (IntKind.u64.wrap g.Read), .int .i64 1] H _ := p1.num (IntKind.u64.wrap g.Read) 1 (by omega) (by omega) (by simp [beN_len])
    repeat' (first
    | simp (implicitDefEqProofs := false) only [push_cast, reduceIte, reduceCtorEq, Nat.reduceAdd, Nat.reduceSub, Nat.reduceEqDiff, Nat.reduceLT, Nat.reduceLeDiff, Nat.reduceBEq, Nat.reduceMul, Int.reduceLT, Int.reduceLE, Int.reduceEq, Int.reduceToNat, Int.reduceMul, Int.reduceNeg, Go.Proofs.Try.f39, hc, geE, g1, ap_lo, st_lo, st_ne, st_eq, len_st, st_st, sst, at_set, at_set0, at_set2, List.replicate_succ, List.drop_zero]
    | refine Sp2.f ?_ ?_
    | refine Spl.f ?_ ?_ <;> intro hb
    | refine rq_mk rfl (fun b hb => ?_))
    refine k_spec q1 fun v H2 hp => ?_
    have p2 := hp.2
    clear q1 p1 hc
    have hc := p2.got (List.mem_singleton.2 rfl)
    have q2 : FSpec prog 53 [.ref (h.length + 1) [0] 94, .int .u64 (IntKind.u64.wrap g.Write), .int .i64 1] H2 _ := p2.num (IntKind.u64.wrap g.Write) 1 (by omega) (by omega) (by simp [beN_len])
    repeat' (first
    | simp (implicitDefEqProofs := false) only [push_cast, reduceIte, reduceCtorEq, Nat.reduceAdd, Nat.reduceSub, Nat.reduceEqDiff, Nat.reduceLT, Nat.reduceLeDiff, Nat.reduceBEq, Nat.reduceMul, Int.reduceLT, Int.reduceLE, Int.reduceEq, Int.reduceToNat, Int.reduceMul, Int.reduceNeg, Go.Proofs.Try.f39, hc, geE, g2, ap_lo, st_lo, st_ne, st_eq, len_st, st_st, sst, at_set, at_set0, at_set2, List.replicate_succ, List.drop_zero]
    | refine Sp2.f ?_ ?_
    | refine Spl.f ?_ ?_ <;> intro hb
    | refine rq_mk rfl (fun b hb => ?_))
    refine k_spec q2 fun v H3 hp => ?_
    have p3 := hp.2
    clear q2 p2 hc
    have hc := p3.got (List.mem_singleton.2 rfl)
    have hl4 : (([] ++ beN (IntKind.u64.wrap g.F) 1 ++ beN (IntKind.u64.wrap g.Read) 1 ++ beN (IntKind.u64.wrap g.Write) 1 : List UInt8)).length ≤ 100 := by simp [beN_len]
    have hput : putG g = ([] ++ beN (IntKind.u64.wrap g.F) 1 ++ beN (IntKind.u64.wrap g.Read) 1 ++ beN (IntKind.u64.wrap g.Write) 1 : List UInt8) ++ g.Keys.flatten ++ textB g.Start := by simp [putG, nb]
    generalize ([] ++ beN (IntKind.u64.wrap g.F) 1 ++ beN (IntKind.u64.wrap g.Read) 1 ++ beN (IntKind.u64.wrap g.Write) 1 : List UInt8) = l4 at p3 hl4 hput
    repeat' (first
    | simp (implicitDefEqProofs := false) only [push_cast, reduceIte, reduceCtorEq, Nat.reduceAdd, Nat.reduceSub, Nat.reduceEqDiff, Nat.reduceLT, Nat.reduceLeDiff, Nat.reduceBEq, Nat.reduceMul, Int.reduceLT, Int.reduceLE, Int.reduceEq, Int.reduceToNat, Int.reduceMul, Int.reduceNeg, Go.Proofs.Try.f39, hc, geE, g3, List.length_map, ap_lo, st_lo, st_ne, st_eq, len_st, st_st, sst, at_set, at_set0, at_set2, List.replicate_succ, List.drop_zero]
    | refine Sp2.f ?_ ?_
    | refine Spl.f ?_ ?_ <;> intro hb
    | refine rq_mk rfl (fun b hb => ?_))
    refine rl_gen (fun i env' H => i ≤ g.Keys.length ∧ PS h.length h (h.length + 1) (l4 ++ (g.Keys.take i).flatten) [(h.length, geE g)] H ∧ env' = (fun a : Nat → AV => [(0, a 0), (1, .ref h.length [0] 72), (2, .nils), (3, .int .i64 0), (4, .ref (h.length + 1) [0] 94), (6, a 6), (9, a 9), (23, .list 30 (g.Keys.map eBs)), (24, .int .i64 g.Keys.length), (25, .int .i64 (i : Int)), (26, a 26)]) (lk env')) g.Keys.length ⟨Nat.zero_le _, by simpa using p3, rfl⟩ ?_
    clear p3 hc
    rintro i env H ⟨hi, p, henv⟩
    refine ⟨hi, ?_⟩
    rw [henv]
    generalize lk env = a
    clear henv env
    have hfl : ∀ j, ((g.Keys.take j).flatten).length ≤ 7000000 := fun j => by
      have := flatten_len (g.Keys.take j) fun x hx => hg.k x (List.mem_of_mem_take hx)
      have h2 : (g.Keys.take j).length ≤ 7 := by simp; omega
      omega
    have hfi := hfl i
    by_cases hlt : i < g.Keys.length
    · obtain ⟨x, hx⟩ : ∃ x, g.Keys[i]? = some x := ⟨_, List.getElem?_eq_getElem hlt⟩
      have hi9 : i < 9223372036854775807 := by omega
      have gx := getD_map eBs hx
      have hxl := hg.k x (List.mem_of_getElem? hx)
      have z1 : FSpec prog 101 [.ref (h.length + 1) [0] 94, eBs x] _ _ := p.raw x (by simp only [List.length_append]; omega)
      repeat' (first
    | simp (implicitDefEqProofs := false) only [push_cast, reduceIte, reduceCtorEq, Nat.reduceAdd, Nat.reduceSub, Nat.reduceEqDiff, Nat.reduceLT, Nat.reduceLeDiff, Nat.reduceBEq, Nat.reduceMul, Int.reduceLT, Int.reduceLE, Int.reduceEq, Int.reduceToNat, Int.reduceMul, Int.reduceNeg, Go.Proofs.Try.f39, cast_lt hlt, in_row hlt, gx, eBs_ty, eBs_pl, eBs_wk, List.length_map, Int.toNat_natCast, ap_lo, st_lo, st_ne, st_eq, len_st, st_st, sst, at_set, at_set0, at_set2, List.replicate_succ, List.drop_zero]
    | refine Sp2.f ?_ ?_
    | refine Spl.f ?_ ?_ <;> intro hb
    | refine rq_mk rfl (fun b hb => ?_))
      refine k_spec z1 fun v1 K1 hp1 => ?_
      have y1 := hp1.2
      repeat' (first
    | simp (implicitDefEqProofs := false) only [push_cast, reduceIte, reduceCtorEq, Nat.reduceAdd, Nat.reduceSub, Nat.reduceEqDiff, Nat.reduceLT, Nat.reduceLeDiff, Nat.reduceBEq, Nat.reduceMul, Int.reduceLT, Int.reduceLE, Int.reduceEq, Int.reduceToNat, Int.reduceMul, Int.reduceNeg, Go.Proofs.Try.f39, wrap_succ hi9, ap_lo, st_lo, st_ne, st_eq, len_st, st_st, sst, at_set, at_set0, at_set2, List.replicate_succ, List.drop_zero]
    | refine Sp2.f ?_ ?_
    | refine Spl.f ?_ ?_ <;> intro hb
    | refine rq_mk rfl (fun b hb => ?_))
      refine ⟨hlt, ?_⟩
      rw [flatten_snoc _ hx]
      simp only [List.append_assoc] at y1 ⊢
      exact y1
    · have hie : i = g.Keys.length := by omega
      rw [hie, List.take_length] at p hfi
      have hc := p.got (List.mem_singleton.2 rfl)
      have z2 : FSpec prog 54 [.ref (h.length + 1) [0] 94, eBs g.Start] _ _ := p.text g.Start (by have := hg.s; simp only [List.length_append]; omega)
      repeat' (first
    | simp (implicitDefEqProofs := false) only [push_cast, reduceIte, reduceCtorEq, Nat.reduceAdd, Nat.reduceSub, Nat.reduceEqDiff, Nat.reduceLT, Nat.reduceLeDiff, Nat.reduceBEq, Nat.reduceMul, Int.reduceLT, Int.reduceLE, Int.reduceEq, Int.reduceToNat, Int.reduceMul, Int.reduceNeg, Go.Proofs.Try.f39, cast_ge hlt, hc, geE, g4, eBs_ty, eBs_pl, eBs_wk, ap_lo, st_lo, st_ne, st_eq, len_st, st_st, sst, at_set, at_set0, at_set2, List.replicate_succ, List.drop_zero]
    | refine Sp2.f ?_ ?_
    | refine Spl.f ?_ ?_ <;> intro hb
    | refine rq_mk rfl (fun b hb => ?_))
      refine k_spec z2 fun v1 K1 hp1 => ?_
      have y1 := hp1.2
      rw [← hput] at y1
      repeat' (first
    | simp (implicitDefEqProofs := false) only [push_cast, reduceIte, reduceCtorEq, Nat.reduceAdd, Nat.reduceSub, Nat.reduceEqDiff, Nat.reduceLT, Nat.reduceLeDiff, Nat.reduceBEq, Nat.reduceMul, Int.reduceLT, Int.reduceLE, Int.reduceEq, Int.reduceToNat, Int.reduceMul, Int.reduceNeg, Go.Proofs.Try.f39, fk_tt, ap_lo, st_lo, st_ne, st_eq, len_st, st_st, sst, at_set, at_set0, at_set2, List.replicate_succ, List.drop_zero]
    | refine Sp2.f ?_ ?_
    | refine Spl.f ?_ ?_ <;> intro hb
    | refine rq_mk rfl (fun b hb => ?_)
    | refine k_det y1.bytes ?_)
      refine ⟨eBs_pl _, y1.tk, [eBs (putG g), .int .i64 0], rfl, ?_, ?_⟩
      · simp only [rzL, dat_rz _ (eBs_dat _), rz, belowL, dat_below _ (eBs_dat _), below, Bool.and_self]
      · simp only [rzL, dat_rz _ (eBs_dat _), rz]
        exact ⟨_, rfl, .inl rfl⟩

end Go.Abs
