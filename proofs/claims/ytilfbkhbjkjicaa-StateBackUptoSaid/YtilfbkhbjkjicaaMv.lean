/- Mv: a part of the proofs about the tuple space and its bytes. -/
import Derived.Test.YtilfbkhbjkjicaaSy
import Derived.Test.YtilfbkhbjkjicaaAf
import Derived.Test.YtilfbkhbjkjicaaPz
set_option linter.all false
set_option maxRecDepth 100000
set_option maxHeartbeats 0
namespace Go.Abs
open Go
open Go.Proofs.Try (prog)
/-! ### StateMoves -/
structure Req.Ok (r : Req) : Prop where
  small : r.Small
  T : ∀ f ∈ r.T, f.In
  P : ∀ f ∈ r.P, f.In
theorem AF.isIn {s : Spc} (a : AF Fld.In s) : s.In := ⟨a.i, a.w, a.l⟩
def M9 (l : List Asked) (b : Nat) (h : List Entry) (E : Nat → Int → (Nat → AV) → Env) (i : Nat) (env : Env) (hh : List Entry) : Prop :=
  ∃ s n, MS s ∧ AF Fld.In s ∧ i ≤ l.length ∧ i ≤ b ∧ hh = h ++ [⟨29, [eS s], .own⟩] ∧ env = E i n (lk env)
theorem m9_mk {l : List Asked} {b : Nat} {h : List Entry} {E : Nat → Int → (Nat → AV) → Env} {i : Nat} {env : Env} {hh : List Entry} (s : Spc) (n : Int) (h1 : MS s) (h0 : AF Fld.In s) (h2 : i ≤ l.length) (h3 : i ≤ b) (h4 : hh = h ++ [⟨29, [eS s], .own⟩]) (h5 : env = E i n (lk env)) : M9 l b h E i env hh := ⟨s, n, h1, h0, h2, h3, h4, h5⟩
def N9 (l : List Asked) (b : Nat) (h : List Entry) (E : Nat → Int → (Nat → AV) → Env) (i : Nat) (env : Env) (hh : List Entry) : Prop :=
  ∃ s n g, MS s ∧ i ≤ l.length ∧ i ≤ b ∧ hh = h ++ (⟨29, [eS s], .own⟩ :: ⟨29, [eS s], .own⟩ :: g) ∧ env = E i n (lk env)
theorem n9_mk {l : List Asked} {b : Nat} {h : List Entry} {E : Nat → Int → (Nat → AV) → Env} {i : Nat} {env : Env} {hh : List Entry} (s : Spc) (n : Int) (g : List Entry) (h1 : MS s) (h2 : i ≤ l.length) (h3 : i ≤ b)
    (h4 : hh = h ++ (⟨29, [eS s], .own⟩ :: ⟨29, [eS s], .own⟩ :: g)) (h5 : env = E i n (lk env)) : N9 l b h E i env hh := ⟨s, n, g, h1, h2, h3, h4, h5⟩
theorem c_StateMoves (l m : List Asked) (hl : l.length ≤ 4294967296) (hm : m.length ≤ 4294967296) (hR : ∀ x ∈ l, x.R.Ok) (hQ : ∀ x ∈ m, x.R.Ok) :
    Fn prog 11 [.list 62 (l.map eA), .list 62 (m.map eA)] (.bool true) := by
  have b00 : ((0 : Int) != 0) = false := rfl
  refine run_11 rfl fun h => ?_
  repeat' (first
    | simp (implicitDefEqProofs := false) only [push_cast, reduceIte, reduceCtorEq, Nat.reduceAdd, Nat.reduceSub, Nat.reduceEqDiff, Nat.reduceLT, Nat.reduceLeDiff, Nat.reduceBEq, Nat.reduceMul, Int.reduceLT, Int.reduceLE, Int.reduceEq, Int.reduceToNat, Int.reduceMul, Int.reduceNeg, Go.Proofs.Try.f11, eS_ty, eS_pl, eS_wk, List.length_map, ap_lo, st_lo, st_ne, st_eq, len_st, st_st, sst, at_set, at_set0, at_set2, at_set20, sst2, List.replicate_succ, List.drop_zero]
    | refine Sp2.f ?_ ?_
    | refine Spl.f ?_ ?_ <;> intro hb
    | refine rq_mk rfl (fun b hb => ?_)
    | refine r_draw (U := [[], [], [], [], [], [], [], [], [], [], [], []]) (H := []) hmix (by kernel_rfl) (by decide +kernel) (by kernel_rfl) ?_
    | refine r_draw (U := [[], [], [], [], [], [], [], [], [], [], [], [0, 6, 7], [], []]) (H := [⟨0, [], .hole⟩]) hmix (by kernel_rfl) (by decide +kernel) (by kernel_rfl) ?_
    | refine r_draw (U := [[], [], [], [], [], [], [], [], [], [], [], [0, 6, 7], [], []]) (H := [⟨0, [], .hole⟩]) hmix (by kernel_rfl) (by decide +kernel) (by kernel_rfl) ?_
    | refine r_draw (U := [[], [], [1], []]) (H := []) hmix (by kernel_rfl) (by decide +kernel) (by kernel_rfl) ?_
    | refine k_fn (c_New 15 15) ?_)
  refine rl_gen (M9 l 30 h (fun i n a => [(0, .list 62 (l.map eA)), (1, .list 62 (m.map eA)), (4, .bool false), (5, .ref h.length [0] 29), (6, .int .i64 n), (7, .int .i64 i), (8, a 8), (9, a 9), (10, a 10), (11, a 11), (12, a 12), (13, a 13), (14, a 14), (15, a 15), (16, a 16), (25, a 25), (64, a 64), (72, a 72), (116, a 116)])) l.length (m9_mk (newS 15 15) 0 MS.new (AF.new 15 15) (Nat.zero_le _) (by omega) rfl rfl) ?_
  rintro i env hh ⟨s, n, hs, ha, hi, hi30, rfl, henv⟩
  refine ⟨hi, ?_⟩
  rw [henv]
  generalize lk env = a
  clear henv env
  have hdo : i < l.length ∧ i < 30 ∨ (¬ i < l.length ∨ ¬ i < 30) := by omega
  rcases hdo with ⟨hlt, h30⟩ | hend
  · obtain ⟨x, hx⟩ : ∃ x, l[i]? = some x := ⟨_, List.getElem?_eq_getElem hlt⟩
    have hxR := hR x (List.mem_of_getElem? hx)
    have hi9 : i < 9223372036854775807 := by omega
    have f30 : decide ((i : Int) < 30) = true := by simp; omega
    generalize hn' : IntKind.wrap .i64 (n + IntKind.wrap .i64 ((IntKind.wrap .u64 x.D).tmod 20)) = n'
    have d1 := c_Do s n' x.R hs.small hxR.small
    have hs' : MS (doS s n' x.R).1 := hs.do
    have ha' : AF Fld.In (doS s n' x.R).1 := ha.doS hxR.T hxR.P
    generalize doS s n' x.R = out at d1 hs' ha'
    obtain ⟨s', rs⟩ := out
    simp only at d1 hs' ha'
    repeat' (first
    | simp (implicitDefEqProofs := false) only [push_cast, reduceIte, reduceCtorEq, Nat.reduceAdd, Nat.reduceSub, Nat.reduceEqDiff, Nat.reduceLT, Nat.reduceLeDiff, Nat.reduceBEq, Nat.reduceMul, Int.reduceLT, Int.reduceLE, Int.reduceEq, Int.reduceToNat, Int.reduceMul, Int.reduceNeg, Go.Proofs.Try.f11, eRs, eS_ty, eS_pl, eS_wk, eA, eQ_ty, eQ_pl, eQ_wk, hn', f30, List.length_map, cast_lt hlt, in_row hlt, getD_map eA hx, Int.toNat_natCast, wrap_succ hi9, ap_lo, st_lo, st_ne, st_eq, len_st, st_st, sst, at_set, at_set0, at_set2, at_set20, sst2, List.replicate_succ, List.drop_zero]
    | refine Sp2.f ?_ ?_
    | refine Spl.f ?_ ?_ <;> intro hb
    | refine rq_mk rfl (fun b hb => ?_)
    | refine r_draw (U := [[], [], [], [], [], [], [], [], [], [], [], []]) (H := []) hmix (by kernel_rfl) (by decide +kernel) (by kernel_rfl) ?_
    | refine r_draw (U := [[], [], [], [], [], [], [], [], [], [], [], [0, 6, 7], [], []]) (H := [⟨0, [], .hole⟩]) hmix (by kernel_rfl) (by decide +kernel) (by kernel_rfl) ?_
    | refine r_draw (U := [[], [], [], [], [], [], [], [], [], [], [], [0, 6, 7], [], []]) (H := [⟨0, [], .hole⟩]) hmix (by kernel_rfl) (by decide +kernel) (by kernel_rfl) ?_
    | refine r_draw (U := [[], [], [1], []]) (H := []) hmix (by kernel_rfl) (by decide +kernel) (by kernel_rfl) ?_
    | refine dk_pure d1 ?_)
    exact m9_mk s' n' hs' ha' hlt (by omega) rfl rfl
  · have cend : (decide ((i : Int) < (l.length : Int)) = false ∨ (decide ((i : Int) < (l.length : Int)) = true ∧ decide ((i : Int) < 30) = false)) := by
      by_cases hh : i < l.length
      · exact .inr ⟨cast_lt hh, by simp; omega⟩
      · exact .inl (cast_ge hh)
    have p1 := c_sPut s hs.small
    have hmay := ms_may hs
    rw [hmay] at p1
    have g1 := c_sGet (putS s) (by have := putS_len hmay; omega)
    rw [getS_put hmay ha.isIn] at g1
    generalize putS s = B at p1 g1
    clear hend hmay ha hi hi30
    rcases cend with ce | ⟨ce, ce2⟩
    · repeat' (first
    | simp (implicitDefEqProofs := false) only [push_cast, reduceIte, reduceCtorEq, Nat.reduceAdd, Nat.reduceSub, Nat.reduceEqDiff, Nat.reduceLT, Nat.reduceLeDiff, Nat.reduceBEq, Nat.reduceMul, Int.reduceLT, Int.reduceLE, Int.reduceEq, Int.reduceToNat, Int.reduceMul, Int.reduceNeg, Go.Proofs.Try.f11, eS_ty, eS_pl, eS_wk, eBs_ty, eBs_pl, eBs_wk, b00, ce, List.length_map, ap_lo, st_lo, st_ne, st_eq, len_st, st_st, sst, at_set, at_set0, at_set2, at_set20, sst2, List.replicate_succ, List.drop_zero]
    | refine Sp2.f ?_ ?_
    | refine Spl.f ?_ ?_ <;> intro hb
    | refine rq_mk rfl (fun b hb => ?_)
    | refine r_draw (U := [[], [], [], [], [], [], [], [], [], [], [], []]) (H := []) hmix (by kernel_rfl) (by decide +kernel) (by kernel_rfl) ?_
    | refine r_draw (U := [[], [], [], [], [], [], [], [], [], [], [], [0, 6, 7], [], []]) (H := [⟨0, [], .hole⟩]) hmix (by kernel_rfl) (by decide +kernel) (by kernel_rfl) ?_
    | refine r_draw (U := [[], [], [], [], [], [], [], [], [], [], [], [0, 6, 7], [], []]) (H := [⟨0, [], .hole⟩]) hmix (by kernel_rfl) (by decide +kernel) (by kernel_rfl) ?_
    | refine r_draw (U := [[], [], [1], []]) (H := []) hmix (by kernel_rfl) (by decide +kernel) (by kernel_rfl) ?_
    | refine k_fn p1 ?_
    | refine k_fn g1 ?_)
      clear p1 g1 ce
      refine rl_gen (N9 m 20 h (fun j n a => [(0, .list 62 (l.map eA)), (1, .list 62 (m.map eA)), (4, .bool false), (5, .ref h.length [0] 29), (6, .int .i64 n), (7, a 7), (8, a 8), (9, a 9), (10, .ref (h.length + 1) [0] 29), (11, a 11), (12, .int .i64 j), (13, a 13), (14, a 14), (15, a 15), (16, a 16), (25, a 25), (64, a 64), (72, a 72), (116, a 116)])) m.length (n9_mk s n [] hs (Nat.zero_le _) (by omega) rfl rfl) ?_
      clear a hs s n i B
      rintro j env hh ⟨s, n, g, hs, hi, hi20, rfl, henv⟩
      refine ⟨hi, ?_⟩
      rw [henv]
      generalize lk env = a
      clear henv env
      have hdo : j < m.length ∧ j < 20 ∨ (¬ j < m.length ∨ ¬ j < 20) := by omega
      rcases hdo with ⟨hlt, h20⟩ | hend
      · obtain ⟨x, hx⟩ : ∃ x, m[j]? = some x := ⟨_, List.getElem?_eq_getElem hlt⟩
        have hxR := hQ x (List.mem_of_getElem? hx)
        have hi9 : j < 9223372036854775807 := by omega
        have f20 : decide ((j : Int) < 20) = true := by simp; omega
        generalize hn' : IntKind.wrap .i64 (n + IntKind.wrap .i64 ((IntKind.wrap .u64 x.D).tmod 20)) = n'
        have d1 := c_Do s n' x.R hs.small hxR.small
        have hs' : MS (doS s n' x.R).1 := hs.do
        have hsm := do_small (now := n') hs.small hxR.small
        generalize doS s n' x.R = out at d1 hs' hsm
        obtain ⟨s', rs⟩ := out
        simp only at d1 hs' hsm
        have hr6 := c_SameReplies6 rs rs hsm.2 hsm.2
        rw [sm6s_rfl] at hr6
        have hs6 := c_sSame s' s' hsm.1 hsm.1
        rw [sameS_rfl] at hs6
        repeat' (first
    | simp (implicitDefEqProofs := false) only [push_cast, reduceIte, reduceCtorEq, Nat.reduceAdd, Nat.reduceSub, Nat.reduceEqDiff, Nat.reduceLT, Nat.reduceLeDiff, Nat.reduceBEq, Nat.reduceMul, Int.reduceLT, Int.reduceLE, Int.reduceEq, Int.reduceToNat, Int.reduceMul, Int.reduceNeg, Go.Proofs.Try.f11, eRs, eS_ty, eS_pl, eS_wk, eA, eQ_ty, eQ_pl, eQ_wk, hn', f20, List.length_map, cast_lt hlt, in_row hlt, getD_map eA hx, Int.toNat_natCast, wrap_succ hi9, ap_lo, st_lo, st_ne, st_eq, len_st, st_st, sst, at_set, at_set0, at_set2, at_set20, sst2, List.replicate_succ, List.drop_zero]
    | refine Sp2.f ?_ ?_
    | refine Spl.f ?_ ?_ <;> intro hb
    | refine rq_mk rfl (fun b hb => ?_)
    | refine r_draw (U := [[], [], [], [], [], [], [], [], [], [], [], []]) (H := []) hmix (by kernel_rfl) (by decide +kernel) (by kernel_rfl) ?_
    | refine r_draw (U := [[], [], [], [], [], [], [], [], [], [], [], [0, 6, 7], [], []]) (H := [⟨0, [], .hole⟩]) hmix (by kernel_rfl) (by decide +kernel) (by kernel_rfl) ?_
    | refine r_draw (U := [[], [], [], [], [], [], [], [], [], [], [], [0, 6, 7], [], []]) (H := [⟨0, [], .hole⟩]) hmix (by kernel_rfl) (by decide +kernel) (by kernel_rfl) ?_
    | refine r_draw (U := [[], [], [1], []]) (H := []) hmix (by kernel_rfl) (by decide +kernel) (by kernel_rfl) ?_
    | refine dk_pure d1 ?_
    | refine k_fn hr6 ?_
    | refine k_fn hs6 ?_)
        exact n9_mk s' n' _ hs' hlt (by omega) rfl rfl
      · have cend : (decide ((j : Int) < (m.length : Int)) = false ∨ (decide ((j : Int) < (m.length : Int)) = true ∧ decide ((j : Int) < 20) = false)) := by
          by_cases hh : j < m.length
          · exact .inr ⟨cast_lt hh, by simp; omega⟩
          · exact .inl (cast_ge hh)
        rcases cend with ce | ⟨ce, ce2⟩
        · repeat' (first
    | simp (implicitDefEqProofs := false) only [push_cast, reduceIte, reduceCtorEq, Nat.reduceAdd, Nat.reduceSub, Nat.reduceEqDiff, Nat.reduceLT, Nat.reduceLeDiff, Nat.reduceBEq, Nat.reduceMul, Int.reduceLT, Int.reduceLE, Int.reduceEq, Int.reduceToNat, Int.reduceMul, Int.reduceNeg, Go.Proofs.Try.f11, ce, List.length_map, ap_lo, st_lo, st_ne, st_eq, len_st, st_st, sst, at_set, at_set0, at_set2, at_set20, sst2, List.replicate_succ, List.drop_zero]
    | refine Sp2.f ?_ ?_
    | refine Spl.f ?_ ?_ <;> intro hb
    | refine rq_mk rfl (fun b hb => ?_)
    | refine r_draw (U := [[], [], [], [], [], [], [], [], [], [], [], []]) (H := []) hmix (by kernel_rfl) (by decide +kernel) (by kernel_rfl) ?_
    | refine r_draw (U := [[], [], [], [], [], [], [], [], [], [], [], [0, 6, 7], [], []]) (H := [⟨0, [], .hole⟩]) hmix (by kernel_rfl) (by decide +kernel) (by kernel_rfl) ?_
    | refine r_draw (U := [[], [], [], [], [], [], [], [], [], [], [], [0, 6, 7], [], []]) (H := [⟨0, [], .hole⟩]) hmix (by kernel_rfl) (by decide +kernel) (by kernel_rfl) ?_
    | refine r_draw (U := [[], [], [1], []]) (H := []) hmix (by kernel_rfl) (by decide +kernel) (by kernel_rfl) ?_
    | refine k_fn c_told9 ?_)
        · repeat' (first
    | simp (implicitDefEqProofs := false) only [push_cast, reduceIte, reduceCtorEq, Nat.reduceAdd, Nat.reduceSub, Nat.reduceEqDiff, Nat.reduceLT, Nat.reduceLeDiff, Nat.reduceBEq, Nat.reduceMul, Int.reduceLT, Int.reduceLE, Int.reduceEq, Int.reduceToNat, Int.reduceMul, Int.reduceNeg, Go.Proofs.Try.f11, ce, ce2, List.length_map, ap_lo, st_lo, st_ne, st_eq, len_st, st_st, sst, at_set, at_set0, at_set2, at_set20, sst2, List.replicate_succ, List.drop_zero]
    | refine Sp2.f ?_ ?_
    | refine Spl.f ?_ ?_ <;> intro hb
    | refine rq_mk rfl (fun b hb => ?_)
    | refine r_draw (U := [[], [], [], [], [], [], [], [], [], [], [], []]) (H := []) hmix (by kernel_rfl) (by decide +kernel) (by kernel_rfl) ?_
    | refine r_draw (U := [[], [], [], [], [], [], [], [], [], [], [], [0, 6, 7], [], []]) (H := [⟨0, [], .hole⟩]) hmix (by kernel_rfl) (by decide +kernel) (by kernel_rfl) ?_
    | refine r_draw (U := [[], [], [], [], [], [], [], [], [], [], [], [0, 6, 7], [], []]) (H := [⟨0, [], .hole⟩]) hmix (by kernel_rfl) (by decide +kernel) (by kernel_rfl) ?_
    | refine r_draw (U := [[], [], [1], []]) (H := []) hmix (by kernel_rfl) (by decide +kernel) (by kernel_rfl) ?_
    | refine k_fn c_told9 ?_)
    · repeat' (first
    | simp (implicitDefEqProofs := false) only [push_cast, reduceIte, reduceCtorEq, Nat.reduceAdd, Nat.reduceSub, Nat.reduceEqDiff, Nat.reduceLT, Nat.reduceLeDiff, Nat.reduceBEq, Nat.reduceMul, Int.reduceLT, Int.reduceLE, Int.reduceEq, Int.reduceToNat, Int.reduceMul, Int.reduceNeg, Go.Proofs.Try.f11, eS_ty, eS_pl, eS_wk, eBs_ty, eBs_pl, eBs_wk, b00, ce, ce2, List.length_map, ap_lo, st_lo, st_ne, st_eq, len_st, st_st, sst, at_set, at_set0, at_set2, at_set20, sst2, List.replicate_succ, List.drop_zero]
    | refine Sp2.f ?_ ?_
    | refine Spl.f ?_ ?_ <;> intro hb
    | refine rq_mk rfl (fun b hb => ?_)
    | refine r_draw (U := [[], [], [], [], [], [], [], [], [], [], [], []]) (H := []) hmix (by kernel_rfl) (by decide +kernel) (by kernel_rfl) ?_
    | refine r_draw (U := [[], [], [], [], [], [], [], [], [], [], [], [0, 6, 7], [], []]) (H := [⟨0, [], .hole⟩]) hmix (by kernel_rfl) (by decide +kernel) (by kernel_rfl) ?_
    | refine r_draw (U := [[], [], [], [], [], [], [], [], [], [], [], [0, 6, 7], [], []]) (H := [⟨0, [], .hole⟩]) hmix (by kernel_rfl) (by decide +kernel) (by kernel_rfl) ?_
    | refine r_draw (U := [[], [], [1], []]) (H := []) hmix (by kernel_rfl) (by decide +kernel) (by kernel_rfl) ?_
    | refine k_fn p1 ?_
    | refine k_fn g1 ?_)
      clear p1 g1 ce ce2
      refine rl_gen (N9 m 20 h (fun j n a => [(0, .list 62 (l.map eA)), (1, .list 62 (m.map eA)), (4, .bool false), (5, .ref h.length [0] 29), (6, .int .i64 n), (7, a 7), (8, a 8), (9, a 9), (10, .ref (h.length + 1) [0] 29), (11, a 11), (12, .int .i64 j), (13, a 13), (14, a 14), (15, a 15), (16, a 16), (25, a 25), (64, a 64), (72, a 72), (116, a 116)])) m.length (n9_mk s n [] hs (Nat.zero_le _) (by omega) rfl rfl) ?_
      clear a hs s n i B
      rintro j env hh ⟨s, n, g, hs, hi, hi20, rfl, henv⟩
      refine ⟨hi, ?_⟩
      rw [henv]
      generalize lk env = a
      clear henv env
      have hdo : j < m.length ∧ j < 20 ∨ (¬ j < m.length ∨ ¬ j < 20) := by omega
      rcases hdo with ⟨hlt, h20⟩ | hend
      · obtain ⟨x, hx⟩ : ∃ x, m[j]? = some x := ⟨_, List.getElem?_eq_getElem hlt⟩
        have hxR := hQ x (List.mem_of_getElem? hx)
        have hi9 : j < 9223372036854775807 := by omega
        have f20 : decide ((j : Int) < 20) = true := by simp; omega
        generalize hn' : IntKind.wrap .i64 (n + IntKind.wrap .i64 ((IntKind.wrap .u64 x.D).tmod 20)) = n'
        have d1 := c_Do s n' x.R hs.small hxR.small
        have hs' : MS (doS s n' x.R).1 := hs.do
        have hsm := do_small (now := n') hs.small hxR.small
        generalize doS s n' x.R = out at d1 hs' hsm
        obtain ⟨s', rs⟩ := out
        simp only at d1 hs' hsm
        have hr6 := c_SameReplies6 rs rs hsm.2 hsm.2
        rw [sm6s_rfl] at hr6
        have hs6 := c_sSame s' s' hsm.1 hsm.1
        rw [sameS_rfl] at hs6
        repeat' (first
    | simp (implicitDefEqProofs := false) only [push_cast, reduceIte, reduceCtorEq, Nat.reduceAdd, Nat.reduceSub, Nat.reduceEqDiff, Nat.reduceLT, Nat.reduceLeDiff, Nat.reduceBEq, Nat.reduceMul, Int.reduceLT, Int.reduceLE, Int.reduceEq, Int.reduceToNat, Int.reduceMul, Int.reduceNeg, Go.Proofs.Try.f11, eRs, eS_ty, eS_pl, eS_wk, eA, eQ_ty, eQ_pl, eQ_wk, hn', f20, List.length_map, cast_lt hlt, in_row hlt, getD_map eA hx, Int.toNat_natCast, wrap_succ hi9, ap_lo, st_lo, st_ne, st_eq, len_st, st_st, sst, at_set, at_set0, at_set2, at_set20, sst2, List.replicate_succ, List.drop_zero]
    | refine Sp2.f ?_ ?_
    | refine Spl.f ?_ ?_ <;> intro hb
    | refine rq_mk rfl (fun b hb => ?_)
    | refine r_draw (U := [[], [], [], [], [], [], [], [], [], [], [], []]) (H := []) hmix (by kernel_rfl) (by decide +kernel) (by kernel_rfl) ?_
    | refine r_draw (U := [[], [], [], [], [], [], [], [], [], [], [], [0, 6, 7], [], []]) (H := [⟨0, [], .hole⟩]) hmix (by kernel_rfl) (by decide +kernel) (by kernel_rfl) ?_
    | refine r_draw (U := [[], [], [], [], [], [], [], [], [], [], [], [0, 6, 7], [], []]) (H := [⟨0, [], .hole⟩]) hmix (by kernel_rfl) (by decide +kernel) (by kernel_rfl) ?_
    | refine r_draw (U := [[], [], [1], []]) (H := []) hmix (by kernel_rfl) (by decide +kernel) (by kernel_rfl) ?_
    | refine dk_pure d1 ?_
    | refine k_fn hr6 ?_
    | refine k_fn hs6 ?_)
        exact n9_mk s' n' _ hs' hlt (by omega) rfl rfl
      · have cend : (decide ((j : Int) < (m.length : Int)) = false ∨ (decide ((j : Int) < (m.length : Int)) = true ∧ decide ((j : Int) < 20) = false)) := by
          by_cases hh : j < m.length
          · exact .inr ⟨cast_lt hh, by simp; omega⟩
          · exact .inl (cast_ge hh)
        rcases cend with ce | ⟨ce, ce2⟩
        · repeat' (first
    | simp (implicitDefEqProofs := false) only [push_cast, reduceIte, reduceCtorEq, Nat.reduceAdd, Nat.reduceSub, Nat.reduceEqDiff, Nat.reduceLT, Nat.reduceLeDiff, Nat.reduceBEq, Nat.reduceMul, Int.reduceLT, Int.reduceLE, Int.reduceEq, Int.reduceToNat, Int.reduceMul, Int.reduceNeg, Go.Proofs.Try.f11, ce, List.length_map, ap_lo, st_lo, st_ne, st_eq, len_st, st_st, sst, at_set, at_set0, at_set2, at_set20, sst2, List.replicate_succ, List.drop_zero]
    | refine Sp2.f ?_ ?_
    | refine Spl.f ?_ ?_ <;> intro hb
    | refine rq_mk rfl (fun b hb => ?_)
    | refine r_draw (U := [[], [], [], [], [], [], [], [], [], [], [], []]) (H := []) hmix (by kernel_rfl) (by decide +kernel) (by kernel_rfl) ?_
    | refine r_draw (U := [[], [], [], [], [], [], [], [], [], [], [], [0, 6, 7], [], []]) (H := [⟨0, [], .hole⟩]) hmix (by kernel_rfl) (by decide +kernel) (by kernel_rfl) ?_
    | refine r_draw (U := [[], [], [], [], [], [], [], [], [], [], [], [0, 6, 7], [], []]) (H := [⟨0, [], .hole⟩]) hmix (by kernel_rfl) (by decide +kernel) (by kernel_rfl) ?_
    | refine r_draw (U := [[], [], [1], []]) (H := []) hmix (by kernel_rfl) (by decide +kernel) (by kernel_rfl) ?_
    | refine k_fn c_told9 ?_)
        · repeat' (first
    | simp (implicitDefEqProofs := false) only [push_cast, reduceIte, reduceCtorEq, Nat.reduceAdd, Nat.reduceSub, Nat.reduceEqDiff, Nat.reduceLT, Nat.reduceLeDiff, Nat.reduceBEq, Nat.reduceMul, Int.reduceLT, Int.reduceLE, Int.reduceEq, Int.reduceToNat, Int.reduceMul, Int.reduceNeg, Go.Proofs.Try.f11, ce, ce2, List.length_map, ap_lo, st_lo, st_ne, st_eq, len_st, st_st, sst, at_set, at_set0, at_set2, at_set20, sst2, List.replicate_succ, List.drop_zero]
    | refine Sp2.f ?_ ?_
    | refine Spl.f ?_ ?_ <;> intro hb
    | refine rq_mk rfl (fun b hb => ?_)
    | refine r_draw (U := [[], [], [], [], [], [], [], [], [], [], [], []]) (H := []) hmix (by kernel_rfl) (by decide +kernel) (by kernel_rfl) ?_
    | refine r_draw (U := [[], [], [], [], [], [], [], [], [], [], [], [0, 6, 7], [], []]) (H := [⟨0, [], .hole⟩]) hmix (by kernel_rfl) (by decide +kernel) (by kernel_rfl) ?_
    | refine r_draw (U := [[], [], [], [], [], [], [], [], [], [], [], [0, 6, 7], [], []]) (H := [⟨0, [], .hole⟩]) hmix (by kernel_rfl) (by decide +kernel) (by kernel_rfl) ?_
    | refine r_draw (U := [[], [], [1], []]) (H := []) hmix (by kernel_rfl) (by decide +kernel) (by kernel_rfl) ?_
    | refine k_fn c_told9 ?_)

end Go.Abs
