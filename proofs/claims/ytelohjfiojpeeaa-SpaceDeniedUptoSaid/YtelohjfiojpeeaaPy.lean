/- Py: a part of the proofs about the tuple space (layer 8). -/
import Derived.Test.YtelohjfiojpeeaaR2
import Derived.Test.YtelohjfiojpeeaaSm
set_option linter.all false
set_option maxRecDepth 100000
set_option maxHeartbeats 0
namespace Go.Abs
open Go
open Go.Proofs.Try (prog)
/-! ### play -/
theorem play_step {l : List Asked} {i : Nat} {x : Asked} (hx : l[i]? = some x) (p : Spc × Int) : (l.take (i + 1)).foldl stepP p = stepP ((l.take i).foldl stepP p) x := by
  rw [List.take_add_one, hx, Option.toList_some, List.foldl_append]; rfl
def PL (l : List Asked) (m : Nat) (h : List Entry) (z : AV) (E : Nat → Int → (Nat → AV) → Env) (i : Nat) (env : Env) (hh : List Entry) : Prop :=
  ∃ s n g, (l.take i).foldl stepP (newS 15 15, 0) = (s, n) ∧ MS s ∧ i ≤ l.length ∧ i ≤ m ∧ hh = h ++ (⟨33, [z], .own⟩ :: ⟨33, [eS s], .own⟩ :: g) ∧ env = E i n (lk env)
theorem pl_mk {l : List Asked} {m : Nat} {h : List Entry} {z : AV} {E : Nat → Int → (Nat → AV) → Env} {i : Nat} {env : Env} {hh : List Entry} (s : Spc) (n : Int) (g : List Entry) (h0 : (l.take i).foldl stepP (newS 15 15, 0) = (s, n)) (h1 : MS s) (h2 : i ≤ l.length) (h3 : i ≤ m)
    (h4 : hh = h ++ (⟨33, [z], .own⟩ :: ⟨33, [eS s], .own⟩ :: g)) (h5 : env = E i n (lk env)) : PL l m h z E i env hh := ⟨s, n, g, h0, h1, h2, h3, h4, h5⟩
theorem c_play (l : List Asked) (m : Nat) (hl : l.length ≤ 4294967296) (hm : m ≤ 1000) (hR : ∀ x ∈ l, x.R.Small) :
    Fn prog 32 [.int .i64 15, .int .i64 15, .list 46 (l.map eA), .int .i64 m] (.tup [eS (playS (l.take m)).1, .int .i64 (playS (l.take m)).2]) := by
  refine fn_tup (R := fun r => r = .tup [eS (playS (l.take m)).1, .int .i64 (playS (l.take m)).2]) wfp fun h => ?_
  have fin : ∀ (s : Spc) (n : Int) (E1 E2 : Entry) (g : List Entry), playS (l.take m) = (s, n) → (h ++ (E1 :: E2 :: g)).take h.length = h ∧ ∃ l', AV.tup [eS s, .int .i64 n] = .tup l' ∧ belowL h.length (rzL (h ++ (E1 :: E2 :: g)) h.length l') = true ∧ AV.tup (rzL (h ++ (E1 :: E2 :: g)) h.length l') = .tup [eS (playS (l.take m)).1, .int .i64 (playS (l.take m)).2] := by
    intro s n E1 E2 g e
    rw [e]
    refine ⟨by simp, _, rfl, ?_, ?_⟩
    · simp only [rzL, dat_rz _ (eS_dat s), rz, belowL, dat_below _ (eS_dat s), below, Bool.and_self]
    · simp only [rzL, dat_rz _ (eS_dat s), rz]
  refine frun_32 rfl ?_
  repeat' (first
    | simp (implicitDefEqProofs := false) only [push_cast, reduceIte, reduceCtorEq, Nat.reduceAdd, Nat.reduceSub, Nat.reduceEqDiff, Nat.reduceLT, Nat.reduceLeDiff, Nat.reduceBEq, Nat.reduceMul, Int.reduceLT, Int.reduceLE, Int.reduceEq, Int.reduceToNat, Int.reduceMul, Int.reduceNeg, Go.Proofs.Try.f32, eS_ty, eS_pl, eS_wk, List.length_map, ap_lo, st_lo, st_ne, st_eq, len_st, st_st, sst, at_set, at_set0, at_set2, at_set20, sst2, List.replicate_succ, List.drop_zero]
    | refine Sp2.f ?_ ?_
    | refine Spl.f ?_ ?_ <;> intro hb
    | refine rq_mk rfl (fun b hb => ?_)
    | refine r_draw (U := [[], [], [], [], [], [], [], [], [], [], [], []]) (H := []) hmix (by kernel_rfl) (by decide +kernel) (by kernel_rfl) ?_
    | refine k_fn (c_New 15 15) ?_)
  refine rl_gen (PL l m h (zeroAV prog 33) (fun i n a => [(0, .int .i64 15), (1, .int .i64 15), (2, .list 46 (l.map eA)), (3, .int .i64 m), (8, .ref h.length [0] 33), (9, .int .i64 0), (10, .ref (h.length + 1) [0] 33), (11, .int .i64 n), (12, .int .i64 i), (24, a 24)])) l.length (pl_mk (newS 15 15) 0 [] rfl MS.new (Nat.zero_le _) (Nat.zero_le _) ?_ rfl) ?_
  · simp only [za_33]
  rintro i env hh ⟨s, n, g, hf, hs, hi, him, rfl, henv⟩
  refine ⟨hi, ?_⟩
  rw [henv]
  generalize lk env = a
  clear henv env
  by_cases hlt : i < l.length
  · by_cases h80 : i < m
    · obtain ⟨x, hx⟩ : ∃ x, l[i]? = some x := ⟨_, List.getElem?_eq_getElem hlt⟩
      have hxR := hR x (List.mem_of_getElem? hx)
      have hi9 : i < 9223372036854775807 := by omega
      have f80 : decide ((i : Int) < (m : Int)) = true := cast_lt h80
      have hst := play_step hx (newS 15 15, 0)
      rw [hf] at hst
      simp only [stepP] at hst
      generalize hn' : IntKind.wrap .i64 (n + IntKind.wrap .i64 ((IntKind.wrap .u64 x.D).tmod 20)) = n' at hst
      have d1 := c_Do s n' x.R hs.small hxR
      have hs' : MS (doS s n' x.R).1 := hs.do
      generalize doS s n' x.R = out at d1 hs' hst
      obtain ⟨s', rs⟩ := out
      simp only at d1 hs' hst
      repeat' (first
    | simp (implicitDefEqProofs := false) only [push_cast, reduceIte, reduceCtorEq, Nat.reduceAdd, Nat.reduceSub, Nat.reduceEqDiff, Nat.reduceLT, Nat.reduceLeDiff, Nat.reduceBEq, Nat.reduceMul, Int.reduceLT, Int.reduceLE, Int.reduceEq, Int.reduceToNat, Int.reduceMul, Int.reduceNeg, Go.Proofs.Try.f32, eS_ty, eS_pl, eS_wk, eA, eQ_ty, eQ_pl, eQ_wk, hn', f80, List.length_map, cast_lt hlt, in_row hlt, getD_map eA hx, Int.toNat_natCast, wrap_succ hi9, ap_lo, st_lo, st_ne, st_eq, len_st, st_st, sst, at_set, at_set0, at_set2, at_set20, sst2, List.replicate_succ, List.drop_zero]
    | refine Sp2.f ?_ ?_
    | refine Spl.f ?_ ?_ <;> intro hb
    | refine rq_mk rfl (fun b hb => ?_)
    | refine r_draw (U := [[], [], [], [], [], [], [], [], [], [], [], []]) (H := []) hmix (by kernel_rfl) (by decide +kernel) (by kernel_rfl) ?_
    | refine dk_pure d1 ?_)
      exact pl_mk s' n' _ hst hs' hlt h80 rfl rfl
    · have f80 : decide ((i : Int) < (m : Int)) = false := cast_ge h80
      have e : playS (l.take m) = (s, n) := by
        rw [← hf, show i = m by omega]; rfl
      repeat' (first
    | simp (implicitDefEqProofs := false) only [push_cast, reduceIte, reduceCtorEq, Nat.reduceAdd, Nat.reduceSub, Nat.reduceEqDiff, Nat.reduceLT, Nat.reduceLeDiff, Nat.reduceBEq, Nat.reduceMul, Int.reduceLT, Int.reduceLE, Int.reduceEq, Int.reduceToNat, Int.reduceMul, Int.reduceNeg, Go.Proofs.Try.f32, eS_ty, eS_pl, eS_wk, f80, List.length_map, cast_lt hlt, ap_lo, st_lo, st_ne, st_eq, len_st, st_st, sst, at_set, at_set0, at_set2, at_set20, sst2, List.replicate_succ, List.drop_zero]
    | refine Sp2.f ?_ ?_
    | refine Spl.f ?_ ?_ <;> intro hb
    | refine rq_mk rfl (fun b hb => ?_)
    | refine r_draw (U := [[], [], [], [], [], [], [], [], [], [], [], []]) (H := []) hmix (by kernel_rfl) (by decide +kernel) (by kernel_rfl) ?_)
      exact (fin s n _ _ _ e).2
  · have e : playS (l.take m) = (s, n) := by
      rw [← hf, List.take_of_length_le (by omega), List.take_of_length_le (by omega)]; rfl
    repeat' (first
    | simp (implicitDefEqProofs := false) only [push_cast, reduceIte, reduceCtorEq, Nat.reduceAdd, Nat.reduceSub, Nat.reduceEqDiff, Nat.reduceLT, Nat.reduceLeDiff, Nat.reduceBEq, Nat.reduceMul, Int.reduceLT, Int.reduceLE, Int.reduceEq, Int.reduceToNat, Int.reduceMul, Int.reduceNeg, Go.Proofs.Try.f32, eS_ty, eS_pl, eS_wk, List.length_map, cast_ge hlt, ap_lo, st_lo, st_ne, st_eq, len_st, st_st, sst, at_set, at_set0, at_set2, at_set20, sst2, List.replicate_succ, List.drop_zero]
    | refine Sp2.f ?_ ?_
    | refine Spl.f ?_ ?_ <;> intro hb
    | refine rq_mk rfl (fun b hb => ?_)
    | refine r_draw (U := [[], [], [], [], [], [], [], [], [], [], [], []]) (H := []) hmix (by kernel_rfl) (by decide +kernel) (by kernel_rfl) ?_)
    exact (fin s n _ _ _ e).2

theorem sameS_self (s : Spc) : sameS s s = true := by
  have h0 : ∀ l : List Fld, sameT l l = true := fun l => all2_refl fun x _ => same_refl x
  have h1 : all2 smI s.Items s.Items = true := all2_refl fun x _ => by simp [smI, h0]
  have h2 : all2 smW s.Waiters s.Waiters = true := all2_refl fun x _ => by simp [smW, h0]
  have h3 : all2 smR s.Last s.Last = true := all2_refl fun x _ => by simp [smR, h0]
  simp [sameS, h1, h2, h3]

end Go.Abs
