/- Tw: a part of the proofs about the tuple space (layer 8). -/
import Derived.Test.YtelohjfiojpeeaaR2
import Derived.Test.YtelohjfiojpeeaaSm
set_option linter.all false
set_option maxRecDepth 100000
set_option maxHeartbeats 0
namespace Go.Abs
open Go
open Go.Proofs.Try (prog)
/-! ### play -/
theorem play_step {l : List Asked} {i : Nat} {x : Asked} (hx : l[i]? = some x) (p : Spc × Int) : (l.take (i + 1)).foldl stepP p = stepP ((l.take i).foldl stepP p) x := by
  rw [List.take_add_one, hx, Option.toList_some, List.foldl_append]; rfl
def PL (l : List Asked) (m : Nat) (h : List Entry) (z : AV) (E : Nat → Int → (Nat → AV) → Env) (i : Nat) (env : Env) (hh : List Entry) : Prop :=
  ∃ s n g, (l.take i).foldl stepP (newS 15 15, 0) = (s, n) ∧ MS s ∧ i ≤ l.length ∧ i ≤ m ∧ hh = h ++ (⟨33, [z], .own⟩ :: ⟨33, [eS s], .own⟩ :: g) ∧ env = E i n (lk env)
theorem pl_mk {l : List Asked} {m : Nat} {h : List Entry} {z : AV} {E : Nat → Int → (Nat → AV) → Env} {i : Nat} {env : Env} {hh : List Entry} (s : Spc) (n : Int) (g : List Entry) (h0 : (l.take i).foldl stepP (newS 15 15, 0) = (s, n)) (h1 : MS s) (h2 : i ≤ l.length) (h3 : i ≤ m)
    (h4 : hh = h ++ (⟨33, [z], .own⟩ :: ⟨33, [eS s], .own⟩ :: g)) (h5 : env = E i n (lk env)) : PL l m h z E i env hh := ⟨s, n, g, h0, h1, h2, h3, h4, h5⟩
theorem c_play (l : List Asked) (m : Nat) (hl : l.length ≤ 4294967296) (hm : m ≤ 1000) (hR : ∀ x ∈ l, x.R.Small) :
    Fn prog 32 [.int .i64 15, .int .i64 15, .list 46 (l.map eA), .int .i64 m] (.tup [eS (playS (l.take m)).1, .int .i64 (playS (l.take m)).2]) := by
  refine fn_tup (R := fun r => r = .tup [eS (playS (l.take m)).1, .int .i64 (playS (l.take m)).2]) wfp fun h => ?_
  have fin : ∀ (s : Spc) (n : Int) (E1 E2 : Entry) (g : List Entry), playS (l.take m) = (s, n) → (h ++ (E1 :: E2 :: g)).take h.length = h ∧ ∃ l', AV.tup [eS s, .int .i64 n] = .tup l' ∧ belowL h.length (rzL (h ++ (E1 :: E2 :: g)) h.length l') = true ∧ AV.tup (rzL (h ++ (E1 :: E2 :: g)) h.length l') = .tup [eS (playS (l.take m)).1, .int .i64 (playS (l.take m)).2] := by
    intro s n E1 E2 g e
    rw [e]
    refine ⟨by simp, _, rfl, ?_, ?_⟩
    · simp only [rzL, dat_rz _ (eS_dat s), rz, belowL, dat_below _ (eS_dat s), below, Bool.and_self]
    · simp only [rzL, dat_rz _ (eS_dat s), rz]
  refine frun_32 rfl ?_
  repeat' (first
    | simp (implicitDefEqProofs := false) only [push_cast, reduceIte, reduceCtorEq, Nat.reduceAdd, Nat.reduceSub, Nat.reduceEqDiff, Nat.reduceLT, Nat.reduceLeDiff, Nat.reduceBEq, Nat.reduceMul, Int.reduceLT, Int.reduceLE, Int.reduceEq, Int.reduceToNat, Int.reduceMul, Int.reduceNeg, Go.Proofs.Try.f32, eS_ty, eS_pl, eS_wk, List.length_map, ap_lo, st_lo, st_ne, st_eq, len_st, st_st, sst, at_set, at_set0, at_set2, at_set20, sst2, List.replicate_succ, List.drop_zero]
    | refine Sp2.f ?_ ?_
    | refine Spl.f ?_ ?_ <;> intro hb
    | refine rq_mk rfl (fun b hb => ?_)
    | refine r_draw (U := [[], [], [], [], [], [], [], [], [], [], [], []]) (H := []) hmix (by kernel_rfl) (by decide +kernel) (by kernel_rfl) ?_
    | refine k_fn (c_New 15 15) ?_)
  refine rl_gen (PL l m h (zeroAV prog 33) (fun i n a => [(0, .int .i64 15), (1, .int .i64 15), (2, .list 46 (l.map eA)), (3, .int .i64 m), (8, .ref h.length [0] 33), (9, .int .i64 0), (10, .ref (h.length + 1) [0] 33), (11, .int .i64 n), (12, .int .i64 i), (24, a 24)])) l.length (pl_mk (newS 15 15) 0 [] rfl MS.new (Nat.zero_le _) (Nat.zero_le _) ?_ rfl) ?_
  · simp only [za_33]
  rintro i env hh ⟨s, n, g, hf, hs, hi, him, rfl, henv⟩
  refine ⟨hi, ?_⟩
  rw [henv]
  generalize lk env = a
  clear henv env
  by_cases hlt : i < l.length
  · by_cases h80 : i < m
    · obtain ⟨x, hx⟩ : ∃ x, l[i]? = some x := ⟨_, List.getElem?_eq_getElem hlt⟩
      have hxR := hR x (List.mem_of_getElem? hx)
      have hi9 : i < 9223372036854775807 := by omega
      have f80 : decide ((i : Int) < (m : Int)) = true := cast_lt h80
      have hst := play_step hx (newS 15 15, 0)
      rw [hf] at hst
      simp only [stepP] at hst
      generalize hn' : IntKind.wrap .i64 (n + IntKind.wrap .i64 ((IntKind.wrap .u64 x.D).tmod 20)) = n' at hst
      have d1 := c_Do s n' x.R hs.small hxR
      have hs' : MS (doS s n' x.R).1 := hs.do
      generalize doS s n' x.R = out at d1 hs' hst
      obtain ⟨s', rs⟩ := out
      simp only at d1 hs' hst
      repeat' (first
    | simp (implicitDefEqProofs := false) only [push_cast, reduceIte, reduceCtorEq, Nat.reduceAdd, Nat.reduceSub, Nat.reduceEqDiff, Nat.reduceLT, Nat.reduceLeDiff, Nat.reduceBEq, Nat.reduceMul, Int.reduceLT, Int.reduceLE, Int.reduceEq, Int.reduceToNat, Int.reduceMul, Int.reduceNeg, Go.Proofs.Try.f32, eS_ty, eS_pl, eS_wk, eA, eQ_ty, eQ_pl, eQ_wk, hn', f80, List.length_map, cast_lt hlt, in_row hlt, getD_map eA hx, Int.toNat_natCast, wrap_succ hi9, ap_lo, st_lo, st_ne, st_eq, len_st, st_st, sst, at_set, at_set0, at_set2, at_set20, sst2, List.replicate_succ, List.drop_zero]
    | refine Sp2.f ?_ ?_
    | refine Spl.f ?_ ?_ <;> intro hb
    | refine rq_mk rfl (fun b hb => ?_)
    | refine r_draw (U := [[], [], [], [], [], [], [], [], [], [], [], []]) (H := []) hmix (by kernel_rfl) (by decide +kernel) (by kernel_rfl) ?_
    | refine dk_pure d1 ?_)
      exact pl_mk s' n' _ hst hs' hlt h80 rfl rfl
    · have f80 : decide ((i : Int) < (m : Int)) = false := cast_ge h80
      have e : playS (l.take m) = (s, n) := by
        rw [← hf, show i = m by omega]; rfl
      repeat' (first
    | simp (implicitDefEqProofs := false) only [push_cast, reduceIte, reduceCtorEq, Nat.reduceAdd, Nat.reduceSub, Nat.reduceEqDiff, Nat.reduceLT, Nat.reduceLeDiff, Nat.reduceBEq, Nat.reduceMul, Int.reduceLT, Int.reduceLE, Int.reduceEq, Int.reduceToNat, Int.reduceMul, Int.reduceNeg, Go.Proofs.Try.f32, eS_ty, eS_pl, eS_wk, f80, List.length_map, cast_lt hlt, ap_lo, st_lo, st_ne, st_eq, len_st, st_st, sst, at_set, at_set0, at_set2, at_set20, sst2, List.replicate_succ, List.drop_zero]
    | refine Sp2.f ?_ ?_
    | refine Spl.f ?_ ?_ <;> intro hb
    | refine rq_mk rfl (fun b hb => ?_)
    | refine r_draw (U := [[], [], [], [], [], [], [], [], [], [], [], []]) (H := []) hmix (by kernel_rfl) (by decide +kernel) (by kernel_rfl) ?_)
      exact (fin s n _ _ _ e).2
  · have e : playS (l.take m) = (s, n) := by
      rw [← hf, List.take_of_length_le (by omega), List.take_of_length_le (by omega)]; rfl
    repeat' (first
    | simp (implicitDefEqProofs := false) only [push_cast, reduceIte, reduceCtorEq, Nat.reduceAdd, Nat.reduceSub, Nat.reduceEqDiff, Nat.reduceLT, Nat.reduceLeDiff, Nat.reduceBEq, Nat.reduceMul, Int.reduceLT, Int.reduceLE, Int.reduceEq, Int.reduceToNat, Int.reduceMul, Int.reduceNeg, Go.Proofs.Try.f32, eS_ty, eS_pl, eS_wk, List.length_map, cast_ge hlt, ap_lo, st_lo, st_ne, st_eq, len_st, st_st, sst, at_set, at_set0, at_set2, at_set20, sst2, List.replicate_succ, List.drop_zero]
    | refine Sp2.f ?_ ?_
    | refine Spl.f ?_ ?_ <;> intro hb
    | refine rq_mk rfl (fun b hb => ?_)
    | refine r_draw (U := [[], [], [], [], [], [], [], [], [], [], [], []]) (H := []) hmix (by kernel_rfl) (by decide +kernel) (by kernel_rfl) ?_)
    exact (fin s n _ _ _ e).2

/-! ### SpaceTwice -/
theorem sameS_self (s : Spc) : sameS s s = true := by
  have h0 : ∀ l : List Fld, sameT l l = true := fun l => all2_refl fun x _ => same_refl x
  have h1 : all2 smI s.Items s.Items = true := all2_refl fun x _ => by simp [smI, h0]
  have h2 : all2 smW s.Waiters s.Waiters = true := all2_refl fun x _ => by simp [smW, h0]
  have h3 : all2 smR s.Last s.Last = true := all2_refl fun x _ => by simp [smR, h0]
  simp [sameS, h1, h2, h3]
theorem c_SpaceTwice (l : List Asked) (r : Req) (later : Int) (hl : l.length ≤ 4294967296) (hR : ∀ x ∈ l, x.R.Small) (hr : r.Small) :
    Fn prog 13 [.list 46 (l.map eA), eQ r, .int .i64 later] (.bool true) := by
  refine run_13 rfl fun h => ?_
  have hfew := c_Few7 r hr
  have hreq := c_MayRequest6 r hr
  cases hf : (fewF r.P && fewF r.T) with
  | false =>
    rw [hf] at hfew
    repeat' (first
    | simp (implicitDefEqProofs := false) only [push_cast, reduceIte, reduceCtorEq, Nat.reduceAdd, Nat.reduceSub, Nat.reduceEqDiff, Nat.reduceLT, Nat.reduceLeDiff, Nat.reduceBEq, Nat.reduceMul, Int.reduceLT, Int.reduceLE, Int.reduceEq, Int.reduceToNat, Int.reduceMul, Int.reduceNeg, Go.Proofs.Try.f13, eQ_ty, eQ_pl, eQ_wk]
    | refine Sp2.f ?_ ?_
    | refine Spl.f ?_ ?_ <;> intro hb
    | refine rq_mk rfl (fun b hb => ?_)
    | refine r_draw (U := [[], [], [], [], [], [], [], [], [], [], [], [], [], []]) (H := []) hmix (by kernel_rfl) (by decide +kernel) (by kernel_rfl) ?_
    | refine r_draw (U := [[], [], [], [], [], [], [], [], [], [], [], [], [], [], [], [], [], [], [], [], [], [], [], [], [], [], [], [], [], [], [], [], [], [], [], [], [], [], [], [], [], [], [], [], [], [], [], [], [], [], [], [], []]) (H := []) hmix (by kernel_rfl) (by decide +kernel) (by kernel_rfl) ?_
    | refine r_draw (U := [[], [], [], [], [], [], [], [], [], [], [], [], [], [], [], [], [], [], [], [], [], [], [], [], [], [], [], [], [], [], [], [], [], [], [], [], [], [], [], [], [], []]) (H := []) hmix (by kernel_rfl) (by decide +kernel) (by kernel_rfl) ?_
    | refine k_fn hfew ?_
    | refine k_fn c_told ?_)
  | true =>
  rw [hf] at hfew
  cases hq6 : mayQ6 r with
  | false =>
    rw [hq6] at hreq
    repeat' (first
    | simp (implicitDefEqProofs := false) only [push_cast, reduceIte, reduceCtorEq, Nat.reduceAdd, Nat.reduceSub, Nat.reduceEqDiff, Nat.reduceLT, Nat.reduceLeDiff, Nat.reduceBEq, Nat.reduceMul, Int.reduceLT, Int.reduceLE, Int.reduceEq, Int.reduceToNat, Int.reduceMul, Int.reduceNeg, Go.Proofs.Try.f13, eQ_ty, eQ_pl, eQ_wk]
    | refine Sp2.f ?_ ?_
    | refine Spl.f ?_ ?_ <;> intro hb
    | refine rq_mk rfl (fun b hb => ?_)
    | refine r_draw (U := [[], [], [], [], [], [], [], [], [], [], [], [], [], []]) (H := []) hmix (by kernel_rfl) (by decide +kernel) (by kernel_rfl) ?_
    | refine r_draw (U := [[], [], [], [], [], [], [], [], [], [], [], [], [], [], [], [], [], [], [], [], [], [], [], [], [], [], [], [], [], [], [], [], [], [], [], [], [], [], [], [], [], [], [], [], [], [], [], [], [], [], [], [], []]) (H := []) hmix (by kernel_rfl) (by decide +kernel) (by kernel_rfl) ?_
    | refine r_draw (U := [[], [], [], [], [], [], [], [], [], [], [], [], [], [], [], [], [], [], [], [], [], [], [], [], [], [], [], [], [], [], [], [], [], [], [], [], [], [], [], [], [], []]) (H := []) hmix (by kernel_rfl) (by decide +kernel) (by kernel_rfl) ?_
    | refine k_fn hfew ?_
    | refine k_fn hreq ?_
    | refine k_fn c_told ?_)
  | true =>
  rw [hq6] at hreq
  have hq := mayQ6_Q hq6
  repeat' (first
    | simp (implicitDefEqProofs := false) only [push_cast, reduceIte, reduceCtorEq, Nat.reduceAdd, Nat.reduceSub, Nat.reduceEqDiff, Nat.reduceLT, Nat.reduceLeDiff, Nat.reduceBEq, Nat.reduceMul, Int.reduceLT, Int.reduceLE, Int.reduceEq, Int.reduceToNat, Int.reduceMul, Int.reduceNeg, Go.Proofs.Try.f13, eQ_ty, eQ_pl, eQ_wk, List.length_map, ap_lo, st_lo, st_ne, st_eq, len_st, st_st, sst, at_set, at_set0, at_set2, at_set20, sst2, List.replicate_succ, List.drop_zero]
    | refine Sp2.f ?_ ?_
    | refine Spl.f ?_ ?_ <;> intro hb
    | refine rq_mk rfl (fun b hb => ?_)
    | refine r_draw (U := [[], [], [], [], [], [], [], [], [], [], [], [], [], []]) (H := []) hmix (by kernel_rfl) (by decide +kernel) (by kernel_rfl) ?_
    | refine r_draw (U := [[], [], [], [], [], [], [], [], [], [], [], [], [], [], [], [], [], [], [], [], [], [], [], [], [], [], [], [], [], [], [], [], [], [], [], [], [], [], [], [], [], [], [], [], [], [], [], [], [], [], [], [], []]) (H := []) hmix (by kernel_rfl) (by decide +kernel) (by kernel_rfl) ?_
    | refine r_draw (U := [[], [], [], [], [], [], [], [], [], [], [], [], [], [], [], [], [], [], [], [], [], [], [], [], [], [], [], [], [], [], [], [], [], [], [], [], [], [], [], [], [], []]) (H := []) hmix (by kernel_rfl) (by decide +kernel) (by kernel_rfl) ?_
    | refine k_fn hfew ?_
    | refine k_fn hreq ?_)
  refine rl_count (fun i a => [(0, .list 46 (l.map eA)), (1, eQ r), (2, .int .i64 later), (4, .ref h.length [0] 39), (6, .bool false), (7, .int .i64 i), (8, a 8), (9, a 9), (10, a 10), (11, a 11), (12, a 12), (13, a 13), (14, a 14), (15, a 15), (16, a 16), (17, a 17), (18, a 18), (19, a 19), (27, a 27), (36, a 36), (45, a 45), (65, a 65), (145, a 145)]) (fun _ g => h ++ (⟨39, [eQ r], .own⟩ :: g)) (fun i => i ≤ l.length) l.length (li_mk rfl ⟨[], rfl⟩ (Nat.zero_le _)) ?_
  rintro i a g hi
  refine ⟨hi, ?_⟩
  have hdo : i < l.length ∧ i < 40 ∨ (¬ i < l.length ∨ ¬ i < 40) := by omega
  rcases hdo with ⟨hlt, h40⟩ | hend
  · obtain ⟨x, hx⟩ : ∃ x, l[i]? = some x := ⟨_, List.getElem?_eq_getElem hlt⟩
    have hxR := hR x (List.mem_of_getElem? hx)
    have hi9 : i < 9223372036854775807 := by omega
    have f40 : decide ((i : Int) < 40) = true := by simp; omega
    have hfx := c_Few7 x.R hxR
    cases hfb : (fewF x.R.P && fewF x.R.T) with
    | false =>
      rw [hfb] at hfx
      repeat' (first
    | simp (implicitDefEqProofs := false) only [push_cast, reduceIte, reduceCtorEq, Nat.reduceAdd, Nat.reduceSub, Nat.reduceEqDiff, Nat.reduceLT, Nat.reduceLeDiff, Nat.reduceBEq, Nat.reduceMul, Int.reduceLT, Int.reduceLE, Int.reduceEq, Int.reduceToNat, Int.reduceMul, Int.reduceNeg, Go.Proofs.Try.f13, eA, eQ_ty, eQ_pl, eQ_wk, f40, List.length_map, cast_lt hlt, in_row hlt, getD_map eA hx, Int.toNat_natCast, ap_lo, st_lo, st_ne, st_eq, len_st, st_st, sst, at_set, at_set0, at_set2, at_set20, sst2, List.replicate_succ, List.drop_zero]
    | refine Sp2.f ?_ ?_
    | refine Spl.f ?_ ?_ <;> intro hb
    | refine rq_mk rfl (fun b hb => ?_)
    | refine r_draw (U := [[], [], [], [], [], [], [], [], [], [], [], [], [], []]) (H := []) hmix (by kernel_rfl) (by decide +kernel) (by kernel_rfl) ?_
    | refine r_draw (U := [[], [], [], [], [], [], [], [], [], [], [], [], [], [], [], [], [], [], [], [], [], [], [], [], [], [], [], [], [], [], [], [], [], [], [], [], [], [], [], [], [], [], [], [], [], [], [], [], [], [], [], [], []]) (H := []) hmix (by kernel_rfl) (by decide +kernel) (by kernel_rfl) ?_
    | refine r_draw (U := [[], [], [], [], [], [], [], [], [], [], [], [], [], [], [], [], [], [], [], [], [], [], [], [], [], [], [], [], [], [], [], [], [], [], [], [], [], [], [], [], [], []]) (H := []) hmix (by kernel_rfl) (by decide +kernel) (by kernel_rfl) ?_
    | refine k_fn hfx ?_
    | refine k_fn c_told ?_)
    | true =>
      rw [hfb] at hfx
      repeat' (first
    | simp (implicitDefEqProofs := false) only [push_cast, reduceIte, reduceCtorEq, Nat.reduceAdd, Nat.reduceSub, Nat.reduceEqDiff, Nat.reduceLT, Nat.reduceLeDiff, Nat.reduceBEq, Nat.reduceMul, Int.reduceLT, Int.reduceLE, Int.reduceEq, Int.reduceToNat, Int.reduceMul, Int.reduceNeg, Go.Proofs.Try.f13, eA, eQ_ty, eQ_pl, eQ_wk, f40, List.length_map, cast_lt hlt, in_row hlt, getD_map eA hx, Int.toNat_natCast, wrap_succ hi9, ap_lo, st_lo, st_ne, st_eq, len_st, st_st, sst, at_set, at_set0, at_set2, at_set20, sst2, List.replicate_succ, List.drop_zero]
    | refine Sp2.f ?_ ?_
    | refine Spl.f ?_ ?_ <;> intro hb
    | refine rq_mk rfl (fun b hb => ?_)
    | refine r_draw (U := [[], [], [], [], [], [], [], [], [], [], [], [], [], []]) (H := []) hmix (by kernel_rfl) (by decide +kernel) (by kernel_rfl) ?_
    | refine r_draw (U := [[], [], [], [], [], [], [], [], [], [], [], [], [], [], [], [], [], [], [], [], [], [], [], [], [], [], [], [], [], [], [], [], [], [], [], [], [], [], [], [], [], [], [], [], [], [], [], [], [], [], [], [], []]) (H := []) hmix (by kernel_rfl) (by decide +kernel) (by kernel_rfl) ?_
    | refine r_draw (U := [[], [], [], [], [], [], [], [], [], [], [], [], [], [], [], [], [], [], [], [], [], [], [], [], [], [], [], [], [], [], [], [], [], [], [], [], [], [], [], [], [], []]) (H := []) hmix (by kernel_rfl) (by decide +kernel) (by kernel_rfl) ?_
    | refine k_fn hfx ?_
    | refine li_mk ?_ ⟨_, rfl⟩ ?_)
      exact hlt
  · have cend : (decide ((i : Int) < (l.length : Int)) = false ∨ decide ((i : Int) < 40) = false) := by
      rcases hend with h | h
      · exact .inl (cast_ge h)
      · exact .inr (by simp; omega)
    have hpl := c_play l 40 hl (by omega) hR
    obtain ⟨hms, hnow, hn0, hn1⟩ := play_ok (l.take 40) (newS 15 15, 0) 0 MS.new (Int.le_refl _) (Int.le_refl _) (Int.le_refl _) (by simp; omega)
    have hlen40 : (l.take 40).length ≤ 40 := by simp; omega
    change MS (playS (l.take 40)).1 at hms
    change (playS (l.take 40)).1.Now ≤ (playS (l.take 40)).2 at hnow
    change 0 ≤ (playS (l.take 40)).2 at hn0
    change (playS (l.take 40)).2 ≤ _ at hn1
    generalize playS (l.take 40) = p at hpl hms hnow hn0 hn1
    obtain ⟨s, n⟩ := p
    simp only at hpl hms hnow hn0 hn1
    have hnb : n ≤ 20000 := by omega
    have hqq := may_mq hq
    obtain ⟨c, hc, hc4⟩ := nat_client hqq.cl
    have hct : r.Client.toNat = c := by rw [hc]; rfl
    have hr5 : (0 ≤ r.Client ∧ r.Client < 4) = True := by rw [hc]; simp; omega
    have hr4 : (0 ≤ r.Client ∧ r.Client < ((4 : Nat) : Int)) = True := by rw [hc]; simp; omega
    have gL : ∀ t : Spc, MS t → getP (eS t) [5, r.Client.toNat] = some (eR (lastOf t r.Client.toNat)) := by
      intro t ht
      have h4 := ht.len4
      have : t.Last[r.Client.toNat]? = some (lastOf t r.Client.toNat) := by
        have : r.Client.toNat < t.Last.length := by omega
        simp [lastOf, List.getD_eq_getElem?_getD, List.getElem?_eq_getElem this]
      simp only [eS, getP, List.getElem?_cons_succ, List.getElem?_cons_zero, eL, List.getElem?_map, this, Option.map_some]
    have gLs : getP (eS s) [5, r.Client.toNat, 1] = some (.int .i64 (lastOf s r.Client.toNat).Seq) := by
      have h4 := hms.len4
      have : s.Last[r.Client.toNat]? = some (lastOf s r.Client.toNat) := by
        have : r.Client.toNat < s.Last.length := by omega
        simp [lastOf, List.getD_eq_getElem?_getD, List.getElem?_eq_getElem this]
      simp only [eS, getP, List.getElem?_cons_succ, List.getElem?_cons_zero, eL, List.getElem?_map, this, Option.map_some, eR]
    have sP : setP (eQ r) [1] (.int .i64 (r.Seq - 1)) = some (eQ { r with Seq := r.Seq - 1 }) := rfl
    have gQ0 : getP (eQ r) [0] = some (.int .i64 r.Client) := rfl
    have gQ1 : getP (eQ r) [1] = some (.int .i64 r.Seq) := rfl
    have gQ2 : getP (eQ { r with Seq := r.Seq - 1 }) [1] = some (.int .i64 (r.Seq - 1)) := rfl
    have hw1 : IntKind.wrap .i64 (r.Seq - 1) = r.Seq - 1 := IntWalk.i64_in _ (by have := hqq.sq; omega)
    obtain ⟨d, hd, hd0, hd1⟩ := mod_small later 30 (by omega)
    have hnd : IntKind.wrap .i64 (n + d) = n + d := IntWalk.i64_in _ (by omega)
    have hends : decide ((i : Int) < (l.length : Int)) = false ∨ (decide ((i : Int) < (l.length : Int)) = true ∧ decide ((i : Int) < 40) = false) := by
      rcases cend with h | h
      · exact .inl h
      · cases hd : decide ((i : Int) < (l.length : Int)) with
        | false => exact .inl rfl
        | true => exact .inr ⟨rfl, h⟩
    by_cases hle : r.Seq ≤ (lastOf s r.Client.toNat).Seq
    · have f1 : decide (r.Seq ≤ (lastOf s r.Client.toNat).Seq) = true := by simpa using hle
      rcases hends with c1 | ⟨c1, c2⟩
      · repeat' (first
    | simp (implicitDefEqProofs := false) only [push_cast, reduceIte, reduceCtorEq, Nat.reduceAdd, Nat.reduceSub, Nat.reduceEqDiff, Nat.reduceLT, Nat.reduceLeDiff, Nat.reduceBEq, Nat.reduceMul, Int.reduceLT, Int.reduceLE, Int.reduceEq, Int.reduceToNat, Int.reduceMul, Int.reduceNeg, Go.Proofs.Try.f13, c1, eS_ty, eS_pl, eS_wk, eQ_ty, eQ_pl, eQ_wk, sP, gQ0, gQ1, gQ2, hr4, hr5, cast4, gLs, f1, List.length_map, Int.toNat_natCast, ap_lo, st_lo, st_ne, st_eq, len_st, st_st, sst, at_set, at_set0, at_set2, at_set20, sst2, List.replicate_succ, List.drop_zero]
    | refine Sp2.f ?_ ?_
    | refine Spl.f ?_ ?_ <;> intro hb
    | refine rq_mk rfl (fun b hb => ?_)
    | refine r_draw (U := [[], [], [], [], [], [], [], [], [], [], [], [], [], []]) (H := []) hmix (by kernel_rfl) (by decide +kernel) (by kernel_rfl) ?_
    | refine r_draw (U := [[], [], [], [], [], [], [], [], [], [], [], [], [], [], [], [], [], [], [], [], [], [], [], [], [], [], [], [], [], [], [], [], [], [], [], [], [], [], [], [], [], [], [], [], [], [], [], [], [], [], [], [], []]) (H := []) hmix (by kernel_rfl) (by decide +kernel) (by kernel_rfl) ?_
    | refine r_draw (U := [[], [], [], [], [], [], [], [], [], [], [], [], [], [], [], [], [], [], [], [], [], [], [], [], [], [], [], [], [], [], [], [], [], [], [], [], [], [], [], [], [], []]) (H := []) hmix (by kernel_rfl) (by decide +kernel) (by kernel_rfl) ?_
    | refine k_fn hpl ?_
    | refine k_fn c_told ?_)
      · repeat' (first
    | simp (implicitDefEqProofs := false) only [push_cast, reduceIte, reduceCtorEq, Nat.reduceAdd, Nat.reduceSub, Nat.reduceEqDiff, Nat.reduceLT, Nat.reduceLeDiff, Nat.reduceBEq, Nat.reduceMul, Int.reduceLT, Int.reduceLE, Int.reduceEq, Int.reduceToNat, Int.reduceMul, Int.reduceNeg, Go.Proofs.Try.f13, c1, c2, eS_ty, eS_pl, eS_wk, eQ_ty, eQ_pl, eQ_wk, sP, gQ0, gQ1, gQ2, hr4, hr5, cast4, gLs, f1, List.length_map, Int.toNat_natCast, ap_lo, st_lo, st_ne, st_eq, len_st, st_st, sst, at_set, at_set0, at_set2, at_set20, sst2, List.replicate_succ, List.drop_zero]
    | refine Sp2.f ?_ ?_
    | refine Spl.f ?_ ?_ <;> intro hb
    | refine rq_mk rfl (fun b hb => ?_)
    | refine r_draw (U := [[], [], [], [], [], [], [], [], [], [], [], [], [], []]) (H := []) hmix (by kernel_rfl) (by decide +kernel) (by kernel_rfl) ?_
    | refine r_draw (U := [[], [], [], [], [], [], [], [], [], [], [], [], [], [], [], [], [], [], [], [], [], [], [], [], [], [], [], [], [], [], [], [], [], [], [], [], [], [], [], [], [], [], [], [], [], [], [], [], [], [], [], [], []]) (H := []) hmix (by kernel_rfl) (by decide +kernel) (by kernel_rfl) ?_
    | refine r_draw (U := [[], [], [], [], [], [], [], [], [], [], [], [], [], [], [], [], [], [], [], [], [], [], [], [], [], [], [], [], [], [], [], [], [], [], [], [], [], [], [], [], [], []]) (H := []) hmix (by kernel_rfl) (by decide +kernel) (by kernel_rfl) ?_
    | refine k_fn hpl ?_
    | refine k_fn c_told ?_)
    · have f1 : decide (r.Seq ≤ (lastOf s r.Client.toNat).Seq) = false := by simpa using hle
      by_cases h2 : r.Seq < 2
      · have f2 : decide (r.Seq < 2) = true := by simpa using h2
        rcases hends with c1 | ⟨c1, c2⟩
        · repeat' (first
    | simp (implicitDefEqProofs := false) only [push_cast, reduceIte, reduceCtorEq, Nat.reduceAdd, Nat.reduceSub, Nat.reduceEqDiff, Nat.reduceLT, Nat.reduceLeDiff, Nat.reduceBEq, Nat.reduceMul, Int.reduceLT, Int.reduceLE, Int.reduceEq, Int.reduceToNat, Int.reduceMul, Int.reduceNeg, Go.Proofs.Try.f13, c1, eS_ty, eS_pl, eS_wk, eQ_ty, eQ_pl, eQ_wk, sP, gQ0, gQ1, gQ2, hr4, hr5, cast4, gLs, f1, f2, List.length_map, Int.toNat_natCast, ap_lo, st_lo, st_ne, st_eq, len_st, st_st, sst, at_set, at_set0, at_set2, at_set20, sst2, List.replicate_succ, List.drop_zero]
    | refine Sp2.f ?_ ?_
    | refine Spl.f ?_ ?_ <;> intro hb
    | refine rq_mk rfl (fun b hb => ?_)
    | refine r_draw (U := [[], [], [], [], [], [], [], [], [], [], [], [], [], []]) (H := []) hmix (by kernel_rfl) (by decide +kernel) (by kernel_rfl) ?_
    | refine r_draw (U := [[], [], [], [], [], [], [], [], [], [], [], [], [], [], [], [], [], [], [], [], [], [], [], [], [], [], [], [], [], [], [], [], [], [], [], [], [], [], [], [], [], [], [], [], [], [], [], [], [], [], [], [], []]) (H := []) hmix (by kernel_rfl) (by decide +kernel) (by kernel_rfl) ?_
    | refine r_draw (U := [[], [], [], [], [], [], [], [], [], [], [], [], [], [], [], [], [], [], [], [], [], [], [], [], [], [], [], [], [], [], [], [], [], [], [], [], [], [], [], [], [], []]) (H := []) hmix (by kernel_rfl) (by decide +kernel) (by kernel_rfl) ?_
    | refine k_fn hpl ?_
    | refine k_fn c_told ?_)
        · repeat' (first
    | simp (implicitDefEqProofs := false) only [push_cast, reduceIte, reduceCtorEq, Nat.reduceAdd, Nat.reduceSub, Nat.reduceEqDiff, Nat.reduceLT, Nat.reduceLeDiff, Nat.reduceBEq, Nat.reduceMul, Int.reduceLT, Int.reduceLE, Int.reduceEq, Int.reduceToNat, Int.reduceMul, Int.reduceNeg, Go.Proofs.Try.f13, c1, c2, eS_ty, eS_pl, eS_wk, eQ_ty, eQ_pl, eQ_wk, sP, gQ0, gQ1, gQ2, hr4, hr5, cast4, gLs, f1, f2, List.length_map, Int.toNat_natCast, ap_lo, st_lo, st_ne, st_eq, len_st, st_st, sst, at_set, at_set0, at_set2, at_set20, sst2, List.replicate_succ, List.drop_zero]
    | refine Sp2.f ?_ ?_
    | refine Spl.f ?_ ?_ <;> intro hb
    | refine rq_mk rfl (fun b hb => ?_)
    | refine r_draw (U := [[], [], [], [], [], [], [], [], [], [], [], [], [], []]) (H := []) hmix (by kernel_rfl) (by decide +kernel) (by kernel_rfl) ?_
    | refine r_draw (U := [[], [], [], [], [], [], [], [], [], [], [], [], [], [], [], [], [], [], [], [], [], [], [], [], [], [], [], [], [], [], [], [], [], [], [], [], [], [], [], [], [], [], [], [], [], [], [], [], [], [], [], [], []]) (H := []) hmix (by kernel_rfl) (by decide +kernel) (by kernel_rfl) ?_
    | refine r_draw (U := [[], [], [], [], [], [], [], [], [], [], [], [], [], [], [], [], [], [], [], [], [], [], [], [], [], [], [], [], [], [], [], [], [], [], [], [], [], [], [], [], [], []]) (H := []) hmix (by kernel_rfl) (by decide +kernel) (by kernel_rfl) ?_
    | refine k_fn hpl ?_
    | refine k_fn c_told ?_)
      · have f2 : decide (r.Seq < 2) = false := by simpa using h2
        have d1 := c_Do s n r hms.small hr
        obtain ⟨e1, e2, e3⟩ := do_new hms hq hnow (by omega) (by omega)
        have hma : MS (doS s n r).1 := hms.do
        generalize doS s n r = o1 at d1 e1 e2 e3 hma
        obtain ⟨a', m⟩ := o1
        simp only at d1 e1 e2 e3 hma
        have d2 := c_Do a' n r hma.small hr
        rw [do_again hma hq (by omega) (by omega) e2, ← e1, aged_self hma, e1] at d2
        have hqo : mayQ { r with Seq := r.Seq - 1 } = true := mayQ_seq hq (by have := hqq.sq; omega)
        have d3 := c_Do a' n { r with Seq := r.Seq - 1 } hma.small ⟨hr.P, hr.T⟩
        have eo := do_old (s := a') (r := { r with Seq := r.Seq - 1 }) hma hqo (by show r.Seq - 1 < (lastOf a' r.Client.toNat).Seq; omega)
        rw [e1] at eo
        rw [eo] at d3
        have d4 := c_Do a' (n + d) r hma.small hr
        rw [do_again hma hq (by omega) (by omega) e2] at d4
        have hla : (lastOf a' r.Client.toNat).T.length ≤ 4294967296 := by
          have h4 := hma.len4
          refine hma.small.last.2 _ (List.mem_of_getElem? (i := r.Client.toNat) ?_)
          have : r.Client.toNat < a'.Last.length := by omega
          simp [lastOf, List.getD_eq_getElem?_getD, List.getElem?_eq_getElem this]
        have hsr := c_SameReply6 (lastOf a' r.Client.toNat) (lastOf a' r.Client.toNat) hla hla
        rw [sm6_refl] at hsr
        have hsm := c_sSame a' a' hma.small hma.small
        rw [sameS_self] at hsm
        have gLa := gL a' hma
        have f3 : decide ((m.length : Int) < 1) = false := by simp; omega
        have gI : ∀ t : Spc, getP (eS t) [1] = some (.list 74 (t.Items.map eI)) := fun t => rfl
        have gW : ∀ t : Spc, getP (eS t) [2] = some (.list 50 (t.Waiters.map eW)) := fun t => rfl
        have gN : getP (eS (aged a' (n + d))) [0] = some (.int .i64 (n + d)) := rfl
        have hil : decide (((aged a' (n + d)).Items.length : Int) ≤ (a'.Items.length : Int)) = true := by
          have : (live (n + d) a'.Items).length ≤ a'.Items.length := List.length_filter_le ..
          simp only [decide_eq_true_eq]
          show ((live (n + d) a'.Items).length : Int) ≤ _
          omega
        have hwe : (aged a' (n + d)).Waiters = a'.Waiters := rfl
        rcases hends with c1 | ⟨c1, c2⟩
        · repeat' (first
    | simp (implicitDefEqProofs := false) only [push_cast, reduceIte, reduceCtorEq, Nat.reduceAdd, Nat.reduceSub, Nat.reduceEqDiff, Nat.reduceLT, Nat.reduceLeDiff, Nat.reduceBEq, Nat.reduceMul, Int.reduceLT, Int.reduceLE, Int.reduceEq, Int.reduceToNat, Int.reduceMul, Int.reduceNeg, Go.Proofs.Try.f13, c1, eS_ty, eS_pl, eS_wk, eQ_ty, eQ_pl, eQ_wk, sP, gQ0, gQ1, gQ2, hr4, hr5, cast4, gLs, f1, f2, f3, hw1, hd, hnd, gLa, gI, gW, gN, hil, hwe, eRs, eR, cast0, cast1, cast2, Int.reduceBEq, Int.reduceBNe, bn1, bn2, bn3, bn4, bt1, bt2, bt3, bt4, bne_self_eq_false, List.append_eq, List.getD_cons_zero, eFs, List.length_map, Int.toNat_natCast, ap_lo, st_lo, st_ne, st_eq, len_st, st_st, sst, at_set, at_set0, at_set2, at_set20, sst2, List.replicate_succ, List.drop_zero]
    | refine Sp2.f ?_ ?_
    | refine Spl.f ?_ ?_ <;> intro hb
    | refine rq_mk rfl (fun b hb => ?_)
    | refine r_draw (U := [[], [], [], [], [], [], [], [], [], [], [], [], [], []]) (H := []) hmix (by kernel_rfl) (by decide +kernel) (by kernel_rfl) ?_
    | refine r_draw (U := [[], [], [], [], [], [], [], [], [], [], [], [], [], [], [], [], [], [], [], [], [], [], [], [], [], [], [], [], [], [], [], [], [], [], [], [], [], [], [], [], [], [], [], [], [], [], [], [], [], [], [], [], []]) (H := []) hmix (by kernel_rfl) (by decide +kernel) (by kernel_rfl) ?_
    | refine r_draw (U := [[], [], [], [], [], [], [], [], [], [], [], [], [], [], [], [], [], [], [], [], [], [], [], [], [], [], [], [], [], [], [], [], [], [], [], [], [], [], [], [], [], []]) (H := []) hmix (by kernel_rfl) (by decide +kernel) (by kernel_rfl) ?_
    | refine k_fn hpl ?_
    | refine k_fn d1 ?_
    | refine k_fn d2 ?_
    | refine k_fn d3 ?_
    | refine k_fn d4 ?_
    | refine dk_pure hsr ?_
    | refine dk_pure hsm ?_
    | refine dk_pure c_told ?_
    | refine k_fn c_told ?_)

        · repeat' (first
    | simp (implicitDefEqProofs := false) only [push_cast, reduceIte, reduceCtorEq, Nat.reduceAdd, Nat.reduceSub, Nat.reduceEqDiff, Nat.reduceLT, Nat.reduceLeDiff, Nat.reduceBEq, Nat.reduceMul, Int.reduceLT, Int.reduceLE, Int.reduceEq, Int.reduceToNat, Int.reduceMul, Int.reduceNeg, Go.Proofs.Try.f13, c1, c2, eS_ty, eS_pl, eS_wk, eQ_ty, eQ_pl, eQ_wk, sP, gQ0, gQ1, gQ2, hr4, hr5, cast4, gLs, f1, f2, f3, hw1, hd, hnd, gLa, gI, gW, gN, hil, hwe, eRs, eR, cast0, cast1, cast2, Int.reduceBEq, Int.reduceBNe, bn1, bn2, bn3, bn4, bt1, bt2, bt3, bt4, bne_self_eq_false, List.append_eq, List.getD_cons_zero, eFs, List.length_map, Int.toNat_natCast, ap_lo, st_lo, st_ne, st_eq, len_st, st_st, sst, at_set, at_set0, at_set2, at_set20, sst2, List.replicate_succ, List.drop_zero]
    | refine Sp2.f ?_ ?_
    | refine Spl.f ?_ ?_ <;> intro hb
    | refine rq_mk rfl (fun b hb => ?_)
    | refine r_draw (U := [[], [], [], [], [], [], [], [], [], [], [], [], [], []]) (H := []) hmix (by kernel_rfl) (by decide +kernel) (by kernel_rfl) ?_
    | refine r_draw (U := [[], [], [], [], [], [], [], [], [], [], [], [], [], [], [], [], [], [], [], [], [], [], [], [], [], [], [], [], [], [], [], [], [], [], [], [], [], [], [], [], [], [], [], [], [], [], [], [], [], [], [], [], []]) (H := []) hmix (by kernel_rfl) (by decide +kernel) (by kernel_rfl) ?_
    | refine r_draw (U := [[], [], [], [], [], [], [], [], [], [], [], [], [], [], [], [], [], [], [], [], [], [], [], [], [], [], [], [], [], [], [], [], [], [], [], [], [], [], [], [], [], []]) (H := []) hmix (by kernel_rfl) (by decide +kernel) (by kernel_rfl) ?_
    | refine k_fn hpl ?_
    | refine k_fn d1 ?_
    | refine k_fn d2 ?_
    | refine k_fn d3 ?_
    | refine k_fn d4 ?_
    | refine dk_pure hsr ?_
    | refine dk_pure hsm ?_
    | refine dk_pure c_told ?_
    | refine k_fn c_told ?_)


end Go.Abs
