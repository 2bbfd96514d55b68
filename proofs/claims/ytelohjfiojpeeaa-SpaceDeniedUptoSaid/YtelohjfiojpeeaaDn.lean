/- Dn: a part of the proofs about the tuple space (layer 8). -/
import Derived.Test.YtelohjfiojpeeaaPy
import Derived.Test.YtelohjfiojpeeaaBt
set_option linter.all false
set_option maxRecDepth 100000
set_option maxHeartbeats 0
namespace Go.Abs
open Go
open Go.Proofs.Try (prog)
/-! ### SpaceDenied -/
theorem put_head (r : Req) {x : Rpl} : ∀ (rest pre : List Wtr) (s : Spc) (t : List Rpl), ∃ t', (putGo r pre rest s (x :: t)).2 = x :: t'
  | [], pre, s, t => ⟨t, rfl⟩
  | y :: rest, pre, s, t => by
    simp only [putGo]
    split
    · split
      · exact ⟨_, rfl⟩
      · exact put_head r rest pre (told1 y s r) (t ++ [late y r])
    · exact put_head r rest (pre ++ [y]) s t
def Hd6 (l : List Rpl) : Prop := ∃ x t, l = x :: t ∧ x.Kind ≠ 6
theorem hd_tell {r : Req} {kd : Int} {t : List Fld} (h : kd ≠ 6) : Hd6 ([] ++ [rep r kd t]) := ⟨_, _, rfl, h⟩
theorem hd_put {r : Req} {kd : Int} {t : List Fld} {w : List Wtr} {s : Spc} (h : kd ≠ 6) : Hd6 (putGo r [] w s ([] ++ [rep r kd t])).2 := by
  obtain ⟨t', e⟩ := put_head r (x := rep r kd t) w [] s []
  exact ⟨_, t', e, h⟩
theorem hd_bring {s : Spc} {r : Req} : Hd6 (bringS s r []).2 := by
  unfold bringS
  split
  · exact hd_tell (by decide)
  · exact hd_put (by decide)
theorem hd_find {s : Spc} {r : Req} {tk wt : Bool} : Hd6 (findW s r [] tk wt).2 := by
  unfold findW
  split
  · split <;> exact hd_tell (by decide)
  · split
    · exact hd_tell (by decide)
    · split <;> exact hd_tell (by decide)
theorem hd_do {s : Spc} {r : Req} (hd : denyS s r = false) : Hd6 (doW s r []).2 := by
  unfold Go.Abs.doW
  rw [if_neg (by rw [hd]; decide)]
  split
  · exact hd_bring
  split
  · exact hd_find
  split
  · exact hd_find
  split
  · exact hd_find
  split
  · exact hd_find
  split
  · split
    · exact hd_tell (by decide)
    · exact hd_bring
  split
  · unfold turnW
    split
    · exact hd_tell (by decide)
    · split
      · exact hd_tell (by decide)
      · exact hd_put (by decide)
  · exact hd_tell (by decide)
def writes6 (k : Int) : Bool := k == 1 || (k == 3 || (k == 5 || (k == 6 || k == 7)))
theorem c_Writes6 (k : Int) : Fn prog 35 [.int .i64 k] (.bool (writes6 k)) := by
  refine run_35 rfl fun h => ?_
  repeat' (first
    | simp (implicitDefEqProofs := false) only [push_cast, reduceIte, reduceCtorEq, Nat.reduceAdd, Nat.reduceSub, Nat.reduceEqDiff, Nat.reduceLT, Nat.reduceLeDiff, Nat.reduceBEq, Nat.reduceMul, Int.reduceLT, Int.reduceLE, Int.reduceEq, Int.reduceToNat, Int.reduceMul, Int.reduceNeg, Go.Proofs.Try.f35]
    | refine Sp2.f ?_ ?_
    | refine Spl.f ?_ ?_ <;> intro hb
    | refine rq_mk rfl (fun b hb => ?_))
  all_goals (apply congrArg AV.bool; simp only [writes6]; grind)
theorem kindsW (k : Int) (h : 1 ≤ k ∧ k ≤ 8) : writes6 k = writesK k := by
  rcases (by omega : k = 1 ∨ k = 2 ∨ k = 3 ∨ k = 4 ∨ k = 5 ∨ k = 6 ∨ k = 7 ∨ k = 8) with rfl | rfl | rfl | rfl | rfl | rfl | rfl | rfl <;> kernel_rfl
theorem MS.access {s : Spc} (h : MS s) (a b : Int) : MS { s with Read := bits .and .i64 a 15, Write := bits .and .i64 b 15 } := ⟨h.now, mask16 a, mask16 b, h.il, h.wl, h.it, h.cn, h.wt, h.la, h.nw⟩
/-- a request that is not allowed, and one that is -/
theorem do_denied {s : Spc} {r : Req} (h : MS s) (hq : mayQ r = true) (hs : (lastOf s r.Client.toNat).Seq < r.Seq) (hd : denyS s r = true) : doS s s.Now r = (tellS s r 6 [], [rep r 6 []]) := by
  have hok : doOK s s.Now r = true := by
    have := h.now
    simp only [doOK, ms_may h, hq, decide_eq_true (Int.le_refl s.Now), decide_eq_true this.2, Bool.and_self]
  rw [doS, if_pos hok, if_neg (by omega), if_neg (by omega), aged_self h, doW, if_pos hd]; rfl
theorem do_allowed {s : Spc} {r : Req} (h : MS s) (hq : mayQ r = true) (hs : (lastOf s r.Client.toNat).Seq < r.Seq) (hd : denyS s r = false) : Hd6 (doS s s.Now r).2 := by
  have hok : doOK s s.Now r = true := by
    have := h.now
    simp only [doOK, ms_may h, hq, decide_eq_true (Int.le_refl s.Now), decide_eq_true this.2, Bool.and_self]
  rw [doS, if_pos hok, if_neg (by omega), if_neg (by omega), aged_self h]
  exact hd_do hd
theorem eR_ty' (x : Rpl) : tyB prog (eR x) 30 = true := by unfold eR; rw [ty_agg]; rfl
theorem c_SpaceDenied (l : List Asked) (r : Req) (rd wr : Int) (hl : l.length ≤ 4294967296) (hR : ∀ x ∈ l, x.R.Small) (hr : r.Small) :
    Fn prog 14 [.list 46 (l.map eA), eQ r, .int .i64 rd, .int .i64 wr] (.bool true) := by
  refine run_14 rfl fun h => ?_
  have hreq := c_MayRequest6 r hr
  cases hq6 : mayQ6 r with
  | false =>
    rw [hq6] at hreq
    repeat' (first
    | simp (implicitDefEqProofs := false) only [push_cast, reduceIte, reduceCtorEq, Nat.reduceAdd, Nat.reduceSub, Nat.reduceEqDiff, Nat.reduceLT, Nat.reduceLeDiff, Nat.reduceBEq, Nat.reduceMul, Int.reduceLT, Int.reduceLE, Int.reduceEq, Int.reduceToNat, Int.reduceMul, Int.reduceNeg, Go.Proofs.Try.f14, eQ_ty, eQ_pl, eQ_wk]
    | refine Sp2.f ?_ ?_
    | refine Spl.f ?_ ?_ <;> intro hb
    | refine rq_mk rfl (fun b hb => ?_)
    | refine r_draw (U := [[], [], [], [], [], [], [], [], []]) (H := []) hmix (by kernel_rfl) (by decide +kernel) (by kernel_rfl) ?_
    | refine r_draw (U := [[], [], [], [], [], [], [], [], [], []]) (H := []) hmix (by kernel_rfl) (by decide +kernel) (by kernel_rfl) ?_
    | refine k_fn hreq ?_
    | refine k_fn c_told ?_)
  | true =>
  rw [hq6] at hreq
  have hq := mayQ6_Q hq6
  repeat' (first
    | simp (implicitDefEqProofs := false) only [push_cast, reduceIte, reduceCtorEq, Nat.reduceAdd, Nat.reduceSub, Nat.reduceEqDiff, Nat.reduceLT, Nat.reduceLeDiff, Nat.reduceBEq, Nat.reduceMul, Int.reduceLT, Int.reduceLE, Int.reduceEq, Int.reduceToNat, Int.reduceMul, Int.reduceNeg, Go.Proofs.Try.f14, eQ_ty, eQ_pl, eQ_wk, List.length_map, ap_lo, st_lo, st_ne, st_eq, len_st, st_st, sst, at_set, at_set0, at_set2, at_set20, sst2, List.replicate_succ, List.drop_zero]
    | refine Sp2.f ?_ ?_
    | refine Spl.f ?_ ?_ <;> intro hb
    | refine rq_mk rfl (fun b hb => ?_)
    | refine r_draw (U := [[], [], [], [], [], [], [], [], []]) (H := []) hmix (by kernel_rfl) (by decide +kernel) (by kernel_rfl) ?_
    | refine r_draw (U := [[], [], [], [], [], [], [], [], [], []]) (H := []) hmix (by kernel_rfl) (by decide +kernel) (by kernel_rfl) ?_
    | refine k_fn hreq ?_)
  refine rl_count (fun i a => [(0, .list 46 (l.map eA)), (1, eQ r), (2, .int .i64 rd), (3, .int .i64 wr), (5, .ref h.length [0] 39), (8, .bool false), (9, .int .i64 i), (10, a 10), (12, a 12), (13, a 13), (14, a 14), (15, a 15), (18, a 18), (27, a 27), (36, a 36), (51, a 51), (102, a 102), (104, a 104)]) (fun _ g => h ++ (⟨39, [eQ r], .own⟩ :: g)) (fun i => i ≤ l.length) l.length (li_mk rfl ⟨[], rfl⟩ (Nat.zero_le _)) ?_
  rintro i a g hi
  refine ⟨hi, ?_⟩
  have hdo : i < l.length ∧ i < 30 ∨ (¬ i < l.length ∨ ¬ i < 30) := by omega
  rcases hdo with ⟨hlt, h40⟩ | hend
  · obtain ⟨x, hx⟩ : ∃ x, l[i]? = some x := ⟨_, List.getElem?_eq_getElem hlt⟩
    have hxR := hR x (List.mem_of_getElem? hx)
    have hi9 : i < 9223372036854775807 := by omega
    have f40 : decide ((i : Int) < 30) = true := by simp; omega
    have hfx := c_Few7 x.R hxR
    cases hfb : (fewF x.R.P && fewF x.R.T) with
    | false =>
      rw [hfb] at hfx
      repeat' (first
    | simp (implicitDefEqProofs := false) only [push_cast, reduceIte, reduceCtorEq, Nat.reduceAdd, Nat.reduceSub, Nat.reduceEqDiff, Nat.reduceLT, Nat.reduceLeDiff, Nat.reduceBEq, Nat.reduceMul, Int.reduceLT, Int.reduceLE, Int.reduceEq, Int.reduceToNat, Int.reduceMul, Int.reduceNeg, Go.Proofs.Try.f14, eA, eQ_ty, eQ_pl, eQ_wk, f40, List.length_map, cast_lt hlt, in_row hlt, getD_map eA hx, Int.toNat_natCast, ap_lo, st_lo, st_ne, st_eq, len_st, st_st, sst, at_set, at_set0, at_set2, at_set20, sst2, List.replicate_succ, List.drop_zero]
    | refine Sp2.f ?_ ?_
    | refine Spl.f ?_ ?_ <;> intro hb
    | refine rq_mk rfl (fun b hb => ?_)
    | refine r_draw (U := [[], [], [], [], [], [], [], [], []]) (H := []) hmix (by kernel_rfl) (by decide +kernel) (by kernel_rfl) ?_
    | refine r_draw (U := [[], [], [], [], [], [], [], [], [], []]) (H := []) hmix (by kernel_rfl) (by decide +kernel) (by kernel_rfl) ?_
    | refine k_fn hfx ?_
    | refine k_fn c_told ?_)
    | true =>
      rw [hfb] at hfx
      repeat' (first
    | simp (implicitDefEqProofs := false) only [push_cast, reduceIte, reduceCtorEq, Nat.reduceAdd, Nat.reduceSub, Nat.reduceEqDiff, Nat.reduceLT, Nat.reduceLeDiff, Nat.reduceBEq, Nat.reduceMul, Int.reduceLT, Int.reduceLE, Int.reduceEq, Int.reduceToNat, Int.reduceMul, Int.reduceNeg, Go.Proofs.Try.f14, eA, eQ_ty, eQ_pl, eQ_wk, f40, List.length_map, cast_lt hlt, in_row hlt, getD_map eA hx, Int.toNat_natCast, wrap_succ hi9, ap_lo, st_lo, st_ne, st_eq, len_st, st_st, sst, at_set, at_set0, at_set2, at_set20, sst2, List.replicate_succ, List.drop_zero]
    | refine Sp2.f ?_ ?_
    | refine Spl.f ?_ ?_ <;> intro hb
    | refine rq_mk rfl (fun b hb => ?_)
    | refine r_draw (U := [[], [], [], [], [], [], [], [], []]) (H := []) hmix (by kernel_rfl) (by decide +kernel) (by kernel_rfl) ?_
    | refine r_draw (U := [[], [], [], [], [], [], [], [], [], []]) (H := []) hmix (by kernel_rfl) (by decide +kernel) (by kernel_rfl) ?_
    | refine k_fn hfx ?_
    | refine li_mk ?_ ⟨_, rfl⟩ ?_)
      exact hlt
  · have hpl := c_play l 30 hl (by omega) hR
    obtain ⟨hms, _⟩ := play_ok (l.take 30) (newS 15 15, 0) 0 MS.new (Int.le_refl _) (Int.le_refl _) (Int.le_refl _) (by simp; omega)
    change MS (playS (l.take 30)).1 at hms
    generalize playS (l.take 30) = p at hpl hms
    obtain ⟨s, n⟩ := p
    simp only at hpl hms
    have hqq := may_mq hq
    have hkk := hqq.kd
    obtain ⟨c, hc, hc4⟩ := nat_client hqq.cl
    have hct : r.Client.toNat = c := by rw [hc]; rfl
    have hr5 : (0 ≤ r.Client ∧ r.Client < 4) = True := by rw [hc]; simp; omega
    have hr4 : (0 ≤ r.Client ∧ r.Client < ((4 : Nat) : Int)) = True := by rw [hc]; simp; omega
    have hL0 : s.Last[r.Client.toNat]? = some (lastOf s r.Client.toNat) := by
      have h4 := hms.len4
      have : r.Client.toNat < s.Last.length := by omega
      simp [lastOf, List.getD_eq_getElem?_getD, List.getElem?_eq_getElem this]
    have gLs : getP (eS s) [5, r.Client.toNat, 1] = some (.int .i64 (lastOf s r.Client.toNat).Seq) := by
      simp only [eS, getP, List.getElem?_cons_succ, List.getElem?_cons_zero, eL, List.getElem?_map, hL0, Option.map_some, eR]
    have gQ0 : getP (eQ r) [0] = some (.int .i64 r.Client) := rfl
    have gQ1 : getP (eQ r) [1] = some (.int .i64 r.Seq) := rfl
    have gQ2 : getP (eQ r) [2] = some (.int .i64 r.Kind) := rfl
    have hends : decide ((i : Int) < (l.length : Int)) = false ∨ (decide ((i : Int) < (l.length : Int)) = true ∧ decide ((i : Int) < 30) = false) := by
      by_cases h : i < l.length
      · exact .inr ⟨cast_lt h, by simp; omega⟩
      · exact .inl (cast_ge h)
    by_cases hle : r.Seq ≤ (lastOf s r.Client.toNat).Seq
    · have f1 : decide (r.Seq ≤ (lastOf s r.Client.toNat).Seq) = true := by simpa using hle
      rcases hends with c1 | ⟨c1, c2⟩
      · repeat' (first
    | simp (implicitDefEqProofs := false) only [push_cast, reduceIte, reduceCtorEq, Nat.reduceAdd, Nat.reduceSub, Nat.reduceEqDiff, Nat.reduceLT, Nat.reduceLeDiff, Nat.reduceBEq, Nat.reduceMul, Int.reduceLT, Int.reduceLE, Int.reduceEq, Int.reduceToNat, Int.reduceMul, Int.reduceNeg, Go.Proofs.Try.f14, c1, eS_ty, eS_pl, eS_wk, eQ_ty, eQ_pl, eQ_wk, gQ0, gQ1, hr4, hr5, cast4, gLs, f1, List.length_map, Int.toNat_natCast, ap_lo, st_lo, st_ne, st_eq, len_st, st_st, sst, at_set, at_set0, at_set2, at_set20, sst2, List.replicate_succ, List.drop_zero]
    | refine Sp2.f ?_ ?_
    | refine Spl.f ?_ ?_ <;> intro hb
    | refine rq_mk rfl (fun b hb => ?_)
    | refine r_draw (U := [[], [], [], [], [], [], [], [], []]) (H := []) hmix (by kernel_rfl) (by decide +kernel) (by kernel_rfl) ?_
    | refine r_draw (U := [[], [], [], [], [], [], [], [], [], []]) (H := []) hmix (by kernel_rfl) (by decide +kernel) (by kernel_rfl) ?_
    | refine k_fn hpl ?_
    | refine k_fn c_told ?_)
      · repeat' (first
    | simp (implicitDefEqProofs := false) only [push_cast, reduceIte, reduceCtorEq, Nat.reduceAdd, Nat.reduceSub, Nat.reduceEqDiff, Nat.reduceLT, Nat.reduceLeDiff, Nat.reduceBEq, Nat.reduceMul, Int.reduceLT, Int.reduceLE, Int.reduceEq, Int.reduceToNat, Int.reduceMul, Int.reduceNeg, Go.Proofs.Try.f14, c1, c2, eS_ty, eS_pl, eS_wk, eQ_ty, eQ_pl, eQ_wk, gQ0, gQ1, hr4, hr5, cast4, gLs, f1, List.length_map, Int.toNat_natCast, ap_lo, st_lo, st_ne, st_eq, len_st, st_st, sst, at_set, at_set0, at_set2, at_set20, sst2, List.replicate_succ, List.drop_zero]
    | refine Sp2.f ?_ ?_
    | refine Spl.f ?_ ?_ <;> intro hb
    | refine rq_mk rfl (fun b hb => ?_)
    | refine r_draw (U := [[], [], [], [], [], [], [], [], []]) (H := []) hmix (by kernel_rfl) (by decide +kernel) (by kernel_rfl) ?_
    | refine r_draw (U := [[], [], [], [], [], [], [], [], [], []]) (H := []) hmix (by kernel_rfl) (by decide +kernel) (by kernel_rfl) ?_
    | refine k_fn hpl ?_
    | refine k_fn c_told ?_)
    · have f1 : decide (r.Seq ≤ (lastOf s r.Client.toNat).Seq) = false := by simpa using hle
      have sP3 : setP (eS s) [3] (.int .i64 (bits .and .i64 rd 15)) = some (eS { s with Read := bits .and .i64 rd 15 }) := rfl
      have sP4 : setP (eS { s with Read := bits .and .i64 rd 15 }) [4] (.int .i64 (bits .and .i64 wr 15)) = some (eS { s with Read := bits .and .i64 rd 15, Write := bits .and .i64 wr 15 }) := rfl
      have hm := hms.access rd wr
      have gL' : (lastOf s r.Client.toNat) = lastOf { s with Read := bits .and .i64 rd 15, Write := bits .and .i64 wr 15 } r.Client.toNat := rfl
      have hL1 : ({ s with Read := bits .and .i64 rd 15, Write := bits .and .i64 wr 15 } : Spc).Last[r.Client.toNat]? = some (lastOf { s with Read := bits .and .i64 rd 15, Write := bits .and .i64 wr 15 } r.Client.toNat) := hL0
      have hR1 : ({ s with Read := bits .and .i64 rd 15, Write := bits .and .i64 wr 15 } : Spc).Read = bits .and .i64 rd 15 := rfl
      have hW1 : ({ s with Read := bits .and .i64 rd 15, Write := bits .and .i64 wr 15 } : Spc).Write = bits .and .i64 wr 15 := rfl
      rw [gL'] at hle
      generalize ({ s with Read := bits .and .i64 rd 15, Write := bits .and .i64 wr 15 } : Spc) = s' at sP4 hm hL1 hR1 hW1 hle
      have gN : getP (eS s') [0] = some (.int .i64 s'.Now) := rfl
      have gL1 : getP (eS s') [5, r.Client.toNat] = some (eR (lastOf s' r.Client.toNat)) := by
        simp only [eS, getP, List.getElem?_cons_succ, List.getElem?_cons_zero, eL, List.getElem?_map, hL1, Option.map_some]
      have sL1 : setP (eS (tellS s' r 6 [])) [5, r.Client.toNat] (eR (lastOf s' r.Client.toNat)) = some (eS s') := by
        have hlt : r.Client.toNat < (s'.Last.map eR).length := by
          have := hm.len4
          rw [List.length_map]; omega
        have e1 : eS (tellS s' r 6 []) = .agg 33 [.int .i64 s'.Now, eIs s'.Items, eWs s'.Waiters, .int .i64 s'.Read, .int .i64 s'.Write, eL (s'.Last.set r.Client.toNat (rep r 6 []))] := rfl
        have e2 : (s'.Last.map eR).set r.Client.toNat (eR (lastOf s' r.Client.toNat)) = s'.Last.map eR := by
          refine List.ext_getElem? fun j => ?_
          rw [List.getElem?_set]
          split
          · rename_i hj
            subst hj
            rw [List.getElem?_map, hL1]; rfl
          · rfl
        simp only [e1, setP, List.getElem?_cons_succ, List.getElem?_cons_zero, eL, List.map_set, List.getElem?_set_self hlt, Option.map_some, List.set_cons_succ, List.set_cons_zero, List.set_set, e2]
        rfl
      have d1 := c_Do s' s'.Now r hm.small hr
      have b1 := bit_of rd c hc4
      have b2 := bit_of wr c hc4
      rw [← hR1, ← hc] at b1
      rw [← hW1, ← hc] at b2
      change bitOf s'.Read r.Client = _ at b1
      change bitOf s'.Write r.Client = _ at b2
      have hrd := c_Reads6 r.Kind
      have hwr := c_Writes6 r.Kind
      rw [(kinds _ hkk).2] at hrd
      rw [kindsW _ hkk] at hwr
      have hsm := c_sSame s' s' hm.small hm.small
      rw [sameS_self] at hsm
      have hu : ¬ IntKind.wrap .u64 r.Client < 0 := by
        rw [hc, IntWalk.u64_in _ (by omega)]; omega
      have f2 : decide (([eR (rep r 6 [])].length : Int) < 1) = false := by simp
      have hrep : eR (rep r 6 []) = .agg 30 [.int .i64 r.Client, .int .i64 r.Seq, .int .i64 6, eFs [], .bool false] := rfl
      unfold bitOf at b1 b2
      cases hd : denyS s' r with
      | true =>
        rw [do_denied hm hq (by omega) hd] at d1
        have hd2 := hd
        unfold denyS bitOf at hd2
        rw [b1, b2] at hd2
        rcases hends with c1 | ⟨c1, c2⟩
        · repeat' (first
    | simp (implicitDefEqProofs := false) only [push_cast, reduceIte, reduceCtorEq, Nat.reduceAdd, Nat.reduceSub, Nat.reduceEqDiff, Nat.reduceLT, Nat.reduceLeDiff, Nat.reduceBEq, Nat.reduceMul, Int.reduceLT, Int.reduceLE, Int.reduceEq, Int.reduceToNat, Int.reduceMul, Int.reduceNeg, Go.Proofs.Try.f14, c1, eS_ty, eS_pl, eS_wk, eQ_ty, eQ_pl, eQ_wk, sP3, sP4, gQ0, gQ1, gQ2, hr4, hr5, cast4, gLs, gN, gL1, sL1, eR_ty', f1, f2, eRs, hrep, cast0, cast1, cast2, Int.reduceBEq, Int.reduceBNe, bn1, bn2, bn3, bn4, bt1, bt2, bt3, bt4, bne_self_eq_false, List.append_eq, List.map_cons, List.map_nil, List.getD_cons_zero, List.getD_cons_succ, eFs, List.length_map, Int.toNat_natCast, ap_lo, st_lo, st_ne, st_eq, len_st, st_st, sst, at_set, at_set0, at_set2, at_set20, sst2, List.replicate_succ, List.drop_zero]
    | refine Sp2.f ?_ ?_
    | refine Spl.f ?_ ?_ <;> intro hb
    | refine rq_mk rfl (fun b hb => ?_)
    | refine r_draw (U := [[], [], [], [], [], [], [], [], []]) (H := []) hmix (by kernel_rfl) (by decide +kernel) (by kernel_rfl) ?_
    | refine r_draw (U := [[], [], [], [], [], [], [], [], [], []]) (H := []) hmix (by kernel_rfl) (by decide +kernel) (by kernel_rfl) ?_
    | refine k_fn hpl ?_
    | refine k_fn d1 ?_
    | refine k_fn hrd ?_
    | refine k_fn hwr ?_
    | refine dk_pure hrd ?_
    | refine dk_pure hwr ?_
    | refine k_fn hsm ?_
    | refine k_fn c_told ?_
    | refine rs_no hu ?_)
          all_goals first
            | exact hu
            | omega
            | (exfalso; simp only [*, Bool.true_and, Bool.false_and, Bool.true_or, Bool.false_or, Bool.or_false, Bool.or_true] at hd2; done)
            | (exfalso; simp_all; done)
        · repeat' (first
    | simp (implicitDefEqProofs := false) only [push_cast, reduceIte, reduceCtorEq, Nat.reduceAdd, Nat.reduceSub, Nat.reduceEqDiff, Nat.reduceLT, Nat.reduceLeDiff, Nat.reduceBEq, Nat.reduceMul, Int.reduceLT, Int.reduceLE, Int.reduceEq, Int.reduceToNat, Int.reduceMul, Int.reduceNeg, Go.Proofs.Try.f14, c1, c2, eS_ty, eS_pl, eS_wk, eQ_ty, eQ_pl, eQ_wk, sP3, sP4, gQ0, gQ1, gQ2, hr4, hr5, cast4, gLs, gN, gL1, sL1, eR_ty', f1, f2, eRs, hrep, cast0, cast1, cast2, Int.reduceBEq, Int.reduceBNe, bn1, bn2, bn3, bn4, bt1, bt2, bt3, bt4, bne_self_eq_false, List.append_eq, List.map_cons, List.map_nil, List.getD_cons_zero, List.getD_cons_succ, eFs, List.length_map, Int.toNat_natCast, ap_lo, st_lo, st_ne, st_eq, len_st, st_st, sst, at_set, at_set0, at_set2, at_set20, sst2, List.replicate_succ, List.drop_zero]
    | refine Sp2.f ?_ ?_
    | refine Spl.f ?_ ?_ <;> intro hb
    | refine rq_mk rfl (fun b hb => ?_)
    | refine r_draw (U := [[], [], [], [], [], [], [], [], []]) (H := []) hmix (by kernel_rfl) (by decide +kernel) (by kernel_rfl) ?_
    | refine r_draw (U := [[], [], [], [], [], [], [], [], [], []]) (H := []) hmix (by kernel_rfl) (by decide +kernel) (by kernel_rfl) ?_
    | refine k_fn hpl ?_
    | refine k_fn d1 ?_
    | refine k_fn hrd ?_
    | refine k_fn hwr ?_
    | refine dk_pure hrd ?_
    | refine dk_pure hwr ?_
    | refine k_fn hsm ?_
    | refine k_fn c_told ?_
    | refine rs_no hu ?_)
          all_goals first
            | exact hu
            | omega
            | (exfalso; simp_all; done)
      | false =>
        obtain ⟨x, t, he, hk6⟩ := do_allowed hm hq (by omega) hd
        generalize doS s' s'.Now r = o1 at d1 he
        obtain ⟨a', m⟩ := o1
        simp only at d1 he
        subst he
        have f3 : decide ((t.length : Int) + 1 < 1) = false := by simp; omega
        have f6 : (x.Kind == 6) = false := by simpa using hk6
        have hd2 := hd
        unfold denyS bitOf at hd2
        rw [b1, b2] at hd2
        rcases hends with c1 | ⟨c1, c2⟩
        · repeat' (first
    | simp (implicitDefEqProofs := false) only [push_cast, reduceIte, reduceCtorEq, Nat.reduceAdd, Nat.reduceSub, Nat.reduceEqDiff, Nat.reduceLT, Nat.reduceLeDiff, Nat.reduceBEq, Nat.reduceMul, Int.reduceLT, Int.reduceLE, Int.reduceEq, Int.reduceToNat, Int.reduceMul, Int.reduceNeg, Go.Proofs.Try.f14, c1, eS_ty, eS_pl, eS_wk, eQ_ty, eQ_pl, eQ_wk, sP3, sP4, gQ0, gQ1, gQ2, hr4, hr5, cast4, gLs, gN, f1, f3, f6, eRs, eR, cast0, cast1, cast2, Int.reduceBEq, Int.reduceBNe, bn1, bn2, bn3, bn4, bt1, bt2, bt3, bt4, bne_self_eq_false, List.append_eq, List.map_cons, List.map_nil, List.getD_cons_zero, List.getD_cons_succ, eFs, List.length_map, Int.toNat_natCast, ap_lo, st_lo, st_ne, st_eq, len_st, st_st, sst, at_set, at_set0, at_set2, at_set20, sst2, List.replicate_succ, List.drop_zero]
    | refine Sp2.f ?_ ?_
    | refine Spl.f ?_ ?_ <;> intro hb
    | refine rq_mk rfl (fun b hb => ?_)
    | refine r_draw (U := [[], [], [], [], [], [], [], [], []]) (H := []) hmix (by kernel_rfl) (by decide +kernel) (by kernel_rfl) ?_
    | refine r_draw (U := [[], [], [], [], [], [], [], [], [], []]) (H := []) hmix (by kernel_rfl) (by decide +kernel) (by kernel_rfl) ?_
    | refine k_fn hpl ?_
    | refine k_fn d1 ?_
    | refine k_fn hrd ?_
    | refine k_fn hwr ?_
    | refine dk_pure hrd ?_
    | refine dk_pure hwr ?_
    | refine k_fn c_told ?_
    | refine rs_no hu ?_)
          all_goals first
            | exact hu
            | omega
            | (exfalso; simp_all; done)
        · repeat' (first
    | simp (implicitDefEqProofs := false) only [push_cast, reduceIte, reduceCtorEq, Nat.reduceAdd, Nat.reduceSub, Nat.reduceEqDiff, Nat.reduceLT, Nat.reduceLeDiff, Nat.reduceBEq, Nat.reduceMul, Int.reduceLT, Int.reduceLE, Int.reduceEq, Int.reduceToNat, Int.reduceMul, Int.reduceNeg, Go.Proofs.Try.f14, c1, c2, eS_ty, eS_pl, eS_wk, eQ_ty, eQ_pl, eQ_wk, sP3, sP4, gQ0, gQ1, gQ2, hr4, hr5, cast4, gLs, gN, f1, f3, f6, eRs, eR, cast0, cast1, cast2, Int.reduceBEq, Int.reduceBNe, bn1, bn2, bn3, bn4, bt1, bt2, bt3, bt4, bne_self_eq_false, List.append_eq, List.map_cons, List.map_nil, List.getD_cons_zero, List.getD_cons_succ, eFs, List.length_map, Int.toNat_natCast, ap_lo, st_lo, st_ne, st_eq, len_st, st_st, sst, at_set, at_set0, at_set2, at_set20, sst2, List.replicate_succ, List.drop_zero]
    | refine Sp2.f ?_ ?_
    | refine Spl.f ?_ ?_ <;> intro hb
    | refine rq_mk rfl (fun b hb => ?_)
    | refine r_draw (U := [[], [], [], [], [], [], [], [], []]) (H := []) hmix (by kernel_rfl) (by decide +kernel) (by kernel_rfl) ?_
    | refine r_draw (U := [[], [], [], [], [], [], [], [], [], []]) (H := []) hmix (by kernel_rfl) (by decide +kernel) (by kernel_rfl) ?_
    | refine k_fn hpl ?_
    | refine k_fn d1 ?_
    | refine k_fn hrd ?_
    | refine k_fn hwr ?_
    | refine dk_pure hrd ?_
    | refine dk_pure hwr ?_
    | refine k_fn c_told ?_
    | refine rs_no hu ?_)
          all_goals first
            | exact hu
            | omega
            | (exfalso; simp_all; done)

end Go.Abs
