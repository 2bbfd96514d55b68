/- Rb: a part of the proofs about the tuple space (layer 8). -/
import Derived.Test.YtelohjfiojpeeaaRa
set_option linter.all false
set_option maxRecDepth 100000
set_option maxHeartbeats 0
namespace Go.Abs
open Go
open Go.Proofs.Try (prog)
/-! ### the document's Do: the walk -/
def writes6a (k : Int) : Bool := k == 1 || (k == 3 || (k == 5 || (k == 6 || k == 7)))
theorem c_Writes6a (k : Int) : Fn prog 35 [.int .i64 k] (.bool (writes6a k)) := by
  refine run_35 rfl fun h => ?_
  repeat' (first
    | simp (implicitDefEqProofs := false) only [push_cast, reduceIte, reduceCtorEq, Nat.reduceAdd, Nat.reduceSub, Nat.reduceEqDiff, Nat.reduceLT, Nat.reduceLeDiff, Nat.reduceBEq, Nat.reduceMul, Int.reduceLT, Int.reduceLE, Int.reduceEq, Int.reduceToNat, Int.reduceMul, Int.reduceNeg, Go.Proofs.Try.f35]
    | refine Sp2.f ?_ ?_
    | refine Spl.f ?_ ?_ <;> intro hb
    | refine rq_mk rfl (fun b hb => ?_))
  all_goals (apply congrArg AV.bool; simp only [writes6a]; grind)
theorem kindsWa (k : Int) (h : 1 ≤ k ∧ k ≤ 8) : writes6a k = writesK k := by
  rcases (by omega : k = 1 ∨ k = 2 ∨ k = 3 ∨ k = 4 ∨ k = 5 ∨ k = 6 ∨ k = 7 ∨ k = 8) with rfl | rfl | rfl | rfl | rfl | rfl | rfl | rfl <;> kernel_rfl
theorem gv_ty {X : Nat → Prop} {h : List Entry} {T U : TypeId} {v : AV} {l : List AV} (hv : GV X h T v l) (hU : shapeT prog U = .slice T) : tyB prog v U = true := by
  cases hv with
  | flat => rw [ty_list, hU]; simp
  | view hv => exact hv.ty hU
theorem gv_pl {X : Nat → Prop} {h : List Entry} {T : TypeId} {v : AV} {l : List AV} (hv : GV X h T v l) : plainAV v = true := by
  cases hv with
  | flat => rfl
  | view hv => exact hv.pl
theorem eS_wkr (s : Spc) : wkr prog 33 (eS s) = eS s := eS_wk s
theorem take_keep {hh h' h : List Entry} (hT : hh.take h.length = h) (hk : ∀ j e, j < h.length → hh[j]? = some e → h'[j]? = some e) : h'.take h.length = h := by
  refine List.ext_getElem? fun j => ?_
  rw [List.getElem?_take]
  split
  · rename_i hj
    have e1 : h[j]? = some h[j] := List.getElem?_eq_getElem hj
    have e2 : hh[j]? = some h[j] := by
      have := congrArg (fun l : List Entry => l[j]?) hT
      simp only [List.getElem?_take, if_pos hj, e1] at this
      exact this
    rw [e1]; exact hk j _ hj e2
  · rename_i hj
    rw [List.getElem?_eq_none (by omega)]
theorem c_Do6 (s : Spc) (now : Int) (r : Req) (hs : s.Small) (hr : r.Small) : Fn prog 26 [eS s, .int .i64 now, eQ r] (.tup [eS (doS s now r).1, eRs (doS s now r).2]) := by
  refine pure_wkr_tup (R := ResDo6 (doS s now r).1 (doS s now r).2) [33, 34] (fn_tup wfp fun h => ?_) fun r' hr' => hr'
  have hms := c_MaySpace6 s hs
  have hmq := c_MayRequest6 r hr
  rw [mayM6_eq] at hms
  rw [mayQ6_eq] at hmq
  have gS0 : getP (eS s) [0] = some (.int .i64 s.Now) := rfl
  refine frun_26 rfl ?_
  by_cases hok : doOK s now r = true
  · have hrdy := mayS_rdy hs hr hok
    have hparts := hok
    simp only [doOK, Bool.and_eq_true, decide_eq_true_eq] at hparts
    obtain ⟨⟨⟨m1, m2⟩, m3⟩, m4⟩ := hparts
    rw [m1] at hms
    rw [m2] at hmq
    have m3 : decide (now < s.Now) = false := by simpa using m3
    have m4 : decide (1099511627776 < now) = false := by simpa using m4
    repeat' (first
    | simp (implicitDefEqProofs := false) only [push_cast, reduceIte, reduceCtorEq, Nat.reduceAdd, Nat.reduceSub, Nat.reduceEqDiff, Nat.reduceLT, Nat.reduceLeDiff, Nat.reduceBEq, Nat.reduceMul, Int.reduceLT, Int.reduceLE, Int.reduceEq, Int.reduceToNat, Int.reduceMul, Int.reduceNeg, Go.Proofs.Try.f26, m3, m4, gS0, eS_ty, eS_pl, eS_wk, eQ_ty, eQ_pl, eQ_wk, ap_lo, st_lo, st_ne, st_eq, len_st, st_st, sst, at_set, at_set0, at_set2, at_set20, sst2, List.replicate_succ, List.drop_zero]
    | refine Sp2.f ?_ ?_
    | refine Spl.f ?_ ?_ <;> intro hb
    | refine rq_mk rfl (fun b hb => ?_)
    | refine r_draw (U := [[], [], [], [], [], [], [0], [2, 4, 6], []]) (H := [⟨0, [], .hole⟩]) hmix (by kernel_rfl) (by decide +kernel) (by kernel_rfl) ?_
    | refine r_draw (U := [[], [], [0], [1, 2], []]) (H := [⟨0, [], .hole⟩]) hmix (by kernel_rfl) (by decide +kernel) (by kernel_rfl) ?_
    | refine r_draw (U := [[], [], [], [], [], [], [], [], [7], []]) (H := []) hmix (by kernel_rfl) (by decide +kernel) (by kernel_rfl) ?_
    | refine k_fn hms ?_
    | refine k_fn hmq ?_)
    refine rl_gen (DG s now r h (fun v i a => [(0, eS s), (1, .int .i64 now), (2, eQ r), (3, .ref h.length [0] 33), (5, .ref (h.length + 1) [0] 39), (6, .ref (h.length + 2) [0] 33), (7, .nils), (8, v), (9, .int .i64 i), (10, a 10), (11, a 11), (12, a 12), (30, a 30), (36, a 36), (55, a 55), (83, a 83), (96, a 96), (105, a 105), (131, a 131), (138, a 138), (145, a 145), (152, a 152), (160, a 160)])) s.Items.length ?_ ?_
    · refine ⟨Nat.zero_le _, .nils, by simp, get_at0 h _, get_at h _ 1, ?_, .nil, rfl⟩
      rw [get_at, za_33]; rfl
    rintro i env hh ⟨hi, v, hT, a0, a1, a2, hv, henv⟩
    refine ⟨hi, ?_⟩
    rw [henv]
    generalize lk env = a
    clear henv env
    have hk0 := lt_some a0
    have hk1 := lt_some a1
    have hk2 := lt_some a2
    have gS1 : getP (eS s) [1] = some (.list 74 (s.Items.map eI)) := rfl
    by_cases hlt : i < s.Items.length
    · obtain ⟨x, hx⟩ : ∃ x, s.Items[i]? = some x := ⟨_, List.getElem?_eq_getElem hlt⟩
      have hi9 : i < 9223372036854775807 := by have := hs.items.1; omega
      have gx1 : getP (eI x) [1] = some (.int .i64 x.Until) := rfl
      have hll : lenAV v = (live now (s.Items.take i)).length := by have := lenAV_view hv; simpa using this
      have hlive : (live now (s.Items.take i)).length ≤ 1000 := by
        have h1 : (live now (s.Items.take i)).length ≤ (s.Items.take i).length := List.length_filter_le ..
        have h2 : (s.Items.take i).length ≤ s.Items.length := by rw [List.length_take]; exact Nat.min_le_right ..
        have h3 := mayS_parts m1
        simp only [mayH, Bool.and_eq_true, decide_eq_true_eq] at h3
        omega
      obtain ⟨v', h', q1, q2, q3, happ0⟩ := rh_app (P := prog) (eI x) (hv.app [⟨74, [eI x], .own⟩])
      have e2 : (hh ++ [(⟨74, [eI x], .own⟩ : Entry)]).length = hh.length + 1 := by simp
      have happ : ∀ (d : Option Tmp) (st : List Ctl) (en : Env) (Q : APost), Rn prog st .normal (putD en d v') h' Q → Rh prog (stAppendTo 74 [eI x] (hh.length + 1) v) d st en (hh ++ [(⟨74, [eI x], .own⟩ : Entry)]) Q := fun d st en Q hq => by
        have := happ0 d st en Q hq
        rwa [e2] at this
      clear happ0
      by_cases hu0 : x.Until = 0
      · have f1 : (x.Until == 0) = true := by simpa using hu0
        have hex : expd now x = false := by simp [expd, hu0]
        repeat' (first
    | simp (implicitDefEqProofs := false) only [push_cast, reduceIte, reduceCtorEq, Nat.reduceAdd, Nat.reduceSub, Nat.reduceEqDiff, Nat.reduceLT, Nat.reduceLeDiff, Nat.reduceBEq, Nat.reduceMul, Int.reduceLT, Int.reduceLE, Int.reduceEq, Int.reduceToNat, Int.reduceMul, Int.reduceNeg, Go.Proofs.Try.f26, f1, a0, a1, a2, hk0, hk1, hk2, gS1, eI, hll, eI_ty, eI_pl, eI_wk, cast_lt hlt, in_row hlt, getD_map eI hx, Int.toNat_natCast, List.length_map, wrap_succ hi9, ap_lo, st_lo, st_ne, st_eq, len_st, st_st, sst, at_set, at_set0, at_set2, at_set20, sst2, List.replicate_succ, List.drop_zero, ne_hi hk0, ne_hi' hk0, ne_h hk0, ne_h' hk0, ne_hi hk1, ne_hi' hk1, ne_h hk1, ne_h' hk1, ne_hi hk2, ne_hi' hk2, ne_h hk2, ne_h' hk2]
    | refine Sp2.f ?_ ?_
    | refine Spl.f ?_ ?_ <;> intro hb
    | refine rq_mk rfl (fun b hb => ?_)
    | refine r_draw (U := [[], [], [], [], [], [], [0], [2, 4, 6], []]) (H := [⟨0, [], .hole⟩]) hmix (by kernel_rfl) (by decide +kernel) (by kernel_rfl) ?_
    | refine r_draw (U := [[], [], [0], [1, 2], []]) (H := [⟨0, [], .hole⟩]) hmix (by kernel_rfl) (by decide +kernel) (by kernel_rfl) ?_
    | refine r_draw (U := [[], [], [], [], [], [], [], [], [7], []]) (H := []) hmix (by kernel_rfl) (by decide +kernel) (by kernel_rfl) ?_
    | refine happ _ _ _ _ ?_)
        all_goals first
          | omega
          | skip
        exact ⟨hlt, v', take_keep hT (fun j e hj he => q3 j e (by rw [ap_lo (lt_some he)]; exact he) (.inl fun hc => by omega)), q3 _ _ (by rw [ap_lo hk0]; exact a0) (.inl fun hc => by omega), q3 _ _ (by rw [ap_lo hk1]; exact a1) (.inl fun hc => by omega), q3 _ _ (by rw [ap_lo hk2]; exact a2) (.inl fun hc => by omega),
          by rw [live_step hx, hex, if_neg (by decide), List.map_append]; exact q1.up fun j hj => hj.elim (fun a => ⟨a.1, by simp at q2; omega⟩) fun a => ⟨by have := a.1; simp at this; omega, a.2⟩, rfl⟩
      · have f1 : (x.Until == 0) = false := by simpa using hu0
        by_cases hu1 : now < x.Until
        · have f2 : decide (now < x.Until) = true := by simpa using hu1
          have hex : expd now x = false := by simp [expd, hu0]; omega
          repeat' (first
    | simp (implicitDefEqProofs := false) only [push_cast, reduceIte, reduceCtorEq, Nat.reduceAdd, Nat.reduceSub, Nat.reduceEqDiff, Nat.reduceLT, Nat.reduceLeDiff, Nat.reduceBEq, Nat.reduceMul, Int.reduceLT, Int.reduceLE, Int.reduceEq, Int.reduceToNat, Int.reduceMul, Int.reduceNeg, Go.Proofs.Try.f26, f1, f2, a0, a1, a2, hk0, hk1, hk2, gS1, eI, hll, eI_ty, eI_pl, eI_wk, cast_lt hlt, in_row hlt, getD_map eI hx, Int.toNat_natCast, List.length_map, wrap_succ hi9, ap_lo, st_lo, st_ne, st_eq, len_st, st_st, sst, at_set, at_set0, at_set2, at_set20, sst2, List.replicate_succ, List.drop_zero, ne_hi hk0, ne_hi' hk0, ne_h hk0, ne_h' hk0, ne_hi hk1, ne_hi' hk1, ne_h hk1, ne_h' hk1, ne_hi hk2, ne_hi' hk2, ne_h hk2, ne_h' hk2]
    | refine Sp2.f ?_ ?_
    | refine Spl.f ?_ ?_ <;> intro hb
    | refine rq_mk rfl (fun b hb => ?_)
    | refine r_draw (U := [[], [], [], [], [], [], [0], [2, 4, 6], []]) (H := [⟨0, [], .hole⟩]) hmix (by kernel_rfl) (by decide +kernel) (by kernel_rfl) ?_
    | refine r_draw (U := [[], [], [0], [1, 2], []]) (H := [⟨0, [], .hole⟩]) hmix (by kernel_rfl) (by decide +kernel) (by kernel_rfl) ?_
    | refine r_draw (U := [[], [], [], [], [], [], [], [], [7], []]) (H := []) hmix (by kernel_rfl) (by decide +kernel) (by kernel_rfl) ?_
    | refine happ _ _ _ _ ?_)
          all_goals first
            | omega
            | skip
          exact ⟨hlt, v', take_keep hT (fun j e hj he => q3 j e (by rw [ap_lo (lt_some he)]; exact he) (.inl fun hc => by omega)), q3 _ _ (by rw [ap_lo hk0]; exact a0) (.inl fun hc => by omega), q3 _ _ (by rw [ap_lo hk1]; exact a1) (.inl fun hc => by omega), q3 _ _ (by rw [ap_lo hk2]; exact a2) (.inl fun hc => by omega),
            by rw [live_step hx, hex, if_neg (by decide), List.map_append]; exact q1.up fun j hj => hj.elim (fun a => ⟨a.1, by simp at q2; omega⟩) fun a => ⟨by have := a.1; simp at this; omega, a.2⟩, rfl⟩
        · have f2 : decide (now < x.Until) = false := by simpa using hu1
          have hex : expd now x = true := by simp [expd, hu0]; omega
          repeat' (first
    | simp (implicitDefEqProofs := false) only [push_cast, reduceIte, reduceCtorEq, Nat.reduceAdd, Nat.reduceSub, Nat.reduceEqDiff, Nat.reduceLT, Nat.reduceLeDiff, Nat.reduceBEq, Nat.reduceMul, Int.reduceLT, Int.reduceLE, Int.reduceEq, Int.reduceToNat, Int.reduceMul, Int.reduceNeg, Go.Proofs.Try.f26, f1, f2, a0, a1, a2, hk0, hk1, hk2, gS1, eI, hll, eI_ty, eI_pl, eI_wk, cast_lt hlt, in_row hlt, getD_map eI hx, Int.toNat_natCast, List.length_map, wrap_succ hi9, ap_lo, st_lo, st_ne, st_eq, len_st, st_st, sst, at_set, at_set0, at_set2, at_set20, sst2, List.replicate_succ, List.drop_zero, ne_hi hk0, ne_hi' hk0, ne_h hk0, ne_h' hk0, ne_hi hk1, ne_hi' hk1, ne_h hk1, ne_h' hk1, ne_hi hk2, ne_hi' hk2, ne_h hk2, ne_h' hk2]
    | refine Sp2.f ?_ ?_
    | refine Spl.f ?_ ?_ <;> intro hb
    | refine rq_mk rfl (fun b hb => ?_)
    | refine r_draw (U := [[], [], [], [], [], [], [0], [2, 4, 6], []]) (H := [⟨0, [], .hole⟩]) hmix (by kernel_rfl) (by decide +kernel) (by kernel_rfl) ?_
    | refine r_draw (U := [[], [], [0], [1, 2], []]) (H := [⟨0, [], .hole⟩]) hmix (by kernel_rfl) (by decide +kernel) (by kernel_rfl) ?_
    | refine r_draw (U := [[], [], [], [], [], [], [], [], [7], []]) (H := []) hmix (by kernel_rfl) (by decide +kernel) (by kernel_rfl) ?_)
          exact ⟨hlt, v, hT, a0, a1, a2, by rw [live_step hx, hex, if_pos rfl, List.append_nil]; exact hv, rfl⟩
    · have e0 : s.Items.take i = s.Items := List.take_of_length_le (by omega)
      rw [e0] at hv
      obtain ⟨c, hc, hc4⟩ := nat_client hrdy.rc
      have hct : r.Client.toNat = c := by rw [hc]; rfl
      have hy : s.Last[c]? = some (lastOf s c) := by
        have : c < s.Last.length := by rw [hs.four]; exact hc4
        simp [lastOf, List.getD_eq_getElem?_getD, List.getElem?_eq_getElem this]
      have hgL : getP (eL s.Last) [r.Client.toNat] = some (eR (lastOf s c)) := by rw [hct]; simp only [eL, getP, List.getElem?_map, hy, Option.map_some]
      have hr6 : (0 ≤ r.Client ∧ r.Client < ((4 : Nat) : Int)) = True := by rw [hc]; simp; omega
      have hr7 : (0 ≤ r.Client ∧ r.Client < 4) = True := by rw [hc]; simp; omega
      have hvt : tyB prog v 27 = true := hv.ty sh_27
      have hvp := hv.pl
      have gq0 : getP (eQ r) [0] = some (.int .i64 r.Client) := rfl
      have gq1 : getP (eQ r) [1] = some (.int .i64 r.Seq) := rfl
      have gq2 : getP (eQ r) [2] = some (.int .i64 r.Kind) := rfl
      have gq3 : getP (eQ r) [3] = some (eFs r.P) := rfl
      have gR1 : getP (eR (lastOf s c)) [1] = some (.int .i64 (lastOf s c).Seq) := rfl
      have sN : setP (eS s) [0] (.int .i64 now) = some (.agg 33 [.int .i64 now, eIs s.Items, eWs s.Waiters, .int .i64 s.Read, .int .i64 s.Write, eL s.Last]) := rfl
      have hu : ¬ IntKind.wrap .u64 r.Client < 0 := by rw [hc, IntWalk.u64_in _ (by omega)]; omega
      rcases Int.lt_trichotomy r.Seq (lastOf s c).Seq with hA | hA | hA
      · have f1 : decide (r.Seq < (lastOf s c).Seq) = true := by simpa using hA
        have e : doS s now r = (aged s now, [⟨r.Client, r.Seq, 7, [], false⟩]) := by rw [doS, if_pos hok, hct, if_pos hA]
        rw [e]
        repeat' (first
    | simp (implicitDefEqProofs := false) only [push_cast, reduceIte, reduceCtorEq, Nat.reduceAdd, Nat.reduceSub, Nat.reduceEqDiff, Nat.reduceLT, Nat.reduceLeDiff, Nat.reduceBEq, Nat.reduceMul, Int.reduceLT, Int.reduceLE, Int.reduceEq, Int.reduceToNat, Int.reduceMul, Int.reduceNeg, Go.Proofs.Try.f26, sst0, a0, a1, a2, hk0, hk1, hk2, gS1, gq0, gq1, gq2, gq3, gR1, sN, hgL, hr6, hr7, cast4, hvt, hvp, cast_ge hlt, eFs_ty, eFs_pl, eFs_wk, eR_ty, eR_pl, eR_wk, eL_wk, eQ_ty, eQ_pl, eQ_wk, Int.toNat_natCast, List.length_map, ap_lo, st_lo, st_ne, st_eq, len_st, st_st, sst, at_set, at_set0, at_set2, at_set20, sst2, List.replicate_succ, List.drop_zero, ne_hi hk0, ne_hi' hk0, ne_h hk0, ne_h' hk0, ne_hi hk1, ne_hi' hk1, ne_h hk1, ne_h' hk1, ne_hi hk2, ne_hi' hk2, ne_h hk2, ne_h' hk2, f1]
    | refine Sp2.f ?_ ?_
    | refine Spl.f ?_ ?_ <;> intro hb
    | refine rq_mk rfl (fun b hb => ?_)
    | refine r_draw (U := [[], [], [], [], [], [], [0], [2, 4, 6], []]) (H := [⟨0, [], .hole⟩]) hmix (by kernel_rfl) (by decide +kernel) (by kernel_rfl) ?_
    | refine r_draw (U := [[], [], [0], [1, 2], []]) (H := [⟨0, [], .hole⟩]) hmix (by kernel_rfl) (by decide +kernel) (by kernel_rfl) ?_
    | refine r_draw (U := [[], [], [], [], [], [], [], [], [7], []]) (H := []) hmix (by kernel_rfl) (by decide +kernel) (by kernel_rfl) ?_
    | refine rs_no hu ?_)
        all_goals first
          | exact hu
          | skip
        have hfin := do_finG (h := h) (h5 := hh.set h.length ⟨33, [.agg 33 [.int .i64 now, v, eWs s.Waiters, .int .i64 s.Read, .int .i64 s.Write, eL s.Last]], .own⟩ ++ [⟨92, [.agg 92 [.agg 33 [.int .i64 now, v, eWs s.Waiters, .int .i64 s.Read, .int .i64 s.Write, eL s.Last], .nils]], .own⟩, ⟨30, [eR (lastOf s c)], .own⟩, ⟨30, [.agg 30 [.int .i64 r.Client, .int .i64 r.Seq, .int .i64 7, .nils, .bool false]], .own⟩]) (s' := aged s now) (out' := [⟨r.Client, r.Seq, 7, [], false⟩]) (lo := [.agg 30 [.int .i64 r.Client, .int .i64 r.Seq, .int .i64 7, .nils, .bool false]]) (X := fun j => h.length + 2 < j) (((hv.set a0 (by show 33 ≠ 74; decide) ⟨33, [.agg 33 [.int .i64 now, v, eWs s.Waiters, .int .i64 s.Read, .int .i64 s.Write, eL s.Last]], .own⟩).app _).up fun j hj => hj.1) (GV.flat) (View.mk' (k := hh.length + 2) (n := 1) (lo := 1) [] (by show h.length + 2 < hh.length + 2; omega) at_set rfl rfl) (by simp only [List.map_cons, List.map_nil, wk_aggE, wkAgg_struct, wk_int, wk_bool, wk_nils, wkNil_slice, sh_30, fl_30, sh_23, List.zipWith_cons_cons, List.zipWith_nil_left, if_true]; rfl) (by simp [datL, dat]; try rfl) (fun j hj => by omega) (h.length + 2) (by omega) (e := ⟨33, [zeroAV prog 33], .own⟩) (by rw [ap_lo (by rw [len_st]; omega), st_ne (by omega)]; exact a2) rfl (by rw [List.take_append_of_le_length (by rw [len_st]; omega), List.take_set_of_le (Nat.le_refl _)]; exact hT) ⟨33, [.agg 33 [.int .i64 now, v, eWs s.Waiters, .int .i64 s.Read, .int .i64 s.Write, eL s.Last]], .own⟩
        rw [st_lo (by rw [len_st]; omega)] at hfin
        exact hfin
      · have f1 : decide (r.Seq < (lastOf s c).Seq) = false := by simp; omega
        have f2 : (r.Seq == (lastOf s c).Seq) = true := by simpa using hA
        have e : doS s now r = (aged s now, [lastOf s c]) := by rw [doS, if_pos hok, hct, if_neg (by omega), if_pos hA]
        rw [e]
        repeat' (first
    | simp (implicitDefEqProofs := false) only [push_cast, reduceIte, reduceCtorEq, Nat.reduceAdd, Nat.reduceSub, Nat.reduceEqDiff, Nat.reduceLT, Nat.reduceLeDiff, Nat.reduceBEq, Nat.reduceMul, Int.reduceLT, Int.reduceLE, Int.reduceEq, Int.reduceToNat, Int.reduceMul, Int.reduceNeg, Go.Proofs.Try.f26, sst0, a0, a1, a2, hk0, hk1, hk2, gS1, gq0, gq1, gq2, gq3, gR1, sN, hgL, hr6, hr7, cast4, hvt, hvp, cast_ge hlt, eFs_ty, eFs_pl, eFs_wk, eR_ty, eR_pl, eR_wk, eL_wk, eQ_ty, eQ_pl, eQ_wk, Int.toNat_natCast, List.length_map, ap_lo, st_lo, st_ne, st_eq, len_st, st_st, sst, at_set, at_set0, at_set2, at_set20, sst2, List.replicate_succ, List.drop_zero, ne_hi hk0, ne_hi' hk0, ne_h hk0, ne_h' hk0, ne_hi hk1, ne_hi' hk1, ne_h hk1, ne_h' hk1, ne_hi hk2, ne_hi' hk2, ne_h hk2, ne_h' hk2, f1, f2]
    | refine Sp2.f ?_ ?_
    | refine Spl.f ?_ ?_ <;> intro hb
    | refine rq_mk rfl (fun b hb => ?_)
    | refine r_draw (U := [[], [], [], [], [], [], [0], [2, 4, 6], []]) (H := [⟨0, [], .hole⟩]) hmix (by kernel_rfl) (by decide +kernel) (by kernel_rfl) ?_
    | refine r_draw (U := [[], [], [0], [1, 2], []]) (H := [⟨0, [], .hole⟩]) hmix (by kernel_rfl) (by decide +kernel) (by kernel_rfl) ?_
    | refine r_draw (U := [[], [], [], [], [], [], [], [], [7], []]) (H := []) hmix (by kernel_rfl) (by decide +kernel) (by kernel_rfl) ?_
    | refine rs_no hu ?_)
        all_goals first
          | exact hu
          | skip
        have hfin := do_finG (h := h) (h5 := hh.set h.length ⟨33, [.agg 33 [.int .i64 now, v, eWs s.Waiters, .int .i64 s.Read, .int .i64 s.Write, eL s.Last]], .own⟩ ++ [⟨92, [.agg 92 [.agg 33 [.int .i64 now, v, eWs s.Waiters, .int .i64 s.Read, .int .i64 s.Write, eL s.Last], .nils]], .own⟩, ⟨30, [eR (lastOf s c)], .own⟩, ⟨30, [eR (lastOf s c)], .own⟩]) (s' := aged s now) (out' := [lastOf s c]) (lo := [eR (lastOf s c)]) (X := fun j => h.length + 2 < j) (((hv.set a0 (by show 33 ≠ 74; decide) ⟨33, [.agg 33 [.int .i64 now, v, eWs s.Waiters, .int .i64 s.Read, .int .i64 s.Write, eL s.Last]], .own⟩).app _).up fun j hj => hj.1) (GV.flat) (View.mk' (k := hh.length + 2) (n := 1) (lo := 1) [] (by show h.length + 2 < hh.length + 2; omega) at_set rfl rfl) (by simp only [List.map_cons, List.map_nil]; rw [eR_wk]) (by simp [datL, dat]; try exact eR_dat _) (fun j hj => by omega) (h.length + 2) (by omega) (e := ⟨33, [zeroAV prog 33], .own⟩) (by rw [ap_lo (by rw [len_st]; omega), st_ne (by omega)]; exact a2) rfl (by rw [List.take_append_of_le_length (by rw [len_st]; omega), List.take_set_of_le (Nat.le_refl _)]; exact hT) ⟨33, [.agg 33 [.int .i64 now, v, eWs s.Waiters, .int .i64 s.Read, .int .i64 s.Write, eL s.Last]], .own⟩
        rw [st_lo (by rw [len_st]; omega)] at hfin
        exact hfin
      · have f1 : decide (r.Seq < (lastOf s c).Seq) = false := by simp; omega
        have f2 : (r.Seq == (lastOf s c).Seq) = false := by simp; omega
        have e : doS s now r = doW (aged s now) r [] := by rw [doS, if_pos hok, hct, if_neg (by omega), if_neg (by omega)]
        rw [e]
        have hqq := may_mq m2
        have hkk := hqq.kd
        have hpp := mayS_parts m1
        have hHH := hpp.1
        simp only [mayH, Bool.and_eq_true, decide_eq_true_eq] at hHH
        have hb16 : ∀ v : Int, v.fdiv 16 = 0 → 0 ≤ v ∧ v ≤ 15 := fun v hv => by rw [Int.fdiv_eq_ediv_of_nonneg _ (by omega)] at hv; omega
        have bR := bit_plain s.Read (hb16 _ (by omega)) c hc4
        have bW := bit_plain s.Write (hb16 _ (by omega)) c hc4
        rw [← hc] at bR bW
        have hrd := c_Reads6 r.Kind
        have hwr := c_Writes6a r.Kind
        rw [(kinds _ hkk).2] at hrd
        rw [kindsWa _ hkk] at hwr
        have hlo : ∀ {l : List Rpl}, (l.map eR).map (wk prog 6 30) = l.map eR := fun {l} => by rw [List.map_map]; exact List.map_congr_left fun x _ => eR_wk 4 x
        have a0' : (hh.set h.length ⟨33, [.agg 33 [.int .i64 now, v, eWs s.Waiters, .int .i64 s.Read, .int .i64 s.Write, eL s.Last]], .own⟩ ++ [⟨92, [.agg 92 [.agg 33 [.int .i64 now, v, eWs s.Waiters, .int .i64 s.Read, .int .i64 s.Write, eL s.Last], .nils]], .own⟩, ⟨30, [eR (lastOf s c)], .own⟩])[hh.length]? = some (gE (aged s now) v (eWs s.Waiters) .nils) := by rw [at_set0]; rfl
        have E6 : (hh.set h.length ⟨33, [.agg 33 [.int .i64 now, v, eWs s.Waiters, .int .i64 s.Read, .int .i64 s.Write, eL s.Last]], .own⟩ ++ [⟨92, [.agg 92 [.agg 33 [.int .i64 now, v, eWs s.Waiters, .int .i64 s.Read, .int .i64 s.Write, eL s.Last], .nils]], .own⟩, ⟨30, [eR (lastOf s c)], .own⟩])[h.length + 2]? = some ⟨33, [zeroAV prog 33], .own⟩ := by rw [ap_lo (by rw [len_st]; omega), st_ne (by omega)]; exact a2
        have v1 : View (fun j => h.length + 2 < j ∧ j < hh.length + 1) (hh.set h.length ⟨33, [.agg 33 [.int .i64 now, v, eWs s.Waiters, .int .i64 s.Read, .int .i64 s.Write, eL s.Last]], .own⟩ ++ [⟨92, [.agg 92 [.agg 33 [.int .i64 now, v, eWs s.Waiters, .int .i64 s.Read, .int .i64 s.Write, eL s.Last], .nils]], .own⟩, ⟨30, [eR (lastOf s c)], .own⟩]) 74 v ((aged s now).Items.map eI) := ((hv.set a0 (by show 33 ≠ 74; decide) ⟨33, [.agg 33 [.int .i64 now, v, eWs s.Waiters, .int .i64 s.Read, .int .i64 s.Write, eL s.Last]], .own⟩).app _).up fun j hj => ⟨hj.1, by omega⟩
        have gs0 : GS (fun j => h.length + 2 < j ∧ j < hh.length + 1) hh.length (aged s now) [] (hh.set h.length ⟨33, [.agg 33 [.int .i64 now, v, eWs s.Waiters, .int .i64 s.Read, .int .i64 s.Write, eL s.Last]], .own⟩ ++ [⟨92, [.agg 92 [.agg 33 [.int .i64 now, v, eWs s.Waiters, .int .i64 s.Read, .int .i64 s.Write, eL s.Last], .nils]], .own⟩, ⟨30, [eR (lastOf s c)], .own⟩]) := ⟨fun j hj => by simp; omega, ⟨by omega, by omega⟩, v, eWs s.Waiters, .nils, a0', v1, .flat, .nil⟩
        have hfo := c_FindG (p := r.P) (Y := fun _ => False) hrdy.small hrdy.rP v1 (.flat (l := s.Waiters.map eW))
        have hne : (hh.length = h.length + 2) = False := eq_false (by omega)
        generalize hbv : bits .and .i64 s.Read (IntKind.wrap .i64 (1 * 2 ^ min (IntKind.wrap .u64 r.Client).toNat IntKind.i64.bits)) = xR at bR
        generalize hbw : bits .and .i64 s.Write (IntKind.wrap .i64 (1 * 2 ^ min (IntKind.wrap .u64 r.Client).toNat IntKind.i64.bits)) = xW at bW
        have hbv' : bits .and .i64 s.Read (IntKind.wrap .i64 (2 ^ min (IntKind.wrap .u64 r.Client).toNat IntKind.i64.bits)) = xR := by rw [← hbv, Int.one_mul]
        have hbw' : bits .and .i64 s.Write (IntKind.wrap .i64 (2 ^ min (IntKind.wrap .u64 r.Client).toNat IntKind.i64.bits)) = xW := by rw [← hbw, Int.one_mul]
        have hdd : denyS (aged s now) r = ((readsK r.Kind && (xR == 0)) || (writesK r.Kind && (xW == 0))) := by rw [← bR, ← bW]; rfl
        cases hd : denyS (aged s now) r with
        | true =>
          have e2 : doW (aged s now) r [] = (tellS (aged s now) r 6 [], [] ++ [rep r 6 []]) := by rw [doW, if_pos hd]
          rw [e2]
          rw [hdd] at hd
          cases hR : readsK r.Kind with
          | true =>
            rw [hR] at hrd hd
            cases hB : (xR == 0) with
            | true =>
              repeat' (first
    | simp (implicitDefEqProofs := false) only [push_cast, reduceIte, reduceCtorEq, Nat.reduceAdd, Nat.reduceSub, Nat.reduceEqDiff, Nat.reduceLT, Nat.reduceLeDiff, Nat.reduceBEq, Nat.reduceMul, Int.reduceLT, Int.reduceLE, Int.reduceEq, Int.reduceToNat, Int.reduceMul, Int.reduceNeg, Go.Proofs.Try.f26, sst0, a0, a1, a2, hk0, hk1, hk2, gS1, gq0, gq1, gq2, gq3, gR1, sN, hgL, hr6, hr7, cast4, hvt, hvp, cast_ge hlt, eFs_ty, eFs_pl, eFs_wk, eR_ty, eR_pl, eR_wk, eL_wk, eQ_ty, eQ_pl, eQ_wk, Int.toNat_natCast, List.length_map, ap_lo, st_lo, st_ne, st_eq, len_st, st_st, sst, at_set, at_set0, at_set2, at_set20, sst2, List.replicate_succ, List.drop_zero, ne_hi hk0, ne_hi' hk0, ne_h hk0, ne_h' hk0, ne_hi hk1, ne_hi' hk1, ne_h hk1, ne_h' hk1, ne_hi hk2, ne_hi' hk2, ne_h hk2, ne_h' hk2, f1, f2, hbv, hbv', hB]
    | refine Sp2.f ?_ ?_
    | refine Spl.f ?_ ?_ <;> intro hb
    | refine rq_mk rfl (fun b hb => ?_)
    | refine r_draw (U := [[], [], [], [], [], [], [0], [2, 4, 6], []]) (H := [⟨0, [], .hole⟩]) hmix (by kernel_rfl) (by decide +kernel) (by kernel_rfl) ?_
    | refine r_draw (U := [[], [], [0], [1, 2], []]) (H := [⟨0, [], .hole⟩]) hmix (by kernel_rfl) (by decide +kernel) (by kernel_rfl) ?_
    | refine r_draw (U := [[], [], [], [], [], [], [], [], [7], []]) (H := []) hmix (by kernel_rfl) (by decide +kernel) (by kernel_rfl) ?_
    | refine rs_no hu ?_
    | refine k_fn hrd ?_
    | refine k_fn hwr ?_
    | refine k_gtn ((c_GtellS 6 [] (by simp) hrdy gs0).n) fun h5 w5 p5 => ?_)
              all_goals first
                | exact hu
                | skip
              obtain ⟨bd5, ow5, v4, v5, v6, hk5, q1, q2, q3⟩ := w5
              have e6 := p5.get E6 (fun hj => by have := hj.1; omega)
              have l5 := lt_some hk5
              have l6 := lt_some e6
              repeat' (first
    | simp (implicitDefEqProofs := false) only [push_cast, reduceIte, reduceCtorEq, Nat.reduceAdd, Nat.reduceSub, Nat.reduceEqDiff, Nat.reduceLT, Nat.reduceLeDiff, Nat.reduceBEq, Nat.reduceMul, Int.reduceLT, Int.reduceLE, Int.reduceEq, Int.reduceToNat, Int.reduceMul, Int.reduceNeg, Go.Proofs.Try.f26, hne, e6, hk5, l5, l6, gE, q1.ty sh_27, gv_ty q2 sh_28, q3.ty sh_34, q1.pl, gv_pl q2, q3.pl, eL_wk, ap_lo, st_lo, st_ne, st_eq, len_st, st_st, sst, at_set, at_set0, at_set2, at_set20, sst2, List.replicate_succ, List.drop_zero]
    | refine Sp2.f ?_ ?_
    | refine Spl.f ?_ ?_ <;> intro hb
    | refine rq_mk rfl (fun b hb => ?_)
    | refine r_draw (U := [[], [], [], [], [], [], [0], [2, 4, 6], []]) (H := [⟨0, [], .hole⟩]) hmix (by kernel_rfl) (by decide +kernel) (by kernel_rfl) ?_
    | refine r_draw (U := [[], [], [0], [1, 2], []]) (H := [⟨0, [], .hole⟩]) hmix (by kernel_rfl) (by decide +kernel) (by kernel_rfl) ?_
    | refine r_draw (U := [[], [], [], [], [], [], [], [], [7], []]) (H := []) hmix (by kernel_rfl) (by decide +kernel) (by kernel_rfl) ?_)
              exact do_finG (h := h) q1 q2 q3 hlo (datL_map eR eR_dat _) (fun j hj => hj.elim (fun a => by have := a.1; omega) fun a => by have := a.1; simp only [List.length_append, len_st, List.length_cons, List.length_nil] at this; omega) (h.length + 2) (by omega) e6 rfl ((p5.take (by simp only [List.length_append, len_st]; omega) (fun j hj => by have := hj.1; omega)).trans (by rw [List.take_append_of_le_length (by rw [len_st]; omega), List.take_set_of_le (Nat.le_refl _)]; exact hT)) _
            | false =>
              rw [hB] at hd
              cases hW : writesK r.Kind with
              | true =>
                rw [hW] at hwr hd
                have hB2 : (xW == 0) = true := by simpa using hd
                repeat' (first
    | simp (implicitDefEqProofs := false) only [push_cast, reduceIte, reduceCtorEq, Nat.reduceAdd, Nat.reduceSub, Nat.reduceEqDiff, Nat.reduceLT, Nat.reduceLeDiff, Nat.reduceBEq, Nat.reduceMul, Int.reduceLT, Int.reduceLE, Int.reduceEq, Int.reduceToNat, Int.reduceMul, Int.reduceNeg, Go.Proofs.Try.f26, sst0, a0, a1, a2, hk0, hk1, hk2, gS1, gq0, gq1, gq2, gq3, gR1, sN, hgL, hr6, hr7, cast4, hvt, hvp, cast_ge hlt, eFs_ty, eFs_pl, eFs_wk, eR_ty, eR_pl, eR_wk, eL_wk, eQ_ty, eQ_pl, eQ_wk, Int.toNat_natCast, List.length_map, ap_lo, st_lo, st_ne, st_eq, len_st, st_st, sst, at_set, at_set0, at_set2, at_set20, sst2, List.replicate_succ, List.drop_zero, ne_hi hk0, ne_hi' hk0, ne_h hk0, ne_h' hk0, ne_hi hk1, ne_hi' hk1, ne_h hk1, ne_h' hk1, ne_hi hk2, ne_hi' hk2, ne_h hk2, ne_h' hk2, f1, f2, hbv, hbv', hbw, hbw', hB, hB2]
    | refine Sp2.f ?_ ?_
    | refine Spl.f ?_ ?_ <;> intro hb
    | refine rq_mk rfl (fun b hb => ?_)
    | refine r_draw (U := [[], [], [], [], [], [], [0], [2, 4, 6], []]) (H := [⟨0, [], .hole⟩]) hmix (by kernel_rfl) (by decide +kernel) (by kernel_rfl) ?_
    | refine r_draw (U := [[], [], [0], [1, 2], []]) (H := [⟨0, [], .hole⟩]) hmix (by kernel_rfl) (by decide +kernel) (by kernel_rfl) ?_
    | refine r_draw (U := [[], [], [], [], [], [], [], [], [7], []]) (H := []) hmix (by kernel_rfl) (by decide +kernel) (by kernel_rfl) ?_
    | refine rs_no hu ?_
    | refine k_fn hrd ?_
    | refine k_fn hwr ?_
    | refine k_gtn ((c_GtellS 6 [] (by simp) hrdy gs0).n) fun h5 w5 p5 => ?_)
                all_goals first
                  | exact hu
                  | skip
                obtain ⟨bd5, ow5, v4, v5, v6, hk5, q1, q2, q3⟩ := w5
                have e6 := p5.get E6 (fun hj => by have := hj.1; omega)
                have l5 := lt_some hk5
                have l6 := lt_some e6
                repeat' (first
    | simp (implicitDefEqProofs := false) only [push_cast, reduceIte, reduceCtorEq, Nat.reduceAdd, Nat.reduceSub, Nat.reduceEqDiff, Nat.reduceLT, Nat.reduceLeDiff, Nat.reduceBEq, Nat.reduceMul, Int.reduceLT, Int.reduceLE, Int.reduceEq, Int.reduceToNat, Int.reduceMul, Int.reduceNeg, Go.Proofs.Try.f26, hne, e6, hk5, l5, l6, gE, q1.ty sh_27, gv_ty q2 sh_28, q3.ty sh_34, q1.pl, gv_pl q2, q3.pl, eL_wk, ap_lo, st_lo, st_ne, st_eq, len_st, st_st, sst, at_set, at_set0, at_set2, at_set20, sst2, List.replicate_succ, List.drop_zero]
    | refine Sp2.f ?_ ?_
    | refine Spl.f ?_ ?_ <;> intro hb
    | refine rq_mk rfl (fun b hb => ?_)
    | refine r_draw (U := [[], [], [], [], [], [], [0], [2, 4, 6], []]) (H := [⟨0, [], .hole⟩]) hmix (by kernel_rfl) (by decide +kernel) (by kernel_rfl) ?_
    | refine r_draw (U := [[], [], [0], [1, 2], []]) (H := [⟨0, [], .hole⟩]) hmix (by kernel_rfl) (by decide +kernel) (by kernel_rfl) ?_
    | refine r_draw (U := [[], [], [], [], [], [], [], [], [7], []]) (H := []) hmix (by kernel_rfl) (by decide +kernel) (by kernel_rfl) ?_)
                exact do_finG (h := h) q1 q2 q3 hlo (datL_map eR eR_dat _) (fun j hj => hj.elim (fun a => by have := a.1; omega) fun a => by have := a.1; simp only [List.length_append, len_st, List.length_cons, List.length_nil] at this; omega) (h.length + 2) (by omega) e6 rfl ((p5.take (by simp only [List.length_append, len_st]; omega) (fun j hj => by have := hj.1; omega)).trans (by rw [List.take_append_of_le_length (by rw [len_st]; omega), List.take_set_of_le (Nat.le_refl _)]; exact hT)) _
              | false => rw [hW] at hd; cases hd
          | false =>
            rw [hR] at hrd hd
            cases hW : writesK r.Kind with
            | true =>
              rw [hW] at hwr hd
              have hB2 : (xW == 0) = true := by simpa using hd
              repeat' (first
    | simp (implicitDefEqProofs := false) only [push_cast, reduceIte, reduceCtorEq, Nat.reduceAdd, Nat.reduceSub, Nat.reduceEqDiff, Nat.reduceLT, Nat.reduceLeDiff, Nat.reduceBEq, Nat.reduceMul, Int.reduceLT, Int.reduceLE, Int.reduceEq, Int.reduceToNat, Int.reduceMul, Int.reduceNeg, Go.Proofs.Try.f26, sst0, a0, a1, a2, hk0, hk1, hk2, gS1, gq0, gq1, gq2, gq3, gR1, sN, hgL, hr6, hr7, cast4, hvt, hvp, cast_ge hlt, eFs_ty, eFs_pl, eFs_wk, eR_ty, eR_pl, eR_wk, eL_wk, eQ_ty, eQ_pl, eQ_wk, Int.toNat_natCast, List.length_map, ap_lo, st_lo, st_ne, st_eq, len_st, st_st, sst, at_set, at_set0, at_set2, at_set20, sst2, List.replicate_succ, List.drop_zero, ne_hi hk0, ne_hi' hk0, ne_h hk0, ne_h' hk0, ne_hi hk1, ne_hi' hk1, ne_h hk1, ne_h' hk1, ne_hi hk2, ne_hi' hk2, ne_h hk2, ne_h' hk2, f1, f2, hbw, hbw', hB2]
    | refine Sp2.f ?_ ?_
    | refine Spl.f ?_ ?_ <;> intro hb
    | refine rq_mk rfl (fun b hb => ?_)
    | refine r_draw (U := [[], [], [], [], [], [], [0], [2, 4, 6], []]) (H := [⟨0, [], .hole⟩]) hmix (by kernel_rfl) (by decide +kernel) (by kernel_rfl) ?_
    | refine r_draw (U := [[], [], [0], [1, 2], []]) (H := [⟨0, [], .hole⟩]) hmix (by kernel_rfl) (by decide +kernel) (by kernel_rfl) ?_
    | refine r_draw (U := [[], [], [], [], [], [], [], [], [7], []]) (H := []) hmix (by kernel_rfl) (by decide +kernel) (by kernel_rfl) ?_
    | refine rs_no hu ?_
    | refine k_fn hrd ?_
    | refine k_fn hwr ?_
    | refine k_gtn ((c_GtellS 6 [] (by simp) hrdy gs0).n) fun h5 w5 p5 => ?_)
              all_goals first
                | exact hu
                | skip
              obtain ⟨bd5, ow5, v4, v5, v6, hk5, q1, q2, q3⟩ := w5
              have e6 := p5.get E6 (fun hj => by have := hj.1; omega)
              have l5 := lt_some hk5
              have l6 := lt_some e6
              repeat' (first
    | simp (implicitDefEqProofs := false) only [push_cast, reduceIte, reduceCtorEq, Nat.reduceAdd, Nat.reduceSub, Nat.reduceEqDiff, Nat.reduceLT, Nat.reduceLeDiff, Nat.reduceBEq, Nat.reduceMul, Int.reduceLT, Int.reduceLE, Int.reduceEq, Int.reduceToNat, Int.reduceMul, Int.reduceNeg, Go.Proofs.Try.f26, hne, e6, hk5, l5, l6, gE, q1.ty sh_27, gv_ty q2 sh_28, q3.ty sh_34, q1.pl, gv_pl q2, q3.pl, eL_wk, ap_lo, st_lo, st_ne, st_eq, len_st, st_st, sst, at_set, at_set0, at_set2, at_set20, sst2, List.replicate_succ, List.drop_zero]
    | refine Sp2.f ?_ ?_
    | refine Spl.f ?_ ?_ <;> intro hb
    | refine rq_mk rfl (fun b hb => ?_)
    | refine r_draw (U := [[], [], [], [], [], [], [0], [2, 4, 6], []]) (H := [⟨0, [], .hole⟩]) hmix (by kernel_rfl) (by decide +kernel) (by kernel_rfl) ?_
    | refine r_draw (U := [[], [], [0], [1, 2], []]) (H := [⟨0, [], .hole⟩]) hmix (by kernel_rfl) (by decide +kernel) (by kernel_rfl) ?_
    | refine r_draw (U := [[], [], [], [], [], [], [], [], [7], []]) (H := []) hmix (by kernel_rfl) (by decide +kernel) (by kernel_rfl) ?_)
              exact do_finG (h := h) q1 q2 q3 hlo (datL_map eR eR_dat _) (fun j hj => hj.elim (fun a => by have := a.1; omega) fun a => by have := a.1; simp only [List.length_append, len_st, List.length_cons, List.length_nil] at this; omega) (h.length + 2) (by omega) e6 rfl ((p5.take (by simp only [List.length_append, len_st]; omega) (fun j hj => by have := hj.1; omega)).trans (by rw [List.take_append_of_le_length (by rw [len_st]; omega), List.take_set_of_le (Nat.le_refl _)]; exact hT)) _
            | false => rw [hW] at hd; cases hd
        | false =>
          have hnd := hd
          rw [hdd] at hd
          rcases (by omega : r.Kind = 1 ∨ r.Kind = 2 ∨ r.Kind = 3 ∨ r.Kind = 4 ∨ r.Kind = 5 ∨ r.Kind = 6 ∨ r.Kind = 7 ∨ r.Kind = 8) with hkd | hkd | hkd | hkd | hkd | hkd | hkd | hkd
          · have hR : readsK r.Kind = false := by rw [hkd]; kernel_rfl
            have hW : writesK r.Kind = true := by rw [hkd]; kernel_rfl
            rw [hR, hW] at hd
            rw [hR] at hrd
            rw [hW] at hwr
            have hB2 : (xW == 0) = false := by cases h : (xW == 0) with | false => rfl | true => rw [h] at hd; simp at hd
            have k8 : (r.Kind == 8) = false := by rw [hkd]; rfl
            have k1 : (r.Kind == 1) = true := by rw [hkd]; rfl
            have k7 : (r.Kind == 7) = false := by rw [hkd]; rfl
            have k6 : (r.Kind == 6) = false := by rw [hkd]; rfl
            have e2 : doW (aged s now) r [] = bringS (aged s now) r [] := by rw [doW, if_neg (by rw [hnd]; decide), if_pos hkd]
            rw [e2]
            repeat' (first
    | simp (implicitDefEqProofs := false) only [push_cast, reduceIte, reduceCtorEq, Nat.reduceAdd, Nat.reduceSub, Nat.reduceEqDiff, Nat.reduceLT, Nat.reduceLeDiff, Nat.reduceBEq, Nat.reduceMul, Int.reduceLT, Int.reduceLE, Int.reduceEq, Int.reduceToNat, Int.reduceMul, Int.reduceNeg, Go.Proofs.Try.f26, sst0, a0, a1, a2, hk0, hk1, hk2, gS1, gq0, gq1, gq2, gq3, gR1, sN, hgL, hr6, hr7, cast4, hvt, hvp, cast_ge hlt, eFs_ty, eFs_pl, eFs_wk, eR_ty, eR_pl, eR_wk, eL_wk, eQ_ty, eQ_pl, eQ_wk, Int.toNat_natCast, List.length_map, ap_lo, st_lo, st_ne, st_eq, len_st, st_st, sst, at_set, at_set0, at_set2, at_set20, sst2, List.replicate_succ, List.drop_zero, ne_hi hk0, ne_hi' hk0, ne_h hk0, ne_h' hk0, ne_hi hk1, ne_hi' hk1, ne_h hk1, ne_h' hk1, ne_hi hk2, ne_hi' hk2, ne_h hk2, ne_h' hk2, f1, f2, hbw, hbw', hB2, k8, k1, k7, k6]
    | refine Sp2.f ?_ ?_
    | refine Spl.f ?_ ?_ <;> intro hb
    | refine rq_mk rfl (fun b hb => ?_)
    | refine r_draw (U := [[], [], [], [], [], [], [0], [2, 4, 6], []]) (H := [⟨0, [], .hole⟩]) hmix (by kernel_rfl) (by decide +kernel) (by kernel_rfl) ?_
    | refine r_draw (U := [[], [], [0], [1, 2], []]) (H := [⟨0, [], .hole⟩]) hmix (by kernel_rfl) (by decide +kernel) (by kernel_rfl) ?_
    | refine r_draw (U := [[], [], [], [], [], [], [], [], [7], []]) (H := []) hmix (by kernel_rfl) (by decide +kernel) (by kernel_rfl) ?_
    | refine rs_no hu ?_
    | refine k_fn hrd ?_
    | refine k_fn hwr ?_
    | refine k_gtn (c_Gout (by simp) hrdy gs0) fun h5 w5 p5 => ?_)
            all_goals first
              | exact hu
              | skip
            obtain ⟨bd5, ow5, v4, v5, v6, hk5, q1, q2, q3⟩ := w5
            have e6 := p5.get E6 (fun hj => by have := hj.1; omega)
            have l5 := lt_some hk5
            have l6 := lt_some e6
            repeat' (first
    | simp (implicitDefEqProofs := false) only [push_cast, reduceIte, reduceCtorEq, Nat.reduceAdd, Nat.reduceSub, Nat.reduceEqDiff, Nat.reduceLT, Nat.reduceLeDiff, Nat.reduceBEq, Nat.reduceMul, Int.reduceLT, Int.reduceLE, Int.reduceEq, Int.reduceToNat, Int.reduceMul, Int.reduceNeg, Go.Proofs.Try.f26, hne, e6, hk5, l5, l6, gE, q1.ty sh_27, gv_ty q2 sh_28, q3.ty sh_34, q1.pl, gv_pl q2, q3.pl, eL_wk, ap_lo, st_lo, st_ne, st_eq, len_st, st_st, sst, at_set, at_set0, at_set2, at_set20, sst2, List.replicate_succ, List.drop_zero]
    | refine Sp2.f ?_ ?_
    | refine Spl.f ?_ ?_ <;> intro hb
    | refine rq_mk rfl (fun b hb => ?_)
    | refine r_draw (U := [[], [], [], [], [], [], [0], [2, 4, 6], []]) (H := [⟨0, [], .hole⟩]) hmix (by kernel_rfl) (by decide +kernel) (by kernel_rfl) ?_
    | refine r_draw (U := [[], [], [0], [1, 2], []]) (H := [⟨0, [], .hole⟩]) hmix (by kernel_rfl) (by decide +kernel) (by kernel_rfl) ?_
    | refine r_draw (U := [[], [], [], [], [], [], [], [], [7], []]) (H := []) hmix (by kernel_rfl) (by decide +kernel) (by kernel_rfl) ?_)
            exact do_finG (h := h) q1 q2 q3 hlo (datL_map eR eR_dat _) (fun j hj => hj.elim (fun a => by have := a.1; omega) fun a => by have := a.1; simp only [List.length_append, len_st, List.length_cons, List.length_nil] at this; omega) (h.length + 2) (by omega) e6 rfl ((p5.take (by simp only [List.length_append, len_st]; omega) (fun j hj => by have := hj.1; omega)).trans (by rw [List.take_append_of_le_length (by rw [len_st]; omega), List.take_set_of_le (Nat.le_refl _)]; exact hT)) _
          · have hR : readsK r.Kind = true := by rw [hkd]; kernel_rfl
            have hW : writesK r.Kind = false := by rw [hkd]; kernel_rfl
            rw [hR, hW] at hd
            rw [hR] at hrd
            rw [hW] at hwr
            have hB : (xR == 0) = false := by cases h : (xR == 0) with | false => rfl | true => rw [h] at hd; simp at hd
            have k8 : (r.Kind == 8) = false := by rw [hkd]; rfl
            have k1 : (r.Kind == 1) = false := by rw [hkd]; rfl
            have k7 : (r.Kind == 7) = false := by rw [hkd]; rfl
            have k6 : (r.Kind == 6) = false := by rw [hkd]; rfl
            have e2 : doW (aged s now) r [] = findW (aged s now) r [] (r.Kind == 3 || r.Kind == 5) (r.Kind == 4 || r.Kind == 5) := by
              rw [doW, if_neg (by rw [hnd]; decide), if_neg (by omega), if_pos hkd, hkd]; rfl
            rw [e2]
            repeat' (first
    | simp (implicitDefEqProofs := false) only [push_cast, reduceIte, reduceCtorEq, Nat.reduceAdd, Nat.reduceSub, Nat.reduceEqDiff, Nat.reduceLT, Nat.reduceLeDiff, Nat.reduceBEq, Nat.reduceMul, Int.reduceLT, Int.reduceLE, Int.reduceEq, Int.reduceToNat, Int.reduceMul, Int.reduceNeg, Go.Proofs.Try.f26, sst0, a0, a1, a2, hk0, hk1, hk2, gS1, gq0, gq1, gq2, gq3, gR1, sN, hgL, hr6, hr7, cast4, hvt, hvp, cast_ge hlt, eFs_ty, eFs_pl, eFs_wk, eR_ty, eR_pl, eR_wk, eL_wk, eQ_ty, eQ_pl, eQ_wk, Int.toNat_natCast, List.length_map, ap_lo, st_lo, st_ne, st_eq, len_st, st_st, sst, at_set, at_set0, at_set2, at_set20, sst2, List.replicate_succ, List.drop_zero, ne_hi hk0, ne_hi' hk0, ne_h hk0, ne_h' hk0, ne_hi hk1, ne_hi' hk1, ne_h hk1, ne_h' hk1, ne_hi hk2, ne_hi' hk2, ne_h hk2, ne_h' hk2, f1, f2, hbv, hbv', hB, k8, k1, k7, k6]
    | refine Sp2.f ?_ ?_
    | refine Spl.f ?_ ?_ <;> intro hb
    | refine rq_mk rfl (fun b hb => ?_)
    | refine r_draw (U := [[], [], [], [], [], [], [0], [2, 4, 6], []]) (H := [⟨0, [], .hole⟩]) hmix (by kernel_rfl) (by decide +kernel) (by kernel_rfl) ?_
    | refine r_draw (U := [[], [], [0], [1, 2], []]) (H := [⟨0, [], .hole⟩]) hmix (by kernel_rfl) (by decide +kernel) (by kernel_rfl) ?_
    | refine r_draw (U := [[], [], [], [], [], [], [], [], [7], []]) (H := []) hmix (by kernel_rfl) (by decide +kernel) (by kernel_rfl) ?_
    | refine rs_no hu ?_
    | refine k_fn hrd ?_
    | refine k_fn hwr ?_
    | refine k_gtn (c_Glook (s := aged s now) (by omega) (by simp) (show s.Waiters.length ≤ 16 by omega) hrdy gs0) fun h5 w5 p5 => ?_)
            all_goals first
              | exact hu
              | skip
            obtain ⟨bd5, ow5, v4, v5, v6, hk5, q1, q2, q3⟩ := w5
            have e6 := p5.get E6 (fun hj => by have := hj.1; omega)
            have l5 := lt_some hk5
            have l6 := lt_some e6
            repeat' (first
    | simp (implicitDefEqProofs := false) only [push_cast, reduceIte, reduceCtorEq, Nat.reduceAdd, Nat.reduceSub, Nat.reduceEqDiff, Nat.reduceLT, Nat.reduceLeDiff, Nat.reduceBEq, Nat.reduceMul, Int.reduceLT, Int.reduceLE, Int.reduceEq, Int.reduceToNat, Int.reduceMul, Int.reduceNeg, Go.Proofs.Try.f26, hne, e6, hk5, l5, l6, gE, q1.ty sh_27, gv_ty q2 sh_28, q3.ty sh_34, q1.pl, gv_pl q2, q3.pl, eL_wk, ap_lo, st_lo, st_ne, st_eq, len_st, st_st, sst, at_set, at_set0, at_set2, at_set20, sst2, List.replicate_succ, List.drop_zero]
    | refine Sp2.f ?_ ?_
    | refine Spl.f ?_ ?_ <;> intro hb
    | refine rq_mk rfl (fun b hb => ?_)
    | refine r_draw (U := [[], [], [], [], [], [], [0], [2, 4, 6], []]) (H := [⟨0, [], .hole⟩]) hmix (by kernel_rfl) (by decide +kernel) (by kernel_rfl) ?_
    | refine r_draw (U := [[], [], [0], [1, 2], []]) (H := [⟨0, [], .hole⟩]) hmix (by kernel_rfl) (by decide +kernel) (by kernel_rfl) ?_
    | refine r_draw (U := [[], [], [], [], [], [], [], [], [7], []]) (H := []) hmix (by kernel_rfl) (by decide +kernel) (by kernel_rfl) ?_)
            exact do_finG (h := h) q1 q2 q3 hlo (datL_map eR eR_dat _) (fun j hj => hj.elim (fun a => by have := a.1; omega) fun a => by have := a.1; simp only [List.length_append, len_st, List.length_cons, List.length_nil] at this; omega) (h.length + 2) (by omega) e6 rfl ((p5.take (by simp only [List.length_append, len_st]; omega) (fun j hj => by have := hj.1; omega)).trans (by rw [List.take_append_of_le_length (by rw [len_st]; omega), List.take_set_of_le (Nat.le_refl _)]; exact hT)) _
          · have hR : readsK r.Kind = true := by rw [hkd]; kernel_rfl
            have hW : writesK r.Kind = true := by rw [hkd]; kernel_rfl
            rw [hR, hW] at hd
            rw [hR] at hrd
            rw [hW] at hwr
            have hB : (xR == 0) = false := by cases h : (xR == 0) with | false => rfl | true => rw [h] at hd; simp at hd
            have hB2 : (xW == 0) = false := by cases h : (xW == 0) with | false => rfl | true => rw [h] at hd; simp at hd
            have k8 : (r.Kind == 8) = false := by rw [hkd]; rfl
            have k1 : (r.Kind == 1) = false := by rw [hkd]; rfl
            have k7 : (r.Kind == 7) = false := by rw [hkd]; rfl
            have k6 : (r.Kind == 6) = false := by rw [hkd]; rfl
            have e2 : doW (aged s now) r [] = findW (aged s now) r [] (r.Kind == 3 || r.Kind == 5) (r.Kind == 4 || r.Kind == 5) := by
              rw [doW, if_neg (by rw [hnd]; decide), if_neg (by omega), if_neg (by omega), if_pos hkd, hkd]; rfl
            rw [e2]
            repeat' (first
    | simp (implicitDefEqProofs := false) only [push_cast, reduceIte, reduceCtorEq, Nat.reduceAdd, Nat.reduceSub, Nat.reduceEqDiff, Nat.reduceLT, Nat.reduceLeDiff, Nat.reduceBEq, Nat.reduceMul, Int.reduceLT, Int.reduceLE, Int.reduceEq, Int.reduceToNat, Int.reduceMul, Int.reduceNeg, Go.Proofs.Try.f26, sst0, a0, a1, a2, hk0, hk1, hk2, gS1, gq0, gq1, gq2, gq3, gR1, sN, hgL, hr6, hr7, cast4, hvt, hvp, cast_ge hlt, eFs_ty, eFs_pl, eFs_wk, eR_ty, eR_pl, eR_wk, eL_wk, eQ_ty, eQ_pl, eQ_wk, Int.toNat_natCast, List.length_map, ap_lo, st_lo, st_ne, st_eq, len_st, st_st, sst, at_set, at_set0, at_set2, at_set20, sst2, List.replicate_succ, List.drop_zero, ne_hi hk0, ne_hi' hk0, ne_h hk0, ne_h' hk0, ne_hi hk1, ne_hi' hk1, ne_h hk1, ne_h' hk1, ne_hi hk2, ne_hi' hk2, ne_h hk2, ne_h' hk2, f1, f2, hbv, hbv', hB, hbw, hbw', hB2, k8, k1, k7, k6]
    | refine Sp2.f ?_ ?_
    | refine Spl.f ?_ ?_ <;> intro hb
    | refine rq_mk rfl (fun b hb => ?_)
    | refine r_draw (U := [[], [], [], [], [], [], [0], [2, 4, 6], []]) (H := [⟨0, [], .hole⟩]) hmix (by kernel_rfl) (by decide +kernel) (by kernel_rfl) ?_
    | refine r_draw (U := [[], [], [0], [1, 2], []]) (H := [⟨0, [], .hole⟩]) hmix (by kernel_rfl) (by decide +kernel) (by kernel_rfl) ?_
    | refine r_draw (U := [[], [], [], [], [], [], [], [], [7], []]) (H := []) hmix (by kernel_rfl) (by decide +kernel) (by kernel_rfl) ?_
    | refine rs_no hu ?_
    | refine k_fn hrd ?_
    | refine k_fn hwr ?_
    | refine k_gtn (c_Glook (s := aged s now) (by omega) (by simp) (show s.Waiters.length ≤ 16 by omega) hrdy gs0) fun h5 w5 p5 => ?_)
            all_goals first
              | exact hu
              | skip
            obtain ⟨bd5, ow5, v4, v5, v6, hk5, q1, q2, q3⟩ := w5
            have e6 := p5.get E6 (fun hj => by have := hj.1; omega)
            have l5 := lt_some hk5
            have l6 := lt_some e6
            repeat' (first
    | simp (implicitDefEqProofs := false) only [push_cast, reduceIte, reduceCtorEq, Nat.reduceAdd, Nat.reduceSub, Nat.reduceEqDiff, Nat.reduceLT, Nat.reduceLeDiff, Nat.reduceBEq, Nat.reduceMul, Int.reduceLT, Int.reduceLE, Int.reduceEq, Int.reduceToNat, Int.reduceMul, Int.reduceNeg, Go.Proofs.Try.f26, hne, e6, hk5, l5, l6, gE, q1.ty sh_27, gv_ty q2 sh_28, q3.ty sh_34, q1.pl, gv_pl q2, q3.pl, eL_wk, ap_lo, st_lo, st_ne, st_eq, len_st, st_st, sst, at_set, at_set0, at_set2, at_set20, sst2, List.replicate_succ, List.drop_zero]
    | refine Sp2.f ?_ ?_
    | refine Spl.f ?_ ?_ <;> intro hb
    | refine rq_mk rfl (fun b hb => ?_)
    | refine r_draw (U := [[], [], [], [], [], [], [0], [2, 4, 6], []]) (H := [⟨0, [], .hole⟩]) hmix (by kernel_rfl) (by decide +kernel) (by kernel_rfl) ?_
    | refine r_draw (U := [[], [], [0], [1, 2], []]) (H := [⟨0, [], .hole⟩]) hmix (by kernel_rfl) (by decide +kernel) (by kernel_rfl) ?_
    | refine r_draw (U := [[], [], [], [], [], [], [], [], [7], []]) (H := []) hmix (by kernel_rfl) (by decide +kernel) (by kernel_rfl) ?_)
            exact do_finG (h := h) q1 q2 q3 hlo (datL_map eR eR_dat _) (fun j hj => hj.elim (fun a => by have := a.1; omega) fun a => by have := a.1; simp only [List.length_append, len_st, List.length_cons, List.length_nil] at this; omega) (h.length + 2) (by omega) e6 rfl ((p5.take (by simp only [List.length_append, len_st]; omega) (fun j hj => by have := hj.1; omega)).trans (by rw [List.take_append_of_le_length (by rw [len_st]; omega), List.take_set_of_le (Nat.le_refl _)]; exact hT)) _
          · have hR : readsK r.Kind = true := by rw [hkd]; kernel_rfl
            have hW : writesK r.Kind = false := by rw [hkd]; kernel_rfl
            rw [hR, hW] at hd
            rw [hR] at hrd
            rw [hW] at hwr
            have hB : (xR == 0) = false := by cases h : (xR == 0) with | false => rfl | true => rw [h] at hd; simp at hd
            have k8 : (r.Kind == 8) = false := by rw [hkd]; rfl
            have k1 : (r.Kind == 1) = false := by rw [hkd]; rfl
            have k7 : (r.Kind == 7) = false := by rw [hkd]; rfl
            have k6 : (r.Kind == 6) = false := by rw [hkd]; rfl
            have e2 : doW (aged s now) r [] = findW (aged s now) r [] (r.Kind == 3 || r.Kind == 5) (r.Kind == 4 || r.Kind == 5) := by
              rw [doW, if_neg (by rw [hnd]; decide), if_neg (by omega), if_neg (by omega), if_neg (by omega), if_pos hkd, hkd]; rfl
            rw [e2]
            repeat' (first
    | simp (implicitDefEqProofs := false) only [push_cast, reduceIte, reduceCtorEq, Nat.reduceAdd, Nat.reduceSub, Nat.reduceEqDiff, Nat.reduceLT, Nat.reduceLeDiff, Nat.reduceBEq, Nat.reduceMul, Int.reduceLT, Int.reduceLE, Int.reduceEq, Int.reduceToNat, Int.reduceMul, Int.reduceNeg, Go.Proofs.Try.f26, sst0, a0, a1, a2, hk0, hk1, hk2, gS1, gq0, gq1, gq2, gq3, gR1, sN, hgL, hr6, hr7, cast4, hvt, hvp, cast_ge hlt, eFs_ty, eFs_pl, eFs_wk, eR_ty, eR_pl, eR_wk, eL_wk, eQ_ty, eQ_pl, eQ_wk, Int.toNat_natCast, List.length_map, ap_lo, st_lo, st_ne, st_eq, len_st, st_st, sst, at_set, at_set0, at_set2, at_set20, sst2, List.replicate_succ, List.drop_zero, ne_hi hk0, ne_hi' hk0, ne_h hk0, ne_h' hk0, ne_hi hk1, ne_hi' hk1, ne_h hk1, ne_h' hk1, ne_hi hk2, ne_hi' hk2, ne_h hk2, ne_h' hk2, f1, f2, hbv, hbv', hB, k8, k1, k7, k6]
    | refine Sp2.f ?_ ?_
    | refine Spl.f ?_ ?_ <;> intro hb
    | refine rq_mk rfl (fun b hb => ?_)
    | refine r_draw (U := [[], [], [], [], [], [], [0], [2, 4, 6], []]) (H := [⟨0, [], .hole⟩]) hmix (by kernel_rfl) (by decide +kernel) (by kernel_rfl) ?_
    | refine r_draw (U := [[], [], [0], [1, 2], []]) (H := [⟨0, [], .hole⟩]) hmix (by kernel_rfl) (by decide +kernel) (by kernel_rfl) ?_
    | refine r_draw (U := [[], [], [], [], [], [], [], [], [7], []]) (H := []) hmix (by kernel_rfl) (by decide +kernel) (by kernel_rfl) ?_
    | refine rs_no hu ?_
    | refine k_fn hrd ?_
    | refine k_fn hwr ?_
    | refine k_gtn (c_Glook (s := aged s now) (by omega) (by simp) (show s.Waiters.length ≤ 16 by omega) hrdy gs0) fun h5 w5 p5 => ?_)
            all_goals first
              | exact hu
              | skip
            obtain ⟨bd5, ow5, v4, v5, v6, hk5, q1, q2, q3⟩ := w5
            have e6 := p5.get E6 (fun hj => by have := hj.1; omega)
            have l5 := lt_some hk5
            have l6 := lt_some e6
            repeat' (first
    | simp (implicitDefEqProofs := false) only [push_cast, reduceIte, reduceCtorEq, Nat.reduceAdd, Nat.reduceSub, Nat.reduceEqDiff, Nat.reduceLT, Nat.reduceLeDiff, Nat.reduceBEq, Nat.reduceMul, Int.reduceLT, Int.reduceLE, Int.reduceEq, Int.reduceToNat, Int.reduceMul, Int.reduceNeg, Go.Proofs.Try.f26, hne, e6, hk5, l5, l6, gE, q1.ty sh_27, gv_ty q2 sh_28, q3.ty sh_34, q1.pl, gv_pl q2, q3.pl, eL_wk, ap_lo, st_lo, st_ne, st_eq, len_st, st_st, sst, at_set, at_set0, at_set2, at_set20, sst2, List.replicate_succ, List.drop_zero]
    | refine Sp2.f ?_ ?_
    | refine Spl.f ?_ ?_ <;> intro hb
    | refine rq_mk rfl (fun b hb => ?_)
    | refine r_draw (U := [[], [], [], [], [], [], [0], [2, 4, 6], []]) (H := [⟨0, [], .hole⟩]) hmix (by kernel_rfl) (by decide +kernel) (by kernel_rfl) ?_
    | refine r_draw (U := [[], [], [0], [1, 2], []]) (H := [⟨0, [], .hole⟩]) hmix (by kernel_rfl) (by decide +kernel) (by kernel_rfl) ?_
    | refine r_draw (U := [[], [], [], [], [], [], [], [], [7], []]) (H := []) hmix (by kernel_rfl) (by decide +kernel) (by kernel_rfl) ?_)
            exact do_finG (h := h) q1 q2 q3 hlo (datL_map eR eR_dat _) (fun j hj => hj.elim (fun a => by have := a.1; omega) fun a => by have := a.1; simp only [List.length_append, len_st, List.length_cons, List.length_nil] at this; omega) (h.length + 2) (by omega) e6 rfl ((p5.take (by simp only [List.length_append, len_st]; omega) (fun j hj => by have := hj.1; omega)).trans (by rw [List.take_append_of_le_length (by rw [len_st]; omega), List.take_set_of_le (Nat.le_refl _)]; exact hT)) _
          · have hR : readsK r.Kind = true := by rw [hkd]; kernel_rfl
            have hW : writesK r.Kind = true := by rw [hkd]; kernel_rfl
            rw [hR, hW] at hd
            rw [hR] at hrd
            rw [hW] at hwr
            have hB : (xR == 0) = false := by cases h : (xR == 0) with | false => rfl | true => rw [h] at hd; simp at hd
            have hB2 : (xW == 0) = false := by cases h : (xW == 0) with | false => rfl | true => rw [h] at hd; simp at hd
            have k8 : (r.Kind == 8) = false := by rw [hkd]; rfl
            have k1 : (r.Kind == 1) = false := by rw [hkd]; rfl
            have k7 : (r.Kind == 7) = false := by rw [hkd]; rfl
            have k6 : (r.Kind == 6) = false := by rw [hkd]; rfl
            have e2 : doW (aged s now) r [] = findW (aged s now) r [] (r.Kind == 3 || r.Kind == 5) (r.Kind == 4 || r.Kind == 5) := by
              rw [doW, if_neg (by rw [hnd]; decide), if_neg (by omega), if_neg (by omega), if_neg (by omega), if_neg (by omega), if_pos hkd, hkd]; rfl
            rw [e2]
            repeat' (first
    | simp (implicitDefEqProofs := false) only [push_cast, reduceIte, reduceCtorEq, Nat.reduceAdd, Nat.reduceSub, Nat.reduceEqDiff, Nat.reduceLT, Nat.reduceLeDiff, Nat.reduceBEq, Nat.reduceMul, Int.reduceLT, Int.reduceLE, Int.reduceEq, Int.reduceToNat, Int.reduceMul, Int.reduceNeg, Go.Proofs.Try.f26, sst0, a0, a1, a2, hk0, hk1, hk2, gS1, gq0, gq1, gq2, gq3, gR1, sN, hgL, hr6, hr7, cast4, hvt, hvp, cast_ge hlt, eFs_ty, eFs_pl, eFs_wk, eR_ty, eR_pl, eR_wk, eL_wk, eQ_ty, eQ_pl, eQ_wk, Int.toNat_natCast, List.length_map, ap_lo, st_lo, st_ne, st_eq, len_st, st_st, sst, at_set, at_set0, at_set2, at_set20, sst2, List.replicate_succ, List.drop_zero, ne_hi hk0, ne_hi' hk0, ne_h hk0, ne_h' hk0, ne_hi hk1, ne_hi' hk1, ne_h hk1, ne_h' hk1, ne_hi hk2, ne_hi' hk2, ne_h hk2, ne_h' hk2, f1, f2, hbv, hbv', hB, hbw, hbw', hB2, k8, k1, k7, k6]
    | refine Sp2.f ?_ ?_
    | refine Spl.f ?_ ?_ <;> intro hb
    | refine rq_mk rfl (fun b hb => ?_)
    | refine r_draw (U := [[], [], [], [], [], [], [0], [2, 4, 6], []]) (H := [⟨0, [], .hole⟩]) hmix (by kernel_rfl) (by decide +kernel) (by kernel_rfl) ?_
    | refine r_draw (U := [[], [], [0], [1, 2], []]) (H := [⟨0, [], .hole⟩]) hmix (by kernel_rfl) (by decide +kernel) (by kernel_rfl) ?_
    | refine r_draw (U := [[], [], [], [], [], [], [], [], [7], []]) (H := []) hmix (by kernel_rfl) (by decide +kernel) (by kernel_rfl) ?_
    | refine rs_no hu ?_
    | refine k_fn hrd ?_
    | refine k_fn hwr ?_
    | refine k_gtn (c_Glook (s := aged s now) (by omega) (by simp) (show s.Waiters.length ≤ 16 by omega) hrdy gs0) fun h5 w5 p5 => ?_)
            all_goals first
              | exact hu
              | skip
            obtain ⟨bd5, ow5, v4, v5, v6, hk5, q1, q2, q3⟩ := w5
            have e6 := p5.get E6 (fun hj => by have := hj.1; omega)
            have l5 := lt_some hk5
            have l6 := lt_some e6
            repeat' (first
    | simp (implicitDefEqProofs := false) only [push_cast, reduceIte, reduceCtorEq, Nat.reduceAdd, Nat.reduceSub, Nat.reduceEqDiff, Nat.reduceLT, Nat.reduceLeDiff, Nat.reduceBEq, Nat.reduceMul, Int.reduceLT, Int.reduceLE, Int.reduceEq, Int.reduceToNat, Int.reduceMul, Int.reduceNeg, Go.Proofs.Try.f26, hne, e6, hk5, l5, l6, gE, q1.ty sh_27, gv_ty q2 sh_28, q3.ty sh_34, q1.pl, gv_pl q2, q3.pl, eL_wk, ap_lo, st_lo, st_ne, st_eq, len_st, st_st, sst, at_set, at_set0, at_set2, at_set20, sst2, List.replicate_succ, List.drop_zero]
    | refine Sp2.f ?_ ?_
    | refine Spl.f ?_ ?_ <;> intro hb
    | refine rq_mk rfl (fun b hb => ?_)
    | refine r_draw (U := [[], [], [], [], [], [], [0], [2, 4, 6], []]) (H := [⟨0, [], .hole⟩]) hmix (by kernel_rfl) (by decide +kernel) (by kernel_rfl) ?_
    | refine r_draw (U := [[], [], [0], [1, 2], []]) (H := [⟨0, [], .hole⟩]) hmix (by kernel_rfl) (by decide +kernel) (by kernel_rfl) ?_
    | refine r_draw (U := [[], [], [], [], [], [], [], [], [7], []]) (H := []) hmix (by kernel_rfl) (by decide +kernel) (by kernel_rfl) ?_)
            exact do_finG (h := h) q1 q2 q3 hlo (datL_map eR eR_dat _) (fun j hj => hj.elim (fun a => by have := a.1; omega) fun a => by have := a.1; simp only [List.length_append, len_st, List.length_cons, List.length_nil] at this; omega) (h.length + 2) (by omega) e6 rfl ((p5.take (by simp only [List.length_append, len_st]; omega) (fun j hj => by have := hj.1; omega)).trans (by rw [List.take_append_of_le_length (by rw [len_st]; omega), List.take_set_of_le (Nat.le_refl _)]; exact hT)) _
          · have hR : readsK r.Kind = true := by rw [hkd]; kernel_rfl
            have hW : writesK r.Kind = true := by rw [hkd]; kernel_rfl
            rw [hR, hW] at hd
            rw [hR] at hrd
            rw [hW] at hwr
            have hB : (xR == 0) = false := by cases h : (xR == 0) with | false => rfl | true => rw [h] at hd; simp at hd
            have hB2 : (xW == 0) = false := by cases h : (xW == 0) with | false => rfl | true => rw [h] at hd; simp at hd
            have k8 : (r.Kind == 8) = false := by rw [hkd]; rfl
            have k1 : (r.Kind == 1) = false := by rw [hkd]; rfl
            have k7 : (r.Kind == 7) = false := by rw [hkd]; rfl
            have k6 : (r.Kind == 6) = true := by rw [hkd]; rfl
            by_cases hat : 0 ≤ findS (aged s now) r.P
            · have hge : decide ((0 : Int) ≤ findS (aged s now) r.P) = true := by simpa using hat
              have e2 : doW (aged s now) r [] = (tellS (aged s now) r 3 [], [] ++ [rep r 3 []]) := by rw [do_cas hnd hkd, if_pos hat]; rfl
              rw [e2]
              repeat' (first
    | simp (implicitDefEqProofs := false) only [push_cast, reduceIte, reduceCtorEq, Nat.reduceAdd, Nat.reduceSub, Nat.reduceEqDiff, Nat.reduceLT, Nat.reduceLeDiff, Nat.reduceBEq, Nat.reduceMul, Int.reduceLT, Int.reduceLE, Int.reduceEq, Int.reduceToNat, Int.reduceMul, Int.reduceNeg, Go.Proofs.Try.f26, sst0, a0, a1, a2, hk0, hk1, hk2, gS1, gq0, gq1, gq2, gq3, gR1, sN, hgL, hr6, hr7, cast4, hvt, hvp, cast_ge hlt, eFs_ty, eFs_pl, eFs_wk, eR_ty, eR_pl, eR_wk, eL_wk, eQ_ty, eQ_pl, eQ_wk, Int.toNat_natCast, List.length_map, ap_lo, st_lo, st_ne, st_eq, len_st, st_st, sst, at_set, at_set0, at_set2, at_set20, sst2, List.replicate_succ, List.drop_zero, ne_hi hk0, ne_hi' hk0, ne_h hk0, ne_h' hk0, ne_hi hk1, ne_hi' hk1, ne_h hk1, ne_h' hk1, ne_hi hk2, ne_hi' hk2, ne_h hk2, ne_h' hk2, f1, f2, hbv, hbv', hB, hbw, hbw', hB2, k8, k1, k7, k6, hge]
    | refine Sp2.f ?_ ?_
    | refine Spl.f ?_ ?_ <;> intro hb
    | refine rq_mk rfl (fun b hb => ?_)
    | refine r_draw (U := [[], [], [], [], [], [], [0], [2, 4, 6], []]) (H := [⟨0, [], .hole⟩]) hmix (by kernel_rfl) (by decide +kernel) (by kernel_rfl) ?_
    | refine r_draw (U := [[], [], [0], [1, 2], []]) (H := [⟨0, [], .hole⟩]) hmix (by kernel_rfl) (by decide +kernel) (by kernel_rfl) ?_
    | refine r_draw (U := [[], [], [], [], [], [], [], [], [7], []]) (H := []) hmix (by kernel_rfl) (by decide +kernel) (by kernel_rfl) ?_
    | refine rs_no hu ?_
    | refine k_fn hrd ?_
    | refine k_fn hwr ?_
    | refine k_det hfo ?_
    | refine k_gtn ((c_GtellS 3 [] (by simp) hrdy gs0).n) fun h5 w5 p5 => ?_)
              all_goals first
                | exact hu
                | skip
              obtain ⟨bd5, ow5, v4, v5, v6, hk5, q1, q2, q3⟩ := w5
              have e6 := p5.get E6 (fun hj => by have := hj.1; omega)
              have l5 := lt_some hk5
              have l6 := lt_some e6
              repeat' (first
    | simp (implicitDefEqProofs := false) only [push_cast, reduceIte, reduceCtorEq, Nat.reduceAdd, Nat.reduceSub, Nat.reduceEqDiff, Nat.reduceLT, Nat.reduceLeDiff, Nat.reduceBEq, Nat.reduceMul, Int.reduceLT, Int.reduceLE, Int.reduceEq, Int.reduceToNat, Int.reduceMul, Int.reduceNeg, Go.Proofs.Try.f26, hne, e6, hk5, l5, l6, gE, q1.ty sh_27, gv_ty q2 sh_28, q3.ty sh_34, q1.pl, gv_pl q2, q3.pl, eL_wk, ap_lo, st_lo, st_ne, st_eq, len_st, st_st, sst, at_set, at_set0, at_set2, at_set20, sst2, List.replicate_succ, List.drop_zero]
    | refine Sp2.f ?_ ?_
    | refine Spl.f ?_ ?_ <;> intro hb
    | refine rq_mk rfl (fun b hb => ?_)
    | refine r_draw (U := [[], [], [], [], [], [], [0], [2, 4, 6], []]) (H := [⟨0, [], .hole⟩]) hmix (by kernel_rfl) (by decide +kernel) (by kernel_rfl) ?_
    | refine r_draw (U := [[], [], [0], [1, 2], []]) (H := [⟨0, [], .hole⟩]) hmix (by kernel_rfl) (by decide +kernel) (by kernel_rfl) ?_
    | refine r_draw (U := [[], [], [], [], [], [], [], [], [7], []]) (H := []) hmix (by kernel_rfl) (by decide +kernel) (by kernel_rfl) ?_)
              exact do_finG (h := h) q1 q2 q3 hlo (datL_map eR eR_dat _) (fun j hj => hj.elim (fun a => by have := a.1; omega) fun a => by have := a.1; simp only [List.length_append, len_st, List.length_cons, List.length_nil] at this; omega) (h.length + 2) (by omega) e6 rfl ((p5.take (by simp only [List.length_append, len_st]; omega) (fun j hj => by have := hj.1; omega)).trans (by rw [List.take_append_of_le_length (by rw [len_st]; omega), List.take_set_of_le (Nat.le_refl _)]; exact hT)) _
            · have hge : decide ((0 : Int) ≤ findS (aged s now) r.P) = false := by simpa using hat
              have e2 : doW (aged s now) r [] = bringS (aged s now) r [] := by rw [do_cas hnd hkd, if_neg hat]
              rw [e2]
              repeat' (first
    | simp (implicitDefEqProofs := false) only [push_cast, reduceIte, reduceCtorEq, Nat.reduceAdd, Nat.reduceSub, Nat.reduceEqDiff, Nat.reduceLT, Nat.reduceLeDiff, Nat.reduceBEq, Nat.reduceMul, Int.reduceLT, Int.reduceLE, Int.reduceEq, Int.reduceToNat, Int.reduceMul, Int.reduceNeg, Go.Proofs.Try.f26, sst0, a0, a1, a2, hk0, hk1, hk2, gS1, gq0, gq1, gq2, gq3, gR1, sN, hgL, hr6, hr7, cast4, hvt, hvp, cast_ge hlt, eFs_ty, eFs_pl, eFs_wk, eR_ty, eR_pl, eR_wk, eL_wk, eQ_ty, eQ_pl, eQ_wk, Int.toNat_natCast, List.length_map, ap_lo, st_lo, st_ne, st_eq, len_st, st_st, sst, at_set, at_set0, at_set2, at_set20, sst2, List.replicate_succ, List.drop_zero, ne_hi hk0, ne_hi' hk0, ne_h hk0, ne_h' hk0, ne_hi hk1, ne_hi' hk1, ne_h hk1, ne_h' hk1, ne_hi hk2, ne_hi' hk2, ne_h hk2, ne_h' hk2, f1, f2, hbv, hbv', hB, hbw, hbw', hB2, k8, k1, k7, k6, hge]
    | refine Sp2.f ?_ ?_
    | refine Spl.f ?_ ?_ <;> intro hb
    | refine rq_mk rfl (fun b hb => ?_)
    | refine r_draw (U := [[], [], [], [], [], [], [0], [2, 4, 6], []]) (H := [⟨0, [], .hole⟩]) hmix (by kernel_rfl) (by decide +kernel) (by kernel_rfl) ?_
    | refine r_draw (U := [[], [], [0], [1, 2], []]) (H := [⟨0, [], .hole⟩]) hmix (by kernel_rfl) (by decide +kernel) (by kernel_rfl) ?_
    | refine r_draw (U := [[], [], [], [], [], [], [], [], [7], []]) (H := []) hmix (by kernel_rfl) (by decide +kernel) (by kernel_rfl) ?_
    | refine rs_no hu ?_
    | refine k_fn hrd ?_
    | refine k_fn hwr ?_
    | refine k_det hfo ?_
    | refine k_gtn (c_Gout (by simp) hrdy gs0) fun h5 w5 p5 => ?_)
              all_goals first
                | exact hu
                | skip
              obtain ⟨bd5, ow5, v4, v5, v6, hk5, q1, q2, q3⟩ := w5
              have e6 := p5.get E6 (fun hj => by have := hj.1; omega)
              have l5 := lt_some hk5
              have l6 := lt_some e6
              repeat' (first
    | simp (implicitDefEqProofs := false) only [push_cast, reduceIte, reduceCtorEq, Nat.reduceAdd, Nat.reduceSub, Nat.reduceEqDiff, Nat.reduceLT, Nat.reduceLeDiff, Nat.reduceBEq, Nat.reduceMul, Int.reduceLT, Int.reduceLE, Int.reduceEq, Int.reduceToNat, Int.reduceMul, Int.reduceNeg, Go.Proofs.Try.f26, hne, e6, hk5, l5, l6, gE, q1.ty sh_27, gv_ty q2 sh_28, q3.ty sh_34, q1.pl, gv_pl q2, q3.pl, eL_wk, ap_lo, st_lo, st_ne, st_eq, len_st, st_st, sst, at_set, at_set0, at_set2, at_set20, sst2, List.replicate_succ, List.drop_zero]
    | refine Sp2.f ?_ ?_
    | refine Spl.f ?_ ?_ <;> intro hb
    | refine rq_mk rfl (fun b hb => ?_)
    | refine r_draw (U := [[], [], [], [], [], [], [0], [2, 4, 6], []]) (H := [⟨0, [], .hole⟩]) hmix (by kernel_rfl) (by decide +kernel) (by kernel_rfl) ?_
    | refine r_draw (U := [[], [], [0], [1, 2], []]) (H := [⟨0, [], .hole⟩]) hmix (by kernel_rfl) (by decide +kernel) (by kernel_rfl) ?_
    | refine r_draw (U := [[], [], [], [], [], [], [], [], [7], []]) (H := []) hmix (by kernel_rfl) (by decide +kernel) (by kernel_rfl) ?_)
              exact do_finG (h := h) q1 q2 q3 hlo (datL_map eR eR_dat _) (fun j hj => hj.elim (fun a => by have := a.1; omega) fun a => by have := a.1; simp only [List.length_append, len_st, List.length_cons, List.length_nil] at this; omega) (h.length + 2) (by omega) e6 rfl ((p5.take (by simp only [List.length_append, len_st]; omega) (fun j hj => by have := hj.1; omega)).trans (by rw [List.take_append_of_le_length (by rw [len_st]; omega), List.take_set_of_le (Nat.le_refl _)]; exact hT)) _
          · have hR : readsK r.Kind = true := by rw [hkd]; kernel_rfl
            have hW : writesK r.Kind = true := by rw [hkd]; kernel_rfl
            rw [hR, hW] at hd
            rw [hR] at hrd
            rw [hW] at hwr
            have hB : (xR == 0) = false := by cases h : (xR == 0) with | false => rfl | true => rw [h] at hd; simp at hd
            have hB2 : (xW == 0) = false := by cases h : (xW == 0) with | false => rfl | true => rw [h] at hd; simp at hd
            have k8 : (r.Kind == 8) = false := by rw [hkd]; rfl
            have k1 : (r.Kind == 1) = false := by rw [hkd]; rfl
            have k7 : (r.Kind == 7) = true := by rw [hkd]; rfl
            have k6 : (r.Kind == 6) = false := by rw [hkd]; rfl
            have e2 : doW (aged s now) r [] = turnW (aged s now) r [] := do_replace hnd hkd
            rw [e2]
            repeat' (first
    | simp (implicitDefEqProofs := false) only [push_cast, reduceIte, reduceCtorEq, Nat.reduceAdd, Nat.reduceSub, Nat.reduceEqDiff, Nat.reduceLT, Nat.reduceLeDiff, Nat.reduceBEq, Nat.reduceMul, Int.reduceLT, Int.reduceLE, Int.reduceEq, Int.reduceToNat, Int.reduceMul, Int.reduceNeg, Go.Proofs.Try.f26, sst0, a0, a1, a2, hk0, hk1, hk2, gS1, gq0, gq1, gq2, gq3, gR1, sN, hgL, hr6, hr7, cast4, hvt, hvp, cast_ge hlt, eFs_ty, eFs_pl, eFs_wk, eR_ty, eR_pl, eR_wk, eL_wk, eQ_ty, eQ_pl, eQ_wk, Int.toNat_natCast, List.length_map, ap_lo, st_lo, st_ne, st_eq, len_st, st_st, sst, at_set, at_set0, at_set2, at_set20, sst2, List.replicate_succ, List.drop_zero, ne_hi hk0, ne_hi' hk0, ne_h hk0, ne_h' hk0, ne_hi hk1, ne_hi' hk1, ne_h hk1, ne_h' hk1, ne_hi hk2, ne_hi' hk2, ne_h hk2, ne_h' hk2, f1, f2, hbv, hbv', hB, hbw, hbw', hB2, k8, k1, k7, k6]
    | refine Sp2.f ?_ ?_
    | refine Spl.f ?_ ?_ <;> intro hb
    | refine rq_mk rfl (fun b hb => ?_)
    | refine r_draw (U := [[], [], [], [], [], [], [0], [2, 4, 6], []]) (H := [⟨0, [], .hole⟩]) hmix (by kernel_rfl) (by decide +kernel) (by kernel_rfl) ?_
    | refine r_draw (U := [[], [], [0], [1, 2], []]) (H := [⟨0, [], .hole⟩]) hmix (by kernel_rfl) (by decide +kernel) (by kernel_rfl) ?_
    | refine r_draw (U := [[], [], [], [], [], [], [], [], [7], []]) (H := []) hmix (by kernel_rfl) (by decide +kernel) (by kernel_rfl) ?_
    | refine rs_no hu ?_
    | refine k_fn hrd ?_
    | refine k_fn hwr ?_
    | refine k_gtn (c_Greplace (s := aged s now) (by simp) (show (live now s.Items).length ≤ 64 by have := List.length_filter_le (fun x => !expd now x) s.Items; unfold live; omega) hrdy gs0) fun h5 w5 p5 => ?_)
            all_goals first
              | exact hu
              | skip
            obtain ⟨bd5, ow5, v4, v5, v6, hk5, q1, q2, q3⟩ := w5
            have e6 := p5.get E6 (fun hj => by have := hj.1; omega)
            have l5 := lt_some hk5
            have l6 := lt_some e6
            repeat' (first
    | simp (implicitDefEqProofs := false) only [push_cast, reduceIte, reduceCtorEq, Nat.reduceAdd, Nat.reduceSub, Nat.reduceEqDiff, Nat.reduceLT, Nat.reduceLeDiff, Nat.reduceBEq, Nat.reduceMul, Int.reduceLT, Int.reduceLE, Int.reduceEq, Int.reduceToNat, Int.reduceMul, Int.reduceNeg, Go.Proofs.Try.f26, hne, e6, hk5, l5, l6, gE, q1.ty sh_27, gv_ty q2 sh_28, q3.ty sh_34, q1.pl, gv_pl q2, q3.pl, eL_wk, ap_lo, st_lo, st_ne, st_eq, len_st, st_st, sst, at_set, at_set0, at_set2, at_set20, sst2, List.replicate_succ, List.drop_zero]
    | refine Sp2.f ?_ ?_
    | refine Spl.f ?_ ?_ <;> intro hb
    | refine rq_mk rfl (fun b hb => ?_)
    | refine r_draw (U := [[], [], [], [], [], [], [0], [2, 4, 6], []]) (H := [⟨0, [], .hole⟩]) hmix (by kernel_rfl) (by decide +kernel) (by kernel_rfl) ?_
    | refine r_draw (U := [[], [], [0], [1, 2], []]) (H := [⟨0, [], .hole⟩]) hmix (by kernel_rfl) (by decide +kernel) (by kernel_rfl) ?_
    | refine r_draw (U := [[], [], [], [], [], [], [], [], [7], []]) (H := []) hmix (by kernel_rfl) (by decide +kernel) (by kernel_rfl) ?_)
            exact do_finG (h := h) q1 q2 q3 hlo (datL_map eR eR_dat _) (fun j hj => hj.elim (fun a => by have := a.1; omega) fun a => by have := a.1; simp only [List.length_append, len_st, List.length_cons, List.length_nil] at this; omega) (h.length + 2) (by omega) e6 rfl ((p5.take (by simp only [List.length_append, len_st]; omega) (fun j hj => by have := hj.1; omega)).trans (by rw [List.take_append_of_le_length (by rw [len_st]; omega), List.take_set_of_le (Nat.le_refl _)]; exact hT)) _
          · have hR : readsK r.Kind = false := by rw [hkd]; kernel_rfl
            have hW : writesK r.Kind = false := by rw [hkd]; kernel_rfl
            rw [hR, hW] at hd
            rw [hR] at hrd
            rw [hW] at hwr
            have k8 : (r.Kind == 8) = true := by rw [hkd]; rfl
            have k1 : (r.Kind == 1) = false := by rw [hkd]; rfl
            have k7 : (r.Kind == 7) = false := by rw [hkd]; rfl
            have k6 : (r.Kind == 6) = false := by rw [hkd]; rfl
            have e2 : doW (aged s now) r [] = (tellS (aged s now) r 1 [], [] ++ [rep r 1 []]) := by rw [doW, if_neg (by rw [hnd]; decide), if_neg (by omega), if_neg (by omega), if_neg (by omega), if_neg (by omega), if_neg (by omega), if_neg (by omega), if_neg (by omega)]
            rw [e2]
            repeat' (first
    | simp (implicitDefEqProofs := false) only [push_cast, reduceIte, reduceCtorEq, Nat.reduceAdd, Nat.reduceSub, Nat.reduceEqDiff, Nat.reduceLT, Nat.reduceLeDiff, Nat.reduceBEq, Nat.reduceMul, Int.reduceLT, Int.reduceLE, Int.reduceEq, Int.reduceToNat, Int.reduceMul, Int.reduceNeg, Go.Proofs.Try.f26, sst0, a0, a1, a2, hk0, hk1, hk2, gS1, gq0, gq1, gq2, gq3, gR1, sN, hgL, hr6, hr7, cast4, hvt, hvp, cast_ge hlt, eFs_ty, eFs_pl, eFs_wk, eR_ty, eR_pl, eR_wk, eL_wk, eQ_ty, eQ_pl, eQ_wk, Int.toNat_natCast, List.length_map, ap_lo, st_lo, st_ne, st_eq, len_st, st_st, sst, at_set, at_set0, at_set2, at_set20, sst2, List.replicate_succ, List.drop_zero, ne_hi hk0, ne_hi' hk0, ne_h hk0, ne_h' hk0, ne_hi hk1, ne_hi' hk1, ne_h hk1, ne_h' hk1, ne_hi hk2, ne_hi' hk2, ne_h hk2, ne_h' hk2, f1, f2, k8, k1, k7, k6]
    | refine Sp2.f ?_ ?_
    | refine Spl.f ?_ ?_ <;> intro hb
    | refine rq_mk rfl (fun b hb => ?_)
    | refine r_draw (U := [[], [], [], [], [], [], [0], [2, 4, 6], []]) (H := [⟨0, [], .hole⟩]) hmix (by kernel_rfl) (by decide +kernel) (by kernel_rfl) ?_
    | refine r_draw (U := [[], [], [0], [1, 2], []]) (H := [⟨0, [], .hole⟩]) hmix (by kernel_rfl) (by decide +kernel) (by kernel_rfl) ?_
    | refine r_draw (U := [[], [], [], [], [], [], [], [], [7], []]) (H := []) hmix (by kernel_rfl) (by decide +kernel) (by kernel_rfl) ?_
    | refine rs_no hu ?_
    | refine k_fn hrd ?_
    | refine k_fn hwr ?_
    | refine k_gtn ((c_GtellS 1 [] (by simp) hrdy gs0).n) fun h5 w5 p5 => ?_)
            all_goals first
              | exact hu
              | skip
            obtain ⟨bd5, ow5, v4, v5, v6, hk5, q1, q2, q3⟩ := w5
            have e6 := p5.get E6 (fun hj => by have := hj.1; omega)
            have l5 := lt_some hk5
            have l6 := lt_some e6
            repeat' (first
    | simp (implicitDefEqProofs := false) only [push_cast, reduceIte, reduceCtorEq, Nat.reduceAdd, Nat.reduceSub, Nat.reduceEqDiff, Nat.reduceLT, Nat.reduceLeDiff, Nat.reduceBEq, Nat.reduceMul, Int.reduceLT, Int.reduceLE, Int.reduceEq, Int.reduceToNat, Int.reduceMul, Int.reduceNeg, Go.Proofs.Try.f26, hne, e6, hk5, l5, l6, gE, q1.ty sh_27, gv_ty q2 sh_28, q3.ty sh_34, q1.pl, gv_pl q2, q3.pl, eL_wk, ap_lo, st_lo, st_ne, st_eq, len_st, st_st, sst, at_set, at_set0, at_set2, at_set20, sst2, List.replicate_succ, List.drop_zero]
    | refine Sp2.f ?_ ?_
    | refine Spl.f ?_ ?_ <;> intro hb
    | refine rq_mk rfl (fun b hb => ?_)
    | refine r_draw (U := [[], [], [], [], [], [], [0], [2, 4, 6], []]) (H := [⟨0, [], .hole⟩]) hmix (by kernel_rfl) (by decide +kernel) (by kernel_rfl) ?_
    | refine r_draw (U := [[], [], [0], [1, 2], []]) (H := [⟨0, [], .hole⟩]) hmix (by kernel_rfl) (by decide +kernel) (by kernel_rfl) ?_
    | refine r_draw (U := [[], [], [], [], [], [], [], [], [7], []]) (H := []) hmix (by kernel_rfl) (by decide +kernel) (by kernel_rfl) ?_)
            exact do_finG (h := h) q1 q2 q3 hlo (datL_map eR eR_dat _) (fun j hj => hj.elim (fun a => by have := a.1; omega) fun a => by have := a.1; simp only [List.length_append, len_st, List.length_cons, List.length_nil] at this; omega) (h.length + 2) (by omega) e6 rfl ((p5.take (by simp only [List.length_append, len_st]; omega) (fun j hj => by have := hj.1; omega)).trans (by rw [List.take_append_of_le_length (by rw [len_st]; omega), List.take_set_of_le (Nat.le_refl _)]; exact hT)) _
  · have e : doS s now r = (s, []) := by rw [doS, if_neg hok]
    rw [e]
    have hok : doOK s now r = false := by simpa using hok
    have hcs : mayS s = false ∨ (mayS s = true ∧ mayQ r = false) ∨ (mayS s = true ∧ mayQ r = true ∧ decide (now < s.Now) = true) ∨ (mayS s = true ∧ mayQ r = true ∧ decide (now < s.Now) = false ∧ decide (1099511627776 < now) = true) := by
      simp only [doOK] at hok
      cases h1 : mayS s <;> cases h2 : mayQ r <;> simp_all
      omega
    rcases hcs with m1 | ⟨m1, m2⟩ | ⟨m1, m2, m3⟩ | ⟨m1, m2, m3, m4⟩
    all_goals
      have hp1 := m1
      repeat' (first
    | simp (implicitDefEqProofs := false) only [push_cast, reduceIte, reduceCtorEq, Nat.reduceAdd, Nat.reduceSub, Nat.reduceEqDiff, Nat.reduceLT, Nat.reduceLeDiff, Nat.reduceBEq, Nat.reduceMul, Int.reduceLT, Int.reduceLE, Int.reduceEq, Int.reduceToNat, Int.reduceMul, Int.reduceNeg, Go.Proofs.Try.f26, *, eS_ty, eS_pl, eS_wk, eQ_ty, eQ_pl, eQ_wk, ap_lo, st_lo, st_ne, st_eq, len_st, st_st, sst, at_set, at_set0, at_set2, at_set20, sst2, List.replicate_succ, List.drop_zero]
    | refine Sp2.f ?_ ?_
    | refine Spl.f ?_ ?_ <;> intro hb
    | refine rq_mk rfl (fun b hb => ?_)
    | refine r_draw (U := [[], [], [], [], [], [], [0], [2, 4, 6], []]) (H := [⟨0, [], .hole⟩]) hmix (by kernel_rfl) (by decide +kernel) (by kernel_rfl) ?_
    | refine r_draw (U := [[], [], [0], [1, 2], []]) (H := [⟨0, [], .hole⟩]) hmix (by kernel_rfl) (by decide +kernel) (by kernel_rfl) ?_
    | refine r_draw (U := [[], [], [], [], [], [], [], [], [7], []]) (H := []) hmix (by kernel_rfl) (by decide +kernel) (by kernel_rfl) ?_
    | refine k_fn hms ?_
    | refine k_fn hmq ?_)
      refine ⟨[eS s, .nils], rfl, ?_, ?_⟩
      · simp only [rzL, dat_rz _ (eS_dat s), rz, belowL, dat_below _ (eS_dat s), below, Bool.and_self]
      · simp only [rzL, dat_rz _ (eS_dat s), rz]
        exact ⟨_, rfl, ⟨eS_ty s, by rw [ty_nils, sh_34]; rfl, trivial⟩, by simp only [wkrs, eS_wkr, wkr_nils, wk_nils, sh_34, wkNil_slice]; rfl⟩

end Go.Abs
