/- Dz: a part of the proofs about the tuple space (layer 8). -/
import Derived.Test.YtelohjfiojpeeaaDl
set_option linter.all false
set_option maxRecDepth 100000
set_option maxHeartbeats 0
namespace Go.Abs
open Go
open Go.Proofs.Try (prog)
/-! ### space.Do -/
def doOK (s : Spc) (now : Int) (r : Req) : Bool := mayS s && mayQ r && decide (s.Now ≤ now) && decide (now ≤ 1099511627776)
def aged (s : Spc) (now : Int) : Spc := { s with Now := now, Items := live now s.Items }
def doS (s : Spc) (now : Int) (r : Req) : Spc × List Rpl :=
  if doOK s now r = true then
    (if r.Seq < (lastOf s r.Client.toNat).Seq then (aged s now, [⟨r.Client, r.Seq, 7, [], false⟩])
     else if r.Seq = (lastOf s r.Client.toNat).Seq then (aged s now, [lastOf s r.Client.toNat])
     else doW (aged s now) r [])
  else (s, [])
def ResDo (s : Spc) (l : List Rpl) (r : AV) : Prop := ∃ v, r = .tup v ∧ argsOK prog [33, 34] v ∧ wks prog [33, 34] v = [eS s, eRs l]
theorem grow_after {H h1 : List Entry} {j : Nat} (hj : grow (fun _ => False) H h1 j) : H.length ≤ j := hj.elim False.elim And.left
theorem up1 {H h1 h2 : List Entry} {n m : Nat} (hH : n ≤ H.length) (h12 : h1.length ≤ h2.length) (hm : h2.length ≤ m) (hH1 : H.length ≤ h1.length) : ∀ j, grow (grow (fun _ => False) H h1) h1 h2 j → n ≤ j ∧ j < m := by
  rintro j ((h | ⟨a, b⟩) | ⟨a, b⟩)
  · exact h.elim
  · omega
  · omega
theorem up2 {H h3 : List Entry} {n m : Nat} (hH : n ≤ H.length) (hm : h3.length ≤ m) : ∀ j, grow (fun _ => False) H h3 j → n ≤ j ∧ j < m := by
  rintro j (h | ⟨a, b⟩)
  · exact h.elim
  · omega
/-- what is handed out at the end -/
theorem do_fin {X : Nat → Prop} {h h5 : List Entry} {s' : Spc} {out' : List Rpl} {vi vw vo : AV} {e : Entry} (v1 : View X h5 74 vi (s'.Items.map eI)) (v2 : View X h5 50 vw (s'.Waiters.map eW)) (v3 : View X h5 30 vo (out'.map eR))
    (hX : ∀ j, X j → h.length ≤ j) (k : Nat) (hk : h.length ≤ k) (e3 : h5[k]? = some e) (he : e.T = 33) (hh : h5.take h.length = h) (E : Entry) :
    (h5.set k E).take h.length = h ∧ ∃ l, AV.tup [.agg 33 [.int .i64 s'.Now, vi, vw, .int .i64 s'.Read, .int .i64 s'.Write, eL s'.Last], vo] = .tup l ∧ belowL h.length (rzL (h5.set k E) h.length l) = true ∧ ResDo s' out' (.tup (rzL (h5.set k E) h.length l)) := by
  have sI : e.T ≠ 74 := by rw [he]; decide
  have sW : e.T ≠ 50 := by rw [he]; decide
  have sR : e.T ≠ 30 := by rw [he]; decide
  have dI := datL_map eI eI_dat s'.Items
  have dW := datL_map eW eW_dat s'.Waiters
  have dR := datL_map eR eR_dat out'
  refine ⟨by rw [List.take_set_of_le hk]; exact hh, _, rfl, ?_⟩
  have t1 := (v1.set e3 sI E).rz hX dI
  have t2 := (v2.set e3 sW E).rz hX dW
  have t3 := (v3.set e3 sR E).rz hX dR
  simp only [rzL, rz, dat_rz _ (eL_dat _)]
  have bI := datL_below (n := h.length) _ dI
  have bW := datL_below (n := h.length) _ dW
  have bR := datL_below (n := h.length) _ dR
  have f1 : below h.length (rz (h5.set k E) h.length vi) = true ∧ tyB prog (rz (h5.set k E) h.length vi) 27 = true ∧ ∀ n, wk prog (n + 1) 27 (rz (h5.set k E) h.length vi) = eIs s'.Items := by
    rcases t1 with t | ⟨e', t⟩ <;> rw [t]
    · exact ⟨by simp only [below]; exact bI, by rw [ty_list, sh_27]; simp, fun n => by rw [wk_list]; rfl⟩
    · exact ⟨rfl, by rw [ty_nils, sh_27]; rfl, fun n => by rw [wk_nils, sh_27, wkNil_slice, eIs, e']⟩
  have f2 : below h.length (rz (h5.set k E) h.length vw) = true ∧ tyB prog (rz (h5.set k E) h.length vw) 28 = true ∧ ∀ n, wk prog (n + 1) 28 (rz (h5.set k E) h.length vw) = eWs s'.Waiters := by
    rcases t2 with t | ⟨e', t⟩ <;> rw [t]
    · exact ⟨by simp only [below]; exact bW, by rw [ty_list, sh_28]; simp, fun n => by rw [wk_list]; rfl⟩
    · exact ⟨rfl, by rw [ty_nils, sh_28]; rfl, fun n => by rw [wk_nils, sh_28, wkNil_slice, eWs, e']⟩
  have f3 : below h.length (rz (h5.set k E) h.length vo) = true ∧ tyB prog (rz (h5.set k E) h.length vo) 34 = true ∧ ∀ n, wk prog (n + 1) 34 (rz (h5.set k E) h.length vo) = eRs out' := by
    rcases t3 with t | ⟨e', t⟩ <;> rw [t]
    · exact ⟨by simp only [below]; exact bR, by rw [ty_list, sh_34]; simp, fun n => by rw [wk_list]; rfl⟩
    · exact ⟨rfl, by rw [ty_nils, sh_34]; rfl, fun n => by rw [wk_nils, sh_34, wkNil_slice, eRs, e']⟩
  refine ⟨by simp only [belowL, below, f1.1, f2.1, f3.1, dat_below _ (eL_dat _), Bool.and_self], _, rfl, ⟨by rw [ty_agg]; rfl, f3.2.1, trivial⟩, ?_⟩
  simp only [wks, wk_aggE, wkAgg_struct, wk_int, sh_33, fl_33, List.zipWith_cons_cons, List.zipWith_nil_left, if_true, f1.2.2, f2.2.2, f3.2.2, eL_wk]
  rfl
theorem sst0 {h l : List Entry} {k : Nat} {e e' : Entry} : (h.set k e ++ l).set h.length e' = h.set k e ++ l.set 0 e' := by
  have := set_at0 (h.set k e) l e'
  simpa using this
theorem mayS_parts {s : Spc} (h : mayS s = true) : mayH s = true ∧ (∀ x ∈ s.Items, mayI x s.Now = true) ∧ (∀ x ∈ s.Waiters, mayW x = true) ∧ all2 mayL s.Last [0, 1, 2, 3] = true := by
  simp only [mayS, Bool.and_eq_true, List.all_eq_true] at h
  exact ⟨h.1.1.1.1, h.1.1.1.2, h.1.2, h.2⟩
theorem mayS_rdy {s : Spc} {now : Int} {r : Req} (hs : s.Small) (hr : r.Small) (h : doOK s now r = true) : Rdy (aged s now) r [] := by
  simp only [doOK, Bool.and_eq_true, decide_eq_true_eq] at h
  obtain ⟨⟨⟨h1, h2⟩, h3⟩, h4⟩ := h
  obtain ⟨g1, g2, g3, g4⟩ := mayS_parts h1
  simp only [mayH, Bool.and_eq_true, decide_eq_true_eq] at g1
  have hq : clientOK r.Client = true ∧ r.Lease ≤ 1099511627776 := by
    simp only [mayQ, Bool.and_eq_true, decide_eq_true_eq] at h2
    obtain ⟨k1, k2, _⟩ := h2
    refine ⟨by simp only [clientOK, Bool.and_eq_true, decide_eq_true_eq]; omega, ?_⟩
    split at k2
    · simp only [Bool.and_eq_true, decide_eq_true_eq] at k2; omega
    · simp only [Bool.and_eq_true, decide_eq_true_eq] at k2; omega
  refine ⟨hs.four, ?_, ?_, by simp, ?_, ?_, ⟨by show 0 ≤ now; omega, h4⟩, hq.1, hr.T, hr.P, hq.2⟩
  · show s.Waiters.length ≤ 1000; omega
  · show (live now s.Items).length ≤ 1000
    have := List.length_filter_le (fun x => !expd now x) s.Items
    unfold live; omega
  · intro x hx
    have := g3 x hx
    simp only [mayW, Bool.and_eq_true] at this
    exact ⟨this.1.1.1, hs.waiters.2 x hx⟩
  · intro x hx
    exact hs.items.2 x ((List.mem_filter.1 hx).1)
theorem c_Do (s : Spc) (now : Int) (r : Req) (hs : s.Small) (hr : r.Small) : Fn prog 16 [eS s, .int .i64 now, eQ r] (.tup [eS (doS s now r).1, eRs (doS s now r).2]) := by
  refine pure_wk_tup (R := ResDo (doS s now r).1 (doS s now r).2) [33, 34] (fn_tup wfp fun h => ?_) fun r' hr' => hr'
  refine frun_16 rfl ?_
  by_cases hok : doOK s now r = true
  · have hrdy := mayS_rdy hs hr hok
    have hparts := hok
    simp only [doOK, Bool.and_eq_true, decide_eq_true_eq] at hparts
    obtain ⟨⟨⟨m1, m2⟩, m3⟩, m4⟩ := hparts
    have m3 : decide (now < s.Now) = false := by simpa using m3
    have m4 : decide (1099511627776 < now) = false := by simpa using m4
    obtain ⟨c, hc, hc4⟩ := nat_client hrdy.rc
    have hct : r.Client.toNat = c := by rw [hc]; rfl
    have hil : (s.Items.map eI).length ≤ 4294967296 := by simpa using hs.items.1
    have hwl : (s.Waiters.map eW).length ≤ 4294967296 := by simpa using hs.waiters.1
    have tI : 71 ≠ 74 := by decide
    have tW : 71 ≠ 50 := by decide
    have tR : 71 ≠ 30 := by decide
    have sI : 33 ≠ 74 := by decide
    have sW : 33 ≠ 50 := by decide
    have sR : 33 ≠ 30 := by decide
    repeat' (first
    | simp (implicitDefEqProofs := false) only [push_cast, reduceIte, reduceCtorEq, Nat.reduceAdd, Nat.reduceSub, Nat.reduceEqDiff, Nat.reduceLT, Nat.reduceLeDiff, Nat.reduceBEq, Nat.reduceMul, Int.reduceLT, Int.reduceLE, Int.reduceEq, Int.reduceToNat, Int.reduceMul, Int.reduceNeg, Go.Proofs.Try.f16, m1, m2, m3, m4, eS, eIs, eWs, eQ, eFs, eL_wk, ap_lo, st_lo, st_ne, st_eq, len_st, st_st, sst, at_set, at_set0, at_set2, at_set20, sst2, List.replicate_succ, List.drop_zero]
    | refine Sp2.f ?_ ?_
    | refine Spl.f ?_ ?_ <;> intro hb
    | refine rq_mk rfl (fun b hb => ?_)
    | refine r_draw (U := [[], [], [], [], [], [], [], [], [2, 7], []]) (H := [⟨0, [], .hole⟩]) hmix (by kernel_rfl) (by decide +kernel) (by kernel_rfl) ?_
    | refine r_draw (U := [[], [], [], [], [], [], [], [], [7], []]) (H := []) hmix (by kernel_rfl) (by decide +kernel) (by kernel_rfl) ?_
    | refine k_fn (c_sMay s hs) ?_
    | refine k_fn (c_operMay r hr) ?_)
    refine k_spec (c_CloneO_Item _ _ hil) fun v1 h1 ⟨kp1, vw1⟩ => ?_
    have a0 := kp1.get (get_at0 h _) id
    have a1 := kp1.get (get_at h _ 1) id
    have a2 := kp1.get (get_at h _ 2) id
    have a3 := kp1.get (get_at h _ 3) id
    have a4 := kp1.get (get_at h _ 4) id
    have at1 := vw1.ty sh_27
    have ap1 := vw1.pl
    have l1 : h.length + 4 < h1.length := lt_some a4
    repeat' (first
    | simp (implicitDefEqProofs := false) only [push_cast, reduceIte, reduceCtorEq, Nat.reduceAdd, Nat.reduceSub, Nat.reduceEqDiff, Nat.reduceLT, Nat.reduceLeDiff, Nat.reduceBEq, Nat.reduceMul, Int.reduceLT, Int.reduceLE, Int.reduceEq, Int.reduceToNat, Int.reduceMul, Int.reduceNeg, Go.Proofs.Try.f16, a0, a1, a2, a3, a4, at1, ap1, ap_lo, st_lo, st_ne, st_eq, len_st, st_st, sst, at_set, at_set0, at_set2, at_set20, sst2, List.replicate_succ, List.drop_zero]
    | refine Sp2.f ?_ ?_
    | refine Spl.f ?_ ?_ <;> intro hb
    | refine rq_mk rfl (fun b hb => ?_)
    | refine r_draw (U := [[], [], [], [], [], [], [], [], [2, 7], []]) (H := [⟨0, [], .hole⟩]) hmix (by kernel_rfl) (by decide +kernel) (by kernel_rfl) ?_
    | refine r_draw (U := [[], [], [], [], [], [], [], [], [7], []]) (H := []) hmix (by kernel_rfl) (by decide +kernel) (by kernel_rfl) ?_)
    refine k_raw (c_DeleteFunc (kn := h.length + 1) (now := now) hs.items.1 vw1 (grow_bd (fun j hj => hj.elim) kp1.len) a1 (fun hj => by have := grow_after hj; simp only [List.length_append, List.length_cons, List.length_nil] at this; omega)) fun v2 h2 ⟨kp2, vw2⟩ => ?_
    have c0 := kp2.get a0 (fun hj => by have := grow_after hj; simp only [List.length_append, List.length_cons, List.length_nil] at this; omega)
    have c2 := kp2.get a2 (fun hj => by have := grow_after hj; simp only [List.length_append, List.length_cons, List.length_nil] at this; omega)
    have c3 := kp2.get a3 (fun hj => by have := grow_after hj; simp only [List.length_append, List.length_cons, List.length_nil] at this; omega)
    have c4 := kp2.get a4 (fun hj => by have := grow_after hj; simp only [List.length_append, List.length_cons, List.length_nil] at this; omega)
    have l2 : h.length + 4 < h2.length := lt_some c4
    have at2 := vw2.ty sh_27
    have ap2 := vw2.pl
    repeat' (first
    | simp (implicitDefEqProofs := false) only [push_cast, reduceIte, reduceCtorEq, Nat.reduceAdd, Nat.reduceSub, Nat.reduceEqDiff, Nat.reduceLT, Nat.reduceLeDiff, Nat.reduceBEq, Nat.reduceMul, Int.reduceLT, Int.reduceLE, Int.reduceEq, Int.reduceToNat, Int.reduceMul, Int.reduceNeg, Go.Proofs.Try.f16, c0, c2, c3, c4, l2, at2, ap2, ap_lo, st_lo, st_ne, st_eq, len_st, st_st, sst, at_set, at_set0, at_set2, at_set20, sst2, List.replicate_succ, List.drop_zero]
    | refine Sp2.f ?_ ?_
    | refine Spl.f ?_ ?_ <;> intro hb
    | refine rq_mk rfl (fun b hb => ?_)
    | refine r_draw (U := [[], [], [], [], [], [], [], [], [2, 7], []]) (H := [⟨0, [], .hole⟩]) hmix (by kernel_rfl) (by decide +kernel) (by kernel_rfl) ?_
    | refine r_draw (U := [[], [], [], [], [], [], [], [], [7], []]) (H := []) hmix (by kernel_rfl) (by decide +kernel) (by kernel_rfl) ?_)
    refine k_spec (c_CloneO_Waiter _ _ hwl) fun v3 h3 ⟨kp3, vw3⟩ => ?_
    have l3' := kp3.len
    simp only [len_st] at l3'
    have gg : ∀ {j : Nat} {e : Entry}, j ≠ h.length + 4 → h2[j]? = some e → h3[j]? = some e := fun hj he => kp3.get ((st_ne (Ne.symm hj)).trans he) id
    have d0 := gg (by omega) c0
    have d2 := gg (by omega) c2
    have d3 := gg (by omega) c3
    have d4 := kp3.get (st_eq l2) id
    have l3 : h.length + 4 < h3.length := lt_some d4
    have at3 := vw3.ty sh_28
    have ap3 := vw3.pl
    have vi3 : View (grow (grow (fun _ => False) _ h1) h1 h2) h3 74 v2 ((live now s.Items).map eI) := vw2.mono (fun _ h => h) fun j es _ hj => gg (by rintro rfl; rw [c4] at hj; cases hj) hj
    have hy : s.Last[c]? = some (lastOf s c) := by
      have : c < s.Last.length := by rw [hs.four]; exact hc4
      simp [lastOf, List.getD_eq_getElem?_getD, List.getElem?_eq_getElem this]
    have hgy : (s.Last.map eR)[c]? = some (eR (lastOf s c)) := by rw [List.getElem?_map, hy]; rfl
    have hr4 : (0 ≤ (c : Int) ∧ (c : Int) < ((4 : Nat) : Int)) = True := by simp; omega
    have hr5 : (0 ≤ (c : Int) ∧ (c : Int) < 4) = True := by simp; omega
    have hH0 := kp1.len
    simp only [List.length_append, List.length_cons, List.length_nil] at hH0
    have kl2 := kp2.len
    have ws5 : WS (fun j => h.length + 4 ≤ j ∧ j < h3.length) (h.length + 4) (aged s now) r [] (h3.set (h.length + 4) (wkE (aged s now) r v2 v3 .nils) ++ [⟨30, [eR (lastOf s c)], .own⟩]) :=
      ⟨fun j hj => by have := hj.2; simp; omega, ⟨Nat.le_refl _, l3⟩, v2, v3, .nils, by rw [ap_lo (by simpa using l3), st_eq l3], ((vi3.up (up1 (by simp only [List.length_append, List.length_cons, List.length_nil]; omega) kl2 l3' kp1.len)).set d4 tI _).app _, ((vw3.up (up2 (by simp only [len_st]; omega) (Nat.le_refl _))).set d4 tW _).app _, .nil⟩
    have t1 : h1.take h.length = h := (kp1.take (by simp) (fun j hj => hj.elim)).trans (by simp)
    have t2 : h2.take h.length = h := (kp2.take (by omega) (fun j hj => by have := grow_after hj; simp only [List.length_append, List.length_cons, List.length_nil] at this; omega)).trans t1
    have t3 : h3.take h.length = h := (kp3.take (by rw [len_st]; omega) (fun j hj => hj.elim)).trans (by rw [List.take_set_of_le (by omega)]; exact t2)
    have hgL : getP (eL s.Last) [r.Client.toNat] = some (eR (lastOf s c)) := by rw [hct]; simp only [eL, getP, hgy]
    have hr6 : (0 ≤ r.Client ∧ r.Client < ((4 : Nat) : Int)) = True := by rw [hc]; exact hr4
    have hr7 : (0 ≤ r.Client ∧ r.Client < 4) = True := by rw [hc]; exact hr5
    have n2 : h.length + 2 < h3.length := by omega
    have n3 : h.length + 3 < h3.length := by omega
    have n0 : h.length < h3.length := by omega
    have E3 : (h3.set (h.length + 4) (wkE (aged s now) r v2 v3 .nils) ++ [⟨30, [eR (lastOf s c)], .own⟩])[h.length + 3]? = some ⟨33, [zeroAV prog 33], .own⟩ := by rw [ap_lo (by simpa using n3), st_ne (by omega), za_33]; exact d3
    have hw16 : (aged s now).Waiters.length < 1000 := by have := (mayS_parts m1).1; simp only [mayH, Bool.and_eq_true, decide_eq_true_eq] at this; show s.Waiters.length < 1000; omega
    have hyT : (lastOf s c).T.length ≤ 4294967296 := hs.last.2 _ (List.mem_of_getElem? hy)
    clear kp1 kp2 kp3 vw1 vw2 vw3 a0 a1 a2 a3 a4 c0 c2 c3 c4
    rcases Int.lt_trichotomy r.Seq (lastOf s c).Seq with hA | hA | hA
    · have f1 : decide (r.Seq < (lastOf s c).Seq) = true := by simpa using hA
      have e : doS s now r = (aged s now, [⟨r.Client, r.Seq, 7, [], false⟩]) := by rw [doS, if_pos hok, hct, if_pos hA]
      rw [e]
      repeat' (first
    | simp (implicitDefEqProofs := false) only [push_cast, reduceIte, reduceCtorEq, Nat.reduceAdd, Nat.reduceSub, Nat.reduceEqDiff, Nat.reduceLT, Nat.reduceLeDiff, Nat.reduceBEq, Nat.reduceMul, Int.reduceLT, Int.reduceLE, Int.reduceEq, Int.reduceToNat, Int.reduceMul, Int.reduceNeg, Go.Proofs.Try.f16, d0, d2, d3, d4, l3, n2, n3, n0, at2, ap2, at3, ap3, hgL, sst0, ne_hi l3, ne_hi' l3, ne_h l3, ne_h' l3, ne_hi n2, ne_hi' n2, ne_h n2, ne_h' n2, ne_hi n3, ne_hi' n3, ne_h n3, ne_h' n3, ne_hi n0, ne_hi' n0, ne_h n0, ne_h' n0, hr6, hr7, cast4, Int.toNat_natCast, eR, eFs, eS, eQ, f1, ap_lo, st_lo, st_ne, st_eq, len_st, st_st, sst, at_set, at_set0, at_set2, at_set20, sst2, List.replicate_succ, List.drop_zero]
    | refine Sp2.f ?_ ?_
    | refine Spl.f ?_ ?_ <;> intro hb
    | refine rq_mk rfl (fun b hb => ?_)
    | refine r_draw (U := [[], [], [], [], [], [], [], [], [2, 7], []]) (H := [⟨0, [], .hole⟩]) hmix (by kernel_rfl) (by decide +kernel) (by kernel_rfl) ?_
    | refine r_draw (U := [[], [], [], [], [], [], [], [], [7], []]) (H := []) hmix (by kernel_rfl) (by decide +kernel) (by kernel_rfl) ?_
    | refine k_mtn ((c_say ⟨r.Client, r.Seq, 7, [], false⟩ (by simp) (by simp) ws5).n) fun h5 w5 p5 => ?_)
      obtain ⟨bd5, ow5, v4, v5, v6, hk5, q1, q2, q3⟩ := w5
      have e3 := p5.get E3 (fun hj => by have := hj.1; omega)
      have l5 := lt_some hk5
      have l53 := lt_some e3
      repeat' (first
    | simp (implicitDefEqProofs := false) only [push_cast, reduceIte, reduceCtorEq, Nat.reduceAdd, Nat.reduceSub, Nat.reduceEqDiff, Nat.reduceLT, Nat.reduceLeDiff, Nat.reduceBEq, Nat.reduceMul, Int.reduceLT, Int.reduceLE, Int.reduceEq, Int.reduceToNat, Int.reduceMul, Int.reduceNeg, Go.Proofs.Try.f16, e3, hk5, l5, l53, wkE, q1.ty sh_27, q2.ty sh_28, q3.ty sh_34, q1.pl, q2.pl, q3.pl, eL_wk, ap_lo, st_lo, st_ne, st_eq, len_st, st_st, sst, at_set, at_set0, at_set2, at_set20, sst2, List.replicate_succ, List.drop_zero]
    | refine Sp2.f ?_ ?_
    | refine Spl.f ?_ ?_ <;> intro hb
    | refine rq_mk rfl (fun b hb => ?_)
    | refine r_draw (U := [[], [], [], [], [], [], [], [], [2, 7], []]) (H := [⟨0, [], .hole⟩]) hmix (by kernel_rfl) (by decide +kernel) (by kernel_rfl) ?_
    | refine r_draw (U := [[], [], [], [], [], [], [], [], [7], []]) (H := []) hmix (by kernel_rfl) (by decide +kernel) (by kernel_rfl) ?_)
      exact do_fin q1 q2 q3 (fun j hj => hj.elim (fun a => by have := a.1; omega) fun a => by have := a.1; simp only [List.length_append, len_st] at this; omega) (h.length + 3) (by omega) e3 rfl ((p5.take (by simp only [List.length_append, len_st]; omega) (fun j hj => by have := hj.1; omega)).trans (by rw [List.take_append_of_le_length (by simp only [len_st]; omega), List.take_set_of_le (by omega)]; exact t3)) _
    · have f1 : decide (r.Seq < (lastOf s c).Seq) = false := by simp; omega
      have f2 : (r.Seq == (lastOf s c).Seq) = true := by simpa using hA
      have e : doS s now r = (aged s now, [lastOf s c]) := by rw [doS, if_pos hok, hct, if_neg (by omega), if_pos hA]
      rw [e]
      repeat' (first
    | simp (implicitDefEqProofs := false) only [push_cast, reduceIte, reduceCtorEq, Nat.reduceAdd, Nat.reduceSub, Nat.reduceEqDiff, Nat.reduceLT, Nat.reduceLeDiff, Nat.reduceBEq, Nat.reduceMul, Int.reduceLT, Int.reduceLE, Int.reduceEq, Int.reduceToNat, Int.reduceMul, Int.reduceNeg, Go.Proofs.Try.f16, d0, d2, d3, d4, l3, n2, n3, n0, at2, ap2, at3, ap3, hgL, sst0, ne_hi l3, ne_hi' l3, ne_h l3, ne_h' l3, ne_hi n2, ne_hi' n2, ne_h n2, ne_h' n2, ne_hi n3, ne_hi' n3, ne_h n3, ne_h' n3, ne_hi n0, ne_hi' n0, ne_h n0, ne_h' n0, hr6, hr7, cast4, Int.toNat_natCast, eR, eFs, eS, eQ, f1, f2, ap_lo, st_lo, st_ne, st_eq, len_st, st_st, sst, at_set, at_set0, at_set2, at_set20, sst2, List.replicate_succ, List.drop_zero]
    | refine Sp2.f ?_ ?_
    | refine Spl.f ?_ ?_ <;> intro hb
    | refine rq_mk rfl (fun b hb => ?_)
    | refine r_draw (U := [[], [], [], [], [], [], [], [], [2, 7], []]) (H := [⟨0, [], .hole⟩]) hmix (by kernel_rfl) (by decide +kernel) (by kernel_rfl) ?_
    | refine r_draw (U := [[], [], [], [], [], [], [], [], [7], []]) (H := []) hmix (by kernel_rfl) (by decide +kernel) (by kernel_rfl) ?_
    | refine k_mtn ((c_say (lastOf s c) hyT (by simp) ws5).n) fun h5 w5 p5 => ?_)
      obtain ⟨bd5, ow5, v4, v5, v6, hk5, q1, q2, q3⟩ := w5
      have e3 := p5.get E3 (fun hj => by have := hj.1; omega)
      have l5 := lt_some hk5
      have l53 := lt_some e3
      repeat' (first
    | simp (implicitDefEqProofs := false) only [push_cast, reduceIte, reduceCtorEq, Nat.reduceAdd, Nat.reduceSub, Nat.reduceEqDiff, Nat.reduceLT, Nat.reduceLeDiff, Nat.reduceBEq, Nat.reduceMul, Int.reduceLT, Int.reduceLE, Int.reduceEq, Int.reduceToNat, Int.reduceMul, Int.reduceNeg, Go.Proofs.Try.f16, e3, hk5, l5, l53, wkE, q1.ty sh_27, q2.ty sh_28, q3.ty sh_34, q1.pl, q2.pl, q3.pl, eL_wk, ap_lo, st_lo, st_ne, st_eq, len_st, st_st, sst, at_set, at_set0, at_set2, at_set20, sst2, List.replicate_succ, List.drop_zero]
    | refine Sp2.f ?_ ?_
    | refine Spl.f ?_ ?_ <;> intro hb
    | refine rq_mk rfl (fun b hb => ?_)
    | refine r_draw (U := [[], [], [], [], [], [], [], [], [2, 7], []]) (H := [⟨0, [], .hole⟩]) hmix (by kernel_rfl) (by decide +kernel) (by kernel_rfl) ?_
    | refine r_draw (U := [[], [], [], [], [], [], [], [], [7], []]) (H := []) hmix (by kernel_rfl) (by decide +kernel) (by kernel_rfl) ?_)
      exact do_fin q1 q2 q3 (fun j hj => hj.elim (fun a => by have := a.1; omega) fun a => by have := a.1; simp only [List.length_append, len_st] at this; omega) (h.length + 3) (by omega) e3 rfl ((p5.take (by simp only [List.length_append, len_st]; omega) (fun j hj => by have := hj.1; omega)).trans (by rw [List.take_append_of_le_length (by simp only [len_st]; omega), List.take_set_of_le (by omega)]; exact t3)) _
    · have f1 : decide (r.Seq < (lastOf s c).Seq) = false := by simp; omega
      have f2 : (r.Seq == (lastOf s c).Seq) = false := by simp; omega
      have e : doS s now r = doW (aged s now) r [] := by rw [doS, if_pos hok, hct, if_neg (by omega), if_neg (by omega)]
      rw [e]
      repeat' (first
    | simp (implicitDefEqProofs := false) only [push_cast, reduceIte, reduceCtorEq, Nat.reduceAdd, Nat.reduceSub, Nat.reduceEqDiff, Nat.reduceLT, Nat.reduceLeDiff, Nat.reduceBEq, Nat.reduceMul, Int.reduceLT, Int.reduceLE, Int.reduceEq, Int.reduceToNat, Int.reduceMul, Int.reduceNeg, Go.Proofs.Try.f16, d0, d2, d3, d4, l3, n2, n3, n0, at2, ap2, at3, ap3, hgL, sst0, ne_hi l3, ne_hi' l3, ne_h l3, ne_h' l3, ne_hi n2, ne_hi' n2, ne_h n2, ne_h' n2, ne_hi n3, ne_hi' n3, ne_h n3, ne_h' n3, ne_hi n0, ne_hi' n0, ne_h n0, ne_h' n0, hr6, hr7, cast4, Int.toNat_natCast, eR, eFs, eS, eQ, f1, f2, ap_lo, st_lo, st_ne, st_eq, len_st, st_st, sst, at_set, at_set0, at_set2, at_set20, sst2, List.replicate_succ, List.drop_zero]
    | refine Sp2.f ?_ ?_
    | refine Spl.f ?_ ?_ <;> intro hb
    | refine rq_mk rfl (fun b hb => ?_)
    | refine r_draw (U := [[], [], [], [], [], [], [], [], [2, 7], []]) (H := [⟨0, [], .hole⟩]) hmix (by kernel_rfl) (by decide +kernel) (by kernel_rfl) ?_
    | refine r_draw (U := [[], [], [], [], [], [], [], [], [7], []]) (H := []) hmix (by kernel_rfl) (by decide +kernel) (by kernel_rfl) ?_
    | refine k_mtn (args := []) (c_do (by simp) hw16 hrdy ws5) fun h5 w5 p5 => ?_)
      obtain ⟨bd5, ow5, v4, v5, v6, hk5, q1, q2, q3⟩ := w5
      have e3 := p5.get E3 (fun hj => by have := hj.1; omega)
      have l5 := lt_some hk5
      have l53 := lt_some e3
      repeat' (first
    | simp (implicitDefEqProofs := false) only [push_cast, reduceIte, reduceCtorEq, Nat.reduceAdd, Nat.reduceSub, Nat.reduceEqDiff, Nat.reduceLT, Nat.reduceLeDiff, Nat.reduceBEq, Nat.reduceMul, Int.reduceLT, Int.reduceLE, Int.reduceEq, Int.reduceToNat, Int.reduceMul, Int.reduceNeg, Go.Proofs.Try.f16, e3, hk5, l5, l53, wkE, q1.ty sh_27, q2.ty sh_28, q3.ty sh_34, q1.pl, q2.pl, q3.pl, eL_wk, ap_lo, st_lo, st_ne, st_eq, len_st, st_st, sst, at_set, at_set0, at_set2, at_set20, sst2, List.replicate_succ, List.drop_zero]
    | refine Sp2.f ?_ ?_
    | refine Spl.f ?_ ?_ <;> intro hb
    | refine rq_mk rfl (fun b hb => ?_)
    | refine r_draw (U := [[], [], [], [], [], [], [], [], [2, 7], []]) (H := [⟨0, [], .hole⟩]) hmix (by kernel_rfl) (by decide +kernel) (by kernel_rfl) ?_
    | refine r_draw (U := [[], [], [], [], [], [], [], [], [7], []]) (H := []) hmix (by kernel_rfl) (by decide +kernel) (by kernel_rfl) ?_)
      exact do_fin q1 q2 q3 (fun j hj => hj.elim (fun a => by have := a.1; omega) fun a => by have := a.1; simp only [List.length_append, len_st] at this; omega) (h.length + 3) (by omega) e3 rfl ((p5.take (by simp only [List.length_append, len_st]; omega) (fun j hj => by have := hj.1; omega)).trans (by rw [List.take_append_of_le_length (by simp only [len_st]; omega), List.take_set_of_le (by omega)]; exact t3)) _
  · have e : doS s now r = (s, []) := by rw [doS, if_neg hok]
    rw [e]
    have hok : doOK s now r = false := by simpa using hok
    have hcs : mayS s = false ∨ (mayS s = true ∧ mayQ r = false) ∨ (mayS s = true ∧ mayQ r = true ∧ decide (now < s.Now) = true) ∨ (mayS s = true ∧ mayQ r = true ∧ decide (now < s.Now) = false ∧ decide (1099511627776 < now) = true) := by
      simp only [doOK] at hok
      cases h1 : mayS s <;> cases h2 : mayQ r <;> simp_all
      omega
    rcases hcs with m1 | ⟨m1, m2⟩ | ⟨m1, m2, m3⟩ | ⟨m1, m2, m3, m4⟩
    all_goals
      have hp1 := m1
      repeat' (first
    | simp (implicitDefEqProofs := false) only [push_cast, reduceIte, reduceCtorEq, Nat.reduceAdd, Nat.reduceSub, Nat.reduceEqDiff, Nat.reduceLT, Nat.reduceLeDiff, Nat.reduceBEq, Nat.reduceMul, Int.reduceLT, Int.reduceLE, Int.reduceEq, Int.reduceToNat, Int.reduceMul, Int.reduceNeg, Go.Proofs.Try.f16, *, eS, eIs, eWs, eQ, eFs, eL_wk]
    | refine Sp2.f ?_ ?_
    | refine Spl.f ?_ ?_ <;> intro hb
    | refine rq_mk rfl (fun b hb => ?_)
    | refine r_draw (U := [[], [], [], [], [], [], [], [], [2, 7], []]) (H := [⟨0, [], .hole⟩]) hmix (by kernel_rfl) (by decide +kernel) (by kernel_rfl) ?_
    | refine r_draw (U := [[], [], [], [], [], [], [], [], [7], []]) (H := []) hmix (by kernel_rfl) (by decide +kernel) (by kernel_rfl) ?_
    | refine k_fn (c_sMay s hs) ?_
    | refine k_fn (c_operMay r hr) ?_)
      refine ⟨[eS s, .nils], rfl, ?_, ?_⟩
      · simp only [rzL, dat_rz _ (eS_dat s), rz, belowL, dat_below _ (eS_dat s), below, Bool.and_self]
      · simp only [rzL, dat_rz _ (eS_dat s), rz]
        exact ⟨_, rfl, ⟨eS_ty s, by rw [ty_nils, sh_34]; rfl, trivial⟩, by simp only [wks, eS_wk, wk_nils, sh_34, wkNil_slice]; rfl⟩

end Go.Abs
