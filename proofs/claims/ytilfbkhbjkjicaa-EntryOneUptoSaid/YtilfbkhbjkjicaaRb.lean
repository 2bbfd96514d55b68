/- Rb: a part of the proofs about the tuple space and its bytes. -/
import Derived.Test.YtilfbkhbjkjicaaR9
import Derived.Test.YtilfbkhbjkjicaaR5
import Derived.Test.YtilfbkhbjkjicaaGv
import Derived.Test.YtilfbkhbjkjicaaAc
set_option linter.all false
set_option maxRecDepth 100000
set_option maxHeartbeats 0
namespace Go.Abs
open Go
open Go.Proofs.Try (prog)
theorem bit_plain (v : Int) (hv : 0 ≤ v ∧ v ≤ 15) (c : Nat) (hc : c < 4) : bitOf v (c : Int) = (bits .and .i64 v (IntKind.wrap .i64 (1 * 2 ^ (min (IntKind.wrap .u64 (c : Int)).toNat IntKind.i64.bits))) == 0) := by
  obtain ⟨n, rfl⟩ : ∃ n : Nat, v = n := ⟨v.toNat, by omega⟩
  exact bit_same ⟨n, by omega⟩ ⟨c, hc⟩
theorem GV.rz {X : Nat → Prop} {h : List Entry} {T : TypeId} {v : AV} {l : List AV} {n : Nat} (hv : GV X h T v l) (hn : ∀ j, X j → n ≤ j) (hd : zc4 l = true) : rz h n v = .list T l ∨ (l = [] ∧ rz h n v = .nils) := by
  cases hv with
  | flat => exact .inl (ybm _ (by rw [qcj]; exact hd))
  | view hv => exact hv.rz hn hd
def ResDo6 (s : Spc) (l : List Rpl) (r : AV) : Prop := ∃ v, r = .tup v ∧ yb4 prog [29, 63] v ∧ wkrs prog [29, 63] v = [eS s, eRs l]
theorem qbw {X : Nat → Prop} {h h5 : List Entry} {s' : Spc} {out' : List Rpl} {lo : List AV} {vi vw vo : AV} {e : Entry} (v1 : View X h5 87 vi (s'.Items.map eI)) (v2 : GV X h5 89 vw (s'.Waiters.map eW)) (v3 : View X h5 26 vo lo) (hlo : lo.map (wk prog 6 26) = out'.map eR) (dR : zc4 lo = true)
    (hX : ∀ j, X j → h.length ≤ j) (k : Nat) (hk : h.length ≤ k) (e3 : h5[k]? = some e) (he : e.T = 29) (hh : h5.take h.length = h) (E : Entry) :
    (h5.set k E).take h.length = h ∧ ∃ l, AV.tup [.agg 29 [.int .i64 s'.Now, vi, vw, .int .i64 s'.Read, .int .i64 s'.Write, eL s'.Last], vo] = .tup l ∧ zaq h.length (rzL (h5.set k E) h.length l) = true ∧ ResDo6 s' out' (.tup (rzL (h5.set k E) h.length l)) := by
  have sI : e.T ≠ 87 := by rw [he]; decide
  have sW : e.T ≠ 89 := by rw [he]; decide
  have sR : e.T ≠ 26 := by rw [he]; decide
  have dI := zal eI ycd s'.Items
  have dW := zal eW eW_dat s'.Waiters
  refine ⟨by rw [List.take_set_of_le hk]; exact hh, _, rfl, ?_⟩
  have t1 := (v1.set e3 sI E).rz hX dI
  have t2 := (v2.set e3 sW E).rz hX dW
  have t3 := (v3.set e3 sR E).rz hX dR
  simp only [rzL, rz, ybm _ (ydc _)]
  have bI := yaw (n := h.length) _ dI
  have bW := yaw (n := h.length) _ dW
  have bR := yaw (n := h.length) _ dR
  have f1 : qam h.length (rz (h5.set k E) h.length vi) = true ∧ tyB prog (rz (h5.set k E) h.length vi) 22 = true ∧ ∀ n, wk prog (n + 1) 22 (rz (h5.set k E) h.length vi) = eIs s'.Items := by
    rcases t1 with t | ⟨e', t⟩ <;> rw [t]
    · exact ⟨by simp only [qam]; exact bI, by rw [yck, zbr]; simp, fun n => by rw [zbc]; rfl⟩
    · exact ⟨rfl, by rw [zbs, zbr]; rfl, fun n => by rw [zbb, zbr, yap, eIs, e']⟩
  have f2 : qam h.length (rz (h5.set k E) h.length vw) = true ∧ tyB prog (rz (h5.set k E) h.length vw) 23 = true ∧ ∀ n, wk prog (n + 1) 23 (rz (h5.set k E) h.length vw) = eWs s'.Waiters := by
    rcases t2 with t | ⟨e', t⟩ <;> rw [t]
    · exact ⟨by simp only [qam]; exact bW, by rw [yck, ybs]; simp, fun n => by rw [zbc]; rfl⟩
    · exact ⟨rfl, by rw [zbs, ybs]; rfl, fun n => by rw [zbb, ybs, yap, eWs, e']⟩
  have f3 : qam h.length (rz (h5.set k E) h.length vo) = true ∧ tyB prog (rz (h5.set k E) h.length vo) 63 = true ∧ wkr prog 63 (rz (h5.set k E) h.length vo) = eRs out' := by
    rcases t3 with t | ⟨e', t⟩ <;> rw [t]
    · exact ⟨by simp only [qam]; exact bR, by rw [yck, ybq]; simp, by rw [wkr_list, hlo]; rfl⟩
    · exact ⟨rfl, by rw [zbs, ybq]; rfl, by rw [wkr_nils, zbb, ybq, yap, eRs, ← hlo, e']; rfl⟩
  refine ⟨by simp only [zaq, qam, f1.1, f2.1, f3.1, zap _ (ydc _), Bool.and_self], _, rfl, ⟨by rw [ty_agg]; rfl, f3.2.1, trivial⟩, ?_⟩
  simp only [wkrs, wkr_agg', zbq, qau, zbp, sh_29, fl_29, List.zipWith_cons_cons, List.zipWith_nil_left, if_true, f1.2.2, f2.2.2, f3.2.2, yaq]
  rfl
def DG (s : Spc) (now : Int) (r : Req) (h : List Entry) (E : AV → Nat → (Nat → AV) → Env) (i : Nat) (env : Env) (hh : List Entry) : Prop :=
  i ≤ s.Items.length ∧ ∃ v, hh.take h.length = h ∧ hh[h.length]? = some ⟨29, [eS s], .own⟩ ∧ hh[h.length + 1]? = some ⟨60, [eQ r], .own⟩ ∧ hh[h.length + 2]? = some ⟨29, [zaj prog 29], .own⟩ ∧
    View (fun j => h.length + 2 < j ∧ j < hh.length) hh 87 v ((zc0 now (s.Items.take i)).map eI) ∧ env = E v i (lk env)
end Go.Abs
set_option linter.all false
set_option maxRecDepth 100000
set_option maxHeartbeats 0
namespace Go.Abs
open Go
open Go.Proofs.Try (prog)
def writes6a (k : Int) : Bool := k == 1 || (k == 3 || (k == 5 || (k == 6 || k == 7)))
theorem c_Writes6a (k : Int) : Fn prog 90 [.int .i64 k] (.bool (writes6a k)) := by
  refine run_90 rfl fun h => ?_
  repeat' (first
    | simp (implicitDefEqProofs := false) only [push_cast, reduceIte, reduceCtorEq, Nat.reduceAdd, Nat.reduceSub, Nat.reduceEqDiff, Nat.reduceLT, Nat.reduceLeDiff, Nat.reduceBEq, Nat.reduceMul, Int.reduceLT, Int.reduceLE, Int.reduceEq, Int.reduceToNat, Int.reduceMul, Int.reduceNeg, Go.Proofs.Try.f90]
    | refine Sp2.f ?_ ?_
    | refine Spl.f ?_ ?_ <;> intro hb
    | refine qac rfl (fun b hb => ?_))
  all_goals (apply congrArg AV.bool; simp only [writes6a]; grind)
theorem kindsWa (k : Int) (h : 1 ≤ k ∧ k ≤ 8) : writes6a k = zbv k := by
  rcases (by omega : k = 1 ∨ k = 2 ∨ k = 3 ∨ k = 4 ∨ k = 5 ∨ k = 6 ∨ k = 7 ∨ k = 8) with rfl | rfl | rfl | rfl | rfl | rfl | rfl | rfl <;> kernel_rfl
theorem gv_ty {X : Nat → Prop} {h : List Entry} {T U : TypeId} {v : AV} {l : List AV} (hv : GV X h T v l) (hU : yab prog U = .slice T) : tyB prog v U = true := by
  cases hv with
  | flat => rw [yck, hU]; simp
  | view hv => exact hv.ty hU
theorem gv_pl {X : Nat → Prop} {h : List Entry} {T : TypeId} {v : AV} {l : List AV} (hv : GV X h T v l) : yah v = true := by
  cases hv with
  | flat => rfl
  | view hv => exact hv.pl
theorem eS_wkr (s : Spc) : wkr prog 29 (eS s) = eS s := yb3 s
theorem take_keep {hh h' h : List Entry} (hT : hh.take h.length = h) (hk : ∀ j e, j < h.length → hh[j]? = some e → h'[j]? = some e) : h'.take h.length = h := by
  refine List.ext_getElem? fun j => ?_
  rw [List.getElem?_take]
  split
  · rename_i hj
    have e1 : h[j]? = some h[j] := List.getElem?_eq_getElem hj
    have e2 : hh[j]? = some h[j] := by
      have := congrArg (fun l : List Entry => l[j]?) hT
      simp only [List.getElem?_take, if_pos hj, e1] at this
      exact this
    rw [e1]; exact hk j _ hj e2
  · rename_i hj
    rw [List.getElem?_eq_none (by omega)]
theorem c_Do6 (s : Spc) (now : Int) (r : Req) (hs : s.Small) (hr : r.Small) : Fn prog 33 [eS s, .int .i64 now, eQ r] (.tup [eS (doS s now r).1, eRs (doS s now r).2]) := by
  refine pure_wkr_tup (R := ResDo6 (doS s now r).1 (doS s now r).2) [29, 63] (zdo wfp fun h => ?_) fun r' hr' => hr'
  have hms := c_MaySpace6 s hs
  have hmq := zdr r hr
  rw [mayM6_eq] at hms
  rw [mayQ6_eq] at hmq
  have gS0 : za7 (eS s) [0] = some (.int .i64 s.Now) := rfl
  refine frun_33 rfl ?_
  by_cases hok : doOK s now r = true
  · have hrdy := mayS_rdy hs hr hok
    have hparts := hok
    simp only [doOK, Bool.and_eq_true, decide_eq_true_eq] at hparts
    obtain ⟨⟨⟨m1, m2⟩, m3⟩, m4⟩ := hparts
    rw [m1] at hms
    rw [m2] at hmq
    have m3 : decide (now < s.Now) = false := by simpa using m3
    have m4 : decide (1099511627776 < now) = false := by simpa using m4
    repeat' (first
    | simp (implicitDefEqProofs := false) only [push_cast, reduceIte, reduceCtorEq, Nat.reduceAdd, Nat.reduceSub, Nat.reduceEqDiff, Nat.reduceLT, Nat.reduceLeDiff, Nat.reduceBEq, Nat.reduceMul, Int.reduceLT, Int.reduceLE, Int.reduceEq, Int.reduceToNat, Int.reduceMul, Int.reduceNeg, Go.Proofs.Try.f33, m3, m4, gS0, qbx, zcd, yb3, zay, zaz, yaz, zad, yae, qad, zae, zab, qae, sst, qab, qaa, yaa, zac, qaq, List.replicate_succ, List.drop_zero]
    | refine Sp2.f ?_ ?_
    | refine Spl.f ?_ ?_ <;> intro hb
    | refine qac rfl (fun b hb => ?_)
    | refine zaa (U := [[], [], [], [], [], [], [0], [2, 4, 6], []]) (H := [⟨0, [], .hole⟩]) zag (by kernel_rfl) (by decide +kernel) (by kernel_rfl) ?_
    | refine zaa (U := [[], [], [0], [1, 2], []]) (H := [⟨0, [], .hole⟩]) zag (by kernel_rfl) (by decide +kernel) (by kernel_rfl) ?_
    | refine zaa (U := [[], [], [], [], [], [], [], [], [7], []]) (H := []) zag (by kernel_rfl) (by decide +kernel) (by kernel_rfl) ?_
    | refine zat hms ?_
    | refine zat hmq ?_)
    refine zbl (DG s now r h (fun v i a => [(0, eS s), (1, .int .i64 now), (2, eQ r), (3, .ref h.length [0] 29), (5, .ref (h.length + 1) [0] 60), (6, .ref (h.length + 2) [0] 29), (7, .nils), (8, v), (9, .int .i64 i), (10, a 10), (11, a 11), (12, a 12), (30, a 30), (36, a 36), (55, a 55), (83, a 83), (96, a 96), (105, a 105), (131, a 131), (138, a 138), (145, a 145), (152, a 152), (160, a 160)])) s.Items.length ?_ ?_
    · refine ⟨Nat.zero_le _, .nils, by simp, yas h _, za8 h _ 1, ?_, .nil, rfl⟩
      rw [za8, za_29]; rfl
    rintro i env hh ⟨hi, v, hT, a0, a1, a2, hv, henv⟩
    refine ⟨hi, ?_⟩
    rw [henv]
    generalize lk env = a
    clear henv env
    have hk0 := yac a0
    have hk1 := yac a1
    have hk2 := yac a2
    have gS1 : za7 (eS s) [1] = some (.list 87 (s.Items.map eI)) := rfl
    by_cases hlt : i < s.Items.length
    · obtain ⟨x, hx⟩ : ∃ x, s.Items[i]? = some x := ⟨_, List.getElem?_eq_getElem hlt⟩
      have hi9 : i < 9223372036854775807 := by have := hs.items.1; omega
      have gx1 : za7 (eI x) [1] = some (.int .i64 x.Until) := rfl
      have hll : lenAV v = (zc0 now (s.Items.take i)).length := by have := ydx hv; simpa using this
      have hlive : (zc0 now (s.Items.take i)).length ≤ 1000 := by
        have h1 : (zc0 now (s.Items.take i)).length ≤ (s.Items.take i).length := List.length_filter_le ..
        have h2 : (s.Items.take i).length ≤ s.Items.length := by rw [List.length_take]; exact Nat.min_le_right ..
        have h3 := qc7 m1
        simp only [mayH, Bool.and_eq_true, decide_eq_true_eq] at h3
        omega
      obtain ⟨v', h', q1, q2, q3, happ0⟩ := rh_app (P := prog) (eI x) (hv.app [⟨87, [eI x], .own⟩])
      have e2 : (hh ++ [(⟨87, [eI x], .own⟩ : Entry)]).length = hh.length + 1 := by simp
      have happ : ∀ (d : Option Tmp) (st : List Ctl) (en : Env) (Q : zau), Rn prog st .normal (zbh en d v') h' Q → Rh prog (qan 87 [eI x] (hh.length + 1) v) d st en (hh ++ [(⟨87, [eI x], .own⟩ : Entry)]) Q := fun d st en Q hq => by
        have := happ0 d st en Q hq
        rwa [e2] at this
      clear happ0
      by_cases hu0 : x.Until = 0
      · have f1 : (x.Until == 0) = true := by simpa using hu0
        have hex : expd now x = false := by simp [expd, hu0]
        repeat' (first
    | simp (implicitDefEqProofs := false) only [push_cast, reduceIte, reduceCtorEq, Nat.reduceAdd, Nat.reduceSub, Nat.reduceEqDiff, Nat.reduceLT, Nat.reduceLeDiff, Nat.reduceBEq, Nat.reduceMul, Int.reduceLT, Int.reduceLE, Int.reduceEq, Int.reduceToNat, Int.reduceMul, Int.reduceNeg, Go.Proofs.Try.f33, f1, a0, a1, a2, hk0, hk1, hk2, gS1, eI, hll, eI_ty, eI_pl, eI_wk, yaj hlt, qaj hlt, zai eI hx, Int.toNat_natCast, List.length_map, qaf hi9, zad, yae, qad, zae, zab, qae, sst, qab, qaa, yaa, zac, qaq, List.replicate_succ, List.drop_zero, zaf hk0, yad hk0, qak hk0, yaf hk0, zaf hk1, yad hk1, qak hk1, yaf hk1, zaf hk2, yad hk2, qak hk2, yaf hk2]
    | refine Sp2.f ?_ ?_
    | refine Spl.f ?_ ?_ <;> intro hb
    | refine qac rfl (fun b hb => ?_)
    | refine zaa (U := [[], [], [], [], [], [], [0], [2, 4, 6], []]) (H := [⟨0, [], .hole⟩]) zag (by kernel_rfl) (by decide +kernel) (by kernel_rfl) ?_
    | refine zaa (U := [[], [], [0], [1, 2], []]) (H := [⟨0, [], .hole⟩]) zag (by kernel_rfl) (by decide +kernel) (by kernel_rfl) ?_
    | refine zaa (U := [[], [], [], [], [], [], [], [], [7], []]) (H := []) zag (by kernel_rfl) (by decide +kernel) (by kernel_rfl) ?_
    | refine happ _ _ _ _ ?_)
        all_goals first
          | omega
          | skip
        exact ⟨hlt, v', take_keep hT (fun j e hj he => q3 j e (by rw [zad (yac he)]; exact he) (.inl fun hc => by omega)), q3 _ _ (by rw [zad hk0]; exact a0) (.inl fun hc => by omega), q3 _ _ (by rw [zad hk1]; exact a1) (.inl fun hc => by omega), q3 _ _ (by rw [zad hk2]; exact a2) (.inl fun hc => by omega),
          by rw [qcz hx, hex, if_neg (by decide), List.map_append]; exact q1.up fun j hj => hj.elim (fun a => ⟨a.1, by simp at q2; omega⟩) fun a => ⟨by have := a.1; simp at this; omega, a.2⟩, rfl⟩
      · have f1 : (x.Until == 0) = false := by simpa using hu0
        by_cases hu1 : now < x.Until
        · have f2 : decide (now < x.Until) = true := by simpa using hu1
          have hex : expd now x = false := by simp [expd, hu0]; omega
          repeat' (first
    | simp (implicitDefEqProofs := false) only [push_cast, reduceIte, reduceCtorEq, Nat.reduceAdd, Nat.reduceSub, Nat.reduceEqDiff, Nat.reduceLT, Nat.reduceLeDiff, Nat.reduceBEq, Nat.reduceMul, Int.reduceLT, Int.reduceLE, Int.reduceEq, Int.reduceToNat, Int.reduceMul, Int.reduceNeg, Go.Proofs.Try.f33, f1, f2, a0, a1, a2, hk0, hk1, hk2, gS1, eI, hll, eI_ty, eI_pl, eI_wk, yaj hlt, qaj hlt, zai eI hx, Int.toNat_natCast, List.length_map, qaf hi9, zad, yae, qad, zae, zab, qae, sst, qab, qaa, yaa, zac, qaq, List.replicate_succ, List.drop_zero, zaf hk0, yad hk0, qak hk0, yaf hk0, zaf hk1, yad hk1, qak hk1, yaf hk1, zaf hk2, yad hk2, qak hk2, yaf hk2]
    | refine Sp2.f ?_ ?_
    | refine Spl.f ?_ ?_ <;> intro hb
    | refine qac rfl (fun b hb => ?_)
    | refine zaa (U := [[], [], [], [], [], [], [0], [2, 4, 6], []]) (H := [⟨0, [], .hole⟩]) zag (by kernel_rfl) (by decide +kernel) (by kernel_rfl) ?_
    | refine zaa (U := [[], [], [0], [1, 2], []]) (H := [⟨0, [], .hole⟩]) zag (by kernel_rfl) (by decide +kernel) (by kernel_rfl) ?_
    | refine zaa (U := [[], [], [], [], [], [], [], [], [7], []]) (H := []) zag (by kernel_rfl) (by decide +kernel) (by kernel_rfl) ?_
    | refine happ _ _ _ _ ?_)
          all_goals first
            | omega
            | skip
          exact ⟨hlt, v', take_keep hT (fun j e hj he => q3 j e (by rw [zad (yac he)]; exact he) (.inl fun hc => by omega)), q3 _ _ (by rw [zad hk0]; exact a0) (.inl fun hc => by omega), q3 _ _ (by rw [zad hk1]; exact a1) (.inl fun hc => by omega), q3 _ _ (by rw [zad hk2]; exact a2) (.inl fun hc => by omega),
            by rw [qcz hx, hex, if_neg (by decide), List.map_append]; exact q1.up fun j hj => hj.elim (fun a => ⟨a.1, by simp at q2; omega⟩) fun a => ⟨by have := a.1; simp at this; omega, a.2⟩, rfl⟩
        · have f2 : decide (now < x.Until) = false := by simpa using hu1
          have hex : expd now x = true := by simp [expd, hu0]; omega
          repeat' (first
    | simp (implicitDefEqProofs := false) only [push_cast, reduceIte, reduceCtorEq, Nat.reduceAdd, Nat.reduceSub, Nat.reduceEqDiff, Nat.reduceLT, Nat.reduceLeDiff, Nat.reduceBEq, Nat.reduceMul, Int.reduceLT, Int.reduceLE, Int.reduceEq, Int.reduceToNat, Int.reduceMul, Int.reduceNeg, Go.Proofs.Try.f33, f1, f2, a0, a1, a2, hk0, hk1, hk2, gS1, eI, hll, eI_ty, eI_pl, eI_wk, yaj hlt, qaj hlt, zai eI hx, Int.toNat_natCast, List.length_map, qaf hi9, zad, yae, qad, zae, zab, qae, sst, qab, qaa, yaa, zac, qaq, List.replicate_succ, List.drop_zero, zaf hk0, yad hk0, qak hk0, yaf hk0, zaf hk1, yad hk1, qak hk1, yaf hk1, zaf hk2, yad hk2, qak hk2, yaf hk2]
    | refine Sp2.f ?_ ?_
    | refine Spl.f ?_ ?_ <;> intro hb
    | refine qac rfl (fun b hb => ?_)
    | refine zaa (U := [[], [], [], [], [], [], [0], [2, 4, 6], []]) (H := [⟨0, [], .hole⟩]) zag (by kernel_rfl) (by decide +kernel) (by kernel_rfl) ?_
    | refine zaa (U := [[], [], [0], [1, 2], []]) (H := [⟨0, [], .hole⟩]) zag (by kernel_rfl) (by decide +kernel) (by kernel_rfl) ?_
    | refine zaa (U := [[], [], [], [], [], [], [], [], [7], []]) (H := []) zag (by kernel_rfl) (by decide +kernel) (by kernel_rfl) ?_)
          exact ⟨hlt, v, hT, a0, a1, a2, by rw [qcz hx, hex, if_pos rfl, List.append_nil]; exact hv, rfl⟩
    · have e0 : s.Items.take i = s.Items := List.take_of_length_le (by omega)
      rw [e0] at hv
      obtain ⟨c, hc, hc4⟩ := qbn hrdy.rc
      have hct : r.Client.toNat = c := by rw [hc]; rfl
      have hy : s.Last[c]? = some (zam s c) := by
        have : c < s.Last.length := by rw [hs.four]; exact hc4
        simp [zam, List.getD_eq_getElem?_getD, List.getElem?_eq_getElem this]
      have hgL : za7 (eL s.Last) [r.Client.toNat] = some (eR (zam s c)) := by rw [hct]; simp only [eL, za7, List.getElem?_map, hy, Option.map_some]
      have hr6 : (0 ≤ r.Client ∧ r.Client < ((4 : Nat) : Int)) = True := by rw [hc]; simp; omega
      have hr7 : (0 ≤ r.Client ∧ r.Client < 4) = True := by rw [hc]; simp; omega
      have hvt : tyB prog v 22 = true := hv.ty zbr
      have hvp := hv.pl
      have gq0 : za7 (eQ r) [0] = some (.int .i64 r.Client) := rfl
      have gq1 : za7 (eQ r) [1] = some (.int .i64 r.Seq) := rfl
      have gq2 : za7 (eQ r) [2] = some (.int .i64 r.Kind) := rfl
      have gq3 : za7 (eQ r) [3] = some (eFs r.P) := rfl
      have gR1 : za7 (eR (zam s c)) [1] = some (.int .i64 (zam s c).Seq) := rfl
      have sN : setP (eS s) [0] (.int .i64 now) = some (.agg 29 [.int .i64 now, eIs s.Items, eWs s.Waiters, .int .i64 s.Read, .int .i64 s.Write, eL s.Last]) := rfl
      have hu : ¬ IntKind.wrap .u64 r.Client < 0 := by rw [hc, IntWalk.u64_in _ (by omega)]; omega
      rcases Int.lt_trichotomy r.Seq (zam s c).Seq with hA | hA | hA
      · have f1 : decide (r.Seq < (zam s c).Seq) = true := by simpa using hA
        have e : doS s now r = (aged s now, [⟨r.Client, r.Seq, 7, [], false⟩]) := by rw [doS, if_pos hok, hct, if_pos hA]
        rw [e]
        repeat' (first
    | simp (implicitDefEqProofs := false) only [push_cast, reduceIte, reduceCtorEq, Nat.reduceAdd, Nat.reduceSub, Nat.reduceEqDiff, Nat.reduceLT, Nat.reduceLeDiff, Nat.reduceBEq, Nat.reduceMul, Int.reduceLT, Int.reduceLE, Int.reduceEq, Int.reduceToNat, Int.reduceMul, Int.reduceNeg, Go.Proofs.Try.f33, zda, a0, a1, a2, hk0, hk1, hk2, gS1, gq0, gq1, gq2, gq3, gR1, sN, hgL, hr6, hr7, ybg, hvt, hvp, yal hlt, yak, qal, zak, zcm, ycm, qb7, yaq, zay, zaz, yaz, Int.toNat_natCast, List.length_map, zad, yae, qad, zae, zab, qae, sst, qab, qaa, yaa, zac, qaq, List.replicate_succ, List.drop_zero, zaf hk0, yad hk0, qak hk0, yaf hk0, zaf hk1, yad hk1, qak hk1, yaf hk1, zaf hk2, yad hk2, qak hk2, yaf hk2, f1]
    | refine Sp2.f ?_ ?_
    | refine Spl.f ?_ ?_ <;> intro hb
    | refine qac rfl (fun b hb => ?_)
    | refine zaa (U := [[], [], [], [], [], [], [0], [2, 4, 6], []]) (H := [⟨0, [], .hole⟩]) zag (by kernel_rfl) (by decide +kernel) (by kernel_rfl) ?_
    | refine zaa (U := [[], [], [0], [1, 2], []]) (H := [⟨0, [], .hole⟩]) zag (by kernel_rfl) (by decide +kernel) (by kernel_rfl) ?_
    | refine zaa (U := [[], [], [], [], [], [], [], [], [7], []]) (H := []) zag (by kernel_rfl) (by decide +kernel) (by kernel_rfl) ?_
    | refine yda hu ?_)
        all_goals first
          | exact hu
          | skip
        have hfin := qbw (h := h) (h5 := hh.set h.length ⟨29, [.agg 29 [.int .i64 now, v, eWs s.Waiters, .int .i64 s.Read, .int .i64 s.Write, eL s.Last]], .own⟩ ++ [⟨132, [.agg 132 [.agg 29 [.int .i64 now, v, eWs s.Waiters, .int .i64 s.Read, .int .i64 s.Write, eL s.Last], .nils]], .own⟩, ⟨26, [eR (zam s c)], .own⟩, ⟨26, [.agg 26 [.int .i64 r.Client, .int .i64 r.Seq, .int .i64 7, .nils, .bool false]], .own⟩]) (s' := aged s now) (out' := [⟨r.Client, r.Seq, 7, [], false⟩]) (lo := [.agg 26 [.int .i64 r.Client, .int .i64 r.Seq, .int .i64 7, .nils, .bool false]]) (X := fun j => h.length + 2 < j) (((hv.set a0 (by show 29 ≠ 87; decide) ⟨29, [.agg 29 [.int .i64 now, v, eWs s.Waiters, .int .i64 s.Read, .int .i64 s.Write, eL s.Last]], .own⟩).app _).up fun j hj => hj.1) (GV.flat) (View.mk' (k := hh.length + 2) (n := 1) (lo := 1) [] (by show h.length + 2 < hh.length + 2; omega) qab rfl rfl) (by simp only [List.map_cons, List.map_nil, zbq, qau, zbp, wk_bool, zbb, yap, sh_26, fl_26, ydd, List.zipWith_cons_cons, List.zipWith_nil_left, if_true]; rfl) (by simp [zc4, dat]; try rfl) (fun j hj => by omega) (h.length + 2) (by omega) (e := ⟨29, [zaj prog 29], .own⟩) (by rw [zad (by rw [zab]; omega), qad (by omega)]; exact a2) rfl (by rw [List.take_append_of_le_length (by rw [zab]; omega), List.take_set_of_le (Nat.le_refl _)]; exact hT) ⟨29, [.agg 29 [.int .i64 now, v, eWs s.Waiters, .int .i64 s.Read, .int .i64 s.Write, eL s.Last]], .own⟩
        rw [yae (by rw [zab]; omega)] at hfin
        exact hfin
      · have f1 : decide (r.Seq < (zam s c).Seq) = false := by simp; omega
        have f2 : (r.Seq == (zam s c).Seq) = true := by simpa using hA
        have e : doS s now r = (aged s now, [zam s c]) := by rw [doS, if_pos hok, hct, if_neg (by omega), if_pos hA]
        rw [e]
        repeat' (first
    | simp (implicitDefEqProofs := false) only [push_cast, reduceIte, reduceCtorEq, Nat.reduceAdd, Nat.reduceSub, Nat.reduceEqDiff, Nat.reduceLT, Nat.reduceLeDiff, Nat.reduceBEq, Nat.reduceMul, Int.reduceLT, Int.reduceLE, Int.reduceEq, Int.reduceToNat, Int.reduceMul, Int.reduceNeg, Go.Proofs.Try.f33, zda, a0, a1, a2, hk0, hk1, hk2, gS1, gq0, gq1, gq2, gq3, gR1, sN, hgL, hr6, hr7, ybg, hvt, hvp, yal hlt, yak, qal, zak, zcm, ycm, qb7, yaq, zay, zaz, yaz, Int.toNat_natCast, List.length_map, zad, yae, qad, zae, zab, qae, sst, qab, qaa, yaa, zac, qaq, List.replicate_succ, List.drop_zero, zaf hk0, yad hk0, qak hk0, yaf hk0, zaf hk1, yad hk1, qak hk1, yaf hk1, zaf hk2, yad hk2, qak hk2, yaf hk2, f1, f2]
    | refine Sp2.f ?_ ?_
    | refine Spl.f ?_ ?_ <;> intro hb
    | refine qac rfl (fun b hb => ?_)
    | refine zaa (U := [[], [], [], [], [], [], [0], [2, 4, 6], []]) (H := [⟨0, [], .hole⟩]) zag (by kernel_rfl) (by decide +kernel) (by kernel_rfl) ?_
    | refine zaa (U := [[], [], [0], [1, 2], []]) (H := [⟨0, [], .hole⟩]) zag (by kernel_rfl) (by decide +kernel) (by kernel_rfl) ?_
    | refine zaa (U := [[], [], [], [], [], [], [], [], [7], []]) (H := []) zag (by kernel_rfl) (by decide +kernel) (by kernel_rfl) ?_
    | refine yda hu ?_)
        all_goals first
          | exact hu
          | skip
        have hfin := qbw (h := h) (h5 := hh.set h.length ⟨29, [.agg 29 [.int .i64 now, v, eWs s.Waiters, .int .i64 s.Read, .int .i64 s.Write, eL s.Last]], .own⟩ ++ [⟨132, [.agg 132 [.agg 29 [.int .i64 now, v, eWs s.Waiters, .int .i64 s.Read, .int .i64 s.Write, eL s.Last], .nils]], .own⟩, ⟨26, [eR (zam s c)], .own⟩, ⟨26, [eR (zam s c)], .own⟩]) (s' := aged s now) (out' := [zam s c]) (lo := [eR (zam s c)]) (X := fun j => h.length + 2 < j) (((hv.set a0 (by show 29 ≠ 87; decide) ⟨29, [.agg 29 [.int .i64 now, v, eWs s.Waiters, .int .i64 s.Read, .int .i64 s.Write, eL s.Last]], .own⟩).app _).up fun j hj => hj.1) (GV.flat) (View.mk' (k := hh.length + 2) (n := 1) (lo := 1) [] (by show h.length + 2 < hh.length + 2; omega) qab rfl rfl) (by simp only [List.map_cons, List.map_nil]; rw [qb7]) (by simp [zc4, dat]; try exact zby _) (fun j hj => by omega) (h.length + 2) (by omega) (e := ⟨29, [zaj prog 29], .own⟩) (by rw [zad (by rw [zab]; omega), qad (by omega)]; exact a2) rfl (by rw [List.take_append_of_le_length (by rw [zab]; omega), List.take_set_of_le (Nat.le_refl _)]; exact hT) ⟨29, [.agg 29 [.int .i64 now, v, eWs s.Waiters, .int .i64 s.Read, .int .i64 s.Write, eL s.Last]], .own⟩
        rw [yae (by rw [zab]; omega)] at hfin
        exact hfin
      · have f1 : decide (r.Seq < (zam s c).Seq) = false := by simp; omega
        have f2 : (r.Seq == (zam s c).Seq) = false := by simp; omega
        have e : doS s now r = doW (aged s now) r [] := by rw [doS, if_pos hok, hct, if_neg (by omega), if_neg (by omega)]
        rw [e]
        have hqq := may_mq m2
        have hkk := hqq.kd
        have hpp := qc7 m1
        have hHH := hpp.1
        simp only [mayH, Bool.and_eq_true, decide_eq_true_eq] at hHH
        have hb16 : ∀ v : Int, v.fdiv 16 = 0 → 0 ≤ v ∧ v ≤ 15 := fun v hv => by rw [Int.fdiv_eq_ediv_of_nonneg _ (by omega)] at hv; omega
        have bR := bit_plain s.Read (hb16 _ (by omega)) c hc4
        have bW := bit_plain s.Write (hb16 _ (by omega)) c hc4
        rw [← hc] at bR bW
        have hrd := c_Reads6 r.Kind
        have hwr := c_Writes6a r.Kind
        rw [(kinds _ hkk).2] at hrd
        rw [kindsWa _ hkk] at hwr
        have hlo : ∀ {l : List Rpl}, (l.map eR).map (wk prog 6 26) = l.map eR := fun {l} => by rw [List.map_map]; exact List.map_congr_left fun x _ => qb7 4 x
        have a0' : (hh.set h.length ⟨29, [.agg 29 [.int .i64 now, v, eWs s.Waiters, .int .i64 s.Read, .int .i64 s.Write, eL s.Last]], .own⟩ ++ [⟨132, [.agg 132 [.agg 29 [.int .i64 now, v, eWs s.Waiters, .int .i64 s.Read, .int .i64 s.Write, eL s.Last], .nils]], .own⟩, ⟨26, [eR (zam s c)], .own⟩])[hh.length]? = some (gE (aged s now) v (eWs s.Waiters) .nils) := by rw [qaa]; rfl
        have E6 : (hh.set h.length ⟨29, [.agg 29 [.int .i64 now, v, eWs s.Waiters, .int .i64 s.Read, .int .i64 s.Write, eL s.Last]], .own⟩ ++ [⟨132, [.agg 132 [.agg 29 [.int .i64 now, v, eWs s.Waiters, .int .i64 s.Read, .int .i64 s.Write, eL s.Last], .nils]], .own⟩, ⟨26, [eR (zam s c)], .own⟩])[h.length + 2]? = some ⟨29, [zaj prog 29], .own⟩ := by rw [zad (by rw [zab]; omega), qad (by omega)]; exact a2
        have v1 : View (fun j => h.length + 2 < j ∧ j < hh.length + 1) (hh.set h.length ⟨29, [.agg 29 [.int .i64 now, v, eWs s.Waiters, .int .i64 s.Read, .int .i64 s.Write, eL s.Last]], .own⟩ ++ [⟨132, [.agg 132 [.agg 29 [.int .i64 now, v, eWs s.Waiters, .int .i64 s.Read, .int .i64 s.Write, eL s.Last], .nils]], .own⟩, ⟨26, [eR (zam s c)], .own⟩]) 87 v ((aged s now).Items.map eI) := ((hv.set a0 (by show 29 ≠ 87; decide) ⟨29, [.agg 29 [.int .i64 now, v, eWs s.Waiters, .int .i64 s.Read, .int .i64 s.Write, eL s.Last]], .own⟩).app _).up fun j hj => ⟨hj.1, by omega⟩
        have gs0 : GS (fun j => h.length + 2 < j ∧ j < hh.length + 1) hh.length (aged s now) [] (hh.set h.length ⟨29, [.agg 29 [.int .i64 now, v, eWs s.Waiters, .int .i64 s.Read, .int .i64 s.Write, eL s.Last]], .own⟩ ++ [⟨132, [.agg 132 [.agg 29 [.int .i64 now, v, eWs s.Waiters, .int .i64 s.Read, .int .i64 s.Write, eL s.Last], .nils]], .own⟩, ⟨26, [eR (zam s c)], .own⟩]) := ⟨fun j hj => by simp; omega, ⟨by omega, by omega⟩, v, eWs s.Waiters, .nils, a0', v1, .flat, .nil⟩
        have hfo := c_FindG (p := r.P) (Y := fun _ => False) hrdy.small hrdy.rP v1 (.flat (l := s.Waiters.map eW))
        have hne : (hh.length = h.length + 2) = False := eq_false (by omega)
        generalize hbv : bits .and .i64 s.Read (IntKind.wrap .i64 (1 * 2 ^ min (IntKind.wrap .u64 r.Client).toNat IntKind.i64.bits)) = xR at bR
        generalize hbw : bits .and .i64 s.Write (IntKind.wrap .i64 (1 * 2 ^ min (IntKind.wrap .u64 r.Client).toNat IntKind.i64.bits)) = xW at bW
        have hbv' : bits .and .i64 s.Read (IntKind.wrap .i64 (2 ^ min (IntKind.wrap .u64 r.Client).toNat IntKind.i64.bits)) = xR := by rw [← hbv, Int.one_mul]
        have hbw' : bits .and .i64 s.Write (IntKind.wrap .i64 (2 ^ min (IntKind.wrap .u64 r.Client).toNat IntKind.i64.bits)) = xW := by rw [← hbw, Int.one_mul]
        have hdd : qdy (aged s now) r = ((qb2 r.Kind && (xR == 0)) || (zbv r.Kind && (xW == 0))) := by rw [← bR, ← bW]; rfl
        cases hd : qdy (aged s now) r with
        | true =>
          have e2 : doW (aged s now) r [] = (ya1 (aged s now) r 6 [], [] ++ [rep r 6 []]) := by rw [doW, if_pos hd]
          rw [e2]
          rw [hdd] at hd
          cases hR : qb2 r.Kind with
          | true =>
            rw [hR] at hrd hd
            cases hB : (xR == 0) with
            | true =>
              repeat' (first
    | simp (implicitDefEqProofs := false) only [push_cast, reduceIte, reduceCtorEq, Nat.reduceAdd, Nat.reduceSub, Nat.reduceEqDiff, Nat.reduceLT, Nat.reduceLeDiff, Nat.reduceBEq, Nat.reduceMul, Int.reduceLT, Int.reduceLE, Int.reduceEq, Int.reduceToNat, Int.reduceMul, Int.reduceNeg, Go.Proofs.Try.f33, zda, a0, a1, a2, hk0, hk1, hk2, gS1, gq0, gq1, gq2, gq3, gR1, sN, hgL, hr6, hr7, ybg, hvt, hvp, yal hlt, yak, qal, zak, zcm, ycm, qb7, yaq, zay, zaz, yaz, Int.toNat_natCast, List.length_map, zad, yae, qad, zae, zab, qae, sst, qab, qaa, yaa, zac, qaq, List.replicate_succ, List.drop_zero, zaf hk0, yad hk0, qak hk0, yaf hk0, zaf hk1, yad hk1, qak hk1, yaf hk1, zaf hk2, yad hk2, qak hk2, yaf hk2, f1, f2, hbv, hbv', hB]
    | refine Sp2.f ?_ ?_
    | refine Spl.f ?_ ?_ <;> intro hb
    | refine qac rfl (fun b hb => ?_)
    | refine zaa (U := [[], [], [], [], [], [], [0], [2, 4, 6], []]) (H := [⟨0, [], .hole⟩]) zag (by kernel_rfl) (by decide +kernel) (by kernel_rfl) ?_
    | refine zaa (U := [[], [], [0], [1, 2], []]) (H := [⟨0, [], .hole⟩]) zag (by kernel_rfl) (by decide +kernel) (by kernel_rfl) ?_
    | refine zaa (U := [[], [], [], [], [], [], [], [], [7], []]) (H := []) zag (by kernel_rfl) (by decide +kernel) (by kernel_rfl) ?_
    | refine yda hu ?_
    | refine zat hrd ?_
    | refine zat hwr ?_
    | refine qbj ((qat 6 [] (by simp) hrdy gs0).n) fun h5 w5 p5 => ?_)
              all_goals first
                | exact hu
                | skip
              obtain ⟨bd5, ow5, v4, v5, v6, hk5, q1, q2, q3⟩ := w5
              have e6 := p5.get E6 (fun hj => by have := hj.1; omega)
              have l5 := yac hk5
              have l6 := yac e6
              repeat' (first
    | simp (implicitDefEqProofs := false) only [push_cast, reduceIte, reduceCtorEq, Nat.reduceAdd, Nat.reduceSub, Nat.reduceEqDiff, Nat.reduceLT, Nat.reduceLeDiff, Nat.reduceBEq, Nat.reduceMul, Int.reduceLT, Int.reduceLE, Int.reduceEq, Int.reduceToNat, Int.reduceMul, Int.reduceNeg, Go.Proofs.Try.f33, hne, e6, hk5, l5, l6, gE, q1.ty zbr, gv_ty q2 ybs, q3.ty ybq, q1.pl, gv_pl q2, q3.pl, yaq, zad, yae, qad, zae, zab, qae, sst, qab, qaa, yaa, zac, qaq, List.replicate_succ, List.drop_zero]
    | refine Sp2.f ?_ ?_
    | refine Spl.f ?_ ?_ <;> intro hb
    | refine qac rfl (fun b hb => ?_)
    | refine zaa (U := [[], [], [], [], [], [], [0], [2, 4, 6], []]) (H := [⟨0, [], .hole⟩]) zag (by kernel_rfl) (by decide +kernel) (by kernel_rfl) ?_
    | refine zaa (U := [[], [], [0], [1, 2], []]) (H := [⟨0, [], .hole⟩]) zag (by kernel_rfl) (by decide +kernel) (by kernel_rfl) ?_
    | refine zaa (U := [[], [], [], [], [], [], [], [], [7], []]) (H := []) zag (by kernel_rfl) (by decide +kernel) (by kernel_rfl) ?_)
              exact qbw (h := h) q1 q2 q3 hlo (zal eR zby _) (fun j hj => hj.elim (fun a => by have := a.1; omega) fun a => by have := a.1; simp only [List.length_append, zab, List.length_cons, List.length_nil] at this; omega) (h.length + 2) (by omega) e6 rfl ((p5.take (by simp only [List.length_append, zab]; omega) (fun j hj => by have := hj.1; omega)).trans (by rw [List.take_append_of_le_length (by rw [zab]; omega), List.take_set_of_le (Nat.le_refl _)]; exact hT)) _
            | false =>
              rw [hB] at hd
              cases hW : zbv r.Kind with
              | true =>
                rw [hW] at hwr hd
                have hB2 : (xW == 0) = true := by simpa using hd
                repeat' (first
    | simp (implicitDefEqProofs := false) only [push_cast, reduceIte, reduceCtorEq, Nat.reduceAdd, Nat.reduceSub, Nat.reduceEqDiff, Nat.reduceLT, Nat.reduceLeDiff, Nat.reduceBEq, Nat.reduceMul, Int.reduceLT, Int.reduceLE, Int.reduceEq, Int.reduceToNat, Int.reduceMul, Int.reduceNeg, Go.Proofs.Try.f33, zda, a0, a1, a2, hk0, hk1, hk2, gS1, gq0, gq1, gq2, gq3, gR1, sN, hgL, hr6, hr7, ybg, hvt, hvp, yal hlt, yak, qal, zak, zcm, ycm, qb7, yaq, zay, zaz, yaz, Int.toNat_natCast, List.length_map, zad, yae, qad, zae, zab, qae, sst, qab, qaa, yaa, zac, qaq, List.replicate_succ, List.drop_zero, zaf hk0, yad hk0, qak hk0, yaf hk0, zaf hk1, yad hk1, qak hk1, yaf hk1, zaf hk2, yad hk2, qak hk2, yaf hk2, f1, f2, hbv, hbv', hbw, hbw', hB, hB2]
    | refine Sp2.f ?_ ?_
    | refine Spl.f ?_ ?_ <;> intro hb
    | refine qac rfl (fun b hb => ?_)
    | refine zaa (U := [[], [], [], [], [], [], [0], [2, 4, 6], []]) (H := [⟨0, [], .hole⟩]) zag (by kernel_rfl) (by decide +kernel) (by kernel_rfl) ?_
    | refine zaa (U := [[], [], [0], [1, 2], []]) (H := [⟨0, [], .hole⟩]) zag (by kernel_rfl) (by decide +kernel) (by kernel_rfl) ?_
    | refine zaa (U := [[], [], [], [], [], [], [], [], [7], []]) (H := []) zag (by kernel_rfl) (by decide +kernel) (by kernel_rfl) ?_
    | refine yda hu ?_
    | refine zat hrd ?_
    | refine zat hwr ?_
    | refine qbj ((qat 6 [] (by simp) hrdy gs0).n) fun h5 w5 p5 => ?_)
                all_goals first
                  | exact hu
                  | skip
                obtain ⟨bd5, ow5, v4, v5, v6, hk5, q1, q2, q3⟩ := w5
                have e6 := p5.get E6 (fun hj => by have := hj.1; omega)
                have l5 := yac hk5
                have l6 := yac e6
                repeat' (first
    | simp (implicitDefEqProofs := false) only [push_cast, reduceIte, reduceCtorEq, Nat.reduceAdd, Nat.reduceSub, Nat.reduceEqDiff, Nat.reduceLT, Nat.reduceLeDiff, Nat.reduceBEq, Nat.reduceMul, Int.reduceLT, Int.reduceLE, Int.reduceEq, Int.reduceToNat, Int.reduceMul, Int.reduceNeg, Go.Proofs.Try.f33, hne, e6, hk5, l5, l6, gE, q1.ty zbr, gv_ty q2 ybs, q3.ty ybq, q1.pl, gv_pl q2, q3.pl, yaq, zad, yae, qad, zae, zab, qae, sst, qab, qaa, yaa, zac, qaq, List.replicate_succ, List.drop_zero]
    | refine Sp2.f ?_ ?_
    | refine Spl.f ?_ ?_ <;> intro hb
    | refine qac rfl (fun b hb => ?_)
    | refine zaa (U := [[], [], [], [], [], [], [0], [2, 4, 6], []]) (H := [⟨0, [], .hole⟩]) zag (by kernel_rfl) (by decide +kernel) (by kernel_rfl) ?_
    | refine zaa (U := [[], [], [0], [1, 2], []]) (H := [⟨0, [], .hole⟩]) zag (by kernel_rfl) (by decide +kernel) (by kernel_rfl) ?_
    | refine zaa (U := [[], [], [], [], [], [], [], [], [7], []]) (H := []) zag (by kernel_rfl) (by decide +kernel) (by kernel_rfl) ?_)
                exact qbw (h := h) q1 q2 q3 hlo (zal eR zby _) (fun j hj => hj.elim (fun a => by have := a.1; omega) fun a => by have := a.1; simp only [List.length_append, zab, List.length_cons, List.length_nil] at this; omega) (h.length + 2) (by omega) e6 rfl ((p5.take (by simp only [List.length_append, zab]; omega) (fun j hj => by have := hj.1; omega)).trans (by rw [List.take_append_of_le_length (by rw [zab]; omega), List.take_set_of_le (Nat.le_refl _)]; exact hT)) _
              | false => rw [hW] at hd; cases hd
          | false =>
            rw [hR] at hrd hd
            cases hW : zbv r.Kind with
            | true =>
              rw [hW] at hwr hd
              have hB2 : (xW == 0) = true := by simpa using hd
              repeat' (first
    | simp (implicitDefEqProofs := false) only [push_cast, reduceIte, reduceCtorEq, Nat.reduceAdd, Nat.reduceSub, Nat.reduceEqDiff, Nat.reduceLT, Nat.reduceLeDiff, Nat.reduceBEq, Nat.reduceMul, Int.reduceLT, Int.reduceLE, Int.reduceEq, Int.reduceToNat, Int.reduceMul, Int.reduceNeg, Go.Proofs.Try.f33, zda, a0, a1, a2, hk0, hk1, hk2, gS1, gq0, gq1, gq2, gq3, gR1, sN, hgL, hr6, hr7, ybg, hvt, hvp, yal hlt, yak, qal, zak, zcm, ycm, qb7, yaq, zay, zaz, yaz, Int.toNat_natCast, List.length_map, zad, yae, qad, zae, zab, qae, sst, qab, qaa, yaa, zac, qaq, List.replicate_succ, List.drop_zero, zaf hk0, yad hk0, qak hk0, yaf hk0, zaf hk1, yad hk1, qak hk1, yaf hk1, zaf hk2, yad hk2, qak hk2, yaf hk2, f1, f2, hbw, hbw', hB2]
    | refine Sp2.f ?_ ?_
    | refine Spl.f ?_ ?_ <;> intro hb
    | refine qac rfl (fun b hb => ?_)
    | refine zaa (U := [[], [], [], [], [], [], [0], [2, 4, 6], []]) (H := [⟨0, [], .hole⟩]) zag (by kernel_rfl) (by decide +kernel) (by kernel_rfl) ?_
    | refine zaa (U := [[], [], [0], [1, 2], []]) (H := [⟨0, [], .hole⟩]) zag (by kernel_rfl) (by decide +kernel) (by kernel_rfl) ?_
    | refine zaa (U := [[], [], [], [], [], [], [], [], [7], []]) (H := []) zag (by kernel_rfl) (by decide +kernel) (by kernel_rfl) ?_
    | refine yda hu ?_
    | refine zat hrd ?_
    | refine zat hwr ?_
    | refine qbj ((qat 6 [] (by simp) hrdy gs0).n) fun h5 w5 p5 => ?_)
              all_goals first
                | exact hu
                | skip
              obtain ⟨bd5, ow5, v4, v5, v6, hk5, q1, q2, q3⟩ := w5
              have e6 := p5.get E6 (fun hj => by have := hj.1; omega)
              have l5 := yac hk5
              have l6 := yac e6
              repeat' (first
    | simp (implicitDefEqProofs := false) only [push_cast, reduceIte, reduceCtorEq, Nat.reduceAdd, Nat.reduceSub, Nat.reduceEqDiff, Nat.reduceLT, Nat.reduceLeDiff, Nat.reduceBEq, Nat.reduceMul, Int.reduceLT, Int.reduceLE, Int.reduceEq, Int.reduceToNat, Int.reduceMul, Int.reduceNeg, Go.Proofs.Try.f33, hne, e6, hk5, l5, l6, gE, q1.ty zbr, gv_ty q2 ybs, q3.ty ybq, q1.pl, gv_pl q2, q3.pl, yaq, zad, yae, qad, zae, zab, qae, sst, qab, qaa, yaa, zac, qaq, List.replicate_succ, List.drop_zero]
    | refine Sp2.f ?_ ?_
    | refine Spl.f ?_ ?_ <;> intro hb
    | refine qac rfl (fun b hb => ?_)
    | refine zaa (U := [[], [], [], [], [], [], [0], [2, 4, 6], []]) (H := [⟨0, [], .hole⟩]) zag (by kernel_rfl) (by decide +kernel) (by kernel_rfl) ?_
    | refine zaa (U := [[], [], [0], [1, 2], []]) (H := [⟨0, [], .hole⟩]) zag (by kernel_rfl) (by decide +kernel) (by kernel_rfl) ?_
    | refine zaa (U := [[], [], [], [], [], [], [], [], [7], []]) (H := []) zag (by kernel_rfl) (by decide +kernel) (by kernel_rfl) ?_)
              exact qbw (h := h) q1 q2 q3 hlo (zal eR zby _) (fun j hj => hj.elim (fun a => by have := a.1; omega) fun a => by have := a.1; simp only [List.length_append, zab, List.length_cons, List.length_nil] at this; omega) (h.length + 2) (by omega) e6 rfl ((p5.take (by simp only [List.length_append, zab]; omega) (fun j hj => by have := hj.1; omega)).trans (by rw [List.take_append_of_le_length (by rw [zab]; omega), List.take_set_of_le (Nat.le_refl _)]; exact hT)) _
            | false => rw [hW] at hd; cases hd
        | false =>
          have hnd := hd
          rw [hdd] at hd
          rcases (by omega : r.Kind = 1 ∨ r.Kind = 2 ∨ r.Kind = 3 ∨ r.Kind = 4 ∨ r.Kind = 5 ∨ r.Kind = 6 ∨ r.Kind = 7 ∨ r.Kind = 8) with hkd | hkd | hkd | hkd | hkd | hkd | hkd | hkd
          · have hR : qb2 r.Kind = false := by rw [hkd]; kernel_rfl
            have hW : zbv r.Kind = true := by rw [hkd]; kernel_rfl
            rw [hR, hW] at hd
            rw [hR] at hrd
            rw [hW] at hwr
            have hB2 : (xW == 0) = false := by cases h : (xW == 0) with | false => rfl | true => rw [h] at hd; simp at hd
            have k8 : (r.Kind == 8) = false := by rw [hkd]; rfl
            have k1 : (r.Kind == 1) = true := by rw [hkd]; rfl
            have k7 : (r.Kind == 7) = false := by rw [hkd]; rfl
            have k6 : (r.Kind == 6) = false := by rw [hkd]; rfl
            have e2 : doW (aged s now) r [] = qa9 (aged s now) r [] := by rw [doW, if_neg (by rw [hnd]; decide), if_pos hkd]
            rw [e2]
            repeat' (first
    | simp (implicitDefEqProofs := false) only [push_cast, reduceIte, reduceCtorEq, Nat.reduceAdd, Nat.reduceSub, Nat.reduceEqDiff, Nat.reduceLT, Nat.reduceLeDiff, Nat.reduceBEq, Nat.reduceMul, Int.reduceLT, Int.reduceLE, Int.reduceEq, Int.reduceToNat, Int.reduceMul, Int.reduceNeg, Go.Proofs.Try.f33, zda, a0, a1, a2, hk0, hk1, hk2, gS1, gq0, gq1, gq2, gq3, gR1, sN, hgL, hr6, hr7, ybg, hvt, hvp, yal hlt, yak, qal, zak, zcm, ycm, qb7, yaq, zay, zaz, yaz, Int.toNat_natCast, List.length_map, zad, yae, qad, zae, zab, qae, sst, qab, qaa, yaa, zac, qaq, List.replicate_succ, List.drop_zero, zaf hk0, yad hk0, qak hk0, yaf hk0, zaf hk1, yad hk1, qak hk1, yaf hk1, zaf hk2, yad hk2, qak hk2, yaf hk2, f1, f2, hbw, hbw', hB2, k8, k1, k7, k6]
    | refine Sp2.f ?_ ?_
    | refine Spl.f ?_ ?_ <;> intro hb
    | refine qac rfl (fun b hb => ?_)
    | refine zaa (U := [[], [], [], [], [], [], [0], [2, 4, 6], []]) (H := [⟨0, [], .hole⟩]) zag (by kernel_rfl) (by decide +kernel) (by kernel_rfl) ?_
    | refine zaa (U := [[], [], [0], [1, 2], []]) (H := [⟨0, [], .hole⟩]) zag (by kernel_rfl) (by decide +kernel) (by kernel_rfl) ?_
    | refine zaa (U := [[], [], [], [], [], [], [], [], [7], []]) (H := []) zag (by kernel_rfl) (by decide +kernel) (by kernel_rfl) ?_
    | refine yda hu ?_
    | refine zat hrd ?_
    | refine zat hwr ?_
    | refine qbj (c_Gout (by simp) hrdy gs0) fun h5 w5 p5 => ?_)
            all_goals first
              | exact hu
              | skip
            obtain ⟨bd5, ow5, v4, v5, v6, hk5, q1, q2, q3⟩ := w5
            have e6 := p5.get E6 (fun hj => by have := hj.1; omega)
            have l5 := yac hk5
            have l6 := yac e6
            repeat' (first
    | simp (implicitDefEqProofs := false) only [push_cast, reduceIte, reduceCtorEq, Nat.reduceAdd, Nat.reduceSub, Nat.reduceEqDiff, Nat.reduceLT, Nat.reduceLeDiff, Nat.reduceBEq, Nat.reduceMul, Int.reduceLT, Int.reduceLE, Int.reduceEq, Int.reduceToNat, Int.reduceMul, Int.reduceNeg, Go.Proofs.Try.f33, hne, e6, hk5, l5, l6, gE, q1.ty zbr, gv_ty q2 ybs, q3.ty ybq, q1.pl, gv_pl q2, q3.pl, yaq, zad, yae, qad, zae, zab, qae, sst, qab, qaa, yaa, zac, qaq, List.replicate_succ, List.drop_zero]
    | refine Sp2.f ?_ ?_
    | refine Spl.f ?_ ?_ <;> intro hb
    | refine qac rfl (fun b hb => ?_)
    | refine zaa (U := [[], [], [], [], [], [], [0], [2, 4, 6], []]) (H := [⟨0, [], .hole⟩]) zag (by kernel_rfl) (by decide +kernel) (by kernel_rfl) ?_
    | refine zaa (U := [[], [], [0], [1, 2], []]) (H := [⟨0, [], .hole⟩]) zag (by kernel_rfl) (by decide +kernel) (by kernel_rfl) ?_
    | refine zaa (U := [[], [], [], [], [], [], [], [], [7], []]) (H := []) zag (by kernel_rfl) (by decide +kernel) (by kernel_rfl) ?_)
            exact qbw (h := h) q1 q2 q3 hlo (zal eR zby _) (fun j hj => hj.elim (fun a => by have := a.1; omega) fun a => by have := a.1; simp only [List.length_append, zab, List.length_cons, List.length_nil] at this; omega) (h.length + 2) (by omega) e6 rfl ((p5.take (by simp only [List.length_append, zab]; omega) (fun j hj => by have := hj.1; omega)).trans (by rw [List.take_append_of_le_length (by rw [zab]; omega), List.take_set_of_le (Nat.le_refl _)]; exact hT)) _
          · have hR : qb2 r.Kind = true := by rw [hkd]; kernel_rfl
            have hW : zbv r.Kind = false := by rw [hkd]; kernel_rfl
            rw [hR, hW] at hd
            rw [hR] at hrd
            rw [hW] at hwr
            have hB : (xR == 0) = false := by cases h : (xR == 0) with | false => rfl | true => rw [h] at hd; simp at hd
            have k8 : (r.Kind == 8) = false := by rw [hkd]; rfl
            have k1 : (r.Kind == 1) = false := by rw [hkd]; rfl
            have k7 : (r.Kind == 7) = false := by rw [hkd]; rfl
            have k6 : (r.Kind == 6) = false := by rw [hkd]; rfl
            have e2 : doW (aged s now) r [] = qa8 (aged s now) r [] (r.Kind == 3 || r.Kind == 5) (r.Kind == 4 || r.Kind == 5) := by
              rw [doW, if_neg (by rw [hnd]; decide), if_neg (by omega), if_pos hkd, hkd]; rfl
            rw [e2]
            repeat' (first
    | simp (implicitDefEqProofs := false) only [push_cast, reduceIte, reduceCtorEq, Nat.reduceAdd, Nat.reduceSub, Nat.reduceEqDiff, Nat.reduceLT, Nat.reduceLeDiff, Nat.reduceBEq, Nat.reduceMul, Int.reduceLT, Int.reduceLE, Int.reduceEq, Int.reduceToNat, Int.reduceMul, Int.reduceNeg, Go.Proofs.Try.f33, zda, a0, a1, a2, hk0, hk1, hk2, gS1, gq0, gq1, gq2, gq3, gR1, sN, hgL, hr6, hr7, ybg, hvt, hvp, yal hlt, yak, qal, zak, zcm, ycm, qb7, yaq, zay, zaz, yaz, Int.toNat_natCast, List.length_map, zad, yae, qad, zae, zab, qae, sst, qab, qaa, yaa, zac, qaq, List.replicate_succ, List.drop_zero, zaf hk0, yad hk0, qak hk0, yaf hk0, zaf hk1, yad hk1, qak hk1, yaf hk1, zaf hk2, yad hk2, qak hk2, yaf hk2, f1, f2, hbv, hbv', hB, k8, k1, k7, k6]
    | refine Sp2.f ?_ ?_
    | refine Spl.f ?_ ?_ <;> intro hb
    | refine qac rfl (fun b hb => ?_)
    | refine zaa (U := [[], [], [], [], [], [], [0], [2, 4, 6], []]) (H := [⟨0, [], .hole⟩]) zag (by kernel_rfl) (by decide +kernel) (by kernel_rfl) ?_
    | refine zaa (U := [[], [], [0], [1, 2], []]) (H := [⟨0, [], .hole⟩]) zag (by kernel_rfl) (by decide +kernel) (by kernel_rfl) ?_
    | refine zaa (U := [[], [], [], [], [], [], [], [], [7], []]) (H := []) zag (by kernel_rfl) (by decide +kernel) (by kernel_rfl) ?_
    | refine yda hu ?_
    | refine zat hrd ?_
    | refine zat hwr ?_
    | refine qbj (c_Glook (s := aged s now) (by omega) (by simp) (show s.Waiters.length ≤ 16 by omega) hrdy gs0) fun h5 w5 p5 => ?_)
            all_goals first
              | exact hu
              | skip
            obtain ⟨bd5, ow5, v4, v5, v6, hk5, q1, q2, q3⟩ := w5
            have e6 := p5.get E6 (fun hj => by have := hj.1; omega)
            have l5 := yac hk5
            have l6 := yac e6
            repeat' (first
    | simp (implicitDefEqProofs := false) only [push_cast, reduceIte, reduceCtorEq, Nat.reduceAdd, Nat.reduceSub, Nat.reduceEqDiff, Nat.reduceLT, Nat.reduceLeDiff, Nat.reduceBEq, Nat.reduceMul, Int.reduceLT, Int.reduceLE, Int.reduceEq, Int.reduceToNat, Int.reduceMul, Int.reduceNeg, Go.Proofs.Try.f33, hne, e6, hk5, l5, l6, gE, q1.ty zbr, gv_ty q2 ybs, q3.ty ybq, q1.pl, gv_pl q2, q3.pl, yaq, zad, yae, qad, zae, zab, qae, sst, qab, qaa, yaa, zac, qaq, List.replicate_succ, List.drop_zero]
    | refine Sp2.f ?_ ?_
    | refine Spl.f ?_ ?_ <;> intro hb
    | refine qac rfl (fun b hb => ?_)
    | refine zaa (U := [[], [], [], [], [], [], [0], [2, 4, 6], []]) (H := [⟨0, [], .hole⟩]) zag (by kernel_rfl) (by decide +kernel) (by kernel_rfl) ?_
    | refine zaa (U := [[], [], [0], [1, 2], []]) (H := [⟨0, [], .hole⟩]) zag (by kernel_rfl) (by decide +kernel) (by kernel_rfl) ?_
    | refine zaa (U := [[], [], [], [], [], [], [], [], [7], []]) (H := []) zag (by kernel_rfl) (by decide +kernel) (by kernel_rfl) ?_)
            exact qbw (h := h) q1 q2 q3 hlo (zal eR zby _) (fun j hj => hj.elim (fun a => by have := a.1; omega) fun a => by have := a.1; simp only [List.length_append, zab, List.length_cons, List.length_nil] at this; omega) (h.length + 2) (by omega) e6 rfl ((p5.take (by simp only [List.length_append, zab]; omega) (fun j hj => by have := hj.1; omega)).trans (by rw [List.take_append_of_le_length (by rw [zab]; omega), List.take_set_of_le (Nat.le_refl _)]; exact hT)) _
          · have hR : qb2 r.Kind = true := by rw [hkd]; kernel_rfl
            have hW : zbv r.Kind = true := by rw [hkd]; kernel_rfl
            rw [hR, hW] at hd
            rw [hR] at hrd
            rw [hW] at hwr
            have hB : (xR == 0) = false := by cases h : (xR == 0) with | false => rfl | true => rw [h] at hd; simp at hd
            have hB2 : (xW == 0) = false := by cases h : (xW == 0) with | false => rfl | true => rw [h] at hd; simp at hd
            have k8 : (r.Kind == 8) = false := by rw [hkd]; rfl
            have k1 : (r.Kind == 1) = false := by rw [hkd]; rfl
            have k7 : (r.Kind == 7) = false := by rw [hkd]; rfl
            have k6 : (r.Kind == 6) = false := by rw [hkd]; rfl
            have e2 : doW (aged s now) r [] = qa8 (aged s now) r [] (r.Kind == 3 || r.Kind == 5) (r.Kind == 4 || r.Kind == 5) := by
              rw [doW, if_neg (by rw [hnd]; decide), if_neg (by omega), if_neg (by omega), if_pos hkd, hkd]; rfl
            rw [e2]
            repeat' (first
    | simp (implicitDefEqProofs := false) only [push_cast, reduceIte, reduceCtorEq, Nat.reduceAdd, Nat.reduceSub, Nat.reduceEqDiff, Nat.reduceLT, Nat.reduceLeDiff, Nat.reduceBEq, Nat.reduceMul, Int.reduceLT, Int.reduceLE, Int.reduceEq, Int.reduceToNat, Int.reduceMul, Int.reduceNeg, Go.Proofs.Try.f33, zda, a0, a1, a2, hk0, hk1, hk2, gS1, gq0, gq1, gq2, gq3, gR1, sN, hgL, hr6, hr7, ybg, hvt, hvp, yal hlt, yak, qal, zak, zcm, ycm, qb7, yaq, zay, zaz, yaz, Int.toNat_natCast, List.length_map, zad, yae, qad, zae, zab, qae, sst, qab, qaa, yaa, zac, qaq, List.replicate_succ, List.drop_zero, zaf hk0, yad hk0, qak hk0, yaf hk0, zaf hk1, yad hk1, qak hk1, yaf hk1, zaf hk2, yad hk2, qak hk2, yaf hk2, f1, f2, hbv, hbv', hB, hbw, hbw', hB2, k8, k1, k7, k6]
    | refine Sp2.f ?_ ?_
    | refine Spl.f ?_ ?_ <;> intro hb
    | refine qac rfl (fun b hb => ?_)
    | refine zaa (U := [[], [], [], [], [], [], [0], [2, 4, 6], []]) (H := [⟨0, [], .hole⟩]) zag (by kernel_rfl) (by decide +kernel) (by kernel_rfl) ?_
    | refine zaa (U := [[], [], [0], [1, 2], []]) (H := [⟨0, [], .hole⟩]) zag (by kernel_rfl) (by decide +kernel) (by kernel_rfl) ?_
    | refine zaa (U := [[], [], [], [], [], [], [], [], [7], []]) (H := []) zag (by kernel_rfl) (by decide +kernel) (by kernel_rfl) ?_
    | refine yda hu ?_
    | refine zat hrd ?_
    | refine zat hwr ?_
    | refine qbj (c_Glook (s := aged s now) (by omega) (by simp) (show s.Waiters.length ≤ 16 by omega) hrdy gs0) fun h5 w5 p5 => ?_)
            all_goals first
              | exact hu
              | skip
            obtain ⟨bd5, ow5, v4, v5, v6, hk5, q1, q2, q3⟩ := w5
            have e6 := p5.get E6 (fun hj => by have := hj.1; omega)
            have l5 := yac hk5
            have l6 := yac e6
            repeat' (first
    | simp (implicitDefEqProofs := false) only [push_cast, reduceIte, reduceCtorEq, Nat.reduceAdd, Nat.reduceSub, Nat.reduceEqDiff, Nat.reduceLT, Nat.reduceLeDiff, Nat.reduceBEq, Nat.reduceMul, Int.reduceLT, Int.reduceLE, Int.reduceEq, Int.reduceToNat, Int.reduceMul, Int.reduceNeg, Go.Proofs.Try.f33, hne, e6, hk5, l5, l6, gE, q1.ty zbr, gv_ty q2 ybs, q3.ty ybq, q1.pl, gv_pl q2, q3.pl, yaq, zad, yae, qad, zae, zab, qae, sst, qab, qaa, yaa, zac, qaq, List.replicate_succ, List.drop_zero]
    | refine Sp2.f ?_ ?_
    | refine Spl.f ?_ ?_ <;> intro hb
    | refine qac rfl (fun b hb => ?_)
    | refine zaa (U := [[], [], [], [], [], [], [0], [2, 4, 6], []]) (H := [⟨0, [], .hole⟩]) zag (by kernel_rfl) (by decide +kernel) (by kernel_rfl) ?_
    | refine zaa (U := [[], [], [0], [1, 2], []]) (H := [⟨0, [], .hole⟩]) zag (by kernel_rfl) (by decide +kernel) (by kernel_rfl) ?_
    | refine zaa (U := [[], [], [], [], [], [], [], [], [7], []]) (H := []) zag (by kernel_rfl) (by decide +kernel) (by kernel_rfl) ?_)
            exact qbw (h := h) q1 q2 q3 hlo (zal eR zby _) (fun j hj => hj.elim (fun a => by have := a.1; omega) fun a => by have := a.1; simp only [List.length_append, zab, List.length_cons, List.length_nil] at this; omega) (h.length + 2) (by omega) e6 rfl ((p5.take (by simp only [List.length_append, zab]; omega) (fun j hj => by have := hj.1; omega)).trans (by rw [List.take_append_of_le_length (by rw [zab]; omega), List.take_set_of_le (Nat.le_refl _)]; exact hT)) _
          · have hR : qb2 r.Kind = true := by rw [hkd]; kernel_rfl
            have hW : zbv r.Kind = false := by rw [hkd]; kernel_rfl
            rw [hR, hW] at hd
            rw [hR] at hrd
            rw [hW] at hwr
            have hB : (xR == 0) = false := by cases h : (xR == 0) with | false => rfl | true => rw [h] at hd; simp at hd
            have k8 : (r.Kind == 8) = false := by rw [hkd]; rfl
            have k1 : (r.Kind == 1) = false := by rw [hkd]; rfl
            have k7 : (r.Kind == 7) = false := by rw [hkd]; rfl
            have k6 : (r.Kind == 6) = false := by rw [hkd]; rfl
            have e2 : doW (aged s now) r [] = qa8 (aged s now) r [] (r.Kind == 3 || r.Kind == 5) (r.Kind == 4 || r.Kind == 5) := by
              rw [doW, if_neg (by rw [hnd]; decide), if_neg (by omega), if_neg (by omega), if_neg (by omega), if_pos hkd, hkd]; rfl
            rw [e2]
            repeat' (first
    | simp (implicitDefEqProofs := false) only [push_cast, reduceIte, reduceCtorEq, Nat.reduceAdd, Nat.reduceSub, Nat.reduceEqDiff, Nat.reduceLT, Nat.reduceLeDiff, Nat.reduceBEq, Nat.reduceMul, Int.reduceLT, Int.reduceLE, Int.reduceEq, Int.reduceToNat, Int.reduceMul, Int.reduceNeg, Go.Proofs.Try.f33, zda, a0, a1, a2, hk0, hk1, hk2, gS1, gq0, gq1, gq2, gq3, gR1, sN, hgL, hr6, hr7, ybg, hvt, hvp, yal hlt, yak, qal, zak, zcm, ycm, qb7, yaq, zay, zaz, yaz, Int.toNat_natCast, List.length_map, zad, yae, qad, zae, zab, qae, sst, qab, qaa, yaa, zac, qaq, List.replicate_succ, List.drop_zero, zaf hk0, yad hk0, qak hk0, yaf hk0, zaf hk1, yad hk1, qak hk1, yaf hk1, zaf hk2, yad hk2, qak hk2, yaf hk2, f1, f2, hbv, hbv', hB, k8, k1, k7, k6]
    | refine Sp2.f ?_ ?_
    | refine Spl.f ?_ ?_ <;> intro hb
    | refine qac rfl (fun b hb => ?_)
    | refine zaa (U := [[], [], [], [], [], [], [0], [2, 4, 6], []]) (H := [⟨0, [], .hole⟩]) zag (by kernel_rfl) (by decide +kernel) (by kernel_rfl) ?_
    | refine zaa (U := [[], [], [0], [1, 2], []]) (H := [⟨0, [], .hole⟩]) zag (by kernel_rfl) (by decide +kernel) (by kernel_rfl) ?_
    | refine zaa (U := [[], [], [], [], [], [], [], [], [7], []]) (H := []) zag (by kernel_rfl) (by decide +kernel) (by kernel_rfl) ?_
    | refine yda hu ?_
    | refine zat hrd ?_
    | refine zat hwr ?_
    | refine qbj (c_Glook (s := aged s now) (by omega) (by simp) (show s.Waiters.length ≤ 16 by omega) hrdy gs0) fun h5 w5 p5 => ?_)
            all_goals first
              | exact hu
              | skip
            obtain ⟨bd5, ow5, v4, v5, v6, hk5, q1, q2, q3⟩ := w5
            have e6 := p5.get E6 (fun hj => by have := hj.1; omega)
            have l5 := yac hk5
            have l6 := yac e6
            repeat' (first
    | simp (implicitDefEqProofs := false) only [push_cast, reduceIte, reduceCtorEq, Nat.reduceAdd, Nat.reduceSub, Nat.reduceEqDiff, Nat.reduceLT, Nat.reduceLeDiff, Nat.reduceBEq, Nat.reduceMul, Int.reduceLT, Int.reduceLE, Int.reduceEq, Int.reduceToNat, Int.reduceMul, Int.reduceNeg, Go.Proofs.Try.f33, hne, e6, hk5, l5, l6, gE, q1.ty zbr, gv_ty q2 ybs, q3.ty ybq, q1.pl, gv_pl q2, q3.pl, yaq, zad, yae, qad, zae, zab, qae, sst, qab, qaa, yaa, zac, qaq, List.replicate_succ, List.drop_zero]
    | refine Sp2.f ?_ ?_
    | refine Spl.f ?_ ?_ <;> intro hb
    | refine qac rfl (fun b hb => ?_)
    | refine zaa (U := [[], [], [], [], [], [], [0], [2, 4, 6], []]) (H := [⟨0, [], .hole⟩]) zag (by kernel_rfl) (by decide +kernel) (by kernel_rfl) ?_
    | refine zaa (U := [[], [], [0], [1, 2], []]) (H := [⟨0, [], .hole⟩]) zag (by kernel_rfl) (by decide +kernel) (by kernel_rfl) ?_
    | refine zaa (U := [[], [], [], [], [], [], [], [], [7], []]) (H := []) zag (by kernel_rfl) (by decide +kernel) (by kernel_rfl) ?_)
            exact qbw (h := h) q1 q2 q3 hlo (zal eR zby _) (fun j hj => hj.elim (fun a => by have := a.1; omega) fun a => by have := a.1; simp only [List.length_append, zab, List.length_cons, List.length_nil] at this; omega) (h.length + 2) (by omega) e6 rfl ((p5.take (by simp only [List.length_append, zab]; omega) (fun j hj => by have := hj.1; omega)).trans (by rw [List.take_append_of_le_length (by rw [zab]; omega), List.take_set_of_le (Nat.le_refl _)]; exact hT)) _
          · have hR : qb2 r.Kind = true := by rw [hkd]; kernel_rfl
            have hW : zbv r.Kind = true := by rw [hkd]; kernel_rfl
            rw [hR, hW] at hd
            rw [hR] at hrd
            rw [hW] at hwr
            have hB : (xR == 0) = false := by cases h : (xR == 0) with | false => rfl | true => rw [h] at hd; simp at hd
            have hB2 : (xW == 0) = false := by cases h : (xW == 0) with | false => rfl | true => rw [h] at hd; simp at hd
            have k8 : (r.Kind == 8) = false := by rw [hkd]; rfl
            have k1 : (r.Kind == 1) = false := by rw [hkd]; rfl
            have k7 : (r.Kind == 7) = false := by rw [hkd]; rfl
            have k6 : (r.Kind == 6) = false := by rw [hkd]; rfl
            have e2 : doW (aged s now) r [] = qa8 (aged s now) r [] (r.Kind == 3 || r.Kind == 5) (r.Kind == 4 || r.Kind == 5) := by
              rw [doW, if_neg (by rw [hnd]; decide), if_neg (by omega), if_neg (by omega), if_neg (by omega), if_neg (by omega), if_pos hkd, hkd]; rfl
            rw [e2]
            repeat' (first
    | simp (implicitDefEqProofs := false) only [push_cast, reduceIte, reduceCtorEq, Nat.reduceAdd, Nat.reduceSub, Nat.reduceEqDiff, Nat.reduceLT, Nat.reduceLeDiff, Nat.reduceBEq, Nat.reduceMul, Int.reduceLT, Int.reduceLE, Int.reduceEq, Int.reduceToNat, Int.reduceMul, Int.reduceNeg, Go.Proofs.Try.f33, zda, a0, a1, a2, hk0, hk1, hk2, gS1, gq0, gq1, gq2, gq3, gR1, sN, hgL, hr6, hr7, ybg, hvt, hvp, yal hlt, yak, qal, zak, zcm, ycm, qb7, yaq, zay, zaz, yaz, Int.toNat_natCast, List.length_map, zad, yae, qad, zae, zab, qae, sst, qab, qaa, yaa, zac, qaq, List.replicate_succ, List.drop_zero, zaf hk0, yad hk0, qak hk0, yaf hk0, zaf hk1, yad hk1, qak hk1, yaf hk1, zaf hk2, yad hk2, qak hk2, yaf hk2, f1, f2, hbv, hbv', hB, hbw, hbw', hB2, k8, k1, k7, k6]
    | refine Sp2.f ?_ ?_
    | refine Spl.f ?_ ?_ <;> intro hb
    | refine qac rfl (fun b hb => ?_)
    | refine zaa (U := [[], [], [], [], [], [], [0], [2, 4, 6], []]) (H := [⟨0, [], .hole⟩]) zag (by kernel_rfl) (by decide +kernel) (by kernel_rfl) ?_
    | refine zaa (U := [[], [], [0], [1, 2], []]) (H := [⟨0, [], .hole⟩]) zag (by kernel_rfl) (by decide +kernel) (by kernel_rfl) ?_
    | refine zaa (U := [[], [], [], [], [], [], [], [], [7], []]) (H := []) zag (by kernel_rfl) (by decide +kernel) (by kernel_rfl) ?_
    | refine yda hu ?_
    | refine zat hrd ?_
    | refine zat hwr ?_
    | refine qbj (c_Glook (s := aged s now) (by omega) (by simp) (show s.Waiters.length ≤ 16 by omega) hrdy gs0) fun h5 w5 p5 => ?_)
            all_goals first
              | exact hu
              | skip
            obtain ⟨bd5, ow5, v4, v5, v6, hk5, q1, q2, q3⟩ := w5
            have e6 := p5.get E6 (fun hj => by have := hj.1; omega)
            have l5 := yac hk5
            have l6 := yac e6
            repeat' (first
    | simp (implicitDefEqProofs := false) only [push_cast, reduceIte, reduceCtorEq, Nat.reduceAdd, Nat.reduceSub, Nat.reduceEqDiff, Nat.reduceLT, Nat.reduceLeDiff, Nat.reduceBEq, Nat.reduceMul, Int.reduceLT, Int.reduceLE, Int.reduceEq, Int.reduceToNat, Int.reduceMul, Int.reduceNeg, Go.Proofs.Try.f33, hne, e6, hk5, l5, l6, gE, q1.ty zbr, gv_ty q2 ybs, q3.ty ybq, q1.pl, gv_pl q2, q3.pl, yaq, zad, yae, qad, zae, zab, qae, sst, qab, qaa, yaa, zac, qaq, List.replicate_succ, List.drop_zero]
    | refine Sp2.f ?_ ?_
    | refine Spl.f ?_ ?_ <;> intro hb
    | refine qac rfl (fun b hb => ?_)
    | refine zaa (U := [[], [], [], [], [], [], [0], [2, 4, 6], []]) (H := [⟨0, [], .hole⟩]) zag (by kernel_rfl) (by decide +kernel) (by kernel_rfl) ?_
    | refine zaa (U := [[], [], [0], [1, 2], []]) (H := [⟨0, [], .hole⟩]) zag (by kernel_rfl) (by decide +kernel) (by kernel_rfl) ?_
    | refine zaa (U := [[], [], [], [], [], [], [], [], [7], []]) (H := []) zag (by kernel_rfl) (by decide +kernel) (by kernel_rfl) ?_)
            exact qbw (h := h) q1 q2 q3 hlo (zal eR zby _) (fun j hj => hj.elim (fun a => by have := a.1; omega) fun a => by have := a.1; simp only [List.length_append, zab, List.length_cons, List.length_nil] at this; omega) (h.length + 2) (by omega) e6 rfl ((p5.take (by simp only [List.length_append, zab]; omega) (fun j hj => by have := hj.1; omega)).trans (by rw [List.take_append_of_le_length (by rw [zab]; omega), List.take_set_of_le (Nat.le_refl _)]; exact hT)) _
          · have hR : qb2 r.Kind = true := by rw [hkd]; kernel_rfl
            have hW : zbv r.Kind = true := by rw [hkd]; kernel_rfl
            rw [hR, hW] at hd
            rw [hR] at hrd
            rw [hW] at hwr
            have hB : (xR == 0) = false := by cases h : (xR == 0) with | false => rfl | true => rw [h] at hd; simp at hd
            have hB2 : (xW == 0) = false := by cases h : (xW == 0) with | false => rfl | true => rw [h] at hd; simp at hd
            have k8 : (r.Kind == 8) = false := by rw [hkd]; rfl
            have k1 : (r.Kind == 1) = false := by rw [hkd]; rfl
            have k7 : (r.Kind == 7) = false := by rw [hkd]; rfl
            have k6 : (r.Kind == 6) = true := by rw [hkd]; rfl
            by_cases hat : 0 ≤ za6 (aged s now) r.P
            · have hge : decide ((0 : Int) ≤ za6 (aged s now) r.P) = true := by simpa using hat
              have e2 : doW (aged s now) r [] = (ya1 (aged s now) r 3 [], [] ++ [rep r 3 []]) := by rw [do_cas hnd hkd, if_pos hat]; rfl
              rw [e2]
              repeat' (first
    | simp (implicitDefEqProofs := false) only [push_cast, reduceIte, reduceCtorEq, Nat.reduceAdd, Nat.reduceSub, Nat.reduceEqDiff, Nat.reduceLT, Nat.reduceLeDiff, Nat.reduceBEq, Nat.reduceMul, Int.reduceLT, Int.reduceLE, Int.reduceEq, Int.reduceToNat, Int.reduceMul, Int.reduceNeg, Go.Proofs.Try.f33, zda, a0, a1, a2, hk0, hk1, hk2, gS1, gq0, gq1, gq2, gq3, gR1, sN, hgL, hr6, hr7, ybg, hvt, hvp, yal hlt, yak, qal, zak, zcm, ycm, qb7, yaq, zay, zaz, yaz, Int.toNat_natCast, List.length_map, zad, yae, qad, zae, zab, qae, sst, qab, qaa, yaa, zac, qaq, List.replicate_succ, List.drop_zero, zaf hk0, yad hk0, qak hk0, yaf hk0, zaf hk1, yad hk1, qak hk1, yaf hk1, zaf hk2, yad hk2, qak hk2, yaf hk2, f1, f2, hbv, hbv', hB, hbw, hbw', hB2, k8, k1, k7, k6, hge]
    | refine Sp2.f ?_ ?_
    | refine Spl.f ?_ ?_ <;> intro hb
    | refine qac rfl (fun b hb => ?_)
    | refine zaa (U := [[], [], [], [], [], [], [0], [2, 4, 6], []]) (H := [⟨0, [], .hole⟩]) zag (by kernel_rfl) (by decide +kernel) (by kernel_rfl) ?_
    | refine zaa (U := [[], [], [0], [1, 2], []]) (H := [⟨0, [], .hole⟩]) zag (by kernel_rfl) (by decide +kernel) (by kernel_rfl) ?_
    | refine zaa (U := [[], [], [], [], [], [], [], [], [7], []]) (H := []) zag (by kernel_rfl) (by decide +kernel) (by kernel_rfl) ?_
    | refine yda hu ?_
    | refine zat hrd ?_
    | refine zat hwr ?_
    | refine qa1 hfo ?_
    | refine qbj ((qat 3 [] (by simp) hrdy gs0).n) fun h5 w5 p5 => ?_)
              all_goals first
                | exact hu
                | skip
              obtain ⟨bd5, ow5, v4, v5, v6, hk5, q1, q2, q3⟩ := w5
              have e6 := p5.get E6 (fun hj => by have := hj.1; omega)
              have l5 := yac hk5
              have l6 := yac e6
              repeat' (first
    | simp (implicitDefEqProofs := false) only [push_cast, reduceIte, reduceCtorEq, Nat.reduceAdd, Nat.reduceSub, Nat.reduceEqDiff, Nat.reduceLT, Nat.reduceLeDiff, Nat.reduceBEq, Nat.reduceMul, Int.reduceLT, Int.reduceLE, Int.reduceEq, Int.reduceToNat, Int.reduceMul, Int.reduceNeg, Go.Proofs.Try.f33, hne, e6, hk5, l5, l6, gE, q1.ty zbr, gv_ty q2 ybs, q3.ty ybq, q1.pl, gv_pl q2, q3.pl, yaq, zad, yae, qad, zae, zab, qae, sst, qab, qaa, yaa, zac, qaq, List.replicate_succ, List.drop_zero]
    | refine Sp2.f ?_ ?_
    | refine Spl.f ?_ ?_ <;> intro hb
    | refine qac rfl (fun b hb => ?_)
    | refine zaa (U := [[], [], [], [], [], [], [0], [2, 4, 6], []]) (H := [⟨0, [], .hole⟩]) zag (by kernel_rfl) (by decide +kernel) (by kernel_rfl) ?_
    | refine zaa (U := [[], [], [0], [1, 2], []]) (H := [⟨0, [], .hole⟩]) zag (by kernel_rfl) (by decide +kernel) (by kernel_rfl) ?_
    | refine zaa (U := [[], [], [], [], [], [], [], [], [7], []]) (H := []) zag (by kernel_rfl) (by decide +kernel) (by kernel_rfl) ?_)
              exact qbw (h := h) q1 q2 q3 hlo (zal eR zby _) (fun j hj => hj.elim (fun a => by have := a.1; omega) fun a => by have := a.1; simp only [List.length_append, zab, List.length_cons, List.length_nil] at this; omega) (h.length + 2) (by omega) e6 rfl ((p5.take (by simp only [List.length_append, zab]; omega) (fun j hj => by have := hj.1; omega)).trans (by rw [List.take_append_of_le_length (by rw [zab]; omega), List.take_set_of_le (Nat.le_refl _)]; exact hT)) _
            · have hge : decide ((0 : Int) ≤ za6 (aged s now) r.P) = false := by simpa using hat
              have e2 : doW (aged s now) r [] = qa9 (aged s now) r [] := by rw [do_cas hnd hkd, if_neg hat]
              rw [e2]
              repeat' (first
    | simp (implicitDefEqProofs := false) only [push_cast, reduceIte, reduceCtorEq, Nat.reduceAdd, Nat.reduceSub, Nat.reduceEqDiff, Nat.reduceLT, Nat.reduceLeDiff, Nat.reduceBEq, Nat.reduceMul, Int.reduceLT, Int.reduceLE, Int.reduceEq, Int.reduceToNat, Int.reduceMul, Int.reduceNeg, Go.Proofs.Try.f33, zda, a0, a1, a2, hk0, hk1, hk2, gS1, gq0, gq1, gq2, gq3, gR1, sN, hgL, hr6, hr7, ybg, hvt, hvp, yal hlt, yak, qal, zak, zcm, ycm, qb7, yaq, zay, zaz, yaz, Int.toNat_natCast, List.length_map, zad, yae, qad, zae, zab, qae, sst, qab, qaa, yaa, zac, qaq, List.replicate_succ, List.drop_zero, zaf hk0, yad hk0, qak hk0, yaf hk0, zaf hk1, yad hk1, qak hk1, yaf hk1, zaf hk2, yad hk2, qak hk2, yaf hk2, f1, f2, hbv, hbv', hB, hbw, hbw', hB2, k8, k1, k7, k6, hge]
    | refine Sp2.f ?_ ?_
    | refine Spl.f ?_ ?_ <;> intro hb
    | refine qac rfl (fun b hb => ?_)
    | refine zaa (U := [[], [], [], [], [], [], [0], [2, 4, 6], []]) (H := [⟨0, [], .hole⟩]) zag (by kernel_rfl) (by decide +kernel) (by kernel_rfl) ?_
    | refine zaa (U := [[], [], [0], [1, 2], []]) (H := [⟨0, [], .hole⟩]) zag (by kernel_rfl) (by decide +kernel) (by kernel_rfl) ?_
    | refine zaa (U := [[], [], [], [], [], [], [], [], [7], []]) (H := []) zag (by kernel_rfl) (by decide +kernel) (by kernel_rfl) ?_
    | refine yda hu ?_
    | refine zat hrd ?_
    | refine zat hwr ?_
    | refine qa1 hfo ?_
    | refine qbj (c_Gout (by simp) hrdy gs0) fun h5 w5 p5 => ?_)
              all_goals first
                | exact hu
                | skip
              obtain ⟨bd5, ow5, v4, v5, v6, hk5, q1, q2, q3⟩ := w5
              have e6 := p5.get E6 (fun hj => by have := hj.1; omega)
              have l5 := yac hk5
              have l6 := yac e6
              repeat' (first
    | simp (implicitDefEqProofs := false) only [push_cast, reduceIte, reduceCtorEq, Nat.reduceAdd, Nat.reduceSub, Nat.reduceEqDiff, Nat.reduceLT, Nat.reduceLeDiff, Nat.reduceBEq, Nat.reduceMul, Int.reduceLT, Int.reduceLE, Int.reduceEq, Int.reduceToNat, Int.reduceMul, Int.reduceNeg, Go.Proofs.Try.f33, hne, e6, hk5, l5, l6, gE, q1.ty zbr, gv_ty q2 ybs, q3.ty ybq, q1.pl, gv_pl q2, q3.pl, yaq, zad, yae, qad, zae, zab, qae, sst, qab, qaa, yaa, zac, qaq, List.replicate_succ, List.drop_zero]
    | refine Sp2.f ?_ ?_
    | refine Spl.f ?_ ?_ <;> intro hb
    | refine qac rfl (fun b hb => ?_)
    | refine zaa (U := [[], [], [], [], [], [], [0], [2, 4, 6], []]) (H := [⟨0, [], .hole⟩]) zag (by kernel_rfl) (by decide +kernel) (by kernel_rfl) ?_
    | refine zaa (U := [[], [], [0], [1, 2], []]) (H := [⟨0, [], .hole⟩]) zag (by kernel_rfl) (by decide +kernel) (by kernel_rfl) ?_
    | refine zaa (U := [[], [], [], [], [], [], [], [], [7], []]) (H := []) zag (by kernel_rfl) (by decide +kernel) (by kernel_rfl) ?_)
              exact qbw (h := h) q1 q2 q3 hlo (zal eR zby _) (fun j hj => hj.elim (fun a => by have := a.1; omega) fun a => by have := a.1; simp only [List.length_append, zab, List.length_cons, List.length_nil] at this; omega) (h.length + 2) (by omega) e6 rfl ((p5.take (by simp only [List.length_append, zab]; omega) (fun j hj => by have := hj.1; omega)).trans (by rw [List.take_append_of_le_length (by rw [zab]; omega), List.take_set_of_le (Nat.le_refl _)]; exact hT)) _
          · have hR : qb2 r.Kind = true := by rw [hkd]; kernel_rfl
            have hW : zbv r.Kind = true := by rw [hkd]; kernel_rfl
            rw [hR, hW] at hd
            rw [hR] at hrd
            rw [hW] at hwr
            have hB : (xR == 0) = false := by cases h : (xR == 0) with | false => rfl | true => rw [h] at hd; simp at hd
            have hB2 : (xW == 0) = false := by cases h : (xW == 0) with | false => rfl | true => rw [h] at hd; simp at hd
            have k8 : (r.Kind == 8) = false := by rw [hkd]; rfl
            have k1 : (r.Kind == 1) = false := by rw [hkd]; rfl
            have k7 : (r.Kind == 7) = true := by rw [hkd]; rfl
            have k6 : (r.Kind == 6) = false := by rw [hkd]; rfl
            have e2 : doW (aged s now) r [] = ybz (aged s now) r [] := do_replace hnd hkd
            rw [e2]
            repeat' (first
    | simp (implicitDefEqProofs := false) only [push_cast, reduceIte, reduceCtorEq, Nat.reduceAdd, Nat.reduceSub, Nat.reduceEqDiff, Nat.reduceLT, Nat.reduceLeDiff, Nat.reduceBEq, Nat.reduceMul, Int.reduceLT, Int.reduceLE, Int.reduceEq, Int.reduceToNat, Int.reduceMul, Int.reduceNeg, Go.Proofs.Try.f33, zda, a0, a1, a2, hk0, hk1, hk2, gS1, gq0, gq1, gq2, gq3, gR1, sN, hgL, hr6, hr7, ybg, hvt, hvp, yal hlt, yak, qal, zak, zcm, ycm, qb7, yaq, zay, zaz, yaz, Int.toNat_natCast, List.length_map, zad, yae, qad, zae, zab, qae, sst, qab, qaa, yaa, zac, qaq, List.replicate_succ, List.drop_zero, zaf hk0, yad hk0, qak hk0, yaf hk0, zaf hk1, yad hk1, qak hk1, yaf hk1, zaf hk2, yad hk2, qak hk2, yaf hk2, f1, f2, hbv, hbv', hB, hbw, hbw', hB2, k8, k1, k7, k6]
    | refine Sp2.f ?_ ?_
    | refine Spl.f ?_ ?_ <;> intro hb
    | refine qac rfl (fun b hb => ?_)
    | refine zaa (U := [[], [], [], [], [], [], [0], [2, 4, 6], []]) (H := [⟨0, [], .hole⟩]) zag (by kernel_rfl) (by decide +kernel) (by kernel_rfl) ?_
    | refine zaa (U := [[], [], [0], [1, 2], []]) (H := [⟨0, [], .hole⟩]) zag (by kernel_rfl) (by decide +kernel) (by kernel_rfl) ?_
    | refine zaa (U := [[], [], [], [], [], [], [], [], [7], []]) (H := []) zag (by kernel_rfl) (by decide +kernel) (by kernel_rfl) ?_
    | refine yda hu ?_
    | refine zat hrd ?_
    | refine zat hwr ?_
    | refine qbj (c_Greplace (s := aged s now) (by simp) (show (zc0 now s.Items).length ≤ 64 by have := List.length_filter_le (fun x => !expd now x) s.Items; unfold zc0; omega) hrdy gs0) fun h5 w5 p5 => ?_)
            all_goals first
              | exact hu
              | skip
            obtain ⟨bd5, ow5, v4, v5, v6, hk5, q1, q2, q3⟩ := w5
            have e6 := p5.get E6 (fun hj => by have := hj.1; omega)
            have l5 := yac hk5
            have l6 := yac e6
            repeat' (first
    | simp (implicitDefEqProofs := false) only [push_cast, reduceIte, reduceCtorEq, Nat.reduceAdd, Nat.reduceSub, Nat.reduceEqDiff, Nat.reduceLT, Nat.reduceLeDiff, Nat.reduceBEq, Nat.reduceMul, Int.reduceLT, Int.reduceLE, Int.reduceEq, Int.reduceToNat, Int.reduceMul, Int.reduceNeg, Go.Proofs.Try.f33, hne, e6, hk5, l5, l6, gE, q1.ty zbr, gv_ty q2 ybs, q3.ty ybq, q1.pl, gv_pl q2, q3.pl, yaq, zad, yae, qad, zae, zab, qae, sst, qab, qaa, yaa, zac, qaq, List.replicate_succ, List.drop_zero]
    | refine Sp2.f ?_ ?_
    | refine Spl.f ?_ ?_ <;> intro hb
    | refine qac rfl (fun b hb => ?_)
    | refine zaa (U := [[], [], [], [], [], [], [0], [2, 4, 6], []]) (H := [⟨0, [], .hole⟩]) zag (by kernel_rfl) (by decide +kernel) (by kernel_rfl) ?_
    | refine zaa (U := [[], [], [0], [1, 2], []]) (H := [⟨0, [], .hole⟩]) zag (by kernel_rfl) (by decide +kernel) (by kernel_rfl) ?_
    | refine zaa (U := [[], [], [], [], [], [], [], [], [7], []]) (H := []) zag (by kernel_rfl) (by decide +kernel) (by kernel_rfl) ?_)
            exact qbw (h := h) q1 q2 q3 hlo (zal eR zby _) (fun j hj => hj.elim (fun a => by have := a.1; omega) fun a => by have := a.1; simp only [List.length_append, zab, List.length_cons, List.length_nil] at this; omega) (h.length + 2) (by omega) e6 rfl ((p5.take (by simp only [List.length_append, zab]; omega) (fun j hj => by have := hj.1; omega)).trans (by rw [List.take_append_of_le_length (by rw [zab]; omega), List.take_set_of_le (Nat.le_refl _)]; exact hT)) _
          · have hR : qb2 r.Kind = false := by rw [hkd]; kernel_rfl
            have hW : zbv r.Kind = false := by rw [hkd]; kernel_rfl
            rw [hR, hW] at hd
            rw [hR] at hrd
            rw [hW] at hwr
            have k8 : (r.Kind == 8) = true := by rw [hkd]; rfl
            have k1 : (r.Kind == 1) = false := by rw [hkd]; rfl
            have k7 : (r.Kind == 7) = false := by rw [hkd]; rfl
            have k6 : (r.Kind == 6) = false := by rw [hkd]; rfl
            have e2 : doW (aged s now) r [] = (ya1 (aged s now) r 1 [], [] ++ [rep r 1 []]) := by rw [doW, if_neg (by rw [hnd]; decide), if_neg (by omega), if_neg (by omega), if_neg (by omega), if_neg (by omega), if_neg (by omega), if_neg (by omega), if_neg (by omega)]
            rw [e2]
            repeat' (first
    | simp (implicitDefEqProofs := false) only [push_cast, reduceIte, reduceCtorEq, Nat.reduceAdd, Nat.reduceSub, Nat.reduceEqDiff, Nat.reduceLT, Nat.reduceLeDiff, Nat.reduceBEq, Nat.reduceMul, Int.reduceLT, Int.reduceLE, Int.reduceEq, Int.reduceToNat, Int.reduceMul, Int.reduceNeg, Go.Proofs.Try.f33, zda, a0, a1, a2, hk0, hk1, hk2, gS1, gq0, gq1, gq2, gq3, gR1, sN, hgL, hr6, hr7, ybg, hvt, hvp, yal hlt, yak, qal, zak, zcm, ycm, qb7, yaq, zay, zaz, yaz, Int.toNat_natCast, List.length_map, zad, yae, qad, zae, zab, qae, sst, qab, qaa, yaa, zac, qaq, List.replicate_succ, List.drop_zero, zaf hk0, yad hk0, qak hk0, yaf hk0, zaf hk1, yad hk1, qak hk1, yaf hk1, zaf hk2, yad hk2, qak hk2, yaf hk2, f1, f2, k8, k1, k7, k6]
    | refine Sp2.f ?_ ?_
    | refine Spl.f ?_ ?_ <;> intro hb
    | refine qac rfl (fun b hb => ?_)
    | refine zaa (U := [[], [], [], [], [], [], [0], [2, 4, 6], []]) (H := [⟨0, [], .hole⟩]) zag (by kernel_rfl) (by decide +kernel) (by kernel_rfl) ?_
    | refine zaa (U := [[], [], [0], [1, 2], []]) (H := [⟨0, [], .hole⟩]) zag (by kernel_rfl) (by decide +kernel) (by kernel_rfl) ?_
    | refine zaa (U := [[], [], [], [], [], [], [], [], [7], []]) (H := []) zag (by kernel_rfl) (by decide +kernel) (by kernel_rfl) ?_
    | refine yda hu ?_
    | refine zat hrd ?_
    | refine zat hwr ?_
    | refine qbj ((qat 1 [] (by simp) hrdy gs0).n) fun h5 w5 p5 => ?_)
            all_goals first
              | exact hu
              | skip
            obtain ⟨bd5, ow5, v4, v5, v6, hk5, q1, q2, q3⟩ := w5
            have e6 := p5.get E6 (fun hj => by have := hj.1; omega)
            have l5 := yac hk5
            have l6 := yac e6
            repeat' (first
    | simp (implicitDefEqProofs := false) only [push_cast, reduceIte, reduceCtorEq, Nat.reduceAdd, Nat.reduceSub, Nat.reduceEqDiff, Nat.reduceLT, Nat.reduceLeDiff, Nat.reduceBEq, Nat.reduceMul, Int.reduceLT, Int.reduceLE, Int.reduceEq, Int.reduceToNat, Int.reduceMul, Int.reduceNeg, Go.Proofs.Try.f33, hne, e6, hk5, l5, l6, gE, q1.ty zbr, gv_ty q2 ybs, q3.ty ybq, q1.pl, gv_pl q2, q3.pl, yaq, zad, yae, qad, zae, zab, qae, sst, qab, qaa, yaa, zac, qaq, List.replicate_succ, List.drop_zero]
    | refine Sp2.f ?_ ?_
    | refine Spl.f ?_ ?_ <;> intro hb
    | refine qac rfl (fun b hb => ?_)
    | refine zaa (U := [[], [], [], [], [], [], [0], [2, 4, 6], []]) (H := [⟨0, [], .hole⟩]) zag (by kernel_rfl) (by decide +kernel) (by kernel_rfl) ?_
    | refine zaa (U := [[], [], [0], [1, 2], []]) (H := [⟨0, [], .hole⟩]) zag (by kernel_rfl) (by decide +kernel) (by kernel_rfl) ?_
    | refine zaa (U := [[], [], [], [], [], [], [], [], [7], []]) (H := []) zag (by kernel_rfl) (by decide +kernel) (by kernel_rfl) ?_)
            exact qbw (h := h) q1 q2 q3 hlo (zal eR zby _) (fun j hj => hj.elim (fun a => by have := a.1; omega) fun a => by have := a.1; simp only [List.length_append, zab, List.length_cons, List.length_nil] at this; omega) (h.length + 2) (by omega) e6 rfl ((p5.take (by simp only [List.length_append, zab]; omega) (fun j hj => by have := hj.1; omega)).trans (by rw [List.take_append_of_le_length (by rw [zab]; omega), List.take_set_of_le (Nat.le_refl _)]; exact hT)) _
  · have e : doS s now r = (s, []) := by rw [doS, if_neg hok]
    rw [e]
    have hok : doOK s now r = false := by simpa using hok
    have hcs : yct s = false ∨ (yct s = true ∧ zcp r = false) ∨ (yct s = true ∧ zcp r = true ∧ decide (now < s.Now) = true) ∨ (yct s = true ∧ zcp r = true ∧ decide (now < s.Now) = false ∧ decide (1099511627776 < now) = true) := by
      simp only [doOK] at hok
      cases h1 : yct s <;> cases h2 : zcp r <;> simp_all
      omega
    rcases hcs with m1 | ⟨m1, m2⟩ | ⟨m1, m2, m3⟩ | ⟨m1, m2, m3, m4⟩
    all_goals
      have hp1 := m1
      repeat' (first
    | simp (implicitDefEqProofs := false) only [push_cast, reduceIte, reduceCtorEq, Nat.reduceAdd, Nat.reduceSub, Nat.reduceEqDiff, Nat.reduceLT, Nat.reduceLeDiff, Nat.reduceBEq, Nat.reduceMul, Int.reduceLT, Int.reduceLE, Int.reduceEq, Int.reduceToNat, Int.reduceMul, Int.reduceNeg, Go.Proofs.Try.f33, *, qbx, zcd, yb3, zay, zaz, yaz, zad, yae, qad, zae, zab, qae, sst, qab, qaa, yaa, zac, qaq, List.replicate_succ, List.drop_zero]
    | refine Sp2.f ?_ ?_
    | refine Spl.f ?_ ?_ <;> intro hb
    | refine qac rfl (fun b hb => ?_)
    | refine zaa (U := [[], [], [], [], [], [], [0], [2, 4, 6], []]) (H := [⟨0, [], .hole⟩]) zag (by kernel_rfl) (by decide +kernel) (by kernel_rfl) ?_
    | refine zaa (U := [[], [], [0], [1, 2], []]) (H := [⟨0, [], .hole⟩]) zag (by kernel_rfl) (by decide +kernel) (by kernel_rfl) ?_
    | refine zaa (U := [[], [], [], [], [], [], [], [], [7], []]) (H := []) zag (by kernel_rfl) (by decide +kernel) (by kernel_rfl) ?_
    | refine zat hms ?_
    | refine zat hmq ?_)
      refine ⟨[eS s, .nils], rfl, ?_, ?_⟩
      · simp only [rzL, ybm _ (zcj s), rz, zaq, zap _ (zcj s), qam, Bool.and_self]
      · simp only [rzL, ybm _ (zcj s), rz]
        exact ⟨_, rfl, ⟨qbx s, by rw [zbs, ybq]; rfl, trivial⟩, by simp only [wkrs, eS_wkr, wkr_nils, zbb, ybq, yap]; rfl⟩
end Go.Abs
