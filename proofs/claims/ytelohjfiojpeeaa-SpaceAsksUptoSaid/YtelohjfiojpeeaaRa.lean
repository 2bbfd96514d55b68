/- Ra: a part of the proofs about the tuple space (layer 8). -/
import Derived.Test.YtelohjfiojpeeaaR9
import Derived.Test.YtelohjfiojpeeaaR5
import Derived.Test.YtelohjfiojpeeaaWd
import Derived.Test.YtelohjfiojpeeaaAc
set_option linter.all false
set_option maxRecDepth 100000
set_option maxHeartbeats 0
namespace Go.Abs
open Go
open Go.Proofs.Try (prog)
/-! ### the document's Do: the pure part -/
theorem mayQ6_eq (x : Req) : mayQ6 x = mayQ x := by
  by_cases h : 0 ≤ x.Client ∧ x.Client < 4 ∧ 1 ≤ x.Seq ∧ x.Seq ≤ 1073741824 ∧ 1 ≤ x.Kind ∧ x.Kind ≤ 8
  · obtain ⟨e1, e2⟩ := kinds x.Kind (by omega)
    have hh : head6 x = true := by simp only [head6, Bool.and_eq_true, decide_eq_true_eq]; omega
    have hl : (decide (0 ≤ x.Lease) && decide (x.Lease ≤ 1099511627776)) = decide (0 ≤ x.Lease ∧ x.Lease ≤ 1099511627776) := by rw [Bool.decide_and]
    simp only [mayQ6, mayQ, hh, decide_eq_true h, e1, e2, may6_2, may6_5, hl, Bool.true_and]
  · have hh : head6 x = false := by
      cases h2 : head6 x with
      | false => rfl
      | true =>
        simp only [head6, Bool.and_eq_true, decide_eq_true_eq] at h2
        exact absurd (by omega) h
    rw [mayQ6, hh, mayQ, decide_eq_false h]
    rfl
theorem bit_plain (v : Int) (hv : 0 ≤ v ∧ v ≤ 15) (c : Nat) (hc : c < 4) : bitOf v (c : Int) = (bits .and .i64 v (IntKind.wrap .i64 (1 * 2 ^ (min (IntKind.wrap .u64 (c : Int)).toNat IntKind.i64.bits))) == 0) := by
  obtain ⟨n, rfl⟩ : ∃ n : Nat, v = n := ⟨v.toNat, by omega⟩
  exact bit_same ⟨n, by omega⟩ ⟨c, hc⟩
theorem GV.rz {X : Nat → Prop} {h : List Entry} {T : TypeId} {v : AV} {l : List AV} {n : Nat} (hv : GV X h T v l) (hn : ∀ j, X j → n ≤ j) (hd : datL l = true) : rz h n v = .list T l ∨ (l = [] ∧ rz h n v = .nils) := by
  cases hv with
  | flat => exact .inl (dat_rz _ (by rw [dat_list]; exact hd))
  | view hv => exact hv.rz hn hd
def ResDo6 (s : Spc) (l : List Rpl) (r : AV) : Prop := ∃ v, r = .tup v ∧ argsOK prog [33, 34] v ∧ wkrs prog [33, 34] v = [eS s, eRs l]
theorem do_finG {X : Nat → Prop} {h h5 : List Entry} {s' : Spc} {out' : List Rpl} {lo : List AV} {vi vw vo : AV} {e : Entry} (v1 : View X h5 74 vi (s'.Items.map eI)) (v2 : GV X h5 50 vw (s'.Waiters.map eW)) (v3 : View X h5 30 vo lo) (hlo : lo.map (wk prog 6 30) = out'.map eR) (dR : datL lo = true)
    (hX : ∀ j, X j → h.length ≤ j) (k : Nat) (hk : h.length ≤ k) (e3 : h5[k]? = some e) (he : e.T = 33) (hh : h5.take h.length = h) (E : Entry) :
    (h5.set k E).take h.length = h ∧ ∃ l, AV.tup [.agg 33 [.int .i64 s'.Now, vi, vw, .int .i64 s'.Read, .int .i64 s'.Write, eL s'.Last], vo] = .tup l ∧ belowL h.length (rzL (h5.set k E) h.length l) = true ∧ ResDo6 s' out' (.tup (rzL (h5.set k E) h.length l)) := by
  have sI : e.T ≠ 74 := by rw [he]; decide
  have sW : e.T ≠ 50 := by rw [he]; decide
  have sR : e.T ≠ 30 := by rw [he]; decide
  have dI := datL_map eI eI_dat s'.Items
  have dW := datL_map eW eW_dat s'.Waiters
  refine ⟨by rw [List.take_set_of_le hk]; exact hh, _, rfl, ?_⟩
  have t1 := (v1.set e3 sI E).rz hX dI
  have t2 := (v2.set e3 sW E).rz hX dW
  have t3 := (v3.set e3 sR E).rz hX dR
  simp only [rzL, rz, dat_rz _ (eL_dat _)]
  have bI := datL_below (n := h.length) _ dI
  have bW := datL_below (n := h.length) _ dW
  have bR := datL_below (n := h.length) _ dR
  have f1 : below h.length (rz (h5.set k E) h.length vi) = true ∧ tyB prog (rz (h5.set k E) h.length vi) 27 = true ∧ ∀ n, wk prog (n + 1) 27 (rz (h5.set k E) h.length vi) = eIs s'.Items := by
    rcases t1 with t | ⟨e', t⟩ <;> rw [t]
    · exact ⟨by simp only [below]; exact bI, by rw [ty_list, sh_27]; simp, fun n => by rw [wk_list]; rfl⟩
    · exact ⟨rfl, by rw [ty_nils, sh_27]; rfl, fun n => by rw [wk_nils, sh_27, wkNil_slice, eIs, e']⟩
  have f2 : below h.length (rz (h5.set k E) h.length vw) = true ∧ tyB prog (rz (h5.set k E) h.length vw) 28 = true ∧ ∀ n, wk prog (n + 1) 28 (rz (h5.set k E) h.length vw) = eWs s'.Waiters := by
    rcases t2 with t | ⟨e', t⟩ <;> rw [t]
    · exact ⟨by simp only [below]; exact bW, by rw [ty_list, sh_28]; simp, fun n => by rw [wk_list]; rfl⟩
    · exact ⟨rfl, by rw [ty_nils, sh_28]; rfl, fun n => by rw [wk_nils, sh_28, wkNil_slice, eWs, e']⟩
  have f3 : below h.length (rz (h5.set k E) h.length vo) = true ∧ tyB prog (rz (h5.set k E) h.length vo) 34 = true ∧ wkr prog 34 (rz (h5.set k E) h.length vo) = eRs out' := by
    rcases t3 with t | ⟨e', t⟩ <;> rw [t]
    · exact ⟨by simp only [below]; exact bR, by rw [ty_list, sh_34]; simp, by rw [wkr_list, hlo]; rfl⟩
    · exact ⟨rfl, by rw [ty_nils, sh_34]; rfl, by rw [wkr_nils, wk_nils, sh_34, wkNil_slice, eRs, ← hlo, e']; rfl⟩
  refine ⟨by simp only [belowL, below, f1.1, f2.1, f3.1, dat_below _ (eL_dat _), Bool.and_self], _, rfl, ⟨by rw [ty_agg]; rfl, f3.2.1, trivial⟩, ?_⟩
  simp only [wkrs, wkr_agg', wk_aggE, wkAgg_struct, wk_int, sh_33, fl_33, List.zipWith_cons_cons, List.zipWith_nil_left, if_true, f1.2.2, f2.2.2, f3.2.2, eL_wk]
  rfl
/-- the loop that keeps what lives -/
def DG (s : Spc) (now : Int) (r : Req) (h : List Entry) (E : AV → Nat → (Nat → AV) → Env) (i : Nat) (env : Env) (hh : List Entry) : Prop :=
  i ≤ s.Items.length ∧ ∃ v, hh.take h.length = h ∧ hh[h.length]? = some ⟨33, [eS s], .own⟩ ∧ hh[h.length + 1]? = some ⟨39, [eQ r], .own⟩ ∧ hh[h.length + 2]? = some ⟨33, [zeroAV prog 33], .own⟩ ∧
    View (fun j => h.length + 2 < j ∧ j < hh.length) hh 74 v ((live now (s.Items.take i)).map eI) ∧ env = E v i (lk env)

end Go.Abs
