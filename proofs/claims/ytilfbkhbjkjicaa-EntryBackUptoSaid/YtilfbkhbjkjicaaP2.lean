/- P2: a part of the proofs about the tuple space and its bytes. -/
import Derived.Test.YtilfbkhbjkjicaaTo
set_option linter.all false
set_option maxRecDepth 100000
set_option maxHeartbeats 0
namespace Go.Abs
open Go
open Go.Proofs.Try (prog)
/-! ### what may be, of the document, may be, of the program -/
theorem ok6_plain {x : Fld} (h : ok6 2 x = true) : x.plain = true := by
  simp only [ok6, Bool.and_eq_true, decide_eq_true_eq, Bool.or_eq_true, beq_iff_eq] at h
  obtain ⟨⟨⟨⟨h1, h2⟩, h3⟩, h4⟩, h5⟩ := h
  unfold Fld.plain
  rcases (by omega : x.K = 1 ∨ x.K = 2) with hk | hk
  · rw [if_pos hk]
    rcases h4 with h4 | h4
    · omega
    · exact h4
  · rw [if_neg (by omega), if_pos hk]
    rcases h3 with h3 | h3
    · omega
    · simp [h3, h5]
theorem plain_asked {x : Fld} (h : x.plain = true) : x.asked = true := by
  unfold Fld.asked
  rw [if_neg, h]
  unfold Fld.plain at h
  split at h
  · omega
  · split at h
    · omega
    · cases h
theorem may6_T {l : List Fld} (h : may6 l 2 = true) : mayT l = true := by
  simp only [may6, Bool.and_eq_true, List.all_eq_true] at h
  simp only [mayT, Bool.and_eq_true, List.all_eq_true]
  exact ⟨h.1, fun x hx => ok6_plain (h.2 x hx)⟩
theorem mayT_P {l : List Fld} (h : mayT l = true) : mayP l = true := by
  simp only [mayT, Bool.and_eq_true, List.all_eq_true] at h
  simp only [mayP, Bool.and_eq_true, List.all_eq_true]
  exact ⟨h.1, fun x hx => plain_asked (h.2 x hx)⟩
theorem ba_refl (b : ByteArray) : (b == b) = true := by
  cases b with
  | mk d =>
    show (d == d) = true
    exact beq_self_eq_true d
theorem same_refl (x : Fld) : x.same x = true := by simp [Fld.same, ba_refl]
theorem plain_fits {x : Fld} (h : x.plain = true) : x.fits x = true := by
  unfold Fld.fits
  unfold Fld.plain at h
  split at h
  · rw [if_neg (by omega), if_neg (by omega), if_neg (by omega)]; exact same_refl x
  · split at h
    · rw [if_neg (by omega), if_neg (by omega), if_neg (by omega)]; exact same_refl x
    · cases h
theorem all2_refl {α : Type} {p : α → α → Bool} : ∀ {l : List α}, (∀ x ∈ l, p x x = true) → all2 p l l = true
  | [], _ => rfl
  | x :: l, h => by simp only [all2, h x (by simp), all2_refl (l := l) fun y hy => h y (by simp [hy]), Bool.and_self]
theorem matchT_self {l : List Fld} (h : mayT l = true) : matchT l l = true := by
  have h2 := h
  simp only [mayT, Bool.and_eq_true, List.all_eq_true] at h2
  simp only [matchT, mayT_P h, h, all2_refl fun x hx => plain_fits (h2.2 x hx), Bool.and_self]

/-! ### one tuple with a lease -/
def l4 (a b : Rpl) : List Rpl := [⟨0, 0, 0, [], false⟩, a, b, ⟨3, 0, 0, [], false⟩]
def r0 (c : Int) : Rpl := ⟨c, 0, 0, [], false⟩
def leaseI (t : List Fld) (k x : Int) : Itm := ⟨1, if 0 < k then x + k else 0, t⟩
def leaseA (t : List Fld) (k x : Int) : Spc := ⟨x, [leaseI t k x], [], 15, 15, l4 ⟨1, 1, 1, [], false⟩ (r0 2)⟩
def leaseB (t : List Fld) (k x y : Int) (there : Bool) : Spc := ⟨y, if there then [leaseI t k x] else [], [], 15, 15, l4 ⟨1, 1, 1, [], false⟩ (if there then ⟨2, 1, 2, t, false⟩ else ⟨2, 1, 3, [], false⟩)⟩
theorem lease1 {t : List Fld} {k x : Int} (ht : mayT t = true) (hk : 0 ≤ k ∧ k ≤ 50) (hx : 0 ≤ x ∧ x ≤ 2000) : doS (newS 15 15) x ⟨1, 1, 1, [], t, k⟩ = (leaseA t k x, [⟨1, 1, 1, [], false⟩]) := by
  have hp : putsK 1 = true := by kernel_rfl
  have hr : readsK 1 = false := by kernel_rfl
  have hok : doOK (newS 15 15) x ⟨1, 1, 1, [], t, k⟩ = true := by
    have hq : mayQ ⟨1, 1, 1, [], t, k⟩ = true := by
      simp only [mayQ, hp, hr, if_true, ht, Bool.true_and, if_false, Bool.false_eq_true]
      simp; omega
    simp only [doOK, told4D, hq, Bool.true_and]
    show (decide ((0 : Int) ≤ x) && decide (x ≤ 1099511627776)) = true
    simp; omega
  have hd : ¬ denyS (aged (newS 15 15) x) ⟨1, 1, 1, [], t, k⟩ = true := by
    have : denyS (aged (newS 15 15) x) ⟨1, 1, 1, [], t, k⟩ = false := by
      show ((readsK 1 && bitOf (newS 15 15).Read 1) || (writesK 1 && bitOf (newS 15 15).Write 1)) = false
      kernel_rfl
    rw [this]; simp
  have hf : ¬ fullS (aged (newS 15 15) x) ⟨1, 1, 1, [], t, k⟩ (-1) = true := by
    have : fullS (aged (newS 15 15) x) ⟨1, 1, 1, [], t, k⟩ (-1) = false := rfl
    rw [this]; simp
  rw [doS, if_pos hok, if_neg (by show ¬ (1 : Int) < 0; omega), if_neg (by show ¬ (1 : Int) = 0; omega), doW, if_neg hd, if_pos rfl, bringS, if_neg hf]
  rfl
theorem leaseA_may {t : List Fld} {k x : Int} (ht : mayT t = true) (hk : 0 ≤ k ∧ k ≤ 50) (hx : 0 ≤ x ∧ x ≤ 2000) : mayS (leaseA t k x) = true := by
  have h1 : mayI (leaseI t k x) x = true := by
    simp only [mayI, leaseI, ht, Bool.and_true]
    have : clientOK 1 = true := by kernel_rfl
    rw [this, Bool.true_and]
    by_cases hk0 : 0 < k
    · simp only [if_pos hk0, Bool.or_eq_true, Bool.and_eq_true, decide_eq_true_eq]
      exact .inr ⟨by omega, by omega⟩
    · simp only [if_neg hk0]; rfl
  have h2 : mayH (leaseA t k x) = true := by
    have this : (15 : Int).fdiv 16 = 0 := by decide
    show (decide (0 ≤ x) && decide (x ≤ 1099511627776) && decide ((15 : Int).fdiv 16 = 0) && decide ((15 : Int).fdiv 16 = 0) && true && true) = true
    simp only [Bool.and_eq_true, decide_eq_true_eq]
    exact ⟨⟨⟨⟨⟨hx.1, by omega⟩, this⟩, this⟩, trivial⟩, trivial⟩
  have h3 : all2 mayL (l4 ⟨1, 1, 1, [], false⟩ (r0 2)) [0, 1, 2, 3] = true := by kernel_rfl
  simp only [mayS, h2, Bool.true_and]
  show (([leaseI t k x].all fun y => mayI y x) && [0, 1, 2, 3].all (fun c => decide (cnt [leaseI t k x] c ≤ 24)) && ([] : List Wtr).all mayW && all2 mayL (l4 ⟨1, 1, 1, [], false⟩ (r0 2)) [0, 1, 2, 3]) = true
  rw [h3]
  simp only [List.all_cons, List.all_nil, h1, Bool.and_true, Bool.true_and]
  have hc : ∀ c, cnt [leaseI t k x] c ≤ 24 := fun c => by have := cnt_len [leaseI t k x] c; simp at this; omega
  simp [hc]
theorem lease2 {t : List Fld} {k x d : Int} (ht : mayT t = true) (hk : 0 ≤ k ∧ k ≤ 50) (hx : 0 ≤ x ∧ x ≤ 2000) (hd0 : 0 ≤ d ∧ d ≤ 100) :
    doS (leaseA t k x) (x + d) ⟨2, 1, 2, t, [], 0⟩ = (leaseB t k x (x + d) (k == 0 || decide (d < k)), [if (k == 0 || decide (d < k)) = true then ⟨2, 1, 2, t, false⟩ else ⟨2, 1, 3, [], false⟩]) := by
  have hp : putsK 2 = false := by kernel_rfl
  have hr : readsK 2 = true := by kernel_rfl
  have hok : doOK (leaseA t k x) (x + d) ⟨2, 1, 2, t, [], 0⟩ = true := by
    have hq : mayQ ⟨2, 1, 2, t, [], 0⟩ = true := by
      simp only [mayQ, hp, hr, if_true, mayT_P ht, Bool.true_and, if_false, Bool.false_eq_true, Bool.and_true]
      simp
    simp only [doOK, leaseA_may ht hk hx, hq, Bool.true_and]
    show (decide (x ≤ x + d) && decide (x + d ≤ 1099511627776)) = true
    simp; omega
  have hdn : ¬ denyS (aged (leaseA t k x) (x + d)) ⟨2, 1, 2, t, [], 0⟩ = true := by
    have : denyS (aged (leaseA t k x) (x + d)) ⟨2, 1, 2, t, [], 0⟩ = false := by
      show ((readsK 2 && bitOf 15 2) || (writesK 2 && bitOf 15 2)) = false
      kernel_rfl
    rw [this]; simp
  have hex : expd (x + d) (leaseI t k x) = !(k == 0 || decide (d < k)) := by
    simp only [expd, leaseI]
    split
    · rw [Bool.eq_iff_iff]; simp; omega
    · have : k = 0 := by omega
      subst this; simp
  rw [doS, if_pos hok, if_neg (by show ¬ (1 : Int) < 0; omega), if_neg (by show ¬ (1 : Int) = 0; omega), doW, if_neg hdn, if_neg (by show ¬ (2 : Int) = 1; omega), if_pos rfl]
  cases hth : (k == 0 || decide (d < k)) with
  | true =>
    have hli : live (x + d) [leaseI t k x] = [leaseI t k x] := by simp [live, hex, hth]
    have hag : aged (leaseA t k x) (x + d) = ⟨x + d, [leaseI t k x], [], 15, 15, l4 ⟨1, 1, 1, [], false⟩ (r0 2)⟩ := by
      simp only [aged, leaseA, hli]
    rw [hag]
    have hfi : findS ⟨x + d, [leaseI t k x], [], 15, 15, l4 ⟨1, 1, 1, [], false⟩ (r0 2)⟩ t = 0 := by
      show fidx (fun y : Itm => matchT t y.T) [leaseI t k x] = 0
      simp [fidx, List.findIdx?_cons, leaseI, matchT_self ht]
    rw [findW, if_pos (by rw [hfi]; omega), hfi]
    rfl
  | false =>
    have hli : live (x + d) [leaseI t k x] = [] := by simp [live, hex, hth]
    have hag : aged (leaseA t k x) (x + d) = ⟨x + d, [], [], 15, 15, l4 ⟨1, 1, 1, [], false⟩ (r0 2)⟩ := by
      simp only [aged, leaseA, hli]
    rw [hag]
    rw [findW, if_neg (by show ¬ (0 : Int) ≤ -1; omega), if_pos rfl]
    rfl

/-! ### SpaceLease -/
theorem u64_range (n : Int) : 0 ≤ IntKind.wrap .u64 n ∧ IntKind.wrap .u64 n ≤ 18446744073709551615 := by
  unfold IntKind.wrap
  simp [IntKind.bits, IntKind.signed]
  omega
theorem mod_small (n m : Int) (hm : 1 ≤ m ∧ m ≤ 1000000) : ∃ k, IntKind.wrap .i64 ((IntKind.wrap .u64 n).tmod m) = k ∧ 0 ≤ k ∧ k < m := by
  have h := u64_range n
  rw [IntWalk.rem_in _ _ h.1]
  have h1 := Int.emod_nonneg (IntKind.wrap .u64 n) (show m ≠ 0 by omega)
  have h2 := Int.emod_lt_of_pos (IntKind.wrap .u64 n) (show 0 < m by omega)
  exact ⟨_, IntWalk.i64_in _ (by omega), h1, h2⟩
theorem bn1 : (true != true) = false := rfl
theorem bn2 : (true != false) = true := rfl
theorem bn3 : (false != true) = true := rfl
theorem bn4 : (false != false) = false := rfl
theorem bt1 : (true == true) = true := rfl
theorem bt2 : (true == false) = false := rfl
theorem bt3 : (false == true) = false := rfl
theorem bt4 : (false == false) = true := rfl

end Go.Abs

set_option linter.all false
set_option maxRecDepth 100000
set_option maxHeartbeats 0
namespace Go.Abs
open Go
open Go.Proofs.Try (prog)
/-! ### few -/
def fewF (l : List Fld) : Bool := decide (l.length ≤ 20) && l.all fun x => decide (x.S.size ≤ 100)
theorem c_Few6 (l : List Fld) (hl : l.length ≤ 4294967296) : Fn prog 113 [eFs l] (.bool (fewF l)) := by
  refine run_113 rfl fun h => ?_
  by_cases h1 : l.length ≤ 20
  · have f2 : decide ((20 : Int) < (l.length : Int)) = false := by simp; omega
    repeat' (first
    | simp (implicitDefEqProofs := false) only [push_cast, reduceIte, reduceCtorEq, Nat.reduceAdd, Nat.reduceSub, Nat.reduceEqDiff, Nat.reduceLT, Nat.reduceLeDiff, Nat.reduceBEq, Nat.reduceMul, Int.reduceLT, Int.reduceLE, Int.reduceEq, Int.reduceToNat, Int.reduceMul, Int.reduceNeg, Go.Proofs.Try.f113, eFs, List.length_map, f2]
    | refine Sp2.f ?_ ?_
    | refine Spl.f ?_ ?_ <;> intro hb
    | refine rq_mk rfl (fun b hb => ?_))
    refine rl_count (fun i a => [(0, eFs l), (2, .bool false), (3, .int .i64 i), (6, a 6), (10, a 10), (19, a 19)]) (fun _ g => h ++ g) (fun i => i ≤ l.length ∧ ∀ j x, j < i → l[j]? = some x → decide (x.S.size ≤ 100) = true) l.length (li_mk rfl ⟨[], (List.append_nil h).symm⟩ ⟨Nat.zero_le _, fun j x hj => by omega⟩) ?_
    rintro i a g' ⟨hi, hinv⟩
    refine ⟨hi, ?_⟩
    by_cases hlt : i < l.length
    · obtain ⟨x, hx⟩ : ∃ x, l[i]? = some x := ⟨_, List.getElem?_eq_getElem hlt⟩
      have hi9 : i < 9223372036854775807 := by omega
      by_cases hs : x.S.size ≤ 100
      · have f3 : decide ((100 : Int) < (x.S.size : Int)) = false := by simp; omega
        repeat' (first
    | simp (implicitDefEqProofs := false) only [push_cast, reduceIte, reduceCtorEq, Nat.reduceAdd, Nat.reduceSub, Nat.reduceEqDiff, Nat.reduceLT, Nat.reduceLeDiff, Nat.reduceBEq, Nat.reduceMul, Int.reduceLT, Int.reduceLE, Int.reduceEq, Int.reduceToNat, Int.reduceMul, Int.reduceNeg, Go.Proofs.Try.f113, eFs, eF, f3, List.length_map, cast_lt hlt, in_row hlt, getD_map eF hx, Int.toNat_natCast, wrap_succ hi9]
    | refine Sp2.f ?_ ?_
    | refine Spl.f ?_ ?_ <;> intro hb
    | refine rq_mk rfl (fun b hb => ?_)
    | refine li_mk ?_ ⟨_, rfl⟩ ?_)
        exact ⟨hlt, fun j y hj hy => of_decide_eq_true (step_idx (p := fun x : Fld => decide (x.S.size ≤ 100)) hx (decide_eq_true hs) hinv j y hj hy)⟩
      · have f3 : decide ((100 : Int) < (x.S.size : Int)) = true := by simp; omega
        repeat' (first
    | simp (implicitDefEqProofs := false) only [push_cast, reduceIte, reduceCtorEq, Nat.reduceAdd, Nat.reduceSub, Nat.reduceEqDiff, Nat.reduceLT, Nat.reduceLeDiff, Nat.reduceBEq, Nat.reduceMul, Int.reduceLT, Int.reduceLE, Int.reduceEq, Int.reduceToNat, Int.reduceMul, Int.reduceNeg, Go.Proofs.Try.f113, eFs, eF, f3, List.length_map, cast_lt hlt, in_row hlt, getD_map eF hx, Int.toNat_natCast, wrap_succ hi9]
    | refine Sp2.f ?_ ?_
    | refine Spl.f ?_ ?_ <;> intro hb
    | refine rq_mk rfl (fun b hb => ?_)
    | refine li_mk ?_ ⟨_, rfl⟩ ?_)
        have hbad : (l.all fun x => decide (x.S.size ≤ 100)) = false := by
          rw [List.all_eq_false]; exact ⟨x, List.mem_of_getElem? hx, by simpa using hs⟩
        simp only [fewF, hbad, Bool.and_false]
    · have hall : (l.all fun x => decide (x.S.size ≤ 100)) = true := all_idx fun j x hj hx => hinv j x (by omega) hx
      repeat' (first
    | simp (implicitDefEqProofs := false) only [push_cast, reduceIte, reduceCtorEq, Nat.reduceAdd, Nat.reduceSub, Nat.reduceEqDiff, Nat.reduceLT, Nat.reduceLeDiff, Nat.reduceBEq, Nat.reduceMul, Int.reduceLT, Int.reduceLE, Int.reduceEq, Int.reduceToNat, Int.reduceMul, Int.reduceNeg, Go.Proofs.Try.f113, eFs, List.length_map, cast_ge hlt]
    | refine Sp2.f ?_ ?_
    | refine Spl.f ?_ ?_ <;> intro hb
    | refine rq_mk rfl (fun b hb => ?_))
      simp only [fewF, hall, decide_eq_true h1, Bool.and_self]
  · have f2 : decide ((20 : Int) < (l.length : Int)) = true := by simp; omega
    repeat' (first
    | simp (implicitDefEqProofs := false) only [push_cast, reduceIte, reduceCtorEq, Nat.reduceAdd, Nat.reduceSub, Nat.reduceEqDiff, Nat.reduceLT, Nat.reduceLeDiff, Nat.reduceBEq, Nat.reduceMul, Int.reduceLT, Int.reduceLE, Int.reduceEq, Int.reduceToNat, Int.reduceMul, Int.reduceNeg, Go.Proofs.Try.f113, eFs, List.length_map, f2]
    | refine Sp2.f ?_ ?_
    | refine Spl.f ?_ ?_ <;> intro hb
    | refine rq_mk rfl (fun b hb => ?_))
    simp only [fewF, decide_eq_false h1, Bool.false_and]
theorem c_Few7 (r : Req) (hr : r.Small) : Fn prog 47 [eQ r] (.bool (fewF r.P && fewF r.T)) := by
  refine run_47 rfl fun h => ?_
  repeat' (first
    | simp (implicitDefEqProofs := false) only [push_cast, reduceIte, reduceCtorEq, Nat.reduceAdd, Nat.reduceSub, Nat.reduceEqDiff, Nat.reduceLT, Nat.reduceLeDiff, Nat.reduceBEq, Nat.reduceMul, Int.reduceLT, Int.reduceLE, Int.reduceEq, Int.reduceToNat, Int.reduceMul, Int.reduceNeg, Go.Proofs.Try.f47, eQ, eFs]
    | refine Sp2.f ?_ ?_
    | refine Spl.f ?_ ?_ <;> intro hb
    | refine rq_mk rfl (fun b hb => ?_)
    | refine k_fn (c_Few6 r.P hr.P) ?_
    | refine k_fn (c_Few6 r.T hr.T) ?_)
  all_goals (simp only [*, Bool.true_and, Bool.false_and])

/-! ### what is asked, one behind the other -/
structure Asked where
  R : Req
  D : Int
def eA (x : Asked) : AV := .agg 62 [eQ x.R, .int .i64 x.D]

end Go.Abs

set_option linter.all false
set_option maxRecDepth 100000
set_option maxHeartbeats 0
namespace Go.Abs
open Go
open Go.Proofs.Try (prog)
/-! ### a space that may be stays one -/
structure MS (s : Spc) : Prop where
  now : 0 ≤ s.Now ∧ s.Now ≤ 1099511627776
  rd : s.Read.fdiv 16 = 0
  wr : s.Write.fdiv 16 = 0
  il : s.Items.length ≤ 64
  wl : s.Waiters.length ≤ 16
  it : ∀ x ∈ s.Items, mayI x s.Now = true
  cn : ∀ c, c = 0 ∨ c = 1 ∨ c = 2 ∨ c = 3 → cnt s.Items c ≤ 24
  wt : ∀ x ∈ s.Waiters, mayW x = true
  la : all2 mayL s.Last [0, 1, 2, 3] = true
  nw : ∀ w ∈ s.Waiters, ∀ x ∈ s.Items, matchT w.P x.T = false
theorem ms_may {s : Spc} (h : MS s) : mayS s = true := by
  simp only [mayS, mayH, Bool.and_eq_true, decide_eq_true_eq, List.all_eq_true]
  exact ⟨⟨⟨⟨⟨⟨⟨⟨⟨h.now.1, h.now.2⟩, h.rd⟩, h.wr⟩, h.il⟩, h.wl⟩, h.it⟩, fun c hc => h.cn c (by simpa using hc)⟩, h.wt⟩, h.la⟩
theorem may_ms {s : Spc} (h : mayS s = true) (hn : ∀ w ∈ s.Waiters, ∀ x ∈ s.Items, matchT w.P x.T = false) : MS s := by
  simp only [mayS, mayH, Bool.and_eq_true, decide_eq_true_eq, List.all_eq_true] at h
  obtain ⟨⟨⟨⟨⟨⟨⟨⟨⟨h1, h2⟩, h3⟩, h4⟩, h5⟩, h6⟩, h7⟩, h8⟩, h9⟩, h10⟩ := h
  exact ⟨⟨h1, h2⟩, h3, h4, h5, h6, h7, fun c hc => h8 c (by simpa using hc), h9, h10, hn⟩
theorem all2_len {α β : Type} {p : α → β → Bool} {l : List α} {m : List β} (h : all2 p l m = true) : l.length = m.length := by
  by_cases hl : l.length = m.length
  · exact hl
  · rw [all2_length hl] at h; cases h
theorem mayT_len {l : List Fld} (h : mayT l = true) : l.length ≤ 6 := by
  simp only [mayT, Bool.and_eq_true, decide_eq_true_eq] at h; exact h.1.2
theorem mayP_len {l : List Fld} (h : mayP l = true) : l.length ≤ 6 := by
  simp only [mayP, Bool.and_eq_true, decide_eq_true_eq] at h; exact h.1.2
theorem mayI_T {x : Itm} {n : Int} (h : mayI x n = true) : mayT x.T = true := by
  simp only [mayI, Bool.and_eq_true] at h; exact h.2
theorem mayL_len {x : Rpl} {c : Int} (h : mayL x c = true) : x.T.length ≤ 6 := by
  simp only [mayL, Bool.and_eq_true] at h
  have h2 := h.2
  split at h2
  · simp only [Bool.and_eq_true, decide_eq_true_eq] at h2; rw [h2.1.2]; simp
  · split at h2
    · exact mayT_len h2
    · simp only [Bool.and_eq_true, decide_eq_true_eq] at h2; rw [h2.1.2]; simp
theorem all2_mem {α β : Type} {p : α → β → Bool} : ∀ {l : List α} {m : List β}, all2 p l m = true → ∀ x ∈ l, ∃ y ∈ m, p x y = true
  | [], _, _, x, hx => by simp at hx
  | a :: l, [], h, _, _ => by simp [all2] at h
  | a :: l, b :: m, h, x, hx => by
    simp only [all2, Bool.and_eq_true] at h
    rcases List.mem_cons.1 hx with rfl | hx
    · exact ⟨b, by simp, h.1⟩
    · obtain ⟨y, hy, hp⟩ := all2_mem h.2 x hx
      exact ⟨y, by simp [hy], hp⟩
theorem MS.small {s : Spc} (h : MS s) : s.Small := by
  have hl := all2_len h.la
  refine ⟨⟨by have := h.il; omega, fun x hx => by have := mayT_len (mayI_T (h.it x hx)); omega⟩, ⟨by have := h.wl; omega, fun x hx => ?_⟩, ⟨by simp at hl; omega, fun x hx => ?_⟩, by simpa using hl⟩
  · have := h.wt x hx
    simp only [mayW, Bool.and_eq_true] at this
    have := mayP_len this.2; omega
  · obtain ⟨c, _, hp⟩ := all2_mem h.la x hx
    have := mayL_len hp; omega
theorem cnt_sub {l m : List Itm} (h : List.Sublist l m) (c : Int) : cnt l c ≤ cnt m c := List.Sublist.countP_le h
theorem MS.items {s : Spc} (h : MS s) {l : List Itm} (hs : List.Sublist l s.Items) : MS { s with Items := l } :=
  ⟨h.now, h.rd, h.wr, Nat.le_trans hs.length_le h.il, h.wl, fun x hx => h.it x (hs.subset hx), fun c hc => Nat.le_trans (cnt_sub hs c) (h.cn c hc), h.wt, h.la, fun w hw x hx => h.nw w hw x (hs.subset hx)⟩
theorem MS.aged {s : Spc} (h : MS s) {now : Int} (h1 : s.Now ≤ now) (h2 : now ≤ 1099511627776) : MS (aged s now) := by
  have hs : List.Sublist (live now s.Items) s.Items := List.filter_sublist
  have hi := h.items hs
  refine ⟨⟨by have := h.now.1; show 0 ≤ now; omega, h2⟩, h.rd, h.wr, hi.il, h.wl, fun x hx => ?_, hi.cn, h.wt, h.la, hi.nw⟩
  have hx1 := h.it x (hs.subset hx)
  have hx2 := (List.mem_filter.1 hx).2
  show mayI x now = true
  simp only [mayI, Bool.and_eq_true, Bool.or_eq_true, decide_eq_true_eq] at hx1 ⊢
  refine ⟨⟨hx1.1.1, ?_⟩, hx1.2⟩
  rcases hx1.1.2 with h0 | h0
  · exact .inl h0
  · right
    simp only [expd, Bool.not_eq_true', Bool.and_eq_false_iff, bne_eq_false_iff_eq, decide_eq_false_iff_not] at hx2
    have := h.now.1
    rcases hx2 with h3 | h3 <;> omega
theorem all2_set {α β : Type} {p : α → β → Bool} : ∀ {l : List α} {m : List β} {c : Nat} {x : α} {y : β}, all2 p l m = true → m[c]? = some y → p x y = true → all2 p (l.set c x) m = true
  | [], [], c, x, y, h, hy, hp => by simp at hy
  | [], _ :: _, _, _, _, h, _, _ => by simp [all2] at h
  | _ :: _, [], _, _, _, h, _, _ => by simp [all2] at h
  | a :: l, b :: m, 0, x, y, h, hy, hp => by
    simp only [List.getElem?_cons_zero, Option.some.injEq] at hy
    subst hy
    simp only [all2, Bool.and_eq_true, List.set_cons_zero] at h ⊢
    exact ⟨hp, h.2⟩
  | a :: l, b :: m, c + 1, x, y, h, hy, hp => by
    simp only [List.getElem?_cons_succ] at hy
    simp only [all2, Bool.and_eq_true, List.set_cons_succ] at h ⊢
    exact ⟨h.1, all2_set h.2 hy hp⟩
theorem MS.last {s : Spc} (h : MS s) {x : Rpl} {c : Int} (hc : clientOK c = true) (hx : mayL x c = true) : MS { s with Last := s.Last.set c.toNat x } := by
  obtain ⟨n, hn, hn4⟩ := nat_client hc
  subst hn
  refine ⟨h.now, h.rd, h.wr, h.il, h.wl, h.it, h.cn, h.wt, ?_, h.nw⟩
  refine all2_set h.la (y := (n : Int)) ?_ hx
  rcases (by omega : n = 0 ∨ n = 1 ∨ n = 2 ∨ n = 3) with rfl | rfl | rfl | rfl <;> rfl
theorem MS.tell {s : Spc} (h : MS s) {r : Req} {kd : Int} {t : List Fld} (hc : clientOK r.Client = true) (hs : 1 ≤ r.Seq ∧ r.Seq ≤ 1073741824) (hk : kd = 2 ∧ mayT t = true ∨ (1 ≤ kd ∧ kd ≤ 6 ∧ kd ≠ 2 ∧ t = [])) : MS (tellS s r kd t) := by
  refine h.last hc ?_
  have e : mayL (rep r kd t) r.Client = (decide (r.Client = r.Client) && decide (0 ≤ r.Seq ∧ r.Seq ≤ 1073741824) && (if r.Seq = 0 then decide (kd = 0) && decide (t = []) && !false else if kd = 2 then mayT t else decide (1 ≤ kd ∧ kd ≤ 6) && decide (t = []) && !false)) := rfl
  rw [e, decide_eq_true (rfl : r.Client = r.Client), decide_eq_true (⟨by omega, hs.2⟩ : 0 ≤ r.Seq ∧ r.Seq ≤ 1073741824), if_neg (by omega)]
  rcases hk with ⟨rfl, ht⟩ | ⟨h1, h2, h3, rfl⟩
  · rw [if_pos rfl, ht]; rfl
  · rw [if_neg h3, decide_eq_true (⟨h1, h2⟩ : 1 ≤ kd ∧ kd ≤ 6)]; rfl
theorem MS.wait {s : Spc} (h : MS s) {w : Wtr} (hl : s.Waiters.length < 16) (hw : mayW w = true) (hn : ∀ x ∈ s.Items, matchT w.P x.T = false) : MS { s with Waiters := s.Waiters ++ [w] } := by
  refine ⟨h.now, h.rd, h.wr, h.il, by simp; omega, h.it, h.cn, fun x hx => ?_, h.la, fun x hx => ?_⟩
  · rcases List.mem_append.1 hx with hx | hx
    · exact h.wt x hx
    · simp only [List.mem_singleton] at hx; subst hx; exact hw
  · rcases List.mem_append.1 hx with hx | hx
    · exact h.nw x hx
    · simp only [List.mem_singleton] at hx; subst hx; exact hn
theorem MS.waiters {s : Spc} (h : MS s) {l : List Wtr} (hs : List.Sublist l s.Waiters) : MS { s with Waiters := l } :=
  ⟨h.now, h.rd, h.wr, h.il, Nat.le_trans hs.length_le h.wl, h.it, h.cn, fun x hx => h.wt x (hs.subset hx), h.la, fun w hw => h.nw w (hs.subset hw)⟩
theorem MS.add {s : Spc} (h : MS s) {x : Itm} (hl : s.Items.length < 64) (hc : cnt s.Items x.Owner < 24) (hx : mayI x s.Now = true) (hn : ∀ w ∈ s.Waiters, matchT w.P x.T = false) : MS { s with Items := s.Items ++ [x] } := by
  refine ⟨h.now, h.rd, h.wr, by simp; omega, h.wl, fun y hy => ?_, fun c hc' => ?_, h.wt, h.la, fun w hw y hy => ?_⟩
  · rcases List.mem_append.1 hy with hy | hy
    · exact h.it y hy
    · simp only [List.mem_singleton] at hy; subst hy; exact hx
  · show cnt (s.Items ++ [x]) c ≤ 24
    rw [cnt_app]
    by_cases he : x.Owner = c
    · rw [if_pos he, ← he]; omega
    · rw [if_neg he]; exact h.cn c hc'
  · rcases List.mem_append.1 hy with hy | hy
    · exact h.nw w hw y hy
    · simp only [List.mem_singleton] at hy; subst hy; exact hn w hw

theorem lastOf_seq {s : Spc} {c : Nat} (h : MS s) (hc : c < 4) : 0 ≤ (lastOf s c).Seq := by
  have hl := all2_len h.la
  simp only [List.length_cons, List.length_nil] at hl
  have hx : s.Last[c]? = some (lastOf s c) := by
    have : c < s.Last.length := by omega
    simp [lastOf, List.getD_eq_getElem?_getD, List.getElem?_eq_getElem this]
  obtain ⟨y, _, hp⟩ := all2_mem h.la _ (List.mem_of_getElem? hx)
  simp only [mayL, Bool.and_eq_true, decide_eq_true_eq] at hp
  exact hp.1.2.1
theorem mayW_c {x : Wtr} (h : mayW x = true) : clientOK x.Client = true ∧ 1 ≤ x.Seq ∧ x.Seq ≤ 1073741824 := by
  simp only [mayW, Bool.and_eq_true, decide_eq_true_eq] at h
  exact ⟨h.1.1.1, h.1.1.2, h.1.2⟩
theorem MS.told {s : Spc} (h : MS s) {x : Wtr} {r : Req} (hx : mayW x = true) (hT : mayT r.T = true) : MS (told1 x s r) := by
  unfold told1
  split
  · refine h.last (mayW_c hx).1 ?_
    have h2 := mayW_c hx
    have e : mayL (late x r) x.Client = (decide (x.Client = x.Client) && decide (0 ≤ x.Seq ∧ x.Seq ≤ 1073741824) && (if x.Seq = 0 then decide ((2 : Int) = 0) && decide (r.T = []) && !true else if (2 : Int) = 2 then mayT r.T else decide (1 ≤ (2 : Int) ∧ (2 : Int) ≤ 6) && decide (r.T = []) && !true)) := rfl
    rw [e, decide_eq_true (rfl : x.Client = x.Client), decide_eq_true (⟨by omega, h2.2.2⟩ : 0 ≤ x.Seq ∧ x.Seq ≤ 1073741824), if_neg (by omega), if_pos rfl, hT]; rfl
  · exact h
/-- what a put leaves -/
theorem MS.put {r : Req} (hT : mayT r.T = true) (hcl : clientOK r.Client = true) (hL : 0 ≤ r.Lease ∧ r.Lease ≤ 1099511627776) : ∀ (rest pre : List Wtr) (s : Spc) (out : List Rpl), MS s → s.Waiters = pre ++ rest → (∀ w ∈ pre, matchT w.P r.T = false) → s.Items.length < 64 → cnt s.Items r.Client < 24 →
    MS (putGo r pre rest s out).1
  | [], pre, s, out, h, hw, hp, hl, hc => by
    simp only [putGo]
    have hw' : s.Waiters = pre := by simpa using hw
    have hi : mayI (itmOf s r) s.Now = true := by
      have e : mayI (itmOf s r) s.Now = (clientOK r.Client && (decide ((if 0 < r.Lease then s.Now + r.Lease else 0) = 0) || (decide (s.Now < (if 0 < r.Lease then s.Now + r.Lease else 0)) && decide ((if 0 < r.Lease then s.Now + r.Lease else 0) ≤ 2199023255552))) && mayT r.T) := rfl
      rw [e, hcl, hT]
      by_cases h0 : 0 < r.Lease
      · simp only [if_pos h0]
        have := h.now
        rw [decide_eq_true (show s.Now < s.Now + r.Lease by omega), decide_eq_true (show s.Now + r.Lease ≤ 2199023255552 by omega)]; simp
      · simp only [if_neg h0]; rfl
    have := h.add (x := itmOf s r) hl hc hi (fun w hw2 => hp w (by rw [← hw']; exact hw2))
    rw [← hw']
    exact this
  | x :: rest, pre, s, out, h, hw, hp, hl, hc => by
    have hxm : x ∈ s.Waiters := by rw [hw]; simp
    have hx := h.wt x hxm
    have hsub : List.Sublist (pre ++ rest) s.Waiters := by rw [hw]; exact List.Sublist.append (List.Sublist.refl _) (List.sublist_cons_self _ _)
    simp only [putGo]
    have h1 := (h.told hx hT)
    have hf : (told1 x s r).Items = s.Items := by unfold told1; split <;> rfl
    have hfw : (told1 x s r).Waiters = s.Waiters := by unfold told1; split <;> rfl
    have h2 := h1.waiters (l := pre ++ rest) (by rw [hfw]; exact hsub)
    split
    · split
      · exact h2
      · have := MS.put hT hcl hL rest pre { told1 x s r with Waiters := pre ++ rest } (out ++ [late x r]) h2 rfl hp (by show (told1 x s r).Items.length < 64; rw [hf]; exact hl) (by show cnt (told1 x s r).Items r.Client < 24; rw [hf]; exact hc)
        rw [putGo_wt] at this
        exact this
    · rename_i hm
      exact MS.put hT hcl hL rest (pre ++ [x]) s out h (by rw [hw]; simp) (fun w hw2 => by
        rcases List.mem_append.1 hw2 with hw2 | hw2
        · exact hp w hw2
        · simp only [List.mem_singleton] at hw2; subst hw2; simpa using hm) hl hc
theorem MS.out {s : Spc} {r : Req} {out : List Rpl} (h : MS s) (hT : mayT r.T = true) (hcl : clientOK r.Client = true) (hL : 0 ≤ r.Lease ∧ r.Lease ≤ 1099511627776) (hl : s.Items.length < 64) (hc : cnt s.Items r.Client < 24) : MS (putGo r [] s.Waiters s out).1 :=
  MS.put hT hcl hL s.Waiters [] s out h rfl (fun w hw => by simp at hw) hl hc
/-- what is asked of a request that may be -/
structure MQ (r : Req) : Prop where
  cl : clientOK r.Client = true
  sq : 1 ≤ r.Seq ∧ r.Seq ≤ 1073741824
  kd : 1 ≤ r.Kind ∧ r.Kind ≤ 8
  pt : r.Kind = 1 ∨ r.Kind = 6 ∨ r.Kind = 7 → mayT r.T = true ∧ 0 ≤ r.Lease ∧ r.Lease ≤ 1099511627776
  rp : 2 ≤ r.Kind ∧ r.Kind ≤ 7 → mayP r.P = true
theorem may_mq {r : Req} (h : mayQ r = true) : MQ r := by
  simp only [mayQ, Bool.and_eq_true, decide_eq_true_eq] at h
  obtain ⟨h1, h2, h3⟩ := h
  refine ⟨by simp only [clientOK, Bool.and_eq_true, decide_eq_true_eq]; omega, by omega, by omega, fun hk => ?_, fun hk => ?_⟩
  · have hp : putsK r.Kind = true := by
      rcases hk with hk | hk | hk <;> rw [hk] <;> kernel_rfl
    rw [if_pos hp] at h2
    simp only [Bool.and_eq_true, decide_eq_true_eq] at h2
    exact ⟨h2.1, h2.2⟩
  · have hp : readsK r.Kind = true := by
      rcases (by omega : r.Kind = 2 ∨ r.Kind = 3 ∨ r.Kind = 4 ∨ r.Kind = 5 ∨ r.Kind = 6 ∨ r.Kind = 7) with hk | hk | hk | hk | hk | hk <;> rw [hk] <;> kernel_rfl
    rw [if_pos hp] at h3
    exact h3
theorem full_no {s : Spc} {r : Req} {g : Int} (h : ¬ fullS s r g = true) : (del s.Items g).length < 64 ∧ cnt (del s.Items g) r.Client < 24 := by
  simp only [fullS, Bool.or_eq_true, decide_eq_true_eq, not_or] at h
  omega
theorem del_all (l : List Itm) : del l (-1) = l := rfl
theorem del_at (l : List Itm) (i : Nat) : del l (i : Int) = l.eraseIdx i := by
  unfold del; rw [if_pos (by omega)]; rfl
theorem MS.bring {s : Spc} {r : Req} {out : List Rpl} (h : MS s) (q : MQ r) (hk : r.Kind = 1 ∨ r.Kind = 6) : MS (bringS s r out).1 := by
  obtain ⟨hT, hL⟩ := q.pt (by omega)
  unfold bringS
  split
  · exact h.tell q.cl q.sq (.inr ⟨by omega, by omega, by omega, rfl⟩)
  · rename_i hf
    have hf := full_no hf
    rw [del_all] at hf
    have h1 := h.tell (kd := 1) (t := []) q.cl q.sq (.inr ⟨by omega, by omega, by omega, rfl⟩)
    exact MS.out h1 hT q.cl hL hf.1 hf.2
theorem MS.find {s : Spc} {r : Req} {out : List Rpl} {tk wt : Bool} (h : MS s) (q : MQ r) (hk : 2 ≤ r.Kind ∧ r.Kind ≤ 5) : MS (findW s r out tk wt).1 := by
  have hP := q.rp (by omega)
  unfold findW
  split
  · rename_i hat
    obtain ⟨i, x, hi, hx, hlt, _⟩ := fidx_get hat
    change findS s r.P = i at hi
    rw [hi, Int.toNat_natCast, getD_some hx]
    have h1 := h.tell (kd := 2) (t := x.T) q.cl q.sq (.inl ⟨rfl, mayI_T (h.it x (List.mem_of_getElem? hx))⟩)
    split
    · exact h1.items (l := s.Items.eraseIdx i) (List.eraseIdx_sublist ..)
    · exact h1
  · rename_i hat
    split
    · exact h.tell q.cl q.sq (.inr ⟨by omega, by omega, by omega, rfl⟩)
    · split
      · exact h.tell q.cl q.sq (.inr ⟨by omega, by omega, by omega, rfl⟩)
      · rename_i h16
        have hw : mayW ⟨r.Client, r.Seq, tk, r.P⟩ = true := by
          simp only [mayW, Bool.and_eq_true, decide_eq_true_eq]
          exact ⟨⟨⟨q.cl, q.sq.1⟩, q.sq.2⟩, hP⟩
        have hn : ∀ x ∈ s.Items, matchT r.P x.T = false := by
          have : fidx (fun y : Itm => matchT r.P y.T) s.Items = -1 := by
            rcases fidx_cases (fun y : Itm => matchT r.P y.T) s.Items with h | ⟨j, h, _⟩
            · exact h
            · exact absurd (show 0 ≤ findS s r.P by show 0 ≤ fidx _ _; rw [h]; omega) hat
          exact fidx_none' this
        have h1 := h.wait (by omega) hw hn
        exact h1.tell q.cl q.sq (.inr ⟨by omega, by omega, by omega, rfl⟩)
theorem MS.turn {s : Spc} {r : Req} {out : List Rpl} (h : MS s) (q : MQ r) (hk : r.Kind = 7) : MS (turnW s r out).1 := by
  obtain ⟨hT, hL⟩ := q.pt (by omega)
  unfold turnW
  split
  · exact h.tell q.cl q.sq (.inr ⟨by omega, by omega, by omega, rfl⟩)
  · rename_i hat
    obtain ⟨i, x, hi, hx, hlt, _⟩ := fidx_get (p := fun y : Itm => matchT r.P y.T) (l := s.Items) (by unfold findS at hat; omega)
    change findS s r.P = i at hi
    rw [hi, Int.toNat_natCast, getD_some hx]
    split
    · exact h.tell q.cl q.sq (.inr ⟨by omega, by omega, by omega, rfl⟩)
    · rename_i hf
      have hf := full_no hf
      rw [del_at] at hf
      have h1 := h.tell (kd := 2) (t := x.T) q.cl q.sq (.inl ⟨rfl, mayI_T (h.it x (List.mem_of_getElem? hx))⟩)
      have h2 := h1.items (l := s.Items.eraseIdx i) (List.eraseIdx_sublist ..)
      exact MS.out h2 hT q.cl hL hf.1 hf.2
theorem MS.doW {s : Spc} {r : Req} {out : List Rpl} (h : MS s) (q : MQ r) : MS (doW s r out).1 := by
  unfold Go.Abs.doW
  split
  · exact h.tell q.cl q.sq (.inr ⟨by omega, by omega, by omega, rfl⟩)
  split
  · exact h.bring q (by omega)
  split
  · exact h.find q (by omega)
  split
  · exact h.find q (by omega)
  split
  · exact h.find q (by omega)
  split
  · exact h.find q (by omega)
  split
  · split
    · exact h.tell q.cl q.sq (.inr ⟨by omega, by omega, by omega, rfl⟩)
    · exact h.bring q (by omega)
  split
  · exact h.turn q (by omega)
  · exact h.tell q.cl q.sq (.inr ⟨by omega, by omega, by omega, rfl⟩)
/-- THE SPACE THAT MAY BE STAYS ONE -/
theorem MS.do {s : Spc} {now : Int} {r : Req} (h : MS s) : MS (doS s now r).1 := by
  unfold doS
  split
  · rename_i hok
    simp only [doOK, Bool.and_eq_true, decide_eq_true_eq] at hok
    have q := may_mq hok.1.1.2
    have h1 := h.aged hok.1.2 hok.2
    split
    · exact h1
    · split
      · exact h1
      · exact h1.doW q
  · exact h
theorem MS.new : MS (newS 15 15) := may_ms told4D (fun w hw => by simp [newS] at hw)

end Go.Abs

set_option linter.all false
set_option maxRecDepth 100000
set_option maxHeartbeats 0
namespace Go.Abs
open Go
open Go.Proofs.Try (prog)
/-! ### what is done once more -/
theorem getD_set' {l : List Rpl} {i c : Nat} {y d : Rpl} : (l.set i y).getD c d = if i = c ∧ c < l.length then y else l.getD c d := by
  rw [List.getD_eq_getElem?_getD, List.getD_eq_getElem?_getD, List.getElem?_set]
  by_cases h : i = c
  · subst h
    by_cases h2 : i < l.length
    · simp [h2]
    · simp [h2]
  · simp [h]
theorem seq_told {x : Wtr} {s : Spc} {r : Req} (c : Nat) : (lastOf (told1 x s r) c).Seq = (lastOf s c).Seq := by
  unfold told1
  split
  · rename_i h
    show ((s.Last.set x.Client.toNat (late x r)).getD c ⟨0, 0, 0, [], false⟩).Seq = _
    rw [getD_set']
    split
    · rename_i h2
      rw [← h2.1]; exact h.symm
    · rfl
  · rfl
/-- what stays while a tuple is put -/
theorem put_keeps (r : Req) : ∀ (rest pre : List Wtr) (s : Spc) (out : List Rpl), (putGo r pre rest s out).1.Now = s.Now ∧ (∀ c, (lastOf (putGo r pre rest s out).1 c).Seq = (lastOf s c).Seq) ∧ out.length ≤ (putGo r pre rest s out).2.length
  | [], pre, s, out => ⟨rfl, fun c => rfl, Nat.le_refl _⟩
  | x :: rest, pre, s, out => by
    have hn : (told1 x s r).Now = s.Now := by unfold told1; split <;> rfl
    simp only [putGo]
    split
    · split
      · exact ⟨hn, fun c => seq_told c, by simp⟩
      · obtain ⟨h1, h2, h3⟩ := put_keeps r rest pre (told1 x s r) (out ++ [late x r])
        exact ⟨h1.trans hn, fun c => (h2 c).trans (seq_told c), by simp at h3; omega⟩
    · exact put_keeps r rest (pre ++ [x]) s out
/-- a request that is done: its time, its client's last number, one reply at least -/
structure Dn (s : Spc) (r : Req) (res : Spc × List Rpl) : Prop where
  now : res.1.Now = s.Now
  sq : (lastOf res.1 r.Client.toNat).Seq = r.Seq
  out : 1 ≤ res.2.length
theorem seq_tell {s : Spc} {r : Req} {kd : Int} {t : List Fld} (h4 : s.Last.length = 4) (hc : clientOK r.Client = true) : (lastOf (tellS s r kd t) r.Client.toNat).Seq = r.Seq := by
  obtain ⟨n, hn, hn4⟩ := nat_client hc
  show ((s.Last.set r.Client.toNat (rep r kd t)).getD r.Client.toNat ⟨0, 0, 0, [], false⟩).Seq = _
  rw [getD_set', if_pos ⟨rfl, by rw [hn, Int.toNat_natCast]; omega⟩]
  rfl
theorem dn_tell {s : Spc} {r : Req} {kd : Int} {t : List Fld} {out : List Rpl} (h4 : s.Last.length = 4) (hc : clientOK r.Client = true) : Dn s r (tellS s r kd t, out ++ [rep r kd t]) := ⟨rfl, seq_tell h4 hc, by simp⟩
theorem dn_put {s s1 : Spc} {r : Req} {out : List Rpl} {w : List Wtr} (h1 : s1.Now = s.Now) (h2 : (lastOf s1 r.Client.toNat).Seq = r.Seq) (h3 : 1 ≤ out.length) : Dn s r (putGo r [] w s1 out) := by
  obtain ⟨a, b, c⟩ := put_keeps r w [] s1 out
  exact ⟨a.trans h1, (b _).trans h2, by omega⟩
theorem dn_bring {s : Spc} {r : Req} {out : List Rpl} (h4 : s.Last.length = 4) (hc : clientOK r.Client = true) : Dn s r (bringS s r out) := by
  unfold bringS
  split
  · exact dn_tell h4 hc
  · exact dn_put rfl (seq_tell h4 hc) (by simp)
theorem dn_find {s : Spc} {r : Req} {out : List Rpl} {tk wt : Bool} (h4 : s.Last.length = 4) (hc : clientOK r.Client = true) : Dn s r (findW s r out tk wt) := by
  unfold findW
  split
  · split
    · exact ⟨rfl, seq_tell h4 hc, by simp⟩
    · exact ⟨rfl, seq_tell h4 hc, by simp⟩
  · split
    · exact dn_tell h4 hc
    · split
      · exact dn_tell h4 hc
      · exact ⟨rfl, seq_tell (s := { s with Waiters := s.Waiters ++ [⟨r.Client, r.Seq, tk, r.P⟩] }) h4 hc, by simp⟩
theorem dn_do {s : Spc} {r : Req} {out : List Rpl} (h4 : s.Last.length = 4) (hc : clientOK r.Client = true) : Dn s r (doW s r out) := by
  unfold Go.Abs.doW
  split
  · exact dn_tell h4 hc
  split
  · exact dn_bring h4 hc
  split
  · exact dn_find h4 hc
  split
  · exact dn_find h4 hc
  split
  · exact dn_find h4 hc
  split
  · exact dn_find h4 hc
  split
  · split
    · exact dn_tell h4 hc
    · exact dn_bring h4 hc
  split
  · unfold turnW
    split
    · exact dn_tell h4 hc
    · split
      · exact dn_tell h4 hc
      · exact dn_put rfl (seq_tell h4 hc) (by simp)
  · exact dn_tell h4 hc
theorem MS.len4 {s : Spc} (h : MS s) : s.Last.length = 4 := by have := all2_len h.la; simpa using this
/-- a new request -/
theorem do_new {s : Spc} {now : Int} {r : Req} (h : MS s) (hq : mayQ r = true) (h1 : s.Now ≤ now) (h2 : now ≤ 1099511627776) (hs : (lastOf s r.Client.toNat).Seq < r.Seq) : (doS s now r).1.Now = now ∧ (lastOf (doS s now r).1 r.Client.toNat).Seq = r.Seq ∧ 1 ≤ (doS s now r).2.length := by
  have hok : doOK s now r = true := by simp only [doOK, ms_may h, hq, decide_eq_true h1, decide_eq_true h2, Bool.and_self]
  have e : doS s now r = doW (aged s now) r [] := by rw [doS, if_pos hok, if_neg (by omega), if_neg (by omega)]
  rw [e]
  have := dn_do (s := aged s now) (r := r) (out := []) h.len4 (may_mq hq).cl
  exact ⟨this.now, this.sq, this.out⟩
theorem aged_self {s : Spc} (h : MS s) : aged s s.Now = s := by
  have : live s.Now s.Items = s.Items := by
    rw [live, List.filter_eq_self]
    intro x hx
    have := h.it x hx
    simp only [mayI, Bool.and_eq_true, Bool.or_eq_true, decide_eq_true_eq] at this
    simp only [expd, Bool.not_eq_true', Bool.and_eq_false_iff, bne_eq_false_iff_eq, decide_eq_false_iff_not]
    rcases this.1.2 with h0 | h0
    · exact .inl h0
    · exact .inr (by omega)
  unfold aged
  rw [this]
/-- the same request once more, later or not -/
theorem do_again {s : Spc} {now : Int} {r : Req} (h : MS s) (hq : mayQ r = true) (h1 : s.Now ≤ now) (h2 : now ≤ 1099511627776) (hs : (lastOf s r.Client.toNat).Seq = r.Seq) : doS s now r = (aged s now, [lastOf s r.Client.toNat]) := by
  have hok : doOK s now r = true := by simp only [doOK, ms_may h, hq, decide_eq_true h1, decide_eq_true h2, Bool.and_self]
  rw [doS, if_pos hok, if_neg (by omega), if_pos hs.symm]
/-- an older one -/
theorem do_old {s : Spc} {r : Req} (h : MS s) (hq : mayQ r = true) (hs : r.Seq < (lastOf s r.Client.toNat).Seq) : doS s s.Now r = (s, [⟨r.Client, r.Seq, 7, [], false⟩]) := by
  have hok : doOK s s.Now r = true := by
    have := h.now
    simp only [doOK, ms_may h, hq, decide_eq_true (Int.le_refl s.Now), decide_eq_true this.2, Bool.and_self]
  rw [doS, if_pos hok, if_pos hs, aged_self h]
theorem mayQ_seq {r : Req} (h : mayQ r = true) {q : Int} (hq : 1 ≤ q ∧ q ≤ 1073741824) : mayQ { r with Seq := q } = true := by
  simp only [mayQ, Bool.and_eq_true, decide_eq_true_eq] at h ⊢
  exact ⟨by omega, h.2⟩

/-! ### requests played one behind the other -/
def stepP (p : Spc × Int) (x : Asked) : Spc × Int :=
  ((doS p.1 (IntKind.wrap .i64 (p.2 + IntKind.wrap .i64 ((IntKind.wrap .u64 x.D).tmod 20))) x.R).1, IntKind.wrap .i64 (p.2 + IntKind.wrap .i64 ((IntKind.wrap .u64 x.D).tmod 20)))
def playS (l : List Asked) : Spc × Int := l.foldl stepP (newS 15 15, 0)
theorem doS_now {s : Spc} {now : Int} {r : Req} (h : MS s) (h1 : s.Now ≤ now) : (doS s now r).1.Now ≤ now := by
  unfold doS
  split
  · rename_i hok
    simp only [doOK, Bool.and_eq_true, decide_eq_true_eq] at hok
    split
    · exact Int.le_refl _
    · split
      · exact Int.le_refl _
      · have := dn_do (s := aged s now) (r := r) (out := []) h.len4 (may_mq hok.1.1.2).cl
        rw [this.now]; exact Int.le_refl _
  · exact h1
theorem play_ok : ∀ (l : List Asked) (p : Spc × Int) (k : Nat), MS p.1 → p.1.Now ≤ p.2 → 0 ≤ p.2 → p.2 ≤ 20 * (k : Int) → k + l.length ≤ 1000 → MS (l.foldl stepP p).1 ∧ (l.foldl stepP p).1.Now ≤ (l.foldl stepP p).2 ∧ 0 ≤ (l.foldl stepP p).2 ∧ (l.foldl stepP p).2 ≤ 20 * ((k + l.length : Nat) : Int)
  | [], p, k, h1, h2, h3, h4, _ => ⟨h1, h2, h3, by simpa using h4⟩
  | x :: l, p, k, h1, h2, h3, h4, h5 => by
    obtain ⟨d, hd, hd0, hd1⟩ := mod_small x.D 20 (by omega)
    simp only [List.length_cons] at h5
    have hw : IntKind.wrap .i64 (p.2 + d) = p.2 + d := IntWalk.i64_in _ (by omega)
    have e : stepP p x = ((doS p.1 (p.2 + d) x.R).1, p.2 + d) := by rw [stepP, hd, hw]
    have := play_ok l (stepP p x) (k + 1) (by rw [e]; exact h1.do) (by rw [e]; exact doS_now h1 (by omega)) (by rw [e]; show 0 ≤ p.2 + d; omega) (by rw [e]; show p.2 + d ≤ _; push_cast; omega) (by omega)
    simp only [List.foldl_cons]
    rw [show k + 1 + l.length = k + (l.length + 1) by omega] at this
    exact this

end Go.Abs
