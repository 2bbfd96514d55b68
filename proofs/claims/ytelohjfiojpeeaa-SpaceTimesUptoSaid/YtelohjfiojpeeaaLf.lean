/- Lf: a part of the proofs about the tuple space (layer 8). -/
import Derived.Test.YtelohjfiojpeeaaTo
set_option linter.all false
set_option maxRecDepth 100000
set_option maxHeartbeats 0
namespace Go.Abs
open Go
open Go.Proofs.Try (prog)
/-! ### what may be, of the document, may be, of the program -/
theorem ok6_plain {x : Fld} (h : ok6 2 x = true) : x.plain = true := by
  simp only [ok6, Bool.and_eq_true, decide_eq_true_eq, Bool.or_eq_true, beq_iff_eq] at h
  obtain ⟨⟨⟨⟨h1, h2⟩, h3⟩, h4⟩, h5⟩ := h
  unfold Fld.plain
  rcases (by omega : x.K = 1 ∨ x.K = 2) with hk | hk
  · rw [if_pos hk]
    rcases h4 with h4 | h4
    · omega
    · exact h4
  · rw [if_neg (by omega), if_pos hk]
    rcases h3 with h3 | h3
    · omega
    · simp [h3, h5]
theorem plain_asked {x : Fld} (h : x.plain = true) : x.asked = true := by
  unfold Fld.asked
  rw [if_neg, h]
  unfold Fld.plain at h
  split at h
  · omega
  · split at h
    · omega
    · cases h
theorem may6_T {l : List Fld} (h : may6 l 2 = true) : mayT l = true := by
  simp only [may6, Bool.and_eq_true, List.all_eq_true] at h
  simp only [mayT, Bool.and_eq_true, List.all_eq_true]
  exact ⟨h.1, fun x hx => ok6_plain (h.2 x hx)⟩
theorem mayT_P {l : List Fld} (h : mayT l = true) : mayP l = true := by
  simp only [mayT, Bool.and_eq_true, List.all_eq_true] at h
  simp only [mayP, Bool.and_eq_true, List.all_eq_true]
  exact ⟨h.1, fun x hx => plain_asked (h.2 x hx)⟩
theorem ba_refl (b : ByteArray) : (b == b) = true := by
  cases b with
  | mk d =>
    show (d == d) = true
    exact beq_self_eq_true d
theorem same_refl (x : Fld) : x.same x = true := by simp [Fld.same, ba_refl]
theorem plain_fits {x : Fld} (h : x.plain = true) : x.fits x = true := by
  unfold Fld.fits
  unfold Fld.plain at h
  split at h
  · rw [if_neg (by omega), if_neg (by omega), if_neg (by omega)]; exact same_refl x
  · split at h
    · rw [if_neg (by omega), if_neg (by omega), if_neg (by omega)]; exact same_refl x
    · cases h
theorem all2_refl {α : Type} {p : α → α → Bool} : ∀ {l : List α}, (∀ x ∈ l, p x x = true) → all2 p l l = true
  | [], _ => rfl
  | x :: l, h => by simp only [all2, h x (by simp), all2_refl (l := l) fun y hy => h y (by simp [hy]), Bool.and_self]
theorem matchT_self {l : List Fld} (h : mayT l = true) : matchT l l = true := by
  have h2 := h
  simp only [mayT, Bool.and_eq_true, List.all_eq_true] at h2
  simp only [matchT, mayT_P h, h, all2_refl fun x hx => plain_fits (h2.2 x hx), Bool.and_self]

/-! ### one tuple with a lease -/
def l4 (a b : Rpl) : List Rpl := [⟨0, 0, 0, [], false⟩, a, b, ⟨3, 0, 0, [], false⟩]
def r0 (c : Int) : Rpl := ⟨c, 0, 0, [], false⟩
def leaseI (t : List Fld) (k x : Int) : Itm := ⟨1, if 0 < k then x + k else 0, t⟩
def leaseA (t : List Fld) (k x : Int) : Spc := ⟨x, [leaseI t k x], [], 15, 15, l4 ⟨1, 1, 1, [], false⟩ (r0 2)⟩
def leaseB (t : List Fld) (k x y : Int) (there : Bool) : Spc := ⟨y, if there then [leaseI t k x] else [], [], 15, 15, l4 ⟨1, 1, 1, [], false⟩ (if there then ⟨2, 1, 2, t, false⟩ else ⟨2, 1, 3, [], false⟩)⟩
theorem lease1 {t : List Fld} {k x : Int} (ht : mayT t = true) (hk : 0 ≤ k ∧ k ≤ 50) (hx : 0 ≤ x ∧ x ≤ 2000) : doS (newS 15 15) x ⟨1, 1, 1, [], t, k⟩ = (leaseA t k x, [⟨1, 1, 1, [], false⟩]) := by
  have hp : putsK 1 = true := by kernel_rfl
  have hr : readsK 1 = false := by kernel_rfl
  have hok : doOK (newS 15 15) x ⟨1, 1, 1, [], t, k⟩ = true := by
    have hq : mayQ ⟨1, 1, 1, [], t, k⟩ = true := by
      simp only [mayQ, hp, hr, if_true, ht, Bool.true_and, if_false, Bool.false_eq_true]
      simp; omega
    simp only [doOK, told4D, hq, Bool.true_and]
    show (decide ((0 : Int) ≤ x) && decide (x ≤ 1099511627776)) = true
    simp; omega
  have hd : ¬ denyS (aged (newS 15 15) x) ⟨1, 1, 1, [], t, k⟩ = true := by
    have : denyS (aged (newS 15 15) x) ⟨1, 1, 1, [], t, k⟩ = false := by
      show ((readsK 1 && bitOf (newS 15 15).Read 1) || (writesK 1 && bitOf (newS 15 15).Write 1)) = false
      kernel_rfl
    rw [this]; simp
  have hf : ¬ fullS (aged (newS 15 15) x) ⟨1, 1, 1, [], t, k⟩ (-1) = true := by
    have : fullS (aged (newS 15 15) x) ⟨1, 1, 1, [], t, k⟩ (-1) = false := rfl
    rw [this]; simp
  rw [doS, if_pos hok, if_neg (by show ¬ (1 : Int) < 0; omega), if_neg (by show ¬ (1 : Int) = 0; omega), doW, if_neg hd, if_pos rfl, bringS, if_neg hf]
  rfl
theorem leaseA_may {t : List Fld} {k x : Int} (ht : mayT t = true) (hk : 0 ≤ k ∧ k ≤ 50) (hx : 0 ≤ x ∧ x ≤ 2000) : mayS (leaseA t k x) = true := by
  have h1 : mayI (leaseI t k x) x = true := by
    simp only [mayI, leaseI, ht, Bool.and_true]
    have : clientOK 1 = true := by kernel_rfl
    rw [this, Bool.true_and]
    by_cases hk0 : 0 < k
    · simp only [if_pos hk0, Bool.or_eq_true, Bool.and_eq_true, decide_eq_true_eq]
      exact .inr ⟨by omega, by omega⟩
    · simp only [if_neg hk0]; rfl
  have h2 : mayH (leaseA t k x) = true := by
    have this : (15 : Int).fdiv 16 = 0 := by decide
    show (decide (0 ≤ x) && decide (x ≤ 1099511627776) && decide ((15 : Int).fdiv 16 = 0) && decide ((15 : Int).fdiv 16 = 0) && true && true) = true
    simp only [Bool.and_eq_true, decide_eq_true_eq]
    exact ⟨⟨⟨⟨⟨hx.1, by omega⟩, this⟩, this⟩, trivial⟩, trivial⟩
  have h3 : all2 mayL (l4 ⟨1, 1, 1, [], false⟩ (r0 2)) [0, 1, 2, 3] = true := by kernel_rfl
  simp only [mayS, h2, Bool.true_and]
  show (([leaseI t k x].all fun y => mayI y x) && [0, 1, 2, 3].all (fun c => decide (cnt [leaseI t k x] c ≤ 24)) && ([] : List Wtr).all mayW && all2 mayL (l4 ⟨1, 1, 1, [], false⟩ (r0 2)) [0, 1, 2, 3]) = true
  rw [h3]
  simp only [List.all_cons, List.all_nil, h1, Bool.and_true, Bool.true_and]
  have hc : ∀ c, cnt [leaseI t k x] c ≤ 24 := fun c => by have := cnt_len [leaseI t k x] c; simp at this; omega
  simp [hc]
theorem lease2 {t : List Fld} {k x d : Int} (ht : mayT t = true) (hk : 0 ≤ k ∧ k ≤ 50) (hx : 0 ≤ x ∧ x ≤ 2000) (hd0 : 0 ≤ d ∧ d ≤ 100) :
    doS (leaseA t k x) (x + d) ⟨2, 1, 2, t, [], 0⟩ = (leaseB t k x (x + d) (k == 0 || decide (d < k)), [if (k == 0 || decide (d < k)) = true then ⟨2, 1, 2, t, false⟩ else ⟨2, 1, 3, [], false⟩]) := by
  have hp : putsK 2 = false := by kernel_rfl
  have hr : readsK 2 = true := by kernel_rfl
  have hok : doOK (leaseA t k x) (x + d) ⟨2, 1, 2, t, [], 0⟩ = true := by
    have hq : mayQ ⟨2, 1, 2, t, [], 0⟩ = true := by
      simp only [mayQ, hp, hr, if_true, mayT_P ht, Bool.true_and, if_false, Bool.false_eq_true, Bool.and_true]
      simp
    simp only [doOK, leaseA_may ht hk hx, hq, Bool.true_and]
    show (decide (x ≤ x + d) && decide (x + d ≤ 1099511627776)) = true
    simp; omega
  have hdn : ¬ denyS (aged (leaseA t k x) (x + d)) ⟨2, 1, 2, t, [], 0⟩ = true := by
    have : denyS (aged (leaseA t k x) (x + d)) ⟨2, 1, 2, t, [], 0⟩ = false := by
      show ((readsK 2 && bitOf 15 2) || (writesK 2 && bitOf 15 2)) = false
      kernel_rfl
    rw [this]; simp
  have hex : expd (x + d) (leaseI t k x) = !(k == 0 || decide (d < k)) := by
    simp only [expd, leaseI]
    split
    · rw [Bool.eq_iff_iff]; simp; omega
    · have : k = 0 := by omega
      subst this; simp
  rw [doS, if_pos hok, if_neg (by show ¬ (1 : Int) < 0; omega), if_neg (by show ¬ (1 : Int) = 0; omega), doW, if_neg hdn, if_neg (by show ¬ (2 : Int) = 1; omega), if_pos rfl]
  cases hth : (k == 0 || decide (d < k)) with
  | true =>
    have hli : live (x + d) [leaseI t k x] = [leaseI t k x] := by simp [live, hex, hth]
    have hag : aged (leaseA t k x) (x + d) = ⟨x + d, [leaseI t k x], [], 15, 15, l4 ⟨1, 1, 1, [], false⟩ (r0 2)⟩ := by
      simp only [aged, leaseA, hli]
    rw [hag]
    have hfi : findS ⟨x + d, [leaseI t k x], [], 15, 15, l4 ⟨1, 1, 1, [], false⟩ (r0 2)⟩ t = 0 := by
      show fidx (fun y : Itm => matchT t y.T) [leaseI t k x] = 0
      simp [fidx, List.findIdx?_cons, leaseI, matchT_self ht]
    rw [findW, if_pos (by rw [hfi]; omega), hfi]
    rfl
  | false =>
    have hli : live (x + d) [leaseI t k x] = [] := by simp [live, hex, hth]
    have hag : aged (leaseA t k x) (x + d) = ⟨x + d, [], [], 15, 15, l4 ⟨1, 1, 1, [], false⟩ (r0 2)⟩ := by
      simp only [aged, leaseA, hli]
    rw [hag]
    rw [findW, if_neg (by show ¬ (0 : Int) ≤ -1; omega), if_pos rfl]
    rfl

/-! ### SpaceLease -/
theorem u64_range (n : Int) : 0 ≤ IntKind.wrap .u64 n ∧ IntKind.wrap .u64 n ≤ 18446744073709551615 := by
  unfold IntKind.wrap
  simp [IntKind.bits, IntKind.signed]
  omega
theorem mod_small (n m : Int) (hm : 1 ≤ m ∧ m ≤ 1000000) : ∃ k, IntKind.wrap .i64 ((IntKind.wrap .u64 n).tmod m) = k ∧ 0 ≤ k ∧ k < m := by
  have h := u64_range n
  rw [IntWalk.rem_in _ _ h.1]
  have h1 := Int.emod_nonneg (IntKind.wrap .u64 n) (show m ≠ 0 by omega)
  have h2 := Int.emod_lt_of_pos (IntKind.wrap .u64 n) (show 0 < m by omega)
  exact ⟨_, IntWalk.i64_in _ (by omega), h1, h2⟩
theorem bn1 : (true != true) = false := rfl
theorem bn2 : (true != false) = true := rfl
theorem bn3 : (false != true) = true := rfl
theorem bn4 : (false != false) = false := rfl
theorem bt1 : (true == true) = true := rfl
theorem bt2 : (true == false) = false := rfl
theorem bt3 : (false == true) = false := rfl
theorem bt4 : (false == false) = true := rfl

end Go.Abs
