/- P2: a part of the proofs about the tuple space and its bytes. -/
import Derived.Test.YtilfbkhbjkjicaaTo
set_option linter.all false
set_option maxRecDepth 100000
set_option maxHeartbeats 0
namespace Go.Abs
open Go
open Go.Proofs.Try (prog)
theorem ba_refl (b : ByteArray) : (b == b) = true := by
  cases b with
  | mk d =>
    show (d == d) = true
    exact beq_self_eq_true d
theorem same_refl (x : Fld) : x.same x = true := by simp [Fld.same, ba_refl]
theorem yc0 {α : Type} {p : α → α → Bool} : ∀ {l : List α}, (∀ x ∈ l, p x x = true) → qb0 p l l = true
  | [], _ => rfl
  | x :: l, h => by simp only [qb0, h x (by simp), yc0 (l := l) fun y hy => h y (by simp [hy]), Bool.and_self]
def l4 (a b : Rpl) : List Rpl := [⟨0, 0, 0, [], false⟩, a, b, ⟨3, 0, 0, [], false⟩]
def r0 (c : Int) : Rpl := ⟨c, 0, 0, [], false⟩
end Go.Abs
set_option linter.all false
set_option maxRecDepth 100000
set_option maxHeartbeats 0
namespace Go.Abs
open Go
open Go.Proofs.Try (prog)
def fewF (l : List Fld) : Bool := decide (l.length ≤ 20) && l.all fun x => decide (x.S.size ≤ 100)
theorem c_Few6 (l : List Fld) (hl : l.length ≤ 4294967296) : Fn prog 113 [eFs l] (.bool (fewF l)) := by
  refine run_113 rfl fun h => ?_
  by_cases h1 : l.length ≤ 20
  · have f2 : decide ((20 : Int) < (l.length : Int)) = false := by simp; omega
    repeat' (first
    | simp (implicitDefEqProofs := false) only [push_cast, reduceIte, reduceCtorEq, Nat.reduceAdd, Nat.reduceSub, Nat.reduceEqDiff, Nat.reduceLT, Nat.reduceLeDiff, Nat.reduceBEq, Nat.reduceMul, Int.reduceLT, Int.reduceLE, Int.reduceEq, Int.reduceToNat, Int.reduceMul, Int.reduceNeg, Go.Proofs.Try.f113, eFs, List.length_map, f2]
    | refine Sp2.f ?_ ?_
    | refine Spl.f ?_ ?_ <;> intro hb
    | refine yac rfl (fun b hb => ?_))
    refine qax (fun i a => [(0, eFs l), (2, .bool false), (3, .int .i64 i), (6, a 6), (10, a 10), (19, a 19)]) (fun _ g => h ++ g) (fun i => i ≤ l.length ∧ ∀ j x, j < i → l[j]? = some x → decide (x.S.size ≤ 100) = true) l.length (za3 rfl ⟨[], (List.append_nil h).symm⟩ ⟨Nat.zero_le _, fun j x hj => by omega⟩) ?_
    rintro i a g' ⟨hi, hinv⟩
    refine ⟨hi, ?_⟩
    by_cases hlt : i < l.length
    · obtain ⟨x, hx⟩ : ∃ x, l[i]? = some x := ⟨_, List.getElem?_eq_getElem hlt⟩
      have hi9 : i < 9223372036854775807 := by omega
      by_cases hs : x.S.size ≤ 100
      · have f3 : decide ((100 : Int) < (x.S.size : Int)) = false := by simp; omega
        repeat' (first
    | simp (implicitDefEqProofs := false) only [push_cast, reduceIte, reduceCtorEq, Nat.reduceAdd, Nat.reduceSub, Nat.reduceEqDiff, Nat.reduceLT, Nat.reduceLeDiff, Nat.reduceBEq, Nat.reduceMul, Int.reduceLT, Int.reduceLE, Int.reduceEq, Int.reduceToNat, Int.reduceMul, Int.reduceNeg, Go.Proofs.Try.f113, eFs, eF, f3, List.length_map, zau hlt, yar hlt, zal eF hx, Int.toNat_natCast, qae hi9]
    | refine Sp2.f ?_ ?_
    | refine Spl.f ?_ ?_ <;> intro hb
    | refine yac rfl (fun b hb => ?_)
    | refine za3 ?_ ⟨_, rfl⟩ ?_)
        exact ⟨hlt, fun j y hj hy => of_decide_eq_true (ybz (p := fun x : Fld => decide (x.S.size ≤ 100)) hx (decide_eq_true hs) hinv j y hj hy)⟩
      · have f3 : decide ((100 : Int) < (x.S.size : Int)) = true := by simp; omega
        repeat' (first
    | simp (implicitDefEqProofs := false) only [push_cast, reduceIte, reduceCtorEq, Nat.reduceAdd, Nat.reduceSub, Nat.reduceEqDiff, Nat.reduceLT, Nat.reduceLeDiff, Nat.reduceBEq, Nat.reduceMul, Int.reduceLT, Int.reduceLE, Int.reduceEq, Int.reduceToNat, Int.reduceMul, Int.reduceNeg, Go.Proofs.Try.f113, eFs, eF, f3, List.length_map, zau hlt, yar hlt, zal eF hx, Int.toNat_natCast, qae hi9]
    | refine Sp2.f ?_ ?_
    | refine Spl.f ?_ ?_ <;> intro hb
    | refine yac rfl (fun b hb => ?_)
    | refine za3 ?_ ⟨_, rfl⟩ ?_)
        have hbad : (l.all fun x => decide (x.S.size ≤ 100)) = false := by
          rw [List.all_eq_false]; exact ⟨x, List.mem_of_getElem? hx, by simpa using hs⟩
        simp only [fewF, hbad, Bool.and_false]
    · have hall : (l.all fun x => decide (x.S.size ≤ 100)) = true := ycm fun j x hj hx => hinv j x (by omega) hx
      repeat' (first
    | simp (implicitDefEqProofs := false) only [push_cast, reduceIte, reduceCtorEq, Nat.reduceAdd, Nat.reduceSub, Nat.reduceEqDiff, Nat.reduceLT, Nat.reduceLeDiff, Nat.reduceBEq, Nat.reduceMul, Int.reduceLT, Int.reduceLE, Int.reduceEq, Int.reduceToNat, Int.reduceMul, Int.reduceNeg, Go.Proofs.Try.f113, eFs, List.length_map, ya5 hlt]
    | refine Sp2.f ?_ ?_
    | refine Spl.f ?_ ?_ <;> intro hb
    | refine yac rfl (fun b hb => ?_))
      simp only [fewF, hall, decide_eq_true h1, Bool.and_self]
  · have f2 : decide ((20 : Int) < (l.length : Int)) = true := by simp; omega
    repeat' (first
    | simp (implicitDefEqProofs := false) only [push_cast, reduceIte, reduceCtorEq, Nat.reduceAdd, Nat.reduceSub, Nat.reduceEqDiff, Nat.reduceLT, Nat.reduceLeDiff, Nat.reduceBEq, Nat.reduceMul, Int.reduceLT, Int.reduceLE, Int.reduceEq, Int.reduceToNat, Int.reduceMul, Int.reduceNeg, Go.Proofs.Try.f113, eFs, List.length_map, f2]
    | refine Sp2.f ?_ ?_
    | refine Spl.f ?_ ?_ <;> intro hb
    | refine yac rfl (fun b hb => ?_))
    simp only [fewF, decide_eq_false h1, Bool.false_and]
theorem c_Few7 (r : Req) (hr : r.Small) : Fn prog 47 [eQ r] (.bool (fewF r.P && fewF r.T)) := by
  refine run_47 rfl fun h => ?_
  repeat' (first
    | simp (implicitDefEqProofs := false) only [push_cast, reduceIte, reduceCtorEq, Nat.reduceAdd, Nat.reduceSub, Nat.reduceEqDiff, Nat.reduceLT, Nat.reduceLeDiff, Nat.reduceBEq, Nat.reduceMul, Int.reduceLT, Int.reduceLE, Int.reduceEq, Int.reduceToNat, Int.reduceMul, Int.reduceNeg, Go.Proofs.Try.f47, eQ, eFs]
    | refine Sp2.f ?_ ?_
    | refine Spl.f ?_ ?_ <;> intro hb
    | refine yac rfl (fun b hb => ?_)
    | refine zay (c_Few6 r.P hr.P) ?_
    | refine zay (c_Few6 r.T hr.T) ?_)
  all_goals (simp only [*, Bool.true_and, Bool.false_and])
end Go.Abs
set_option linter.all false
set_option maxRecDepth 100000
set_option maxHeartbeats 0
namespace Go.Abs
open Go
open Go.Proofs.Try (prog)
structure MS (s : Spc) : Prop where
  now : 0 ≤ s.Now ∧ s.Now ≤ 1099511627776
  rd : s.Read.fdiv 16 = 0
  wr : s.Write.fdiv 16 = 0
  il : s.Items.length ≤ 64
  wl : s.Waiters.length ≤ 16
  it : ∀ x ∈ s.Items, qdo x s.Now = true
  cn : ∀ c, c = 0 ∨ c = 1 ∨ c = 2 ∨ c = 3 → cnt s.Items c ≤ 24
  wt : ∀ x ∈ s.Waiters, ydt x = true
  la : qb0 zc7 s.Last [0, 1, 2, 3] = true
  nw : ∀ w ∈ s.Waiters, ∀ x ∈ s.Items, qcw w.P x.T = false
theorem may_ms {s : Spc} (h : zbw s = true) (hn : ∀ w ∈ s.Waiters, ∀ x ∈ s.Items, qcw w.P x.T = false) : MS s := by
  simp only [zbw, mayH, Bool.and_eq_true, decide_eq_true_eq, List.all_eq_true] at h
  obtain ⟨⟨⟨⟨⟨⟨⟨⟨⟨h1, h2⟩, h3⟩, h4⟩, h5⟩, h6⟩, h7⟩, h8⟩, h9⟩, h10⟩ := h
  exact ⟨⟨h1, h2⟩, h3, h4, h5, h6, h7, fun c hc => h8 c (by simpa using hc), h9, h10, hn⟩
theorem all2_len {α β : Type} {p : α → β → Bool} {l : List α} {m : List β} (h : qb0 p l m = true) : l.length = m.length := by
  by_cases hl : l.length = m.length
  · exact hl
  · rw [qcm hl] at h; cases h
theorem mayI_T {x : Itm} {n : Int} (h : qdo x n = true) : mayT x.T = true := by
  simp only [qdo, Bool.and_eq_true] at h; exact h.2
theorem cnt_sub {l m : List Itm} (h : List.Sublist l m) (c : Int) : cnt l c ≤ cnt m c := List.Sublist.countP_le h
theorem MS.items {s : Spc} (h : MS s) {l : List Itm} (hs : List.Sublist l s.Items) : MS { s with Items := l } :=
  ⟨h.now, h.rd, h.wr, Nat.le_trans hs.length_le h.il, h.wl, fun x hx => h.it x (hs.subset hx), fun c hc => Nat.le_trans (cnt_sub hs c) (h.cn c hc), h.wt, h.la, fun w hw x hx => h.nw w hw x (hs.subset hx)⟩
theorem MS.aged {s : Spc} (h : MS s) {now : Int} (h1 : s.Now ≤ now) (h2 : now ≤ 1099511627776) : MS (aged s now) := by
  have hs : List.Sublist (live now s.Items) s.Items := List.filter_sublist
  have hi := h.items hs
  refine ⟨⟨by have := h.now.1; show 0 ≤ now; omega, h2⟩, h.rd, h.wr, hi.il, h.wl, fun x hx => ?_, hi.cn, h.wt, h.la, hi.nw⟩
  have hx1 := h.it x (hs.subset hx)
  have hx2 := (List.mem_filter.1 hx).2
  show qdo x now = true
  simp only [qdo, Bool.and_eq_true, Bool.or_eq_true, decide_eq_true_eq] at hx1 ⊢
  refine ⟨⟨hx1.1.1, ?_⟩, hx1.2⟩
  rcases hx1.1.2 with h0 | h0
  · exact .inl h0
  · right
    simp only [expd, Bool.not_eq_true', Bool.and_eq_false_iff, bne_eq_false_iff_eq, decide_eq_false_iff_not] at hx2
    have := h.now.1
    rcases hx2 with h3 | h3 <;> omega
theorem all2_set {α β : Type} {p : α → β → Bool} : ∀ {l : List α} {m : List β} {c : Nat} {x : α} {y : β}, qb0 p l m = true → m[c]? = some y → p x y = true → qb0 p (l.set c x) m = true
  | [], [], c, x, y, h, hy, hp => by simp at hy
  | [], _ :: _, _, _, _, h, _, _ => by simp [qb0] at h
  | _ :: _, [], _, _, _, h, _, _ => by simp [qb0] at h
  | a :: l, b :: m, 0, x, y, h, hy, hp => by
    simp only [List.getElem?_cons_zero, Option.some.injEq] at hy
    subst hy
    simp only [qb0, Bool.and_eq_true, List.set_cons_zero] at h ⊢
    exact ⟨hp, h.2⟩
  | a :: l, b :: m, c + 1, x, y, h, hy, hp => by
    simp only [List.getElem?_cons_succ] at hy
    simp only [qb0, Bool.and_eq_true, List.set_cons_succ] at h ⊢
    exact ⟨h.1, all2_set h.2 hy hp⟩
theorem MS.last {s : Spc} (h : MS s) {x : Rpl} {c : Int} (hc : zat c = true) (hx : zc7 x c = true) : MS { s with Last := s.Last.set c.toNat x } := by
  obtain ⟨n, hn, hn4⟩ := nat_client hc
  subst hn
  refine ⟨h.now, h.rd, h.wr, h.il, h.wl, h.it, h.cn, h.wt, ?_, h.nw⟩
  refine all2_set h.la (y := (n : Int)) ?_ hx
  rcases (by omega : n = 0 ∨ n = 1 ∨ n = 2 ∨ n = 3) with rfl | rfl | rfl | rfl <;> rfl
theorem MS.tell {s : Spc} (h : MS s) {r : Req} {kd : Int} {t : List Fld} (hc : zat r.Client = true) (hs : 1 ≤ r.Seq ∧ r.Seq ≤ 1073741824) (hk : kd = 2 ∧ mayT t = true ∨ (1 ≤ kd ∧ kd ≤ 6 ∧ kd ≠ 2 ∧ t = [])) : MS (qcr s r kd t) := by
  refine h.last hc ?_
  have e : zc7 (rep r kd t) r.Client = (decide (r.Client = r.Client) && decide (0 ≤ r.Seq ∧ r.Seq ≤ 1073741824) && (if r.Seq = 0 then decide (kd = 0) && decide (t = []) && !false else if kd = 2 then mayT t else decide (1 ≤ kd ∧ kd ≤ 6) && decide (t = []) && !false)) := rfl
  rw [e, decide_eq_true (rfl : r.Client = r.Client), decide_eq_true (⟨by omega, hs.2⟩ : 0 ≤ r.Seq ∧ r.Seq ≤ 1073741824), if_neg (by omega)]
  rcases hk with ⟨rfl, ht⟩ | ⟨h1, h2, h3, rfl⟩
  · rw [if_pos rfl, ht]; rfl
  · rw [if_neg h3, decide_eq_true (⟨h1, h2⟩ : 1 ≤ kd ∧ kd ≤ 6)]; rfl
theorem MS.wait {s : Spc} (h : MS s) {w : Wtr} (hl : s.Waiters.length < 16) (hw : ydt w = true) (hn : ∀ x ∈ s.Items, qcw w.P x.T = false) : MS { s with Waiters := s.Waiters ++ [w] } := by
  refine ⟨h.now, h.rd, h.wr, h.il, by simp; omega, h.it, h.cn, fun x hx => ?_, h.la, fun x hx => ?_⟩
  · rcases List.mem_append.1 hx with hx | hx
    · exact h.wt x hx
    · simp only [List.mem_singleton] at hx; subst hx; exact hw
  · rcases List.mem_append.1 hx with hx | hx
    · exact h.nw x hx
    · simp only [List.mem_singleton] at hx; subst hx; exact hn
theorem MS.waiters {s : Spc} (h : MS s) {l : List Wtr} (hs : List.Sublist l s.Waiters) : MS { s with Waiters := l } :=
  ⟨h.now, h.rd, h.wr, h.il, Nat.le_trans hs.length_le h.wl, h.it, h.cn, fun x hx => h.wt x (hs.subset hx), h.la, fun w hw => h.nw w (hs.subset hw)⟩
theorem MS.add {s : Spc} (h : MS s) {x : Itm} (hl : s.Items.length < 64) (hc : cnt s.Items x.Owner < 24) (hx : qdo x s.Now = true) (hn : ∀ w ∈ s.Waiters, qcw w.P x.T = false) : MS { s with Items := s.Items ++ [x] } := by
  refine ⟨h.now, h.rd, h.wr, by simp; omega, h.wl, fun y hy => ?_, fun c hc' => ?_, h.wt, h.la, fun w hw y hy => ?_⟩
  · rcases List.mem_append.1 hy with hy | hy
    · exact h.it y hy
    · simp only [List.mem_singleton] at hy; subst hy; exact hx
  · show cnt (s.Items ++ [x]) c ≤ 24
    rw [cnt_app]
    by_cases he : x.Owner = c
    · rw [if_pos he, ← he]; omega
    · rw [if_neg he]; exact h.cn c hc'
  · rcases List.mem_append.1 hy with hy | hy
    · exact h.nw w hw y hy
    · simp only [List.mem_singleton] at hy; subst hy; exact hn w hw
theorem mayW_c {x : Wtr} (h : ydt x = true) : zat x.Client = true ∧ 1 ≤ x.Seq ∧ x.Seq ≤ 1073741824 := by
  simp only [ydt, Bool.and_eq_true, decide_eq_true_eq] at h
  exact ⟨h.1.1.1, h.1.1.2, h.1.2⟩
theorem MS.told {s : Spc} (h : MS s) {x : Wtr} {r : Req} (hx : ydt x = true) (hT : mayT r.T = true) : MS (yc4 x s r) := by
  unfold yc4
  split
  · refine h.last (mayW_c hx).1 ?_
    have h2 := mayW_c hx
    have e : zc7 (late x r) x.Client = (decide (x.Client = x.Client) && decide (0 ≤ x.Seq ∧ x.Seq ≤ 1073741824) && (if x.Seq = 0 then decide ((2 : Int) = 0) && decide (r.T = []) && !true else if (2 : Int) = 2 then mayT r.T else decide (1 ≤ (2 : Int) ∧ (2 : Int) ≤ 6) && decide (r.T = []) && !true)) := rfl
    rw [e, decide_eq_true (rfl : x.Client = x.Client), decide_eq_true (⟨by omega, h2.2.2⟩ : 0 ≤ x.Seq ∧ x.Seq ≤ 1073741824), if_neg (by omega), if_pos rfl, hT]; rfl
  · exact h
theorem MS.put {r : Req} (hT : mayT r.T = true) (hcl : zat r.Client = true) (hL : 0 ≤ r.Lease ∧ r.Lease ≤ 1099511627776) : ∀ (rest pre : List Wtr) (s : Spc) (out : List Rpl), MS s → s.Waiters = pre ++ rest → (∀ w ∈ pre, qcw w.P r.T = false) → s.Items.length < 64 → cnt s.Items r.Client < 24 →
    MS (ycv r pre rest s out).1
  | [], pre, s, out, h, hw, hp, hl, hc => by
    simp only [ycv]
    have hw' : s.Waiters = pre := by simpa using hw
    have hi : qdo (itmOf s r) s.Now = true := by
      have e : qdo (itmOf s r) s.Now = (zat r.Client && (decide ((if 0 < r.Lease then s.Now + r.Lease else 0) = 0) || (decide (s.Now < (if 0 < r.Lease then s.Now + r.Lease else 0)) && decide ((if 0 < r.Lease then s.Now + r.Lease else 0) ≤ 2199023255552))) && mayT r.T) := rfl
      rw [e, hcl, hT]
      by_cases h0 : 0 < r.Lease
      · simp only [if_pos h0]
        have := h.now
        rw [decide_eq_true (show s.Now < s.Now + r.Lease by omega), decide_eq_true (show s.Now + r.Lease ≤ 2199023255552 by omega)]; simp
      · simp only [if_neg h0]; rfl
    have := h.add (x := itmOf s r) hl hc hi (fun w hw2 => hp w (by rw [← hw']; exact hw2))
    rw [← hw']
    exact this
  | x :: rest, pre, s, out, h, hw, hp, hl, hc => by
    have hxm : x ∈ s.Waiters := by rw [hw]; simp
    have hx := h.wt x hxm
    have hsub : List.Sublist (pre ++ rest) s.Waiters := by rw [hw]; exact List.Sublist.append (List.Sublist.refl _) (List.sublist_cons_self _ _)
    simp only [ycv]
    have h1 := (h.told hx hT)
    have hf : (yc4 x s r).Items = s.Items := by unfold yc4; split <;> rfl
    have hfw : (yc4 x s r).Waiters = s.Waiters := by unfold yc4; split <;> rfl
    have h2 := h1.waiters (l := pre ++ rest) (by rw [hfw]; exact hsub)
    split
    · split
      · exact h2
      · have := MS.put hT hcl hL rest pre { yc4 x s r with Waiters := pre ++ rest } (out ++ [late x r]) h2 rfl hp (by show (yc4 x s r).Items.length < 64; rw [hf]; exact hl) (by show cnt (yc4 x s r).Items r.Client < 24; rw [hf]; exact hc)
        rw [putGo_wt] at this
        exact this
    · rename_i hm
      exact MS.put hT hcl hL rest (pre ++ [x]) s out h (by rw [hw]; simp) (fun w hw2 => by
        rcases List.mem_append.1 hw2 with hw2 | hw2
        · exact hp w hw2
        · simp only [List.mem_singleton] at hw2; subst hw2; simpa using hm) hl hc
theorem MS.out {s : Spc} {r : Req} {out : List Rpl} (h : MS s) (hT : mayT r.T = true) (hcl : zat r.Client = true) (hL : 0 ≤ r.Lease ∧ r.Lease ≤ 1099511627776) (hl : s.Items.length < 64) (hc : cnt s.Items r.Client < 24) : MS (ycv r [] s.Waiters s out).1 :=
  MS.put hT hcl hL s.Waiters [] s out h rfl (fun w hw => by simp at hw) hl hc
structure MQ (r : Req) : Prop where
  cl : zat r.Client = true
  sq : 1 ≤ r.Seq ∧ r.Seq ≤ 1073741824
  kd : 1 ≤ r.Kind ∧ r.Kind ≤ 8
  pt : r.Kind = 1 ∨ r.Kind = 6 ∨ r.Kind = 7 → mayT r.T = true ∧ 0 ≤ r.Lease ∧ r.Lease ≤ 1099511627776
  rp : 2 ≤ r.Kind ∧ r.Kind ≤ 7 → qcf r.P = true
theorem may_mq {r : Req} (h : mayQ r = true) : MQ r := by
  simp only [mayQ, Bool.and_eq_true, decide_eq_true_eq] at h
  obtain ⟨h1, h2, h3⟩ := h
  refine ⟨by simp only [zat, Bool.and_eq_true, decide_eq_true_eq]; omega, by omega, by omega, fun hk => ?_, fun hk => ?_⟩
  · have hp : putsK r.Kind = true := by
      rcases hk with hk | hk | hk <;> rw [hk] <;> kernel_rfl
    rw [if_pos hp] at h2
    simp only [Bool.and_eq_true, decide_eq_true_eq] at h2
    exact ⟨h2.1, h2.2⟩
  · have hp : readsK r.Kind = true := by
      rcases (by omega : r.Kind = 2 ∨ r.Kind = 3 ∨ r.Kind = 4 ∨ r.Kind = 5 ∨ r.Kind = 6 ∨ r.Kind = 7) with hk | hk | hk | hk | hk | hk <;> rw [hk] <;> kernel_rfl
    rw [if_pos hp] at h3
    exact h3
theorem full_no {s : Spc} {r : Req} {g : Int} (h : ¬ fullS s r g = true) : (del s.Items g).length < 64 ∧ cnt (del s.Items g) r.Client < 24 := by
  simp only [fullS, Bool.or_eq_true, decide_eq_true_eq, not_or] at h
  omega
theorem del_all (l : List Itm) : del l (-1) = l := rfl
theorem del_at (l : List Itm) (i : Nat) : del l (i : Int) = l.eraseIdx i := by
  unfold del; rw [if_pos (by omega)]; rfl
theorem MS.bring {s : Spc} {r : Req} {out : List Rpl} (h : MS s) (q : MQ r) (hk : r.Kind = 1 ∨ r.Kind = 6) : MS (bringS s r out).1 := by
  obtain ⟨hT, hL⟩ := q.pt (by omega)
  unfold bringS
  split
  · exact h.tell q.cl q.sq (.inr ⟨by omega, by omega, by omega, rfl⟩)
  · rename_i hf
    have hf := full_no hf
    rw [del_all] at hf
    have h1 := h.tell (kd := 1) (t := []) q.cl q.sq (.inr ⟨by omega, by omega, by omega, rfl⟩)
    exact MS.out h1 hT q.cl hL hf.1 hf.2
theorem MS.find {s : Spc} {r : Req} {out : List Rpl} {tk wt : Bool} (h : MS s) (q : MQ r) (hk : 2 ≤ r.Kind ∧ r.Kind ≤ 5) : MS (findW s r out tk wt).1 := by
  have hP := q.rp (by omega)
  unfold findW
  split
  · rename_i hat
    obtain ⟨i, x, hi, hx, hlt, _⟩ := fidx_get hat
    change ycl s r.P = i at hi
    rw [hi, Int.toNat_natCast, getD_some hx]
    have h1 := h.tell (kd := 2) (t := x.T) q.cl q.sq (.inl ⟨rfl, mayI_T (h.it x (List.mem_of_getElem? hx))⟩)
    split
    · exact h1.items (l := s.Items.eraseIdx i) (List.eraseIdx_sublist ..)
    · exact h1
  · rename_i hat
    split
    · exact h.tell q.cl q.sq (.inr ⟨by omega, by omega, by omega, rfl⟩)
    · split
      · exact h.tell q.cl q.sq (.inr ⟨by omega, by omega, by omega, rfl⟩)
      · rename_i h16
        have hw : ydt ⟨r.Client, r.Seq, tk, r.P⟩ = true := by
          simp only [ydt, Bool.and_eq_true, decide_eq_true_eq]
          exact ⟨⟨⟨q.cl, q.sq.1⟩, q.sq.2⟩, hP⟩
        have hn : ∀ x ∈ s.Items, qcw r.P x.T = false := by
          have : fidx (fun y : Itm => qcw r.P y.T) s.Items = -1 := by
            rcases fidx_cases (fun y : Itm => qcw r.P y.T) s.Items with h | ⟨j, h, _⟩
            · exact h
            · exact absurd (show 0 ≤ ycl s r.P by show 0 ≤ fidx _ _; rw [h]; omega) hat
          exact fidx_none' this
        have h1 := h.wait (by omega) hw hn
        exact h1.tell q.cl q.sq (.inr ⟨by omega, by omega, by omega, rfl⟩)
theorem MS.turn {s : Spc} {r : Req} {out : List Rpl} (h : MS s) (q : MQ r) (hk : r.Kind = 7) : MS (turnW s r out).1 := by
  obtain ⟨hT, hL⟩ := q.pt (by omega)
  unfold turnW
  split
  · exact h.tell q.cl q.sq (.inr ⟨by omega, by omega, by omega, rfl⟩)
  · rename_i hat
    obtain ⟨i, x, hi, hx, hlt, _⟩ := fidx_get (p := fun y : Itm => qcw r.P y.T) (l := s.Items) (by unfold ycl at hat; omega)
    change ycl s r.P = i at hi
    rw [hi, Int.toNat_natCast, getD_some hx]
    split
    · exact h.tell q.cl q.sq (.inr ⟨by omega, by omega, by omega, rfl⟩)
    · rename_i hf
      have hf := full_no hf
      rw [del_at] at hf
      have h1 := h.tell (kd := 2) (t := x.T) q.cl q.sq (.inl ⟨rfl, mayI_T (h.it x (List.mem_of_getElem? hx))⟩)
      have h2 := h1.items (l := s.Items.eraseIdx i) (List.eraseIdx_sublist ..)
      exact MS.out h2 hT q.cl hL hf.1 hf.2
theorem MS.doW {s : Spc} {r : Req} {out : List Rpl} (h : MS s) (q : MQ r) : MS (doW s r out).1 := by
  unfold Go.Abs.doW
  split
  · exact h.tell q.cl q.sq (.inr ⟨by omega, by omega, by omega, rfl⟩)
  split
  · exact h.bring q (by omega)
  split
  · exact h.find q (by omega)
  split
  · exact h.find q (by omega)
  split
  · exact h.find q (by omega)
  split
  · exact h.find q (by omega)
  split
  · split
    · exact h.tell q.cl q.sq (.inr ⟨by omega, by omega, by omega, rfl⟩)
    · exact h.bring q (by omega)
  split
  · exact h.turn q (by omega)
  · exact h.tell q.cl q.sq (.inr ⟨by omega, by omega, by omega, rfl⟩)
theorem MS.do {s : Spc} {now : Int} {r : Req} (h : MS s) : MS (doS s now r).1 := by
  unfold doS
  split
  · rename_i hok
    simp only [doOK, Bool.and_eq_true, decide_eq_true_eq] at hok
    have q := may_mq hok.1.1.2
    have h1 := h.aged hok.1.2 hok.2
    split
    · exact h1
    · split
      · exact h1
      · exact h1.doW q
  · exact h
theorem MS.new : MS (qc2 15 15) := may_ms told4D (fun w hw => by simp [qc2] at hw)
end Go.Abs
set_option linter.all false
set_option maxRecDepth 100000
set_option maxHeartbeats 0
namespace Go.Abs
open Go
open Go.Proofs.Try (prog)
end Go.Abs
