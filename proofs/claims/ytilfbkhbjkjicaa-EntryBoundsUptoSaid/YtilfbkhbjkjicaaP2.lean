/- P2: a part of the proofs about the tuple space and its bytes. -/
import Derived.Test.YtilfbkhbjkjicaaTo
set_option linter.all false
set_option maxRecDepth 100000
set_option maxHeartbeats 0
namespace Go.Abs
open Go
open Go.Proofs.Try (prog)
theorem ba_refl (b : ByteArray) : (b == b) = true := by
  cases b with
  | mk d =>
    show (d == d) = true
    exact beq_self_eq_true d
theorem same_refl (x : Fld) : x.same x = true := by simp [Fld.same, ba_refl]
theorem zc0 {α : Type} {p : α → α → Bool} : ∀ {l : List α}, (∀ x ∈ l, p x x = true) → ycf p l l = true
  | [], _ => rfl
  | x :: l, h => by simp only [ycf, h x (by simp), zc0 (l := l) fun y hy => h y (by simp [hy]), Bool.and_self]
def l4 (a b : Rpl) : List Rpl := [⟨0, 0, 0, [], false⟩, a, b, ⟨3, 0, 0, [], false⟩]
def r0 (c : Int) : Rpl := ⟨c, 0, 0, [], false⟩
end Go.Abs
set_option linter.all false
set_option maxRecDepth 100000
set_option maxHeartbeats 0
namespace Go.Abs
open Go
open Go.Proofs.Try (prog)
end Go.Abs
set_option linter.all false
set_option maxRecDepth 100000
set_option maxHeartbeats 0
namespace Go.Abs
open Go
open Go.Proofs.Try (prog)
structure MS (s : Spc) : Prop where
  now : 0 ≤ s.Now ∧ s.Now ≤ 1099511627776
  rd : s.Read.fdiv 16 = 0
  wr : s.Write.fdiv 16 = 0
  il : s.Items.length ≤ 64
  wl : s.Waiters.length ≤ 16
  it : ∀ x ∈ s.Items, mayI x s.Now = true
  cn : ∀ c, c = 0 ∨ c = 1 ∨ c = 2 ∨ c = 3 → cnt s.Items c ≤ 24
  wt : ∀ x ∈ s.Waiters, mayW x = true
  la : ycf mayL s.Last [0, 1, 2, 3] = true
  nw : ∀ w ∈ s.Waiters, ∀ x ∈ s.Items, zbu w.P x.T = false
theorem ms_may {s : Spc} (h : MS s) : qdi s = true := by
  simp only [qdi, mayH, Bool.and_eq_true, decide_eq_true_eq, List.all_eq_true]
  exact ⟨⟨⟨⟨⟨⟨⟨⟨⟨h.now.1, h.now.2⟩, h.rd⟩, h.wr⟩, h.il⟩, h.wl⟩, h.it⟩, fun c hc => h.cn c (by simpa using hc)⟩, h.wt⟩, h.la⟩
theorem may_ms {s : Spc} (h : qdi s = true) (hn : ∀ w ∈ s.Waiters, ∀ x ∈ s.Items, zbu w.P x.T = false) : MS s := by
  simp only [qdi, mayH, Bool.and_eq_true, decide_eq_true_eq, List.all_eq_true] at h
  obtain ⟨⟨⟨⟨⟨⟨⟨⟨⟨h1, h2⟩, h3⟩, h4⟩, h5⟩, h6⟩, h7⟩, h8⟩, h9⟩, h10⟩ := h
  exact ⟨⟨h1, h2⟩, h3, h4, h5, h6, h7, fun c hc => h8 c (by simpa using hc), h9, h10, hn⟩
theorem all2_len {α β : Type} {p : α → β → Bool} {l : List α} {m : List β} (h : ycf p l m = true) : l.length = m.length := by
  by_cases hl : l.length = m.length
  · exact hl
  · rw [yca hl] at h; cases h
theorem mayT_len {l : List Fld} (h : mayT l = true) : l.length ≤ 6 := by
  simp only [mayT, Bool.and_eq_true, decide_eq_true_eq] at h; exact h.1.2
theorem mayP_len {l : List Fld} (h : mayP l = true) : l.length ≤ 6 := by
  simp only [mayP, Bool.and_eq_true, decide_eq_true_eq] at h; exact h.1.2
theorem mayI_T {x : Itm} {n : Int} (h : mayI x n = true) : mayT x.T = true := by
  simp only [mayI, Bool.and_eq_true] at h; exact h.2
theorem mayL_len {x : Rpl} {c : Int} (h : mayL x c = true) : x.T.length ≤ 6 := by
  simp only [mayL, Bool.and_eq_true] at h
  have h2 := h.2
  split at h2
  · simp only [Bool.and_eq_true, decide_eq_true_eq] at h2; rw [h2.1.2]; simp
  · split at h2
    · exact mayT_len h2
    · simp only [Bool.and_eq_true, decide_eq_true_eq] at h2; rw [h2.1.2]; simp
theorem all2_mem {α β : Type} {p : α → β → Bool} : ∀ {l : List α} {m : List β}, ycf p l m = true → ∀ x ∈ l, ∃ y ∈ m, p x y = true
  | [], _, _, x, hx => by simp at hx
  | a :: l, [], h, _, _ => by simp [ycf] at h
  | a :: l, b :: m, h, x, hx => by
    simp only [ycf, Bool.and_eq_true] at h
    rcases List.mem_cons.1 hx with rfl | hx
    · exact ⟨b, by simp, h.1⟩
    · obtain ⟨y, hy, hp⟩ := all2_mem h.2 x hx
      exact ⟨y, by simp [hy], hp⟩
theorem MS.small {s : Spc} (h : MS s) : s.Small := by
  have hl := all2_len h.la
  refine ⟨⟨by have := h.il; omega, fun x hx => by have := mayT_len (mayI_T (h.it x hx)); omega⟩, ⟨by have := h.wl; omega, fun x hx => ?_⟩, ⟨by simp at hl; omega, fun x hx => ?_⟩, by simpa using hl⟩
  · have := h.wt x hx
    simp only [mayW, Bool.and_eq_true] at this
    have := mayP_len this.2; omega
  · obtain ⟨c, _, hp⟩ := all2_mem h.la x hx
    have := mayL_len hp; omega
theorem cnt_sub {l m : List Itm} (h : List.Sublist l m) (c : Int) : cnt l c ≤ cnt m c := List.Sublist.countP_le h
theorem MS.items {s : Spc} (h : MS s) {l : List Itm} (hs : List.Sublist l s.Items) : MS { s with Items := l } :=
  ⟨h.now, h.rd, h.wr, Nat.le_trans hs.length_le h.il, h.wl, fun x hx => h.it x (hs.subset hx), fun c hc => Nat.le_trans (cnt_sub hs c) (h.cn c hc), h.wt, h.la, fun w hw x hx => h.nw w hw x (hs.subset hx)⟩
theorem MS.aged {s : Spc} (h : MS s) {now : Int} (h1 : s.Now ≤ now) (h2 : now ≤ 1099511627776) : MS (aged s now) := by
  have hs : List.Sublist (zdj now s.Items) s.Items := List.filter_sublist
  have hi := h.items hs
  refine ⟨⟨by have := h.now.1; show 0 ≤ now; omega, h2⟩, h.rd, h.wr, hi.il, h.wl, fun x hx => ?_, hi.cn, h.wt, h.la, hi.nw⟩
  have hx1 := h.it x (hs.subset hx)
  have hx2 := (List.mem_filter.1 hx).2
  show mayI x now = true
  simp only [mayI, Bool.and_eq_true, Bool.or_eq_true, decide_eq_true_eq] at hx1 ⊢
  refine ⟨⟨hx1.1.1, ?_⟩, hx1.2⟩
  rcases hx1.1.2 with h0 | h0
  · exact .inl h0
  · right
    simp only [expd, Bool.not_eq_true', Bool.and_eq_false_iff, bne_eq_false_iff_eq, decide_eq_false_iff_not] at hx2
    have := h.now.1
    rcases hx2 with h3 | h3 <;> omega
theorem all2_set {α β : Type} {p : α → β → Bool} : ∀ {l : List α} {m : List β} {c : Nat} {x : α} {y : β}, ycf p l m = true → m[c]? = some y → p x y = true → ycf p (l.set c x) m = true
  | [], [], c, x, y, h, hy, hp => by simp at hy
  | [], _ :: _, _, _, _, h, _, _ => by simp [ycf] at h
  | _ :: _, [], _, _, _, h, _, _ => by simp [ycf] at h
  | a :: l, b :: m, 0, x, y, h, hy, hp => by
    simp only [List.getElem?_cons_zero, Option.some.injEq] at hy
    subst hy
    simp only [ycf, Bool.and_eq_true, List.set_cons_zero] at h ⊢
    exact ⟨hp, h.2⟩
  | a :: l, b :: m, c + 1, x, y, h, hy, hp => by
    simp only [List.getElem?_cons_succ] at hy
    simp only [ycf, Bool.and_eq_true, List.set_cons_succ] at h ⊢
    exact ⟨h.1, all2_set h.2 hy hp⟩
theorem MS.last {s : Spc} (h : MS s) {x : Rpl} {c : Int} (hc : zay c = true) (hx : mayL x c = true) : MS { s with Last := s.Last.set c.toNat x } := by
  obtain ⟨n, hn, hn4⟩ := ych hc
  subst hn
  refine ⟨h.now, h.rd, h.wr, h.il, h.wl, h.it, h.cn, h.wt, ?_, h.nw⟩
  refine all2_set h.la (y := (n : Int)) ?_ hx
  rcases (by omega : n = 0 ∨ n = 1 ∨ n = 2 ∨ n = 3) with rfl | rfl | rfl | rfl <;> rfl
theorem MS.tell {s : Spc} (h : MS s) {r : Req} {kd : Int} {t : List Fld} (hc : zay r.Client = true) (hs : 1 ≤ r.Seq ∧ r.Seq ≤ 1073741824) (hk : kd = 2 ∧ mayT t = true ∨ (1 ≤ kd ∧ kd ≤ 6 ∧ kd ≠ 2 ∧ t = [])) : MS (zbe s r kd t) := by
  refine h.last hc ?_
  have e : mayL (rep r kd t) r.Client = (decide (r.Client = r.Client) && decide (0 ≤ r.Seq ∧ r.Seq ≤ 1073741824) && (if r.Seq = 0 then decide (kd = 0) && decide (t = []) && !false else if kd = 2 then mayT t else decide (1 ≤ kd ∧ kd ≤ 6) && decide (t = []) && !false)) := rfl
  rw [e, decide_eq_true (rfl : r.Client = r.Client), decide_eq_true (⟨by omega, hs.2⟩ : 0 ≤ r.Seq ∧ r.Seq ≤ 1073741824), if_neg (by omega)]
  rcases hk with ⟨rfl, ht⟩ | ⟨h1, h2, h3, rfl⟩
  · rw [if_pos rfl, ht]; rfl
  · rw [if_neg h3, decide_eq_true (⟨h1, h2⟩ : 1 ≤ kd ∧ kd ≤ 6)]; rfl
theorem MS.wait {s : Spc} (h : MS s) {w : Wtr} (hl : s.Waiters.length < 16) (hw : mayW w = true) (hn : ∀ x ∈ s.Items, zbu w.P x.T = false) : MS { s with Waiters := s.Waiters ++ [w] } := by
  refine ⟨h.now, h.rd, h.wr, h.il, by simp; omega, h.it, h.cn, fun x hx => ?_, h.la, fun x hx => ?_⟩
  · rcases List.mem_append.1 hx with hx | hx
    · exact h.wt x hx
    · simp only [List.mem_singleton] at hx; subst hx; exact hw
  · rcases List.mem_append.1 hx with hx | hx
    · exact h.nw x hx
    · simp only [List.mem_singleton] at hx; subst hx; exact hn
theorem MS.waiters {s : Spc} (h : MS s) {l : List Wtr} (hs : List.Sublist l s.Waiters) : MS { s with Waiters := l } :=
  ⟨h.now, h.rd, h.wr, h.il, Nat.le_trans hs.length_le h.wl, h.it, h.cn, fun x hx => h.wt x (hs.subset hx), h.la, fun w hw => h.nw w (hs.subset hw)⟩
theorem MS.add {s : Spc} (h : MS s) {x : Itm} (hl : s.Items.length < 64) (hc : cnt s.Items x.Owner < 24) (hx : mayI x s.Now = true) (hn : ∀ w ∈ s.Waiters, zbu w.P x.T = false) : MS { s with Items := s.Items ++ [x] } := by
  refine ⟨h.now, h.rd, h.wr, by simp; omega, h.wl, fun y hy => ?_, fun c hc' => ?_, h.wt, h.la, fun w hw y hy => ?_⟩
  · rcases List.mem_append.1 hy with hy | hy
    · exact h.it y hy
    · simp only [List.mem_singleton] at hy; subst hy; exact hx
  · show cnt (s.Items ++ [x]) c ≤ 24
    rw [cnt_app]
    by_cases he : x.Owner = c
    · rw [if_pos he, ← he]; omega
    · rw [if_neg he]; exact h.cn c hc'
  · rcases List.mem_append.1 hy with hy | hy
    · exact h.nw w hw y hy
    · simp only [List.mem_singleton] at hy; subst hy; exact hn w hw
theorem mayW_c {x : Wtr} (h : mayW x = true) : zay x.Client = true ∧ 1 ≤ x.Seq ∧ x.Seq ≤ 1073741824 := by
  simp only [mayW, Bool.and_eq_true, decide_eq_true_eq] at h
  exact ⟨h.1.1.1, h.1.1.2, h.1.2⟩
theorem MS.told {s : Spc} (h : MS s) {x : Wtr} {r : Req} (hx : mayW x = true) (hT : mayT r.T = true) : MS (qbc x s r) := by
  unfold qbc
  split
  · refine h.last (mayW_c hx).1 ?_
    have h2 := mayW_c hx
    have e : mayL (qds x r) x.Client = (decide (x.Client = x.Client) && decide (0 ≤ x.Seq ∧ x.Seq ≤ 1073741824) && (if x.Seq = 0 then decide ((2 : Int) = 0) && decide (r.T = []) && !true else if (2 : Int) = 2 then mayT r.T else decide (1 ≤ (2 : Int) ∧ (2 : Int) ≤ 6) && decide (r.T = []) && !true)) := rfl
    rw [e, decide_eq_true (rfl : x.Client = x.Client), decide_eq_true (⟨by omega, h2.2.2⟩ : 0 ≤ x.Seq ∧ x.Seq ≤ 1073741824), if_neg (by omega), if_pos rfl, hT]; rfl
  · exact h
theorem MS.put {r : Req} (hT : mayT r.T = true) (hcl : zay r.Client = true) (hL : 0 ≤ r.Lease ∧ r.Lease ≤ 1099511627776) : ∀ (rest pre : List Wtr) (s : Spc) (out : List Rpl), MS s → s.Waiters = pre ++ rest → (∀ w ∈ pre, zbu w.P r.T = false) → s.Items.length < 64 → cnt s.Items r.Client < 24 →
    MS (ya8 r pre rest s out).1
  | [], pre, s, out, h, hw, hp, hl, hc => by
    simp only [ya8]
    have hw' : s.Waiters = pre := by simpa using hw
    have hi : mayI (qb4 s r) s.Now = true := by
      have e : mayI (qb4 s r) s.Now = (zay r.Client && (decide ((if 0 < r.Lease then s.Now + r.Lease else 0) = 0) || (decide (s.Now < (if 0 < r.Lease then s.Now + r.Lease else 0)) && decide ((if 0 < r.Lease then s.Now + r.Lease else 0) ≤ 2199023255552))) && mayT r.T) := rfl
      rw [e, hcl, hT]
      by_cases h0 : 0 < r.Lease
      · simp only [if_pos h0]
        have := h.now
        rw [decide_eq_true (show s.Now < s.Now + r.Lease by omega), decide_eq_true (show s.Now + r.Lease ≤ 2199023255552 by omega)]; simp
      · simp only [if_neg h0]; rfl
    have := h.add (x := qb4 s r) hl hc hi (fun w hw2 => hp w (by rw [← hw']; exact hw2))
    rw [← hw']
    exact this
  | x :: rest, pre, s, out, h, hw, hp, hl, hc => by
    have hxm : x ∈ s.Waiters := by rw [hw]; simp
    have hx := h.wt x hxm
    have hsub : List.Sublist (pre ++ rest) s.Waiters := by rw [hw]; exact List.Sublist.append (List.Sublist.refl _) (List.sublist_cons_self _ _)
    simp only [ya8]
    have h1 := (h.told hx hT)
    have hf : (qbc x s r).Items = s.Items := by unfold qbc; split <;> rfl
    have hfw : (qbc x s r).Waiters = s.Waiters := by unfold qbc; split <;> rfl
    have h2 := h1.waiters (l := pre ++ rest) (by rw [hfw]; exact hsub)
    split
    · split
      · exact h2
      · have := MS.put hT hcl hL rest pre { qbc x s r with Waiters := pre ++ rest } (out ++ [qds x r]) h2 rfl hp (by show (qbc x s r).Items.length < 64; rw [hf]; exact hl) (by show cnt (qbc x s r).Items r.Client < 24; rw [hf]; exact hc)
        rw [zdh] at this
        exact this
    · rename_i hm
      exact MS.put hT hcl hL rest (pre ++ [x]) s out h (by rw [hw]; simp) (fun w hw2 => by
        rcases List.mem_append.1 hw2 with hw2 | hw2
        · exact hp w hw2
        · simp only [List.mem_singleton] at hw2; subst hw2; simpa using hm) hl hc
theorem MS.out {s : Spc} {r : Req} {out : List Rpl} (h : MS s) (hT : mayT r.T = true) (hcl : zay r.Client = true) (hL : 0 ≤ r.Lease ∧ r.Lease ≤ 1099511627776) (hl : s.Items.length < 64) (hc : cnt s.Items r.Client < 24) : MS (ya8 r [] s.Waiters s out).1 :=
  MS.put hT hcl hL s.Waiters [] s out h rfl (fun w hw => by simp at hw) hl hc
structure MQ (r : Req) : Prop where
  cl : zay r.Client = true
  sq : 1 ≤ r.Seq ∧ r.Seq ≤ 1073741824
  kd : 1 ≤ r.Kind ∧ r.Kind ≤ 8
  pt : r.Kind = 1 ∨ r.Kind = 6 ∨ r.Kind = 7 → mayT r.T = true ∧ 0 ≤ r.Lease ∧ r.Lease ≤ 1099511627776
  rp : 2 ≤ r.Kind ∧ r.Kind ≤ 7 → mayP r.P = true
theorem may_mq {r : Req} (h : qcp r = true) : MQ r := by
  simp only [qcp, Bool.and_eq_true, decide_eq_true_eq] at h
  obtain ⟨h1, h2, h3⟩ := h
  refine ⟨by simp only [zay, Bool.and_eq_true, decide_eq_true_eq]; omega, by omega, by omega, fun hk => ?_, fun hk => ?_⟩
  · have hp : putsK r.Kind = true := by
      rcases hk with hk | hk | hk <;> rw [hk] <;> kernel_rfl
    rw [if_pos hp] at h2
    simp only [Bool.and_eq_true, decide_eq_true_eq] at h2
    exact ⟨h2.1, h2.2⟩
  · have hp : readsK r.Kind = true := by
      rcases (by omega : r.Kind = 2 ∨ r.Kind = 3 ∨ r.Kind = 4 ∨ r.Kind = 5 ∨ r.Kind = 6 ∨ r.Kind = 7) with hk | hk | hk | hk | hk | hk <;> rw [hk] <;> kernel_rfl
    rw [if_pos hp] at h3
    exact h3
theorem full_no {s : Spc} {r : Req} {g : Int} (h : ¬ zdt s r g = true) : (del s.Items g).length < 64 ∧ cnt (del s.Items g) r.Client < 24 := by
  simp only [zdt, Bool.or_eq_true, decide_eq_true_eq, not_or] at h
  omega
theorem del_all (l : List Itm) : del l (-1) = l := rfl
theorem del_at (l : List Itm) (i : Nat) : del l (i : Int) = l.eraseIdx i := by
  unfold del; rw [if_pos (by omega)]; rfl
theorem MS.bring {s : Spc} {r : Req} {out : List Rpl} (h : MS s) (q : MQ r) (hk : r.Kind = 1 ∨ r.Kind = 6) : MS (zbz s r out).1 := by
  obtain ⟨hT, hL⟩ := q.pt (by omega)
  unfold zbz
  split
  · exact h.tell q.cl q.sq (.inr ⟨by omega, by omega, by omega, rfl⟩)
  · rename_i hf
    have hf := full_no hf
    rw [del_all] at hf
    have h1 := h.tell (kd := 1) (t := []) q.cl q.sq (.inr ⟨by omega, by omega, by omega, rfl⟩)
    exact MS.out h1 hT q.cl hL hf.1 hf.2
theorem MS.find {s : Spc} {r : Req} {out : List Rpl} {tk wt : Bool} (h : MS s) (q : MQ r) (hk : 2 ≤ r.Kind ∧ r.Kind ≤ 5) : MS (yb1 s r out tk wt).1 := by
  have hP := q.rp (by omega)
  unfold yb1
  split
  · rename_i hat
    obtain ⟨i, x, hi, hx, hlt, _⟩ := zdl hat
    change qbl s r.P = i at hi
    rw [hi, Int.toNat_natCast, getD_some hx]
    have h1 := h.tell (kd := 2) (t := x.T) q.cl q.sq (.inl ⟨rfl, mayI_T (h.it x (List.mem_of_getElem? hx))⟩)
    split
    · exact h1.items (l := s.Items.eraseIdx i) (List.eraseIdx_sublist ..)
    · exact h1
  · rename_i hat
    split
    · exact h.tell q.cl q.sq (.inr ⟨by omega, by omega, by omega, rfl⟩)
    · split
      · exact h.tell q.cl q.sq (.inr ⟨by omega, by omega, by omega, rfl⟩)
      · rename_i h16
        have hw : mayW ⟨r.Client, r.Seq, tk, r.P⟩ = true := by
          simp only [mayW, Bool.and_eq_true, decide_eq_true_eq]
          exact ⟨⟨⟨q.cl, q.sq.1⟩, q.sq.2⟩, hP⟩
        have hn : ∀ x ∈ s.Items, zbu r.P x.T = false := by
          have : fidx (fun y : Itm => zbu r.P y.T) s.Items = -1 := by
            rcases fidx_cases (fun y : Itm => zbu r.P y.T) s.Items with h | ⟨j, h, _⟩
            · exact h
            · exact absurd (show 0 ≤ qbl s r.P by show 0 ≤ fidx _ _; rw [h]; omega) hat
          exact fidx_none' this
        have h1 := h.wait (by omega) hw hn
        exact h1.tell q.cl q.sq (.inr ⟨by omega, by omega, by omega, rfl⟩)
theorem MS.turn {s : Spc} {r : Req} {out : List Rpl} (h : MS s) (q : MQ r) (hk : r.Kind = 7) : MS (zc5 s r out).1 := by
  obtain ⟨hT, hL⟩ := q.pt (by omega)
  unfold zc5
  split
  · exact h.tell q.cl q.sq (.inr ⟨by omega, by omega, by omega, rfl⟩)
  · rename_i hat
    obtain ⟨i, x, hi, hx, hlt, _⟩ := zdl (p := fun y : Itm => zbu r.P y.T) (l := s.Items) (by unfold qbl at hat; omega)
    change qbl s r.P = i at hi
    rw [hi, Int.toNat_natCast, getD_some hx]
    split
    · exact h.tell q.cl q.sq (.inr ⟨by omega, by omega, by omega, rfl⟩)
    · rename_i hf
      have hf := full_no hf
      rw [del_at] at hf
      have h1 := h.tell (kd := 2) (t := x.T) q.cl q.sq (.inl ⟨rfl, mayI_T (h.it x (List.mem_of_getElem? hx))⟩)
      have h2 := h1.items (l := s.Items.eraseIdx i) (List.eraseIdx_sublist ..)
      exact MS.out h2 hT q.cl hL hf.1 hf.2
theorem MS.doW {s : Spc} {r : Req} {out : List Rpl} (h : MS s) (q : MQ r) : MS (doW s r out).1 := by
  unfold Go.Abs.doW
  split
  · exact h.tell q.cl q.sq (.inr ⟨by omega, by omega, by omega, rfl⟩)
  split
  · exact h.bring q (by omega)
  split
  · exact h.find q (by omega)
  split
  · exact h.find q (by omega)
  split
  · exact h.find q (by omega)
  split
  · exact h.find q (by omega)
  split
  · split
    · exact h.tell q.cl q.sq (.inr ⟨by omega, by omega, by omega, rfl⟩)
    · exact h.bring q (by omega)
  split
  · exact h.turn q (by omega)
  · exact h.tell q.cl q.sq (.inr ⟨by omega, by omega, by omega, rfl⟩)
theorem MS.do {s : Spc} {now : Int} {r : Req} (h : MS s) : MS (doS s now r).1 := by
  unfold doS
  split
  · rename_i hok
    simp only [doOK, Bool.and_eq_true, decide_eq_true_eq] at hok
    have q := may_mq hok.1.1.2
    have h1 := h.aged hok.1.2 hok.2
    split
    · exact h1
    · split
      · exact h1
      · exact h1.doW q
  · exact h
theorem MS.new : MS (qb2 15 15) := may_ms told4D (fun w hw => by simp [qb2] at hw)
end Go.Abs
set_option linter.all false
set_option maxRecDepth 100000
set_option maxHeartbeats 0
namespace Go.Abs
open Go
open Go.Proofs.Try (prog)
theorem getD_set' {l : List Rpl} {i c : Nat} {y d : Rpl} : (l.set i y).getD c d = if i = c ∧ c < l.length then y else l.getD c d := by
  rw [List.getD_eq_getElem?_getD, List.getD_eq_getElem?_getD, List.getElem?_set]
  by_cases h : i = c
  · subst h
    by_cases h2 : i < l.length
    · simp [h2]
    · simp [h2]
  · simp [h]
theorem seq_told {x : Wtr} {s : Spc} {r : Req} (c : Nat) : (yau (qbc x s r) c).Seq = (yau s c).Seq := by
  unfold qbc
  split
  · rename_i h
    show ((s.Last.set x.Client.toNat (qds x r)).getD c ⟨0, 0, 0, [], false⟩).Seq = _
    rw [getD_set']
    split
    · rename_i h2
      rw [← h2.1]; exact h.symm
    · rfl
  · rfl
structure Dn (s : Spc) (r : Req) (res : Spc × List Rpl) : Prop where
  now : res.1.Now = s.Now
  sq : (yau res.1 r.Client.toNat).Seq = r.Seq
  out : 1 ≤ res.2.length
end Go.Abs
