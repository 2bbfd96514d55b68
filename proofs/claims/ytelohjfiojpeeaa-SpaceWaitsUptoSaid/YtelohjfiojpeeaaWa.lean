/- Wa: a part of the proofs about the tuple space (layer 8). -/
import Derived.Test.YtelohjfiojpeeaaAc
set_option linter.all false
set_option maxRecDepth 100000
set_option maxHeartbeats 0
namespace Go.Abs
open Go
open Go.Proofs.Try (prog)
/-! ### SpaceWaits: the pure part -/
structure Calm0 (s : Spc) (t : Int) : Prop where
  ms : MS s
  rd : s.Read = 15
  wr : s.Write = 15
  nw : s.Now ≤ t
  un : ∀ x ∈ s.Items, x.Until = 0
theorem Calm.to0 {s : Spc} {t q t' : Int} (h : Calm s t q) (ht : t ≤ t') : Calm0 s t' := ⟨h.ms, h.rd, h.wr, Int.le_trans h.nw ht, h.un⟩
theorem Calm0.do {s : Spc} {t now : Int} {r : Req} (h : Calm0 s t) (hq : mayQ r = true) (h1 : t ≤ now) (h2 : now ≤ 1099511627776) (hs : (lastOf s r.Client.toNat).Seq < r.Seq) (hl : r.Lease ≤ 0) :
    doS s now r = doW { s with Now := now } r [] ∧ denyS { s with Now := now } r = false ∧ Calm0 (doS s now r).1 now ∧ ∀ c, (lastOf (doS s now r).1 c).Seq = (lastOf s c).Seq ∨ (lastOf (doS s now r).1 c).Seq = r.Seq := by
  have hle : s.Now ≤ now := Int.le_trans h.nw h1
  have hok : doOK s now r = true := by simp only [doOK, ms_may h.ms, hq, decide_eq_true hle, decide_eq_true h2, Bool.and_self]
  have e : doS s now r = doW { s with Now := now } r [] := by rw [doS, if_pos hok, if_neg (by omega), if_neg (by omega), aged_all h.un]
  have k := kp_do (s := { s with Now := now }) (r := r) (out := [])
  have hm : MS (doS s now r).1 := h.ms.do
  rw [e] at hm ⊢
  refine ⟨rfl, allow15 h.rd h.wr (may_mq hq).cl, ⟨hm, k.rd.trans h.rd, k.wr.trans h.wr, by rw [k.now]; exact Int.le_refl _, fun x hx => ?_⟩, k.sq⟩
  rcases k.it x hx with hx | hx
  · exact h.un x hx
  · rw [hx]; exact if_neg (by omega)
def pW : List Fld := [⟨3, 0, ByteArray.empty⟩]
theorem pW_may : mayP pW = true := by
  have : (⟨3, 0, ByteArray.empty⟩ : Fld).asked = true := by kernel_rfl
  simp [pW, mayP, this]
theorem match_W (i : Int) : matchT pW [nF i] = true := by
  unfold matchT
  rw [pW_may]
  have : mayT [nF i] = true := by simp [mayT, nF_plain]
  rw [this]
  simp only [Bool.true_and, pW, all2, aF_fits, Bool.and_true]
def wO (o : List Bool) (j : Nat) : Wtr := ⟨((j % 2 : Nat) : Int), (j : Int) + 1, o.getD j false, pW⟩
def rqW (o : List Bool) (i : Nat) (kd : Int) : Req := ⟨((i % 2 : Nat) : Int), (i : Int) + 1, kd, pW, [], 0⟩
theorem rqW_may (o : List Bool) (i : Nat) (hi : i < 10) {kd : Int} (hk : kd = 4 ∨ kd = 5) : mayQ (rqW o i kd) = true := by
  have hp : putsK kd = false := by rcases hk with rfl | rfl <;> kernel_rfl
  have hr : readsK kd = true := by rcases hk with rfl | rfl <;> kernel_rfl
  simp only [mayQ, Bool.and_eq_true, decide_eq_true_eq]
  simp only [rqW, hp, hr, if_true]
  refine ⟨by omega, ?_, pW_may⟩
  simp
structure W1 (o : List Bool) (i : Nat) (s : Spc) : Prop where
  c : Calm s 1 i
  it : s.Items = []
  w : s.Waiters = (List.range i).map (wO o)
  q2 : (lastOf s 2).Seq ≤ 0
theorem W1.new (o : List Bool) : W1 o 0 (newS 15 15) := ⟨Calm.new.mono (by omega) (by omega), rfl, rfl, Int.le_refl _⟩
theorem W1.step {o : List Bool} {i : Nat} {s : Spc} {kd : Int} (h : W1 o i s) (hi : i < 10) (hk : kd = if o.getD i false = true then 5 else 4) : W1 o (i + 1) (doS s 1 (rqW o i kd)).1 ∧ (doS s 1 (rqW o i kd)).2 = [rep (rqW o i kd) 4 []] := by
  have hk2 : kd = 4 ∨ kd = 5 := by rw [hk]; split <;> simp
  obtain ⟨e, hd, hc⟩ := h.c.do (now := 1) (rqW_may o i hi hk2) (Int.le_refl _) (by omega) (show (i : Int) < (i : Int) + 1 by omega) (Int.le_refl _)
  have hlen : ({ s with Now := 1 } : Spc).Waiters.length = i := by
    show s.Waiters.length = i
    rw [h.w]; simp
  have hf : findS { s with Now := 1 } (rqW o i kd).P = -1 := by
    unfold findS
    show fidx _ s.Items = -1
    rw [h.it]; rfl
  have e2 : doW { s with Now := 1 } (rqW o i kd) [] = (tellS { s with Now := 1, Waiters := s.Waiters ++ [wO o i] } (rqW o i kd) 4 [], [rep (rqW o i kd) 4 []]) := by
    rw [do_wait hd hk2, findW, hf, if_neg (by decide), if_neg (by decide), if_neg (by omega)]
    have : (kd == 5) = o.getD i false := by
      rw [hk]; cases o.getD i false <;> rfl
    show (tellS { s with Now := 1, Waiters := s.Waiters ++ [⟨((i % 2 : Nat) : Int), (i : Int) + 1, (kd == 5), pW⟩] } (rqW o i kd) 4 [], _) = _
    rw [this]; rfl
  refine ⟨⟨hc.mono (Int.le_refl _) (show (i : Int) + 1 ≤ _ by omega), ?_, ?_, ?_⟩, by rw [e, e2]⟩
  · rw [e, e2]; exact h.it
  · rw [e, e2]
    show s.Waiters ++ [wO o i] = _
    rw [h.w, List.range_succ, List.map_append]; rfl
  · rw [e, e2]
    show ((s.Last.set ((i % 2 : Nat) : Int).toNat (rep (rqW o i kd) 4 [])).getD 2 ⟨0, 0, 0, [], false⟩).Seq ≤ 0
    rw [getD_set', if_neg (by omega)]
    exact h.q2
/-- the waiters that are left -/
def wsW (o : List Bool) (n a : Nat) : List Wtr := ((List.range n).drop a).map (wO o)
theorem wsW_step {o : List Bool} {n a : Nat} (h : a < n) : wsW o n a = wO o a :: wsW o n (a + 1) := by
  have h1 : a < (List.range n).length := by simpa using h
  unfold wsW
  rw [List.drop_eq_getElem_cons h1]
  simp
theorem wsW_end {o : List Bool} {n a : Nat} (h : n ≤ a) : wsW o n a = [] := by
  unfold wsW
  rw [List.drop_of_length_le (by simpa using h)]; rfl
theorem wsW_len (o : List Bool) (n a : Nat) : (wsW o n a).length = n - a := by simp [wsW]
/-- what a tuple of a number does to those who wait: L of them are told; tk: the last of them takes it -/
structure PW (o : List Bool) (n a : Nat) (r : Req) (L : Nat) (tk : Bool) : Prop where
  le : a + L ≤ n
  go : ∀ q, q < L → o.getD (a + q) false = (tk && decide (q + 1 = L))
  no : tk = false → a + L = n
  yes : tk = true → 0 < L
  pt : ∀ (s : Spc) (out : List Rpl), ∃ s1 : Spc, putGo r [] (wsW o n a) s out = ({ s1 with Waiters := wsW o n (a + L), Items := if tk = true then s.Items else s.Items ++ [itmOf s r] }, out ++ (List.range' a L).map fun j => late (wO o j) r)
theorem told1_now (x : Wtr) (s : Spc) (r : Req) : (told1 x s r).Now = s.Now := by unfold told1; split <;> rfl
theorem told1_it (x : Wtr) (s : Spc) (r : Req) : (told1 x s r).Items = s.Items := by unfold told1; split <;> rfl
theorem pw_all {o : List Bool} {n : Nat} {r : Req} {i : Int} (hT : r.T = [nF i]) : ∀ (d a : Nat), n = a + d → ∃ L tk, PW o n a r L tk
  | 0, a, hd => by
    refine ⟨0, false, by omega, fun q hq => absurd hq (Nat.not_lt_zero _), fun _ => by omega, (fun h => by cases h), fun s out => ⟨s, ?_⟩⟩
    rw [wsW_end (by omega)]
    simp only [putGo, List.range'_zero, List.map_nil, List.append_nil]
    rw [wsW_end (by omega)]
    rfl
  | d + 1, a, hd => by
    have hm : matchT (wO o a).P r.T = true := by rw [hT]; exact match_W i
    cases ho : o.getD a false with
    | true =>
      refine ⟨1, true, by omega, fun q hq => ?_, (fun h => by cases h), fun _ => Nat.zero_lt_one, fun s out => ⟨told1 (wO o a) s r, ?_⟩⟩
      · have : q = 0 := by omega
        subst this
        rw [Nat.add_zero, ho]; rfl
      · have ht : (wO o a).Take = true := ho
        rw [wsW_step (by omega)]
        simp only [putGo, hm, ht, if_true, List.nil_append, List.range'_one, List.map_cons, List.map_nil]
        have := told1_it (wO o a) s r
        rw [← this]
    | false =>
      obtain ⟨L, tk, h⟩ := pw_all (o := o) (n := n) hT d (a + 1) (by omega)
      refine ⟨L + 1, tk, by have := h.le; omega, fun q hq => ?_, fun hn => by have := h.no hn; omega, fun _ => Nat.succ_pos _, fun s out => ?_⟩
      · cases q with
        | zero =>
          rw [Nat.add_zero, ho]
          cases tk with
          | false => rfl
          | true =>
            have := h.yes rfl
            have : decide (0 + 1 = L + 1) = false := by simp; omega
            rw [this]; rfl
        | succ q =>
          have := h.go q (by omega)
          rw [show a + (q + 1) = a + 1 + q by omega, this]
          congr 1
          simp
      · obtain ⟨s1, e⟩ := h.pt (told1 (wO o a) s r) (out ++ [late (wO o a) r])
        refine ⟨s1, ?_⟩
        have ht : (wO o a).Take = false := ho
        rw [wsW_step (by omega)]
        simp only [putGo, hm, ht, if_true, Bool.false_eq_true, if_false, e, told1_it]
        have hi : itmOf (told1 (wO o a) s r) r = itmOf s r := by unfold itmOf; rw [told1_now]
        rw [hi, List.range'_succ, show a + 1 + L = a + (L + 1) by omega]
        simp
def rpW (i : Nat) : Req := ⟨2, (i : Int) + 1, 1, [], [nF i], 0⟩
theorem rpW_may (i : Nat) (hi : i < 11) : mayQ (rpW i) = true := by
  have hp : putsK 1 = true := by kernel_rfl
  have hr : readsK 1 = false := by kernel_rfl
  simp only [mayQ, Bool.and_eq_true, decide_eq_true_eq]
  simp only [rpW, hp, hr, if_true]
  refine ⟨by omega, ?_, ?_⟩
  · rw [Bool.and_eq_true]
    exact ⟨by simp [mayT, nF_plain], decide_eq_true (by omega)⟩
  · simp
structure W2 (o : List Bool) (n a i : Nat) (s : Spc) : Prop where
  c : Calm0 s 2
  it : s.Items.length ≤ i
  w : s.Waiters = wsW o n a
  q2 : (lastOf s 2).Seq ≤ i
  an : a ≤ n
theorem W1.w2 {o : List Bool} {n : Nat} {s : Spc} (h : W1 o n s) : W2 o n 0 0 s := ⟨h.c.to0 (by omega), by rw [h.it]; exact Nat.le_refl _, by rw [h.w]; rfl, h.q2, Nat.zero_le _⟩
theorem W2.step {o : List Bool} {n a i : Nat} {s : Spc} (h : W2 o n a i s) (hi : i < 11) : ∃ L tk, PW o n a (rpW i) L tk ∧ W2 o n (a + L) (i + 1) (doS s 2 (rpW i)).1 ∧
    (doS s 2 (rpW i)).2 = rep (rpW i) 1 [] :: ((List.range' a L).map fun j => late (wO o j) (rpW i)) ∧ (doS s 2 (rpW i)).1.Items.length = s.Items.length + (if tk = true then 0 else 1) ∧ (doS s 2 (rpW i)).1.Waiters.length = n - (a + L) := by
  obtain ⟨L, tk, hp⟩ := pw_all (o := o) (n := n) (r := rpW i) (i := i) rfl (n - a) a (by have := h.an; omega)
  obtain ⟨e, hd, hc, hq⟩ := h.c.do (now := 2) (rpW_may i hi) (Int.le_refl _) (by omega) (show (lastOf s 2).Seq < (i : Int) + 1 by have := h.q2; omega) (Int.le_refl _)
  have hlen := h.it
  have hcn : cnt s.Items 2 ≤ s.Items.length := List.countP_le_length
  have hn : fullS { s with Now := 2 } (rpW i) (-1) = false := by
    simp only [fullS, del_all, Bool.or_eq_false_iff]
    exact ⟨decide_eq_false (show ¬ 64 ≤ s.Items.length by omega), decide_eq_false (show ¬ 24 ≤ cnt s.Items 2 by omega)⟩
  obtain ⟨s1, e2⟩ := hp.pt (tellS { s with Now := 2 } (rpW i) 1 []) ([] ++ [rep (rpW i) 1 []])
  have e3 : doW { s with Now := 2 } (rpW i) [] = putGo (rpW i) [] (wsW o n a) (tellS { s with Now := 2 } (rpW i) 1 []) ([] ++ [rep (rpW i) 1 []]) := by
    rw [doW, if_neg (by rw [hd]; decide), if_pos (show (rpW i).Kind = 1 from rfl), bringS, if_neg (by rw [hn]; decide)]
    show putGo (rpW i) [] s.Waiters _ _ = _
    rw [h.w]
  have e4 := e.trans (e3.trans e2)
  refine ⟨L, tk, hp, ?_, ?_, ?_, ?_⟩
  · refine ⟨hc, ?_, ?_, ?_, hp.le⟩
    · rw [e4]
      show (if tk = true then s.Items else s.Items ++ [_]).length ≤ _
      split
      · omega
      · simp; omega
    · rw [e4]
    · have hq2 := h.q2
      rcases hq 2 with e5 | e5
      · rw [e5]; omega
      · rw [e5]; show (i : Int) + 1 ≤ _; omega
  · rw [e4]; rfl
  · rw [e4]
    show (if tk = true then s.Items else s.Items ++ [_]).length = _
    split
    · rfl
    · simp
  · rw [e4]; exact wsW_len _ _ _

end Go.Abs
