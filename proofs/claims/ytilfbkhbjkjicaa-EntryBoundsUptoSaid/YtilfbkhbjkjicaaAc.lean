/- Ac: a part of the proofs about the tuple space and its bytes. -/
import Derived.Test.YtilfbkhbjkjicaaP2
set_option linter.all false
set_option maxRecDepth 100000
set_option maxHeartbeats 0
namespace Go.Abs
open Go
open Go.Proofs.Try (prog)
structure Kp (s : Spc) (r : Req) (s' : Spc) : Prop where
  now : s'.Now = s.Now
  rd : s'.Read = s.Read
  wr : s'.Write = s.Write
  it : ∀ x ∈ s'.Items, x ∈ s.Items ∨ x = qb4 s r
  sq : ∀ c, (yau s' c).Seq = (yau s c).Seq ∨ (yau s' c).Seq = r.Seq
theorem Kp.refl (s : Spc) (r : Req) : Kp s r s := ⟨rfl, rfl, rfl, fun _ h => .inl h, fun _ => .inl rfl⟩
theorem qbw {s s0 : Spc} {r : Req} {kd : Int} {t : List Fld} (h : Kp s0 r s) : Kp s0 r (zbe s r kd t) := by
  refine ⟨h.now, h.rd, h.wr, h.it, fun c => ?_⟩
  have e : yau (zbe s r kd t) c = if r.Client.toNat = c ∧ c < s.Last.length then rep r kd t else yau s c := getD_set'
  rw [e]
  split
  · exact .inr rfl
  · exact h.sq c
theorem Kp.wait {s s0 : Spc} {r : Req} {w : List Wtr} (h : Kp s0 r s) : Kp s0 r { s with Waiters := w } := ⟨h.now, h.rd, h.wr, h.it, h.sq⟩
theorem Kp.told {s s0 : Spc} {r : Req} {x : Wtr} (h : Kp s0 r s) : Kp s0 r (qbc x s r) := by
  refine ⟨?_, ?_, ?_, ?_, fun c => ?_⟩
  · unfold qbc; split <;> exact h.now
  · unfold qbc; split <;> exact h.rd
  · unfold qbc; split <;> exact h.wr
  · unfold qbc; split <;> exact h.it
  · rw [seq_told]; exact h.sq c
theorem Kp.take {s s0 : Spc} {r : Req} {i : Nat} (h : Kp s0 r s) : Kp s0 r { s with Items := s.Items.eraseIdx i } :=
  ⟨h.now, h.rd, h.wr, fun x hx => h.it x ((List.eraseIdx_sublist ..).subset hx), h.sq⟩
theorem kp_put {s0 : Spc} {r : Req} : ∀ (rest pre : List Wtr) (s : Spc) (out : List Rpl), Kp s0 r s → Kp s0 r (ya8 r pre rest s out).1
  | [], pre, s, out, h => by
    refine ⟨h.now, h.rd, h.wr, fun x hx => ?_, h.sq⟩
    rcases List.mem_append.1 hx with hx | hx
    · exact h.it x hx
    · simp only [List.mem_singleton] at hx
      right
      rw [hx]; unfold qb4; rw [h.now]
  | y :: rest, pre, s, out, h => by
    simp only [ya8]
    split
    · split
      · exact h.told.wait
      · exact kp_put rest pre _ _ h.told
    · exact kp_put rest (pre ++ [y]) s out h
theorem kp_bring {s : Spc} {r : Req} {out : List Rpl} : Kp s r (zbz s r out).1 := by
  unfold zbz
  split
  · exact qbw (Kp.refl s r)
  · exact kp_put _ _ _ _ (qbw (Kp.refl s r))
theorem kp_find {s : Spc} {r : Req} {out : List Rpl} {tk wt : Bool} : Kp s r (yb1 s r out tk wt).1 := by
  unfold yb1
  split
  · show Kp s r (if tk = true then _ else _)
    split
    · exact (qbw (Kp.refl s r)).take
    · exact qbw (Kp.refl s r)
  · split
    · exact qbw (Kp.refl s r)
    · split
      · exact qbw (Kp.refl s r)
      · exact qbw (Kp.refl s r).wait
theorem kp_do {s : Spc} {r : Req} {out : List Rpl} : Kp s r (doW s r out).1 := by
  unfold Go.Abs.doW
  split
  · exact qbw (Kp.refl s r)
  split
  · exact kp_bring
  split
  · exact kp_find
  split
  · exact kp_find
  split
  · exact kp_find
  split
  · exact kp_find
  split
  · split
    · exact qbw (Kp.refl s r)
    · exact kp_bring
  split
  · unfold zc5
    split
    · exact qbw (Kp.refl s r)
    · split
      · exact qbw (Kp.refl s r)
      · exact kp_put _ _ _ _ (qbw (Kp.refl s r)).take
  · exact qbw (Kp.refl s r)
structure Calm (s : Spc) (t q : Int) : Prop where
  ms : MS s
  rd : s.Read = 15
  wr : s.Write = 15
  nw : s.Now ≤ t
  un : ∀ x ∈ s.Items, x.Until = 0
  sq : ∀ c, (yau s c).Seq ≤ q
theorem Calm.new : Calm (qb2 15 15) 0 0 := ⟨MS.new, by kernel_rfl, by kernel_rfl, Int.le_refl _, fun x hx => by simp [qb2] at hx, fun c => by
  match c with
  | 0 => exact Int.le_refl _
  | 1 => exact Int.le_refl _
  | 2 => exact Int.le_refl _
  | 3 => exact Int.le_refl _
  | _ + 4 => exact Int.le_refl _⟩
theorem Calm.mono {s : Spc} {t q t' q' : Int} (h : Calm s t q) (ht : t ≤ t') (hq : q ≤ q') : Calm s t' q' :=
  ⟨h.ms, h.rd, h.wr, Int.le_trans h.nw ht, h.un, fun c => Int.le_trans (h.sq c) hq⟩
theorem aged_all {s : Spc} {now : Int} (h : ∀ x ∈ s.Items, x.Until = 0) : aged s now = { s with Now := now } := by
  have : zdj now s.Items = s.Items := by
    rw [zdj, List.filter_eq_self]
    intro x hx
    simp [expd, h x hx]
  unfold aged
  rw [this]
theorem allow15 {s : Spc} {r : Req} (h1 : s.Read = 15) (h2 : s.Write = 15) (hc : zay r.Client = true) : denyS s r = false := by
  obtain ⟨n, hn, hn4⟩ := ych hc
  have : bitOf 15 r.Client = false := by
    rw [hn]
    rcases (by omega : n = 0 ∨ n = 1 ∨ n = 2 ∨ n = 3) with rfl | rfl | rfl | rfl <;> kernel_rfl
  rw [denyS, h1, h2, this]
  simp
theorem Calm.do {s : Spc} {t q now : Int} {r : Req} (h : Calm s t q) (hq : qcp r = true) (h1 : t ≤ now) (h2 : now ≤ 1099511627776) (hs : q < r.Seq) (hl : r.Lease ≤ 0) : doS s now r = doW { s with Now := now } r [] ∧ denyS { s with Now := now } r = false ∧ Calm (doS s now r).1 now r.Seq := by
  have hle : s.Now ≤ now := Int.le_trans h.nw h1
  have hok : doOK s now r = true := by simp only [doOK, ms_may h.ms, hq, decide_eq_true hle, decide_eq_true h2, Bool.and_self]
  have hsq := h.sq r.Client.toNat
  have e : doS s now r = doW { s with Now := now } r [] := by rw [doS, if_pos hok, if_neg (by omega), if_neg (by omega), aged_all h.un]
  have k := kp_do (s := { s with Now := now }) (r := r) (out := [])
  have hd : denyS { s with Now := now } r = false := allow15 h.rd h.wr (may_mq hq).cl
  refine ⟨e, hd, ?_⟩
  have hm : MS (doS s now r).1 := h.ms.do
  rw [e] at hm ⊢
  refine ⟨hm, k.rd.trans h.rd, k.wr.trans h.wr, by rw [k.now]; exact Int.le_refl _, fun x hx => ?_, fun c => ?_⟩
  · rcases k.it x hx with hx | hx
    · exact h.un x hx
    · rw [hx]; exact if_neg (by omega)
  · rcases k.sq c with e | e
    · rw [e]; have := h.sq c; show (yau s c).Seq ≤ _; omega
    · rw [e]; exact Int.le_refl _
end Go.Abs
