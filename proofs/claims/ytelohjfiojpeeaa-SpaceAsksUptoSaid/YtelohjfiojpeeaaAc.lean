/- Ac: a part of the proofs about the tuple space (layer 8). -/
import Derived.Test.YtelohjfiojpeeaaP2
set_option linter.all false
set_option maxRecDepth 100000
set_option maxHeartbeats 0
namespace Go.Abs
open Go
open Go.Proofs.Try (prog)
/-! ### what requests do to a space of one's own: nothing ages, anybody may -/
structure Kp (s : Spc) (r : Req) (s' : Spc) : Prop where
  now : s'.Now = s.Now
  rd : s'.Read = s.Read
  wr : s'.Write = s.Write
  it : ∀ x ∈ s'.Items, x ∈ s.Items ∨ x = itmOf s r
  sq : ∀ c, (lastOf s' c).Seq = (lastOf s c).Seq ∨ (lastOf s' c).Seq = r.Seq
theorem Kp.refl (s : Spc) (r : Req) : Kp s r s := ⟨rfl, rfl, rfl, fun _ h => .inl h, fun _ => .inl rfl⟩
theorem kp_tell {s s0 : Spc} {r : Req} {kd : Int} {t : List Fld} (h : Kp s0 r s) : Kp s0 r (tellS s r kd t) := by
  refine ⟨h.now, h.rd, h.wr, h.it, fun c => ?_⟩
  have e : lastOf (tellS s r kd t) c = if r.Client.toNat = c ∧ c < s.Last.length then rep r kd t else lastOf s c := getD_set'
  rw [e]
  split
  · exact .inr rfl
  · exact h.sq c
theorem Kp.wait {s s0 : Spc} {r : Req} {w : List Wtr} (h : Kp s0 r s) : Kp s0 r { s with Waiters := w } := ⟨h.now, h.rd, h.wr, h.it, h.sq⟩
theorem Kp.told {s s0 : Spc} {r : Req} {x : Wtr} (h : Kp s0 r s) : Kp s0 r (told1 x s r) := by
  refine ⟨?_, ?_, ?_, ?_, fun c => ?_⟩
  · unfold told1; split <;> exact h.now
  · unfold told1; split <;> exact h.rd
  · unfold told1; split <;> exact h.wr
  · unfold told1; split <;> exact h.it
  · rw [seq_told]; exact h.sq c
theorem Kp.take {s s0 : Spc} {r : Req} {i : Nat} (h : Kp s0 r s) : Kp s0 r { s with Items := s.Items.eraseIdx i } :=
  ⟨h.now, h.rd, h.wr, fun x hx => h.it x ((List.eraseIdx_sublist ..).subset hx), h.sq⟩
theorem kp_put {s0 : Spc} {r : Req} : ∀ (rest pre : List Wtr) (s : Spc) (out : List Rpl), Kp s0 r s → Kp s0 r (putGo r pre rest s out).1
  | [], pre, s, out, h => by
    refine ⟨h.now, h.rd, h.wr, fun x hx => ?_, h.sq⟩
    rcases List.mem_append.1 hx with hx | hx
    · exact h.it x hx
    · simp only [List.mem_singleton] at hx
      right
      rw [hx]; unfold itmOf; rw [h.now]
  | y :: rest, pre, s, out, h => by
    simp only [putGo]
    split
    · split
      · exact h.told.wait
      · exact kp_put rest pre _ _ h.told
    · exact kp_put rest (pre ++ [y]) s out h
theorem kp_bring {s : Spc} {r : Req} {out : List Rpl} : Kp s r (bringS s r out).1 := by
  unfold bringS
  split
  · exact kp_tell (Kp.refl s r)
  · exact kp_put _ _ _ _ (kp_tell (Kp.refl s r))
theorem kp_find {s : Spc} {r : Req} {out : List Rpl} {tk wt : Bool} : Kp s r (findW s r out tk wt).1 := by
  unfold findW
  split
  · show Kp s r (if tk = true then _ else _)
    split
    · exact (kp_tell (Kp.refl s r)).take
    · exact kp_tell (Kp.refl s r)
  · split
    · exact kp_tell (Kp.refl s r)
    · split
      · exact kp_tell (Kp.refl s r)
      · exact kp_tell (Kp.refl s r).wait
theorem kp_do {s : Spc} {r : Req} {out : List Rpl} : Kp s r (doW s r out).1 := by
  unfold Go.Abs.doW
  split
  · exact kp_tell (Kp.refl s r)
  split
  · exact kp_bring
  split
  · exact kp_find
  split
  · exact kp_find
  split
  · exact kp_find
  split
  · exact kp_find
  split
  · split
    · exact kp_tell (Kp.refl s r)
    · exact kp_bring
  split
  · unfold turnW
    split
    · exact kp_tell (Kp.refl s r)
    · split
      · exact kp_tell (Kp.refl s r)
      · exact kp_put _ _ _ _ (kp_tell (Kp.refl s r)).take
  · exact kp_tell (Kp.refl s r)
structure Calm (s : Spc) (t q : Int) : Prop where
  ms : MS s
  rd : s.Read = 15
  wr : s.Write = 15
  nw : s.Now ≤ t
  un : ∀ x ∈ s.Items, x.Until = 0
  sq : ∀ c, (lastOf s c).Seq ≤ q
theorem Calm.new : Calm (newS 15 15) 0 0 := ⟨MS.new, by kernel_rfl, by kernel_rfl, Int.le_refl _, fun x hx => by simp [newS] at hx, fun c => by
  match c with
  | 0 => exact Int.le_refl _
  | 1 => exact Int.le_refl _
  | 2 => exact Int.le_refl _
  | 3 => exact Int.le_refl _
  | _ + 4 => exact Int.le_refl _⟩
theorem Calm.mono {s : Spc} {t q t' q' : Int} (h : Calm s t q) (ht : t ≤ t') (hq : q ≤ q') : Calm s t' q' :=
  ⟨h.ms, h.rd, h.wr, Int.le_trans h.nw ht, h.un, fun c => Int.le_trans (h.sq c) hq⟩
theorem aged_all {s : Spc} {now : Int} (h : ∀ x ∈ s.Items, x.Until = 0) : aged s now = { s with Now := now } := by
  have : live now s.Items = s.Items := by
    rw [live, List.filter_eq_self]
    intro x hx
    simp [expd, h x hx]
  unfold aged
  rw [this]
theorem allow15 {s : Spc} {r : Req} (h1 : s.Read = 15) (h2 : s.Write = 15) (hc : clientOK r.Client = true) : denyS s r = false := by
  obtain ⟨n, hn, hn4⟩ := nat_client hc
  have : bitOf 15 r.Client = false := by
    rw [hn]
    rcases (by omega : n = 0 ∨ n = 1 ∨ n = 2 ∨ n = 3) with rfl | rfl | rfl | rfl <;> kernel_rfl
  rw [denyS, h1, h2, this]
  simp
/-- a new request is done -/
theorem Calm.do {s : Spc} {t q now : Int} {r : Req} (h : Calm s t q) (hq : mayQ r = true) (h1 : t ≤ now) (h2 : now ≤ 1099511627776) (hs : q < r.Seq) (hl : r.Lease ≤ 0) : doS s now r = doW { s with Now := now } r [] ∧ denyS { s with Now := now } r = false ∧ Calm (doS s now r).1 now r.Seq := by
  have hle : s.Now ≤ now := Int.le_trans h.nw h1
  have hok : doOK s now r = true := by simp only [doOK, ms_may h.ms, hq, decide_eq_true hle, decide_eq_true h2, Bool.and_self]
  have hsq := h.sq r.Client.toNat
  have e : doS s now r = doW { s with Now := now } r [] := by rw [doS, if_pos hok, if_neg (by omega), if_neg (by omega), aged_all h.un]
  have k := kp_do (s := { s with Now := now }) (r := r) (out := [])
  have hd : denyS { s with Now := now } r = false := allow15 h.rd h.wr (may_mq hq).cl
  refine ⟨e, hd, ?_⟩
  have hm : MS (doS s now r).1 := h.ms.do
  rw [e] at hm ⊢
  refine ⟨hm, k.rd.trans h.rd, k.wr.trans h.wr, by rw [k.now]; exact Int.le_refl _, fun x hx => ?_, fun c => ?_⟩
  · rcases k.it x hx with hx | hx
    · exact h.un x hx
    · rw [hx]; exact if_neg (by omega)
  · rcases k.sq c with e | e
    · rw [e]; have := h.sq c; show (lastOf s c).Seq ≤ _; omega
    · rw [e]; exact Int.le_refl _
/-- one puts a tuple, nobody waits -/
theorem do_out {s : Spc} {r : Req} (hd : denyS s r = false) (hk : r.Kind = 1) (hw : s.Waiters = []) (hl : r.Lease ≤ 0) (hf : s.Items.length < 64 ∧ cnt s.Items r.Client < 24) :
    (doW s r []).2 = [rep r 1 []] ∧ (doW s r []).1.Items = s.Items ++ [⟨r.Client, 0, r.T⟩] ∧ (doW s r []).1.Waiters = [] := by
  have hn : fullS s r (-1) = false := by
    simp only [fullS, del_all, Bool.or_eq_false_iff]
    exact ⟨decide_eq_false (by omega), decide_eq_false (by omega)⟩
  have hi : ∀ s1 : Spc, itmOf s1 r = ⟨r.Client, 0, r.T⟩ := fun s1 => by unfold itmOf; rw [if_neg (by omega)]
  rw [doW, if_neg (by rw [hd]; decide), if_pos hk, bringS, if_neg (by rw [hn]; decide), hw]
  have e : putGo r [] [] (tellS s r 1 []) ([] ++ [rep r 1 []]) = ({ tellS s r 1 [] with Waiters := [], Items := s.Items ++ [itmOf (tellS s r 1 []) r] }, [rep r 1 []]) := rfl
  rw [e, hi]
  exact ⟨rfl, rfl, rfl⟩
theorem do_out_full {s : Spc} {r : Req} (hd : denyS s r = false) (hk : r.Kind = 1) (hf : 64 ≤ s.Items.length ∨ 24 ≤ cnt s.Items r.Client) : doW s r [] = (tellS s r 5 [], [rep r 5 []]) := by
  have hn : fullS s r (-1) = true := by
    simp only [fullS, del_all, Bool.or_eq_true]
    exact hf.imp decide_eq_true decide_eq_true
  rw [doW, if_neg (by rw [hd]; decide), if_pos hk, bringS, if_pos hn]; rfl
/-- one looks, or takes -/
theorem do_look {s : Spc} {r : Req} (hd : denyS s r = false) (hk : r.Kind = 2 ∨ r.Kind = 3) : doW s r [] = findW s r [] (r.Kind == 3) false := by
  rcases hk with hk | hk
  · rw [doW, if_neg (by rw [hd]; decide), if_neg (by omega), if_pos hk, hk]; rfl
  · rw [doW, if_neg (by rw [hd]; decide), if_neg (by omega), if_neg (by omega), if_pos hk, hk]; rfl
theorem do_wait {s : Spc} {r : Req} (hd : denyS s r = false) (hk : r.Kind = 4 ∨ r.Kind = 5) : doW s r [] = findW s r [] (r.Kind == 5) true := by
  rcases hk with hk | hk
  · rw [doW, if_neg (by rw [hd]; decide), if_neg (by omega), if_neg (by omega), if_neg (by omega), if_pos hk, hk]; rfl
  · rw [doW, if_neg (by rw [hd]; decide), if_neg (by omega), if_neg (by omega), if_neg (by omega), if_neg (by omega), if_pos hk, hk]; rfl
theorem do_cas {s : Spc} {r : Req} (hd : denyS s r = false) (hk : r.Kind = 6) : doW s r [] = if 0 ≤ findS s r.P then (tellS s r 3 [], [rep r 3 []]) else bringS s r [] := by
  rw [doW, if_neg (by rw [hd]; decide), if_neg (by omega), if_neg (by omega), if_neg (by omega), if_neg (by omega), if_neg (by omega), if_pos hk]; rfl
theorem do_replace {s : Spc} {r : Req} (hd : denyS s r = false) (hk : r.Kind = 7) : doW s r [] = turnW s r [] := by
  rw [doW, if_neg (by rw [hd]; decide), if_neg (by omega), if_neg (by omega), if_neg (by omega), if_neg (by omega), if_neg (by omega), if_neg (by omega), if_pos hk]
/-! numbers -/
def nF (n : Int) : Fld := ⟨1, n, ByteArray.empty⟩
theorem nF_plain (n : Int) : (nF n).plain = true := by unfold Fld.plain nF; rw [if_pos rfl]; rfl
theorem nF_asked (n : Int) : (nF n).asked = true := by unfold Fld.asked; rw [if_neg (by simp [nF])]; exact nF_plain n
theorem nF_fits (n m : Int) : (nF n).fits (nF m) = (n == m) := by
  have : (nF n).fits (nF m) = (nF n).same (nF m) := by unfold Fld.fits; rw [if_neg (show ¬ (nF n).K = 3 from by show ¬ (1 : Int) = 3; decide), if_neg (show ¬ (nF n).K = 4 from by show ¬ (1 : Int) = 4; decide), if_neg (show ¬ (nF n).K = 5 from by show ¬ (1 : Int) = 5; decide)]
  rw [this]
  have e : (ByteArray.empty == ByteArray.empty) = true := by kernel_rfl
  unfold Fld.same nF
  simp [e]
theorem aF_fits (m : Int) : (⟨3, 0, ByteArray.empty⟩ : Fld).fits (nF m) = true := rfl
theorem yF_fits (x : Fld) : (⟨5, 0, ByteArray.empty⟩ : Fld).fits x = true := rfl
theorem tF_fits (m : Int) : (⟨4, 0, ByteArray.empty⟩ : Fld).fits (nF m) = false := rfl
theorem mod4 (i : Nat) (hi : i < 9223372036854775808) : bits .and .i64 (i : Int) 3 = ((i % 4 : Nat) : Int) := by
  show IntKind.wrap .i64 ((BitVec.ofInt 64 (i : Int) &&& BitVec.ofInt 64 3).toNat : Int) = _
  have e : (BitVec.ofInt 64 (i : Int) &&& BitVec.ofInt 64 3).toNat = i % 4 := by
    rw [BitVec.toNat_and, BitVec.toNat_ofInt, BitVec.toNat_ofInt]
    have h1 : ((i : Int) % ((2 ^ 64 : Nat) : Int)).toNat = i := by omega
    rw [h1]
    exact Nat.and_two_pow_sub_one_eq_mod i 2
  rw [e, IntWalk.i64_in _ (by omega)]
theorem bits3 (a : Int) : 0 ≤ bits .and .i64 a 3 ∧ bits .and .i64 a 3 < 4 := by
  have e : (BitVec.ofInt 64 a &&& BitVec.ofInt 64 3).toNat ≤ 3 := by
    rw [BitVec.toNat_and]; exact Nat.and_le_right
  show 0 ≤ IntKind.wrap .i64 ((BitVec.ofInt 64 a &&& BitVec.ofInt 64 3).toNat : Int) ∧ IntKind.wrap .i64 ((BitVec.ofInt 64 a &&& BitVec.ofInt 64 3).toNat : Int) < 4
  rw [IntWalk.i64_in _ (by omega)]
  omega
theorem mod2 (i : Nat) (hi : i < 9223372036854775808) : bits .and .i64 (i : Int) 1 = ((i % 2 : Nat) : Int) := by
  show IntKind.wrap .i64 ((BitVec.ofInt 64 (i : Int) &&& BitVec.ofInt 64 1).toNat : Int) = _
  have e : (BitVec.ofInt 64 (i : Int) &&& BitVec.ofInt 64 1).toNat = i % 2 := by
    rw [BitVec.toNat_and, BitVec.toNat_ofInt, BitVec.toNat_ofInt]
    have h1 : ((i : Int) % ((2 ^ 64 : Nat) : Int)).toNat = i := by omega
    rw [h1]
    exact Nat.and_two_pow_sub_one_eq_mod i 1
  rw [e, IntWalk.i64_in _ (by omega)]
theorem by_bool : prog.bytesOf 4 = 1 := by kernel_rfl

end Go.Abs
