/- Ci: a part of the proofs about the tuple space and its bytes. -/
import Derived.Test.YtilfbkhbjkjicaaSp2
import Derived.Test.YtilfbkhbjkjicaaGv
import Derived.Test.YtilfbkhbjkjicaaSp3
set_option linter.all false
set_option maxRecDepth 100000
set_option maxHeartbeats 0
namespace Go.Abs
open Go
open Go.Proofs.Try (prog)
structure RS where
  l : List UInt8
  w : Bool
def RS.num (s : RS) (n : Nat) : Int × RS := if s.w = false ∧ n ≤ s.l.length then (Go.Abs.num (s.l.take n), ⟨s.l.drop n, false⟩) else (0, ⟨s.l, true⟩)
def RS.raw (s : RS) (n : Int) : List UInt8 × RS := if s.w = false ∧ 0 ≤ n ∧ n ≤ s.l.length then (s.l.take n.toNat, ⟨s.l.drop n.toNat, false⟩) else ([], ⟨s.l, true⟩)
def RS.text (s : RS) (m : Int) : List UInt8 × RS := (s.num 4).2.raw (if max m 0 < (s.num 4).1 then -1 else (s.num 4).1)
def RS.fine (s : RS) : Bool := !s.w && decide (s.l = [])
theorem RS.num_range (s : RS) (n : Nat) : 0 ≤ (s.num n).1 ∧ (s.num n).1 < 256 ^ n := by
  have h0 : (0 : Int) < 256 ^ n := Int.pow_pos (by omega)
  unfold RS.num
  split
  · rename_i h
    have := Go.Abs.num_range (s.l.take n)
    rw [List.length_take, Nat.min_eq_left h.2] at this
    exact this
  · exact ⟨Int.le_refl _, h0⟩
theorem RS.num_be (v : Int) (hv : 0 ≤ v) (n : Nat) (hn : v < 256 ^ n) (t : List UInt8) : RS.num ⟨beN v n ++ t, false⟩ n = (v, ⟨t, false⟩) := by
  have hl : (beN v n ++ t).take n = beN v n := by rw [List.take_append_of_le_length (by rw [yak]; exact Nat.le_refl _), List.take_of_length_le (by rw [yak]; exact Nat.le_refl _)]
  have hd : (beN v n ++ t).drop n = t := by
    have := List.drop_left (l₁ := beN v n) (l₂ := t)
    rwa [yak] at this
  have hc : (false = false ∧ n ≤ (beN v n ++ t).length) := ⟨rfl, by simp [yak]⟩
  unfold RS.num
  rw [if_pos hc]
  simp only [hl, hd]
  rw [num_beN v hv, Int.emod_eq_of_lt hv hn]
theorem RS.raw_app (x t : List UInt8) : RS.raw ⟨x ++ t, false⟩ x.length = (x, ⟨t, false⟩) := by
  have hc : (false = false ∧ (0 : Int) ≤ (x.length : Int) ∧ (x.length : Int) ≤ ((x ++ t).length : Int)) := ⟨rfl, by omega, by simp only [List.length_append]; omega⟩
  unfold RS.raw
  rw [if_pos hc]
  simp
def qaz (x : List UInt8) : List UInt8 := beN x.length 4 ++ x
theorem RS.text_put (x t : List UInt8) (m : Int) (hm : (x.length : Int) ≤ m) (h4 : x.length < 4294967296) : RS.text ⟨qaz x ++ t, false⟩ m = (x, ⟨t, false⟩) := by
  have h := RS.num_be x.length (by omega) 4 (by show (x.length : Int) < 4294967296; omega) (x ++ t)
  rw [← List.append_assoc] at h
  simp only [RS.text, qaz, h]
  rw [if_neg (by omega)]
  exact RS.raw_app x t
theorem qam {v : Int} (h0 : 0 ≤ v) (h1 : v ≤ 9223372036854775807) : IntKind.i64.wrap v = v := by
  simp [IntKind.wrap, IntKind.bits, IntKind.signed]; omega
def qb8 (x : Fld) : List UInt8 := beN (IntKind.u64.wrap x.K) 1 ++ (if x.K = 1 then beN (IntKind.u64.wrap x.N) 8 else if x.K = 2 then qaz x.S.data.toList else [])
def qbh (l : List Fld) : List UInt8 := l.flatMap qb8
def putF (l : List Fld) : List UInt8 := beN l.length 1 ++ qbh l
def zbg (s : RS) : Fld × RS :=
  if (s.num 1).1 = 1 then (⟨1, IntKind.i64.wrap ((s.num 1).2.num 8).1, ⟨#[]⟩⟩, ((s.num 1).2.num 8).2)
  else if (s.num 1).1 = 2 then (⟨2, 0, ⟨((s.num 1).2.text 40).1.toArray⟩⟩, ((s.num 1).2.text 40).2)
  else (⟨(s.num 1).1, 0, ⟨#[]⟩⟩, (s.num 1).2)
def ya1 : Nat → RS → List Fld × RS
  | 0, s => ([], s)
  | n + 1, s => ((zbg s).1 :: (ya1 n (zbg s).2).1, (ya1 n (zbg s).2).2)
def qc7 (b : List UInt8) : Option (List Fld) :=
  let a := RS.num ⟨b, false⟩ 1
  let p := ya1 (min a.1 7).toNat a.2
  if p.2.fine = true ∧ qcf p.1 = true then some p.1 else none
def Fld.In (x : Fld) : Prop := -9223372036854775808 ≤ x.N ∧ x.N ≤ 9223372036854775807
theorem i64_u64 {n : Int} (h : -9223372036854775808 ≤ n ∧ n ≤ 9223372036854775807) : IntKind.i64.wrap (IntKind.u64.wrap n) = n := by
  rw [zak]
  simp [IntKind.wrap, IntKind.bits, IntKind.signed]
  omega
theorem zcm {x : Fld} (h : x.asked = true) : 1 ≤ x.K ∧ x.K ≤ 5 ∧ (x.K = 1 → x.S = ⟨#[]⟩) ∧ (x.K ≠ 1 → x.N = 0) ∧ (x.K ≠ 2 → x.S = ⟨#[]⟩) ∧ x.S.size ≤ 40 := by
  have hb : ∀ s : ByteArray, (s == (⟨#[]⟩ : ByteArray)) = true → s = ⟨#[]⟩ := fun s hs => by
    cases s with
    | mk d =>
      have : (d == #[]) = true := hs
      rw [beq_iff_eq.1 this]
  unfold Fld.asked at h
  split at h
  · rename_i hk
    simp only [Bool.and_eq_true, decide_eq_true_eq] at h
    have := hb _ h.2
    refine ⟨by omega, by omega, fun _ => this, fun _ => h.1, fun _ => this, by rw [this]; exact Nat.zero_le _⟩
  · unfold Fld.plain at h
    split at h
    · rename_i hk
      have := hb _ h
      refine ⟨by omega, by omega, fun _ => this, fun hn => absurd hk hn, fun _ => this, by rw [this]; exact Nat.zero_le _⟩
    · split at h
      · rename_i hk
        simp only [Bool.and_eq_true, decide_eq_true_eq] at h
        exact ⟨by omega, by omega, fun hn => by omega, fun _ => h.1, fun hn => absurd hk hn, h.2⟩
      · cases h
theorem getF1_put {x : Fld} (h : x.asked = true) (hn : x.In) (t : List UInt8) : zbg ⟨qb8 x ++ t, false⟩ = (x, ⟨t, false⟩) := by
  obtain ⟨h1, h5, hS1, hN, hS, h40⟩ := zcm h
  have hw : IntKind.u64.wrap x.K = x.K := by rw [zak]; omega
  obtain ⟨K, N, S⟩ := x
  simp only at *
  have hk := RS.num_be K (by omega) 1 (by show K < 256; omega)
  unfold zbg qb8
  simp only [hw, List.append_assoc, hk]
  by_cases e1 : K = 1
  · subst e1
    have hv := RS.num_be (IntKind.u64.wrap N) (by rw [zak]; omega) 8 (by rw [zak]; show _ < (18446744073709551616 : Int); omega)
    simp only [if_true, hv, i64_u64 hn, hS1 rfl]
  · by_cases e2 : K = 2
    · subst e2
      have hl : S.data.toList.length = S.size := rfl
      have ht := RS.text_put S.data.toList t 40 (by omega) (by omega)
      have e : ¬ ((2 : Int) = 1) := by omega
      simp only [if_neg e, if_true, ht, hN e]
    · rw [if_neg e1, if_neg e2, if_neg e1, if_neg e2, hS e2, hN e1]
      rfl
theorem getFs_put : ∀ (l : List Fld) (t : List UInt8), (∀ x ∈ l, x.asked = true ∧ x.In) → ya1 l.length ⟨qbh l ++ t, false⟩ = (l, ⟨t, false⟩)
  | [], t, _ => rfl
  | x :: l, t, h => by
    have h1 := getF1_put (h x (by simp)).1 (h x (by simp)).2 (qbh l ++ t)
    have h2 := getFs_put l t fun y hy => h y (by simp [hy])
    have e : qbh (x :: l) ++ t = qb8 x ++ (qbh l ++ t) := by simp [qbh]
    rw [e]
    simp only [List.length_cons, ya1, h1, h2]
theorem zck {l : List Fld} (h : qcf l = true) : 1 ≤ l.length ∧ l.length ≤ 6 ∧ ∀ x ∈ l, x.asked = true := by
  simp only [qcf, Bool.and_eq_true, decide_eq_true_eq, List.all_eq_true] at h
  exact ⟨h.1.1, h.1.2, h.2⟩
theorem getT_put {l : List Fld} (h : qcf l = true) (hn : ∀ x ∈ l, x.In) : qc7 (putF l) = some l := by
  obtain ⟨h1, h6, ha⟩ := zck h
  have hk := RS.num_be (l.length : Int) (by omega) 1 (by show (l.length : Int) < 256; omega) (qbh l)
  have hs := getFs_put l [] fun x hx => ⟨ha x hx, hn x hx⟩
  rw [List.append_nil] at hs
  have hm : (min (l.length : Int) 7).toNat = l.length := by omega
  simp only [qc7, putF, hk, hm, hs, h, and_true]
  rw [if_pos (by rfl)]
end Go.Abs
set_option linter.all false
set_option maxRecDepth 100000
set_option maxHeartbeats 0
namespace Go.Abs
open Go
open Go.Proofs.Try (prog)
def zag {α : Type} (f : RS → α × RS) : Nat → RS → List α × RS
  | 0, s => ([], s)
  | n + 1, s => ((f s).1 :: (zag f n (f s).2).1, (zag f n (f s).2).2)
theorem ybw {α : Type} (f : RS → α × RS) : ∀ (i : Nat) (s : RS), zag f (i + 1) s = ((zag f i s).1 ++ [(f (zag f i s).2).1], (f (zag f i s).2).2)
  | 0, s => rfl
  | i + 1, s => by
    have := ybw f i (f s).2
    rw [zag, this]
    simp [zag]
theorem ybb {α : Type} (f : RS → α × RS) : ∀ (i : Nat) (s : RS), (zag f i s).1.length = i
  | 0, s => rfl
  | i + 1, s => by simp [zag, ybb f i]
theorem yb6 {α : Type} {f : RS → α × RS} {p : α → Prop} (hf : ∀ s, p (f s).1) : ∀ (n : Nat) (s : RS), ∀ x ∈ (zag f n s).1, p x
  | 0, s => by simp [zag]
  | n + 1, s => by
    intro x hx
    rw [zag, List.mem_cons] at hx
    rcases hx with rfl | hx
    · exact hf s
    · exact yb6 hf n _ x hx
def NilOr (v : AV) (l : List AV) : Prop := l = [] → v = .nils
theorem ybq (t : Nat) : qa5 (.tmp t) = false := rfl
end Go.Abs
set_option linter.all false
set_option maxRecDepth 100000
set_option maxHeartbeats 0
namespace Go.Abs
open Go
open Go.Proofs.Try (prog)
def yah (l : List Fld) : List UInt8 := if qcf l = true then putF l else []
def zdp (b : Bool) : Int := if b = true then 1 else 0
def nb (v : Int) (n : Nat) : List UInt8 := beN (IntKind.u64.wrap v) n
def zcv (x : Itm) : List UInt8 := nb x.Owner 1 ++ (nb x.Until 8 ++ qaz (yah x.T))
def ycu (x : Wtr) : List UInt8 := nb x.Client 1 ++ (nb x.Seq 4 ++ (beN (zdp x.Take) 1 ++ qaz (yah x.P)))
def qbj (x : Rpl) : List UInt8 := nb x.Seq 4 ++ (nb x.Kind 1 ++ (beN (zdp x.Late) 1 ++ qaz (yah x.T)))
def zcc (l : List Itm) : List UInt8 := l.flatMap zcv
def zch (l : List Wtr) : List UInt8 := l.flatMap ycu
def qcc (l : List Rpl) : List UInt8 := l.flatMap qbj
def qby (s : Spc) : List UInt8 := nb s.Now 8 ++ (nb s.Read 1 ++ (nb s.Write 1 ++ (beN s.Items.length 1 ++ (zcc s.Items ++ (beN s.Waiters.length 1 ++ (zch s.Waiters ++ qcc s.Last))))))
def ycj (s : RS) : List Fld × RS := ((qc7 (s.text 1000).1).getD [], (s.text 1000).2)
def qdd (s : RS) : Itm × RS :=
  let a := s.num 1
  let b := a.2.num 8
  let c := ycj b.2
  (⟨IntKind.i64.wrap a.1, IntKind.i64.wrap b.1, c.1⟩, c.2)
def ydc (s : RS) : Wtr × RS :=
  let a := s.num 1
  let b := a.2.num 4
  let c := b.2.num 1
  let d := ycj c.2
  (⟨IntKind.i64.wrap a.1, IntKind.i64.wrap b.1, c.1 == 1, d.1⟩, d.2)
def getL1 (c : Int) (s : RS) : Rpl × RS :=
  let a := s.num 4
  let b := a.2.num 1
  let d := b.2.num 1
  let e := ycj d.2
  (⟨c, IntKind.i64.wrap a.1, IntKind.i64.wrap b.1, e.1, d.1 == 1⟩, e.2)
def getL4 (s : RS) : List Rpl × RS :=
  let a := getL1 0 s
  let b := getL1 1 a.2
  let c := getL1 2 b.2
  let d := getL1 3 c.2
  ([a.1, b.1, c.1, d.1], d.2)
def parseS (s : RS) : Spc × RS :=
  let a := s.num 8
  let b := a.2.num 1
  let c := b.2.num 1
  let n := c.2.num 1
  let I := zag qdd n.1.toNat n.2
  let m := I.2.num 1
  let W := zag ydc m.1.toNat m.2
  let L := getL4 W.2
  (⟨IntKind.i64.wrap a.1, I.1, W.1, IntKind.i64.wrap b.1, IntKind.i64.wrap c.1, L.1⟩, L.2)
def ydm (b : List UInt8) : Option Spc :=
  let p := parseS ⟨b, false⟩
  if p.2.fine = true ∧ zbw p.1 = true ∧ qby p.1 = b then some p.1 else none
structure Spc.In (s : Spc) : Prop where
  items : ∀ x ∈ s.Items, ∀ f ∈ x.T, f.In
  waiters : ∀ x ∈ s.Waiters, ∀ f ∈ x.P, f.In
  last : ∀ x ∈ s.Last, ∀ f ∈ x.T, f.In
theorem putF1_len {x : Fld} (h : x.asked = true) : (qb8 x).length ≤ 45 := by
  obtain ⟨_, _, _, _, _, h40⟩ := zcm h
  have hl : x.S.data.toList.length = x.S.size := rfl
  unfold qb8
  split
  · simp [yak]
  · split
    · simp only [qaz, List.length_append, yak]; omega
    · simp [yak]
theorem zdj : ∀ (l : List Fld), (∀ x ∈ l, x.asked = true) → (qbh l).length ≤ 45 * l.length
  | [], _ => by simp [qbh]
  | x :: l, h => by
    have h1 := putF1_len (h x (by simp))
    have h2 := zdj l fun y hy => h y (by simp [hy])
    have e : qbh (x :: l) = qb8 x ++ qbh l := rfl
    rw [e, List.length_append, List.length_cons]; omega
theorem qa4 (l : List Fld) : (yah l).length ≤ 271 := by
  unfold yah
  split
  · rename_i h
    obtain ⟨_, h6, ha⟩ := zck h
    have := zdj l ha
    simp only [putF, List.length_append, yak]; omega
  · simp
theorem rowR_put {l : List Fld} (h : qcf l = true ∨ l = []) (hn : ∀ x ∈ l, x.In) (t : List UInt8) : ycj ⟨qaz (yah l) ++ t, false⟩ = (l, ⟨t, false⟩) := by
  have hl := qa4 l
  have ht := RS.text_put (yah l) t 1000 (by omega) (by omega)
  simp only [ycj, ht]
  rcases h with h | rfl
  · rw [yah, if_pos h, getT_put h hn]; rfl
  · rfl
theorem qbv {v : Int} {n : Nat} (h0 : 0 ≤ v) (h1 : v < 256 ^ n) (hn : n ≤ 8) (t : List UInt8) : RS.num ⟨nb v n ++ t, false⟩ n = (v, ⟨t, false⟩) := by
  have h8 : (256 : Int) ^ n ≤ 256 ^ 8 := by
    obtain ⟨m, hm⟩ : ∃ m, 8 = n + m := ⟨8 - n, by omega⟩
    rw [hm, Int.pow_add]
    have a : (0 : Int) < 256 ^ n := Int.pow_pos (by omega)
    have b : (0 : Int) < 256 ^ m := Int.pow_pos (by omega)
    have := Int.mul_le_mul_of_nonneg_left (show (1 : Int) ≤ 256 ^ m by omega) (show (0 : Int) ≤ 256 ^ n by omega)
    omega
  have h9 : (256 : Int) ^ 8 = 18446744073709551616 := by decide
  have hw : IntKind.u64.wrap v = v := by rw [zak]; omega
  rw [nb, hw]
  exact RS.num_be v h0 n h1 t
theorem ycf {l : List Fld} (h : mayT l = true) : qcf l = true := by
  simp only [mayT, Bool.and_eq_true, List.all_eq_true] at h
  simp only [qcf, Bool.and_eq_true, List.all_eq_true]
  refine ⟨h.1, fun x hx => ?_⟩
  have h2 := h.2 x hx
  unfold Fld.asked
  rw [if_neg, h2]
  unfold Fld.plain at h2
  split at h2
  · omega
  · split at h2
    · omega
    · cases h2
theorem getI1_put {x : Itm} {now : Int} (h : qdo x now = true) (hnow : 0 ≤ now) (hn : ∀ f ∈ x.T, f.In) (t : List UInt8) : qdd ⟨zcv x ++ t, false⟩ = (x, ⟨t, false⟩) := by
  simp only [qdo, zat, Bool.and_eq_true, Bool.or_eq_true, decide_eq_true_eq] at h
  obtain ⟨⟨⟨h1, h2⟩, h3⟩, h4⟩ := h
  have h3' : 0 ≤ x.Until ∧ x.Until ≤ 2199023255552 := by omega
  have a := qbv (n := 1) h1 (by show x.Owner < 256; omega) (by omega) (nb x.Until 8 ++ (qaz (yah x.T) ++ t))
  have b := qbv (n := 8) h3'.1 (by show x.Until < 18446744073709551616; omega) (by omega) (qaz (yah x.T) ++ t)
  have c := rowR_put (.inl (ycf h4)) hn t
  simp only [qdd, zcv, List.append_assoc, a, b, c, qam h1 (by omega), qam h3'.1 (by omega)]
theorem num_bit (b : Bool) (t : List UInt8) : (RS.num ⟨beN (zdp b) 1 ++ t, false⟩ 1) = (zdp b, ⟨t, false⟩) := RS.num_be _ (by cases b <;> decide) 1 (by cases b <;> decide) t
theorem bitB_eq (b : Bool) : (zdp b == 1) = b := by cases b <;> rfl
theorem getW1_put {x : Wtr} (h : ydt x = true) (hn : ∀ f ∈ x.P, f.In) (t : List UInt8) : ydc ⟨ycu x ++ t, false⟩ = (x, ⟨t, false⟩) := by
  simp only [ydt, zat, Bool.and_eq_true, decide_eq_true_eq] at h
  obtain ⟨⟨⟨⟨h1, h2⟩, h3⟩, h4⟩, h5⟩ := h
  have a := qbv (n := 1) h1 (by show x.Client < 256; omega) (by omega) (nb x.Seq 4 ++ (beN (zdp x.Take) 1 ++ (qaz (yah x.P) ++ t)))
  have b := qbv (n := 4) (v := x.Seq) (by omega) (by show x.Seq < 4294967296; omega) (by omega) (beN (zdp x.Take) 1 ++ (qaz (yah x.P) ++ t))
  have c := num_bit x.Take (qaz (yah x.P) ++ t)
  have d := rowR_put (.inl h5) hn t
  simp only [ydc, ycu, List.append_assoc, a, b, c, d, bitB_eq, qam h1 (by omega), qam (show 0 ≤ x.Seq by omega) (by omega)]
theorem zdn {x : Rpl} {c : Int} (h : zc7 x c = true) (hn : ∀ f ∈ x.T, f.In) (t : List UInt8) : getL1 c ⟨qbj x ++ t, false⟩ = (x, ⟨t, false⟩) := by
  simp only [zc7, Bool.and_eq_true, decide_eq_true_eq] at h
  obtain ⟨⟨h1, h2, h3⟩, h4⟩ := h
  have hk : 0 ≤ x.Kind ∧ x.Kind ≤ 6 ∧ (qcf x.T = true ∨ x.T = []) := by
    split at h4
    · simp only [Bool.and_eq_true, decide_eq_true_eq] at h4; exact ⟨by omega, by omega, .inr h4.1.2⟩
    · split at h4
      · exact ⟨by omega, by omega, .inl (ycf h4)⟩
      · simp only [Bool.and_eq_true, decide_eq_true_eq] at h4; exact ⟨by omega, by omega, .inr h4.1.2⟩
  have a := qbv (n := 4) h2 (by show x.Seq < 4294967296; omega) (by omega) (nb x.Kind 1 ++ (beN (zdp x.Late) 1 ++ (qaz (yah x.T) ++ t)))
  have b := qbv (n := 1) hk.1 (by show x.Kind < 256; omega) (by omega) (beN (zdp x.Late) 1 ++ (qaz (yah x.T) ++ t))
  have d := num_bit x.Late (qaz (yah x.T) ++ t)
  have e := rowR_put hk.2.2 hn t
  simp only [getL1, qbj, List.append_assoc, a, b, d, e, bitB_eq, qam h2 (by omega), qam hk.1 (by omega), ← h1]
theorem zb6 {α : Type} {f : RS → α × RS} {g : α → List UInt8} : ∀ (l : List α) (t : List UInt8), (∀ x ∈ l, ∀ t, f ⟨g x ++ t, false⟩ = (x, ⟨t, false⟩)) → zag f l.length ⟨l.flatMap g ++ t, false⟩ = (l, ⟨t, false⟩)
  | [], t, _ => rfl
  | x :: l, t, h => by
    have h1 := h x (by simp) (l.flatMap g ++ t)
    have h2 := zb6 l t fun y hy => h y (by simp [hy])
    have e : (x :: l).flatMap g ++ t = g x ++ (l.flatMap g ++ t) := by simp
    rw [e]
    simp only [List.length_cons, zag, h1, h2]
theorem four_of {s : List Rpl} (h : qb0 zc7 s [0, 1, 2, 3] = true) : ∃ a b c d, s = [a, b, c, d] ∧ zc7 a 0 = true ∧ zc7 b 1 = true ∧ zc7 c 2 = true ∧ zc7 d 3 = true := by
  match s, h with
  | [a, b, c, d], h =>
    simp only [qb0, Bool.and_eq_true, and_true] at h
    exact ⟨a, b, c, d, rfl, h.1, h.2.1, h.2.2.1, h.2.2.2⟩
  | [], h => exact absurd h (by simp [qb0])
  | [_], h => exact absurd h (by simp [qb0])
  | [_, _], h => exact absurd h (by simp [qb0])
  | [_, _, _], h => exact absurd h (by simp [qb0])
  | _ :: _ :: _ :: _ :: _ :: _, h => exact absurd h (by simp [qb0])
theorem fdiv16 {n : Int} (h : n.fdiv 16 = 0) : 0 ≤ n ∧ n ≤ 15 := by
  rw [Int.fdiv_eq_ediv_of_nonneg _ (by omega)] at h; omega
theorem parseS_put {s : Spc} (h : zbw s = true) (hn : s.In) (t : List UInt8) : parseS ⟨qby s ++ t, false⟩ = (s, ⟨t, false⟩) := by
  simp only [zbw, Bool.and_eq_true, List.all_eq_true] at h
  obtain ⟨⟨⟨⟨h1, h2⟩, h3⟩, h4⟩, h5⟩ := h
  simp only [mayH, Bool.and_eq_true, decide_eq_true_eq] at h1
  obtain ⟨⟨⟨⟨⟨a1, a2⟩, a3⟩, a4⟩, a5⟩, a6⟩ := h1
  have a3 := fdiv16 a3
  have a4 := fdiv16 a4
  obtain ⟨b1, b2, b3⟩ := hn
  obtain ⟨l0, l1, l2, l3, hl, c0, c1, c2, c3⟩ := four_of h5
  obtain ⟨Now, Items, Waiters, Read, Write, Last⟩ := s
  simp only at *
  subst hl
  have n1 := qbv (n := 8) a1 (by show Now < 18446744073709551616; omega) (by omega) (nb Read 1 ++ (nb Write 1 ++ (beN Items.length 1 ++ (zcc Items ++ (beN Waiters.length 1 ++ (zch Waiters ++ (qcc [l0, l1, l2, l3] ++ t)))))))
  have n2 := qbv (n := 1) a3.1 (by show Read < 256; omega) (by omega) (nb Write 1 ++ (beN Items.length 1 ++ (zcc Items ++ (beN Waiters.length 1 ++ (zch Waiters ++ (qcc [l0, l1, l2, l3] ++ t))))))
  have n3 := qbv (n := 1) a4.1 (by show Write < 256; omega) (by omega) (beN Items.length 1 ++ (zcc Items ++ (beN Waiters.length 1 ++ (zch Waiters ++ (qcc [l0, l1, l2, l3] ++ t)))))
  have n4 := RS.num_be (Items.length : Int) (by omega) 1 (by show (Items.length : Int) < 256; omega) (zcc Items ++ (beN Waiters.length 1 ++ (zch Waiters ++ (qcc [l0, l1, l2, l3] ++ t))))
  have n5 := zb6 (f := qdd) (g := zcv) Items (beN Waiters.length 1 ++ (zch Waiters ++ (qcc [l0, l1, l2, l3] ++ t))) fun x hx t => getI1_put (h2 x hx) a1 (b1 x hx) t
  have n6 := RS.num_be (Waiters.length : Int) (by omega) 1 (by show (Waiters.length : Int) < 256; omega) (zch Waiters ++ (qcc [l0, l1, l2, l3] ++ t))
  have n7 := zb6 (f := ydc) (g := ycu) Waiters (qcc [l0, l1, l2, l3] ++ t) fun x hx t => getW1_put (h4 x hx) (b2 x hx) t
  have e8 : qcc [l0, l1, l2, l3] ++ t = qbj l0 ++ (qbj l1 ++ (qbj l2 ++ (qbj l3 ++ t))) := by simp [qcc]
  have m0 := zdn c0 (b3 l0 (by simp)) (qbj l1 ++ (qbj l2 ++ (qbj l3 ++ t)))
  have m1 := zdn c1 (b3 l1 (by simp)) (qbj l2 ++ (qbj l3 ++ t))
  have m2 := zdn c2 (b3 l2 (by simp)) (qbj l3 ++ t)
  have m3 := zdn c3 (b3 l3 (by simp)) t
  have n8 : getL4 ⟨qcc [l0, l1, l2, l3] ++ t, false⟩ = ([l0, l1, l2, l3], ⟨t, false⟩) := by
    rw [e8]
    simp only [getL4, m0, m1, m2, m3]
  have f5 : zcc Items = Items.flatMap zcv := rfl
  have f7 : zch Waiters = Waiters.flatMap ycu := rfl
  rw [← f5] at n5
  rw [← f7] at n7
  simp only [parseS, qby, List.append_assoc, n1, n2, n3, n4, Int.toNat_natCast, n5, n6, n7, n8, qam a1 (by omega), qam a3.1 (by omega), qam a4.1 (by omega)]
theorem getS_put {s : Spc} (h : zbw s = true) (hn : s.In) : ydm (qby s) = some s := by
  have := parseS_put h hn []
  rw [List.append_nil] at this
  simp only [ydm, this, h, true_and]
  rw [if_pos ⟨rfl, trivial⟩]
theorem getS_some {b : List UInt8} {s : Spc} (h : ydm b = some s) : zbw s = true ∧ qby s = b := by
  simp only [ydm] at h
  split at h
  · rename_i hc
    cases h
    exact ⟨hc.2.1, hc.2.2⟩
  · cases h
end Go.Abs
set_option linter.all false
set_option maxRecDepth 100000
set_option maxHeartbeats 0
namespace Go.Abs
open Go
open Go.Proofs.Try (prog)
theorem i64_rng (n : Int) : -9223372036854775808 ≤ IntKind.i64.wrap n ∧ IntKind.i64.wrap n ≤ 9223372036854775807 := by
  simp [IntKind.wrap, IntKind.bits, IntKind.signed]
  split <;> omega
theorem getF1_in (s : RS) : (zbg s).1.In := by
  have z0 : (-9223372036854775808 : Int) ≤ 0 ∧ (0 : Int) ≤ 9223372036854775807 := by decide
  unfold zbg
  split
  · exact i64_rng _
  · split
    · exact z0
    · exact z0
theorem getFs_in : ∀ (n : Nat) (s : RS), ∀ f ∈ (ya1 n s).1, f.In
  | 0, s => by simp [ya1]
  | n + 1, s => by
    intro f hf
    simp only [ya1, List.mem_cons] at hf
    rcases hf with rfl | hf
    · exact getF1_in s
    · exact getFs_in n _ f hf
theorem rowR_in (s : RS) : ∀ f ∈ (ycj s).1, f.In := by
  rw [ycj]
  cases h : qc7 (s.text 1000).1 with
  | none => simp
  | some l =>
    rw [qc7] at h
    split at h
    · cases h
      exact getFs_in _ _
    · cases h
theorem ydu {α : Type} {f : RS → α × RS} {p : α → Prop} (hf : ∀ s, p (f s).1) : ∀ (n : Nat) (s : RS), ∀ x ∈ (zag f n s).1, p x
  | 0, s => by simp [zag]
  | n + 1, s => by
    intro x hx
    rw [zag, List.mem_cons] at hx
    rcases hx with rfl | hx
    · exact hf s
    · exact ydu hf n _ x hx
theorem getL4_in (s : RS) : ∀ x ∈ (getL4 s).1, ∀ f ∈ x.T, f.In := by
  intro x hx
  simp only [getL4, List.mem_cons, List.not_mem_nil, or_false] at hx
  rcases hx with rfl | rfl | rfl | rfl <;> exact rowR_in _
theorem getS_in {b : List UInt8} {s : Spc} (h : ydm b = some s) : s.In := by
  simp only [ydm] at h
  split at h
  · cases h
    exact ⟨ydu (p := fun x : Itm => ∀ f ∈ x.T, f.In) (fun s => rowR_in _) _ _, ydu (p := fun x : Wtr => ∀ f ∈ x.P, f.In) (fun s => rowR_in _) _ _, getL4_in _⟩
  · cases h
end Go.Abs
