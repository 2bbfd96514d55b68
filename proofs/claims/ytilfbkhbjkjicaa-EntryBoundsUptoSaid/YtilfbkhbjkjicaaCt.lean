/- Ct: a part of the proofs about the tuple space and its bytes. -/
import Derived.Test.YtilfbkhbjkjicaaSp2
import Derived.Test.YtilfbkhbjkjicaaGv
import Derived.Test.YtilfbkhbjkjicaaSp3
set_option linter.all false
set_option maxRecDepth 100000
set_option maxHeartbeats 0
namespace Go.Abs
open Go
open Go.Proofs.Try (prog)
structure RS where
  l : List UInt8
  w : Bool
def RS.num (s : RS) (n : Nat) : Int × RS := if s.w = false ∧ n ≤ s.l.length then (Go.Abs.num (s.l.take n), ⟨s.l.drop n, false⟩) else (0, ⟨s.l, true⟩)
def RS.raw (s : RS) (n : Int) : List UInt8 × RS := if s.w = false ∧ 0 ≤ n ∧ n ≤ s.l.length then (s.l.take n.toNat, ⟨s.l.drop n.toNat, false⟩) else ([], ⟨s.l, true⟩)
def RS.text (s : RS) (m : Int) : List UInt8 × RS := (s.num 4).2.raw (if max m 0 < (s.num 4).1 then -1 else (s.num 4).1)
def RS.fine (s : RS) : Bool := !s.w && decide (s.l = [])
theorem RS.num_range (s : RS) (n : Nat) : 0 ≤ (s.num n).1 ∧ (s.num n).1 < 256 ^ n := by
  have h0 : (0 : Int) < 256 ^ n := Int.pow_pos (by omega)
  unfold RS.num
  split
  · rename_i h
    have := Go.Abs.num_range (s.l.take n)
    rw [List.length_take, Nat.min_eq_left h.2] at this
    exact this
  · exact ⟨Int.le_refl _, h0⟩
theorem RS.num_be (v : Int) (hv : 0 ≤ v) (n : Nat) (hn : v < 256 ^ n) (t : List UInt8) : RS.num ⟨beN v n ++ t, false⟩ n = (v, ⟨t, false⟩) := by
  have hl : (beN v n ++ t).take n = beN v n := by rw [List.take_append_of_le_length (by rw [qax]; exact Nat.le_refl _), List.take_of_length_le (by rw [qax]; exact Nat.le_refl _)]
  have hd : (beN v n ++ t).drop n = t := by
    have := List.drop_left (l₁ := beN v n) (l₂ := t)
    rwa [qax] at this
  have hc : (false = false ∧ n ≤ (beN v n ++ t).length) := ⟨rfl, by simp [qax]⟩
  unfold RS.num
  rw [if_pos hc]
  simp only [hl, hd]
  rw [num_beN v hv, Int.emod_eq_of_lt hv hn]
theorem RS.raw_app (x t : List UInt8) : RS.raw ⟨x ++ t, false⟩ x.length = (x, ⟨t, false⟩) := by
  have hc : (false = false ∧ (0 : Int) ≤ (x.length : Int) ∧ (x.length : Int) ≤ ((x ++ t).length : Int)) := ⟨rfl, by omega, by simp only [List.length_append]; omega⟩
  unfold RS.raw
  rw [if_pos hc]
  simp
def zbb (x : List UInt8) : List UInt8 := beN x.length 4 ++ x
theorem RS.text_put (x t : List UInt8) (m : Int) (hm : (x.length : Int) ≤ m) (h4 : x.length < 4294967296) : RS.text ⟨zbb x ++ t, false⟩ m = (x, ⟨t, false⟩) := by
  have h := RS.num_be x.length (by omega) 4 (by show (x.length : Int) < 4294967296; omega) (x ++ t)
  rw [← List.append_assoc] at h
  simp only [RS.text, zbb, h]
  rw [if_neg (by omega)]
  exact RS.raw_app x t
theorem zbh {v : Int} (h0 : 0 ≤ v) (h1 : v ≤ 9223372036854775807) : IntKind.i64.wrap v = v := by
  simp [IntKind.wrap, IntKind.bits, IntKind.signed]; omega
def putF1 (x : Fld) : List UInt8 := beN (IntKind.u64.wrap x.K) 1 ++ (if x.K = 1 then beN (IntKind.u64.wrap x.N) 8 else if x.K = 2 then zbb x.S.data.toList else [])
def zcb (l : List Fld) : List UInt8 := l.flatMap putF1
def putF (l : List Fld) : List UInt8 := beN l.length 1 ++ zcb l
def qdk (s : RS) : Fld × RS :=
  if (s.num 1).1 = 1 then (⟨1, IntKind.i64.wrap ((s.num 1).2.num 8).1, ⟨#[]⟩⟩, ((s.num 1).2.num 8).2)
  else if (s.num 1).1 = 2 then (⟨2, 0, ⟨((s.num 1).2.text 40).1.toArray⟩⟩, ((s.num 1).2.text 40).2)
  else (⟨(s.num 1).1, 0, ⟨#[]⟩⟩, (s.num 1).2)
def ycb : Nat → RS → List Fld × RS
  | 0, s => ([], s)
  | n + 1, s => ((qdk s).1 :: (ycb n (qdk s).2).1, (ycb n (qdk s).2).2)
def getT (b : List UInt8) : Option (List Fld) :=
  let a := RS.num ⟨b, false⟩ 1
  let p := ycb (min a.1 7).toNat a.2
  if p.2.fine = true ∧ mayP p.1 = true then some p.1 else none
def Fld.In (x : Fld) : Prop := -9223372036854775808 ≤ x.N ∧ x.N ≤ 9223372036854775807
theorem i64_u64 {n : Int} (h : -9223372036854775808 ≤ n ∧ n ≤ 9223372036854775807) : IntKind.i64.wrap (IntKind.u64.wrap n) = n := by
  rw [yaq]
  simp [IntKind.wrap, IntKind.bits, IntKind.signed]
  omega
theorem qdc {x : Fld} (h : x.asked = true) : 1 ≤ x.K ∧ x.K ≤ 5 ∧ (x.K = 1 → x.S = ⟨#[]⟩) ∧ (x.K ≠ 1 → x.N = 0) ∧ (x.K ≠ 2 → x.S = ⟨#[]⟩) ∧ x.S.size ≤ 40 := by
  have hb : ∀ s : ByteArray, (s == (⟨#[]⟩ : ByteArray)) = true → s = ⟨#[]⟩ := fun s hs => by
    cases s with
    | mk d =>
      have : (d == #[]) = true := hs
      rw [beq_iff_eq.1 this]
  unfold Fld.asked at h
  split at h
  · rename_i hk
    simp only [Bool.and_eq_true, decide_eq_true_eq] at h
    have := hb _ h.2
    refine ⟨by omega, by omega, fun _ => this, fun _ => h.1, fun _ => this, by rw [this]; exact Nat.zero_le _⟩
  · unfold Fld.plain at h
    split at h
    · rename_i hk
      have := hb _ h
      refine ⟨by omega, by omega, fun _ => this, fun hn => absurd hk hn, fun _ => this, by rw [this]; exact Nat.zero_le _⟩
    · split at h
      · rename_i hk
        simp only [Bool.and_eq_true, decide_eq_true_eq] at h
        exact ⟨by omega, by omega, fun hn => by omega, fun _ => h.1, fun hn => absurd hk hn, h.2⟩
      · cases h
theorem getF1_put {x : Fld} (h : x.asked = true) (hn : x.In) (t : List UInt8) : qdk ⟨putF1 x ++ t, false⟩ = (x, ⟨t, false⟩) := by
  obtain ⟨h1, h5, hS1, hN, hS, h40⟩ := qdc h
  have hw : IntKind.u64.wrap x.K = x.K := by rw [yaq]; omega
  obtain ⟨K, N, S⟩ := x
  simp only at *
  have hk := RS.num_be K (by omega) 1 (by show K < 256; omega)
  unfold qdk putF1
  simp only [hw, List.append_assoc, hk]
  by_cases e1 : K = 1
  · subst e1
    have hv := RS.num_be (IntKind.u64.wrap N) (by rw [yaq]; omega) 8 (by rw [yaq]; show _ < (18446744073709551616 : Int); omega)
    simp only [if_true, hv, i64_u64 hn, hS1 rfl]
  · by_cases e2 : K = 2
    · subst e2
      have hl : S.data.toList.length = S.size := rfl
      have ht := RS.text_put S.data.toList t 40 (by omega) (by omega)
      have e : ¬ ((2 : Int) = 1) := by omega
      simp only [if_neg e, if_true, ht, hN e]
    · rw [if_neg e1, if_neg e2, if_neg e1, if_neg e2, hS e2, hN e1]
      rfl
theorem getFs_put : ∀ (l : List Fld) (t : List UInt8), (∀ x ∈ l, x.asked = true ∧ x.In) → ycb l.length ⟨zcb l ++ t, false⟩ = (l, ⟨t, false⟩)
  | [], t, _ => rfl
  | x :: l, t, h => by
    have h1 := getF1_put (h x (by simp)).1 (h x (by simp)).2 (zcb l ++ t)
    have h2 := getFs_put l t fun y hy => h y (by simp [hy])
    have e : zcb (x :: l) ++ t = putF1 x ++ (zcb l ++ t) := by simp [zcb]
    rw [e]
    simp only [List.length_cons, ycb, h1, h2]
theorem mayP_all {l : List Fld} (h : mayP l = true) : 1 ≤ l.length ∧ l.length ≤ 6 ∧ ∀ x ∈ l, x.asked = true := by
  simp only [mayP, Bool.and_eq_true, decide_eq_true_eq, List.all_eq_true] at h
  exact ⟨h.1.1, h.1.2, h.2⟩
theorem getT_put {l : List Fld} (h : mayP l = true) (hn : ∀ x ∈ l, x.In) : getT (putF l) = some l := by
  obtain ⟨h1, h6, ha⟩ := mayP_all h
  have hk := RS.num_be (l.length : Int) (by omega) 1 (by show (l.length : Int) < 256; omega) (zcb l)
  have hs := getFs_put l [] fun x hx => ⟨ha x hx, hn x hx⟩
  rw [List.append_nil] at hs
  have hm : (min (l.length : Int) 7).toNat = l.length := by omega
  simp only [getT, putF, hk, hm, hs, h, and_true]
  rw [if_pos (by rfl)]
end Go.Abs
set_option linter.all false
set_option maxRecDepth 100000
set_option maxHeartbeats 0
namespace Go.Abs
open Go
open Go.Proofs.Try (prog)
def qa2 {α : Type} (f : RS → α × RS) : Nat → RS → List α × RS
  | 0, s => ([], s)
  | n + 1, s => ((f s).1 :: (qa2 f n (f s).2).1, (qa2 f n (f s).2).2)
theorem zdz {α : Type} (f : RS → α × RS) : ∀ (i : Nat) (s : RS), qa2 f (i + 1) s = ((qa2 f i s).1 ++ [(f (qa2 f i s).2).1], (f (qa2 f i s).2).2)
  | 0, s => rfl
  | i + 1, s => by
    have := zdz f i (f s).2
    rw [qa2, this]
    simp [qa2]
theorem zdc {α : Type} (f : RS → α × RS) : ∀ (i : Nat) (s : RS), (qa2 f i s).1.length = i
  | 0, s => rfl
  | i + 1, s => by simp [qa2, zdc f i]
theorem getMany_all {α : Type} {f : RS → α × RS} {p : α → Prop} (hf : ∀ s, p (f s).1) : ∀ (n : Nat) (s : RS), ∀ x ∈ (qa2 f n s).1, p x
  | 0, s => by simp [qa2]
  | n + 1, s => by
    intro x hx
    rw [qa2, List.mem_cons] at hx
    rcases hx with rfl | hx
    · exact hf s
    · exact getMany_all hf n _ x hx
def NilOr (v : AV) (l : List AV) : Prop := l = [] → v = .nils
end Go.Abs
set_option linter.all false
set_option maxRecDepth 100000
set_option maxHeartbeats 0
namespace Go.Abs
open Go
open Go.Proofs.Try (prog)
def zas (l : List Fld) : List UInt8 := if mayP l = true then putF l else []
def nb (v : Int) (n : Nat) : List UInt8 := beN (IntKind.u64.wrap v) n
def rowR (s : RS) : List Fld × RS := ((getT (s.text 1000).1).getD [], (s.text 1000).2)
structure Spc.In (s : Spc) : Prop where
  items : ∀ x ∈ s.Items, ∀ f ∈ x.T, f.In
  waiters : ∀ x ∈ s.Waiters, ∀ f ∈ x.P, f.In
  last : ∀ x ∈ s.Last, ∀ f ∈ x.T, f.In
theorem putF1_len {x : Fld} (h : x.asked = true) : (putF1 x).length ≤ 45 := by
  obtain ⟨_, _, _, _, _, h40⟩ := qdc h
  have hl : x.S.data.toList.length = x.S.size := rfl
  unfold putF1
  split
  · simp [qax]
  · split
    · simp only [zbb, List.length_append, qax]; omega
    · simp [qax]
theorem putFs_len : ∀ (l : List Fld), (∀ x ∈ l, x.asked = true) → (zcb l).length ≤ 45 * l.length
  | [], _ => by simp [zcb]
  | x :: l, h => by
    have h1 := putF1_len (h x (by simp))
    have h2 := putFs_len l fun y hy => h y (by simp [hy])
    have e : zcb (x :: l) = putF1 x ++ zcb l := rfl
    rw [e, List.length_append, List.length_cons]; omega
theorem ybo (l : List Fld) : (zas l).length ≤ 271 := by
  unfold zas
  split
  · rename_i h
    obtain ⟨_, h6, ha⟩ := mayP_all h
    have := putFs_len l ha
    simp only [putF, List.length_append, qax]; omega
  · simp
theorem rowR_put {l : List Fld} (h : mayP l = true ∨ l = []) (hn : ∀ x ∈ l, x.In) (t : List UInt8) : rowR ⟨zbb (zas l) ++ t, false⟩ = (l, ⟨t, false⟩) := by
  have hl := ybo l
  have ht := RS.text_put (zas l) t 1000 (by omega) (by omega)
  simp only [rowR, ht]
  rcases h with h | rfl
  · rw [zas, if_pos h, getT_put h hn]; rfl
  · rfl
theorem num_nb {v : Int} {n : Nat} (h0 : 0 ≤ v) (h1 : v < 256 ^ n) (hn : n ≤ 8) (t : List UInt8) : RS.num ⟨nb v n ++ t, false⟩ n = (v, ⟨t, false⟩) := by
  have h8 : (256 : Int) ^ n ≤ 256 ^ 8 := by
    obtain ⟨m, hm⟩ : ∃ m, 8 = n + m := ⟨8 - n, by omega⟩
    rw [hm, Int.pow_add]
    have a : (0 : Int) < 256 ^ n := Int.pow_pos (by omega)
    have b : (0 : Int) < 256 ^ m := Int.pow_pos (by omega)
    have := Int.mul_le_mul_of_nonneg_left (show (1 : Int) ≤ 256 ^ m by omega) (show (0 : Int) ≤ 256 ^ n by omega)
    omega
  have h9 : (256 : Int) ^ 8 = 18446744073709551616 := by decide
  have hw : IntKind.u64.wrap v = v := by rw [yaq]; omega
  rw [nb, hw]
  exact RS.num_be v h0 n h1 t
theorem mayT_mayP {l : List Fld} (h : mayT l = true) : mayP l = true := by
  simp only [mayT, Bool.and_eq_true, List.all_eq_true] at h
  simp only [mayP, Bool.and_eq_true, List.all_eq_true]
  refine ⟨h.1, fun x hx => ?_⟩
  have h2 := h.2 x hx
  unfold Fld.asked
  rw [if_neg, h2]
  unfold Fld.plain at h2
  split at h2
  · omega
  · split at h2
    · omega
    · cases h2
theorem getMany_put {α : Type} {f : RS → α × RS} {g : α → List UInt8} : ∀ (l : List α) (t : List UInt8), (∀ x ∈ l, ∀ t, f ⟨g x ++ t, false⟩ = (x, ⟨t, false⟩)) → qa2 f l.length ⟨l.flatMap g ++ t, false⟩ = (l, ⟨t, false⟩)
  | [], t, _ => rfl
  | x :: l, t, h => by
    have h1 := h x (by simp) (l.flatMap g ++ t)
    have h2 := getMany_put l t fun y hy => h y (by simp [hy])
    have e : (x :: l).flatMap g ++ t = g x ++ (l.flatMap g ++ t) := by simp
    rw [e]
    simp only [List.length_cons, qa2, h1, h2]
end Go.Abs
