/- Xp: a part of the proofs about the tuple space and its bytes. -/
import Derived.Test.YtilfbkhbjkjicaaXe
import Derived.Test.YtilfbkhbjkjicaaCi
set_option linter.all false
set_option maxRecDepth 100000
set_option maxHeartbeats 0
namespace Go.Abs
open Go
open Go.Proofs.Try (prog)
theorem u64_i64 {n : Int} (h0 : 0 ≤ n) (h1 : n < 18446744073709551616) : IntKind.u64.wrap (IntKind.i64.wrap n) = n := by
  rw [zak]; simp [IntKind.wrap, IntKind.bits, IntKind.signed]; omega
theorem zb5 {s : RS} {n : Nat} (h : (s.num n).2.w = false) : s.w = false ∧ s.l = beN (s.num n).1 n ++ (s.num n).2.l := by
  unfold RS.num at h ⊢
  by_cases hc : s.w = false ∧ n ≤ s.l.length
  · rw [if_pos hc]
    refine ⟨hc.1, ?_⟩
    show s.l = beN (Go.Abs.num (s.l.take n)) n ++ s.l.drop n
    rw [beN_num0 _ (by simp; omega), List.take_append_drop]
  · rw [if_neg hc] at h; cases h
theorem raw_inv {s : RS} {n : Int} (h : (s.raw n).2.w = false) : s.w = false ∧ 0 ≤ n ∧ s.l = (s.raw n).1 ++ (s.raw n).2.l ∧ ((s.raw n).1.length : Int) = n := by
  unfold RS.raw at h ⊢
  by_cases hc : s.w = false ∧ 0 ≤ n ∧ n ≤ s.l.length
  · rw [if_pos hc]
    refine ⟨hc.1, hc.2.1, (List.take_append_drop ..).symm, ?_⟩
    show ((s.l.take n.toNat).length : Int) = n
    rw [List.length_take]; omega
  · rw [if_neg hc] at h; cases h
theorem text_inv {s : RS} {m : Int} (h : (s.text m).2.w = false) : s.w = false ∧ s.l = qaz (s.text m).1 ++ (s.text m).2.l := by
  unfold RS.text at h ⊢
  obtain ⟨a, b, c, d⟩ := raw_inv h
  obtain ⟨e, f⟩ := zb5 a
  refine ⟨e, ?_⟩
  split at b
  · omega
  · rename_i hq
    rw [if_neg hq] at c d ⊢
    rw [qaz, d, List.append_assoc, ← c]; exact f
theorem qc0 {v : Int} (h0 : 0 ≤ v) (h1 : v < 18446744073709551616) : IntKind.u64.wrap v = v := by rw [zak]; omega
theorem pw1 : (256 : Int) ^ 1 = 256 := rfl
theorem pw8 : (256 : Int) ^ 8 = 18446744073709551616 := rfl
theorem getF1_inv {s : RS} (h : (zbg s).2.w = false) : s.w = false ∧ s.l = qb8 (zbg s).1 ++ (zbg s).2.l := by
  have hr := s.num_range 1
  rw [pw1] at hr
  unfold zbg at h ⊢
  by_cases h1 : (s.num 1).1 = 1
  · rw [if_pos h1] at h ⊢
    obtain ⟨a, b⟩ := zb5 h
    obtain ⟨c, d⟩ := zb5 a
    refine ⟨c, ?_⟩
    have hr8 := (s.num 1).2.num_range 8
    rw [pw8] at hr8
    rw [h1] at d
    rw [qb8, if_pos rfl]
    show s.l = beN (IntKind.u64.wrap 1) 1 ++ beN (IntKind.u64.wrap (IntKind.i64.wrap ((s.num 1).2.num 8).1)) 8 ++ _
    rw [u64_i64 hr8.1 hr8.2, qc0 (by omega) (by omega), List.append_assoc, ← b]; exact d
  · rw [if_neg h1] at h ⊢
    by_cases h2 : (s.num 1).1 = 2
    · rw [if_pos h2] at h ⊢
      obtain ⟨a, b⟩ := text_inv h
      obtain ⟨c, d⟩ := zb5 a
      refine ⟨c, ?_⟩
      rw [h2] at d
      rw [qb8, if_neg (show ¬ (2 : Int) = 1 by decide), if_pos (show (2 : Int) = 2 from rfl)]
      show s.l = beN (IntKind.u64.wrap 2) 1 ++ qaz (((s.num 1).2.text 40).1.toArray.toList) ++ _
      rw [List.toList_toArray, qc0 (by omega) (by omega), List.append_assoc, ← b]; exact d
    · rw [if_neg h2] at h ⊢
      obtain ⟨c, d⟩ := zb5 h
      refine ⟨c, ?_⟩
      rw [qb8, if_neg h1, if_neg h2]
      show s.l = beN (IntKind.u64.wrap (s.num 1).1) 1 ++ [] ++ _
      rw [qc0 (by omega) (by omega), List.append_nil]; exact d
theorem getFs_inv : ∀ (n : Nat) {s : RS}, (ya1 n s).2.w = false → s.w = false ∧ s.l = qbh (ya1 n s).1 ++ (ya1 n s).2.l
  | 0, s, h => ⟨h, rfl⟩
  | n + 1, s, h => by
    obtain ⟨a, b⟩ := getFs_inv n h
    obtain ⟨c, d⟩ := getF1_inv a
    refine ⟨c, ?_⟩
    show s.l = qbh ((zbg s).1 :: (ya1 n (zbg s).2).1) ++ (ya1 n (zbg s).2).2.l
    rw [qbh, List.flatMap_cons, List.append_assoc]
    rw [b] at d; exact d
theorem fine_wl {s : RS} (h : s.fine = true) : s.w = false ∧ s.l = [] := by
  simpa [RS.fine] using h
theorem getT_inv {b : List UInt8} {l : List Fld} (h : qc7 b = some l) : qcf l = true ∧ putF l = b ∧ ∀ x ∈ l, x.In := by
  rw [← getT6_eq] at h
  unfold getT6 at h
  simp only at h
  split at h
  · rename_i hc
    simp only [Option.some.injEq] at h
    obtain ⟨a, a2⟩ := fine_wl hc.1
    obtain ⟨c, d⟩ := getFs_inv _ a
    obtain ⟨_, e⟩ := zb5 c
    have hr := RS.num_range ⟨b, false⟩ 1
    have hl := qb6 (RS.num ⟨b, false⟩ 1).1.toNat (RS.num ⟨b, false⟩ 1).2
    rw [h] at hc d hl
    rw [a2, List.append_nil] at d
    refine ⟨hc.2, ?_, ?_⟩
    · rw [putF, ← d, hl, Int.toNat_of_nonneg hr.1]; exact e.symm
    · rw [← h]; exact getFs_in _ _
  · cases h
theorem rowR6_inv {s : RS} (h : (qba s).2.w = false) : s.w = false ∧ s.l = qaz (yah (qba s).1) ++ (qba s).2.l ∧ (qcf (qba s).1 = true ∨ (qba s).1 = []) ∧ ∀ x ∈ (qba s).1, x.In := by
  unfold qba at h ⊢
  by_cases h0 : (s.text 1000).1 = []
  · rw [if_pos h0] at h ⊢
    obtain ⟨a, b⟩ := text_inv h
    rw [h0] at b
    exact ⟨a, b, .inr rfl, fun x hx => by cases hx⟩
  · rw [if_neg h0] at h ⊢
    by_cases h1 : (qc7 (s.text 1000).1).isSome = true
    · rw [if_pos h1] at h ⊢
      obtain ⟨a, b⟩ := text_inv h
      obtain ⟨l, hl⟩ := Option.isSome_iff_exists.1 h1
      obtain ⟨c, d, e⟩ := getT_inv hl
      rw [hl]
      refine ⟨a, ?_, .inl c, e⟩
      show s.l = qaz (yah l) ++ _
      rw [yah, if_pos c, d]; exact b
    · rw [if_neg h1] at h; cases h
theorem rowR6_put {l : List Fld} (h : qcf l = true ∨ l = []) (hn : ∀ x ∈ l, x.In) (t : List UInt8) : qba ⟨qaz (yah l) ++ t, false⟩ = (l, ⟨t, false⟩) := by
  have hl := qa4 l
  have ht := RS.text_put (yah l) t 1000 (by omega) (by omega)
  simp only [qba, ht]
  rcases h with h | rfl
  · have hp : (putF l ≠ []) := by
      rw [putF]; intro e
      have := congrArg List.length e
      simp [yak] at this
    rw [yah, if_pos h, if_neg hp, getT_put h hn]; rfl
  · rfl
theorem num6_inv {s : RS} (h : (zco s).2.w = false) : s.w = false ∧ s.l = nb (zco s).1 8 ++ (zco s).2.l ∧ 0 ≤ (zco s).1 := by
  have hr := s.num_range 8
  unfold zco at h ⊢
  by_cases hc : 4611686018427387904 ≤ (s.num 8).1
  · rw [if_pos hc] at h; cases h
  · rw [if_neg hc] at h ⊢
    obtain ⟨a, b⟩ := zb5 h
    exact ⟨a, by rw [nb, qc0 hr.1 (by omega)]; exact b, hr.1⟩
theorem num6_put {v : Int} (h0 : 0 ≤ v) (h1 : v < 4611686018427387904) (t : List UInt8) : zco ⟨nb v 8 ++ t, false⟩ = (v, ⟨t, false⟩) := by
  have a := qbv (n := 8) h0 (by rw [pw8]; omega) (by omega) t
  simp only [zco, a]
  rw [if_neg (by omega)]
theorem yes6_inv {s : RS} (h : (qde s).2.w = false) : s.w = false ∧ s.l = beN (zdp (qde s).1) 1 ++ (qde s).2.l := by
  have hr := s.num_range 1
  unfold qde at h ⊢
  by_cases hc : 1 < (s.num 1).1
  · simp only [if_pos hc] at h; cases h
  · simp only [if_neg hc] at h ⊢
    obtain ⟨a, b⟩ := zb5 h
    refine ⟨a, ?_⟩
    have : zdp ((s.num 1).1 == 1) = (s.num 1).1 := by
      rcases (by omega : (s.num 1).1 = 0 ∨ (s.num 1).1 = 1) with e | e <;> rw [e] <;> rfl
    rw [this]; exact b
theorem yes6_put (b : Bool) (t : List UInt8) : qde ⟨beN (zdp b) 1 ++ t, false⟩ = (b, ⟨t, false⟩) := by
  have a := num_bit b t
  simp only [qde, a, bitB_eq]
  rw [if_neg (by cases b <;> decide)]
theorem nb_inv {s : RS} {n : Nat} (hn : n ≤ 8) (h : (s.num n).2.w = false) : s.w = false ∧ s.l = nb (IntKind.i64.wrap (s.num n).1) n ++ (s.num n).2.l := by
  obtain ⟨a, b⟩ := zb5 h
  have hr := s.num_range n
  have h8 : (256 : Int) ^ n ≤ 256 ^ 8 := by
    rcases (by omega : n = 0 ∨ n = 1 ∨ n = 2 ∨ n = 3 ∨ n = 4 ∨ n = 5 ∨ n = 6 ∨ n = 7 ∨ n = 8) with e | e | e | e | e | e | e | e | e <;> rw [e] <;> decide
  rw [pw8] at h8
  refine ⟨a, ?_⟩
  rw [nb, u64_i64 hr.1 (by omega)]; exact b
def qbo (s : RS) : Itm × RS := (⟨IntKind.i64.wrap (s.num 1).1, (zco (s.num 1).2).1, (qba (zco (s.num 1).2).2).1⟩, (qba (zco (s.num 1).2).2).2)
def ybo (s : RS) : Wtr × RS := (⟨IntKind.i64.wrap (s.num 1).1, IntKind.i64.wrap ((s.num 1).2.num 4).1, (qde ((s.num 1).2.num 4).2).1, (qba (qde ((s.num 1).2.num 4).2).2).1⟩, (qba (qde ((s.num 1).2.num 4).2).2).2)
def ydd (c : Int) (s : RS) : Rpl × RS := (⟨c, IntKind.i64.wrap (s.num 4).1, IntKind.i64.wrap ((s.num 4).2.num 1).1, (qba (qde ((s.num 4).2.num 1).2).2).1, (qde ((s.num 4).2.num 1).2).1⟩, (qba (qde ((s.num 4).2.num 1).2).2).2)
theorem getI6_inv {s : RS} (h : (qbo s).2.w = false) : s.w = false ∧ s.l = zcv (qbo s).1 ++ (qbo s).2.l ∧ ∀ x ∈ (qbo s).1.T, x.In := by
  obtain ⟨a, b, _, c⟩ := rowR6_inv h
  obtain ⟨d, e, _⟩ := num6_inv a
  obtain ⟨f, g⟩ := nb_inv (by omega) d
  refine ⟨f, ?_, c⟩
  show s.l = nb _ 1 ++ (nb _ 8 ++ qaz (yah _)) ++ _
  rw [List.append_assoc, List.append_assoc]
  rw [e, b] at g; exact g
theorem getW6_inv {s : RS} (h : (ybo s).2.w = false) : s.w = false ∧ s.l = ycu (ybo s).1 ++ (ybo s).2.l ∧ ∀ x ∈ (ybo s).1.P, x.In := by
  obtain ⟨a, b, _, c⟩ := rowR6_inv h
  obtain ⟨d, e⟩ := yes6_inv a
  obtain ⟨d2, e2⟩ := nb_inv (by omega) d
  obtain ⟨f, g⟩ := nb_inv (by omega) d2
  refine ⟨f, ?_, c⟩
  show s.l = nb _ 1 ++ (nb _ 4 ++ (beN _ 1 ++ qaz (yah _))) ++ _
  rw [List.append_assoc, List.append_assoc, List.append_assoc]
  rw [e2, e, b] at g; exact g
theorem getL6_inv {c : Int} {s : RS} (h : (ydd c s).2.w = false) : s.w = false ∧ s.l = qbj (ydd c s).1 ++ (ydd c s).2.l ∧ ∀ x ∈ (ydd c s).1.T, x.In := by
  obtain ⟨a, b, _, c⟩ := rowR6_inv h
  obtain ⟨d, e⟩ := yes6_inv a
  obtain ⟨d2, e2⟩ := nb_inv (by omega) d
  obtain ⟨f, g⟩ := nb_inv (by omega) d2
  refine ⟨f, ?_, c⟩
  show s.l = nb _ 4 ++ (nb _ 1 ++ (beN _ 1 ++ qaz (yah _))) ++ _
  rw [List.append_assoc, List.append_assoc, List.append_assoc]
  rw [e2, e, b] at g; exact g
theorem qdc {α : Type} {f : RS → α × RS} {g : α → List UInt8} {p : α → Prop} (hf : ∀ {s}, (f s).2.w = false → s.w = false ∧ s.l = g (f s).1 ++ (f s).2.l ∧ p (f s).1) : ∀ (n : Nat) {s : RS}, (zag f n s).2.w = false → s.w = false ∧ s.l = (zag f n s).1.flatMap g ++ (zag f n s).2.l ∧ ∀ x ∈ (zag f n s).1, p x
  | 0, s, h => ⟨h, rfl, fun x hx => by cases hx⟩
  | n + 1, s, h => by
    obtain ⟨a, b, q⟩ := qdc hf n h
    obtain ⟨c, d, r⟩ := hf a
    refine ⟨c, ?_, ?_⟩
    · show s.l = ((f s).1 :: (zag f n (f s).2).1).flatMap g ++ (zag f n (f s).2).2.l
      rw [List.flatMap_cons, List.append_assoc]
      rw [b] at d; exact d
    · intro x hx
      rcases List.mem_cons.1 hx with rfl | hx
      · exact r
      · exact q x hx
def gL6 (s : RS) : Nat → List Rpl × RS
  | 0 => ([], s)
  | j + 1 => ((gL6 s j).1 ++ [(ydd j (gL6 s j).2).1], (ydd j (gL6 s j).2).2)
theorem gL6_inv (s : RS) : ∀ j, (gL6 s j).2.w = false → s.w = false ∧ s.l = (gL6 s j).1.flatMap qbj ++ (gL6 s j).2.l ∧ ∀ x ∈ (gL6 s j).1, ∀ f ∈ x.T, f.In
  | 0, h => ⟨h, rfl, fun x hx => by cases hx⟩
  | j + 1, h => by
    obtain ⟨c, d, r⟩ := getL6_inv h
    obtain ⟨a, b, q⟩ := gL6_inv s j c
    refine ⟨a, ?_, ?_⟩
    · show s.l = ((gL6 s j).1 ++ [(ydd j (gL6 s j).2).1]).flatMap qbj ++ (ydd j (gL6 s j).2).2.l
      rw [List.flatMap_append, List.append_assoc, List.flatMap_cons, List.flatMap_nil, List.append_nil]
      rw [d] at b; exact b
    · intro x hx
      rcases List.mem_append.1 hx with hx | hx
      · exact q x hx
      · rw [List.mem_singleton.1 hx]; exact r
theorem gL6_len (s : RS) : ∀ j, (gL6 s j).1.length = j
  | 0 => rfl
  | j + 1 => by simp [gL6, gL6_len s j]
def tail6 (a1 r w : Int) (I : List Itm) (s : RS) : Spc × RS :=
  (⟨a1, I, (zag ybo (s.num 1).1.toNat (s.num 1).2).1, r, w, (gL6 (zag ybo (s.num 1).1.toNat (s.num 1).2).2 4).1⟩, (gL6 (zag ybo (s.num 1).1.toNat (s.num 1).2).2 4).2)
def qcv (s : RS) : Spc × RS :=
  tail6 (zco s).1 (IntKind.i64.wrap ((zco s).2.num 1).1) (IntKind.i64.wrap (((zco s).2.num 1).2.num 1).1)
    (zag qbo ((((zco s).2.num 1).2.num 1).2.num 1).1.toNat ((((zco s).2.num 1).2.num 1).2.num 1).2).1
    (zag qbo ((((zco s).2.num 1).2.num 1).2.num 1).1.toNat ((((zco s).2.num 1).2.num 1).2.num 1).2).2
def okS (p : Spc × RS) : Option Spc := if p.2.fine = true ∧ zbw p.1 = true then some p.1 else none
def zdu (b : List UInt8) : Option Spc := okS (qcv ⟨b, false⟩)
theorem getI6_put {x : Itm} {now : Int} (h : qdo x now = true) (hnow : 0 ≤ now) (hn : ∀ f ∈ x.T, f.In) (t : List UInt8) : qbo ⟨zcv x ++ t, false⟩ = (x, ⟨t, false⟩) := by
  simp only [qdo, zat, Bool.and_eq_true, Bool.or_eq_true, decide_eq_true_eq] at h
  obtain ⟨⟨⟨h1, h2⟩, h3⟩, h4⟩ := h
  have h3' : 0 ≤ x.Until ∧ x.Until ≤ 2199023255552 := by omega
  have a := qbv (n := 1) h1 (by show x.Owner < 256; omega) (by omega) (nb x.Until 8 ++ (qaz (yah x.T) ++ t))
  have b := num6_put h3'.1 (by omega) (qaz (yah x.T) ++ t)
  have c := rowR6_put (.inl (ycf h4)) hn t
  simp only [qbo, zcv, List.append_assoc, a, b, c, qam h1 (by omega)]
theorem getW6_put {x : Wtr} (h : ydt x = true) (hn : ∀ f ∈ x.P, f.In) (t : List UInt8) : ybo ⟨ycu x ++ t, false⟩ = (x, ⟨t, false⟩) := by
  simp only [ydt, zat, Bool.and_eq_true, decide_eq_true_eq] at h
  obtain ⟨⟨⟨⟨h1, h2⟩, h3⟩, h4⟩, h5⟩ := h
  have a := qbv (n := 1) h1 (by show x.Client < 256; omega) (by omega) (nb x.Seq 4 ++ (beN (zdp x.Take) 1 ++ (qaz (yah x.P) ++ t)))
  have b := qbv (n := 4) (v := x.Seq) (by omega) (by show x.Seq < 4294967296; omega) (by omega) (beN (zdp x.Take) 1 ++ (qaz (yah x.P) ++ t))
  have c := yes6_put x.Take (qaz (yah x.P) ++ t)
  have d := rowR6_put (.inl h5) hn t
  simp only [ybo, ycu, List.append_assoc, a, b, c, d, qam h1 (by omega), qam (show 0 ≤ x.Seq by omega) (by omega)]
theorem qdm {x : Rpl} {c : Int} (h : zc7 x c = true) (hn : ∀ f ∈ x.T, f.In) (t : List UInt8) : ydd c ⟨qbj x ++ t, false⟩ = (x, ⟨t, false⟩) := by
  simp only [zc7, Bool.and_eq_true, decide_eq_true_eq] at h
  obtain ⟨⟨h1, h2, h3⟩, h4⟩ := h
  have hk : 0 ≤ x.Kind ∧ x.Kind ≤ 6 ∧ (qcf x.T = true ∨ x.T = []) := by
    split at h4
    · simp only [Bool.and_eq_true, decide_eq_true_eq] at h4; exact ⟨by omega, by omega, .inr h4.1.2⟩
    · split at h4
      · exact ⟨by omega, by omega, .inl (ycf h4)⟩
      · simp only [Bool.and_eq_true, decide_eq_true_eq] at h4; exact ⟨by omega, by omega, .inr h4.1.2⟩
  have a := qbv (n := 4) h2 (by show x.Seq < 4294967296; omega) (by omega) (nb x.Kind 1 ++ (beN (zdp x.Late) 1 ++ (qaz (yah x.T) ++ t)))
  have b := qbv (n := 1) hk.1 (by show x.Kind < 256; omega) (by omega) (beN (zdp x.Late) 1 ++ (qaz (yah x.T) ++ t))
  have d := yes6_put x.Late (qaz (yah x.T) ++ t)
  have e := rowR6_put hk.2.2 hn t
  simp only [ydd, qbj, List.append_assoc, a, b, d, e, qam h2 (by omega), qam hk.1 (by omega), ← h1]
theorem parse6_put {s : Spc} (h : zbw s = true) (hn : s.In) (t : List UInt8) : qcv ⟨qby s ++ t, false⟩ = (s, ⟨t, false⟩) := by
  simp only [zbw, Bool.and_eq_true, List.all_eq_true] at h
  obtain ⟨⟨⟨⟨h1, h2⟩, h3⟩, h4⟩, h5⟩ := h
  simp only [mayH, Bool.and_eq_true, decide_eq_true_eq] at h1
  obtain ⟨⟨⟨⟨⟨a1, a2⟩, a3⟩, a4⟩, a5⟩, a6⟩ := h1
  have a3 := fdiv16 a3
  have a4 := fdiv16 a4
  obtain ⟨b1, b2, b3⟩ := hn
  obtain ⟨l0, l1, l2, l3, hl, c0, c1, c2, c3⟩ := four_of h5
  obtain ⟨Now, Items, Waiters, Read, Write, Last⟩ := s
  simp only at *
  subst hl
  have n1 := num6_put (v := Now) a1 (by omega) (nb Read 1 ++ (nb Write 1 ++ (beN Items.length 1 ++ (zcc Items ++ (beN Waiters.length 1 ++ (zch Waiters ++ (qcc [l0, l1, l2, l3] ++ t)))))))
  have n2 := qbv (n := 1) a3.1 (by show Read < 256; omega) (by omega) (nb Write 1 ++ (beN Items.length 1 ++ (zcc Items ++ (beN Waiters.length 1 ++ (zch Waiters ++ (qcc [l0, l1, l2, l3] ++ t))))))
  have n3 := qbv (n := 1) a4.1 (by show Write < 256; omega) (by omega) (beN Items.length 1 ++ (zcc Items ++ (beN Waiters.length 1 ++ (zch Waiters ++ (qcc [l0, l1, l2, l3] ++ t)))))
  have n4 := RS.num_be (Items.length : Int) (by omega) 1 (by show (Items.length : Int) < 256; omega) (zcc Items ++ (beN Waiters.length 1 ++ (zch Waiters ++ (qcc [l0, l1, l2, l3] ++ t))))
  have n5 := zb6 (f := qbo) (g := zcv) Items (beN Waiters.length 1 ++ (zch Waiters ++ (qcc [l0, l1, l2, l3] ++ t))) fun x hx t => getI6_put (h2 x hx) a1 (b1 x hx) t
  have n6 := RS.num_be (Waiters.length : Int) (by omega) 1 (by show (Waiters.length : Int) < 256; omega) (zch Waiters ++ (qcc [l0, l1, l2, l3] ++ t))
  have n7 := zb6 (f := ybo) (g := ycu) Waiters (qcc [l0, l1, l2, l3] ++ t) fun x hx t => getW6_put (h4 x hx) (b2 x hx) t
  have e8 : qcc [l0, l1, l2, l3] ++ t = qbj l0 ++ (qbj l1 ++ (qbj l2 ++ (qbj l3 ++ t))) := by simp [qcc]
  have m0 := qdm c0 (b3 l0 (by simp)) (qbj l1 ++ (qbj l2 ++ (qbj l3 ++ t)))
  have m1 := qdm c1 (b3 l1 (by simp)) (qbj l2 ++ (qbj l3 ++ t))
  have m2 := qdm c2 (b3 l2 (by simp)) (qbj l3 ++ t)
  have m3 := qdm c3 (b3 l3 (by simp)) t
  have n8 : gL6 ⟨qcc [l0, l1, l2, l3] ++ t, false⟩ 4 = ([l0, l1, l2, l3], ⟨t, false⟩) := by
    rw [e8]
    have z0 : ((0 : Nat) : Int) = 0 := rfl
    have z1 : ((1 : Nat) : Int) = 1 := rfl
    have z2 : ((2 : Nat) : Int) = 2 := rfl
    have z3 : ((3 : Nat) : Int) = 3 := rfl
    simp only [gL6, z0, z1, z2, z3, m0, m1, m2, m3, List.nil_append, List.cons_append]
  have f5 : zcc Items = Items.flatMap zcv := rfl
  have f7 : zch Waiters = Waiters.flatMap ycu := rfl
  rw [← f5] at n5
  rw [← f7] at n7
  simp only [qcv, tail6, qby, List.append_assoc, n1, n2, n3, n4, Int.toNat_natCast, n5, n6, n7, n8, qam a3.1 (by omega), qam a4.1 (by omega)]
theorem parse6_inv {s : RS} (h : (qcv s).2.w = false) (h4 : (qcv s).1.Last.length = 4) : s.w = false ∧ s.l = qby (qcv s).1 ++ (qcv s).2.l ∧ (qcv s).1.In := by
  obtain ⟨a, b, r⟩ := gL6_inv _ 4 h
  obtain ⟨a2, b2, r2⟩ := qdc (f := ybo) (g := ycu) (p := fun x => ∀ f ∈ x.P, f.In) (fun h => getW6_inv h) _ a
  obtain ⟨a3, b3⟩ := zb5 a2
  obtain ⟨a4, b4, r4⟩ := qdc (f := qbo) (g := zcv) (p := fun x => ∀ f ∈ x.T, f.In) (fun h => getI6_inv h) _ a3
  obtain ⟨a5, b5⟩ := zb5 a4
  obtain ⟨a6, b6⟩ := nb_inv (by omega) a5
  obtain ⟨a7, b7⟩ := nb_inv (by omega) a6
  obtain ⟨a8, b8, _⟩ := num6_inv a7
  refine ⟨a8, ?_, r4, r2, r⟩
  have hr1 := RS.num_range (((zco s).2.num 1).2.num 1).2 1
  have hr2 := RS.num_range (zag qbo ((((zco s).2.num 1).2.num 1).2.num 1).1.toNat ((((zco s).2.num 1).2.num 1).2.num 1).2).2 1
  have l1 : ((qcv s).1.Items.length : Int) = ((((zco s).2.num 1).2.num 1).2.num 1).1 := by
    show ((zag qbo _ _).1.length : Int) = _
    rw [ybb]; omega
  have l2 : ((qcv s).1.Waiters.length : Int) = ((zag qbo ((((zco s).2.num 1).2.num 1).2.num 1).1.toNat ((((zco s).2.num 1).2.num 1).2.num 1).2).2.num 1).1 := by
    show ((zag ybo _ _).1.length : Int) = _
    rw [ybb]; omega
  rw [qby, l1, l2, b8, b7, b6, b5, b4, b3, b2, b]
  simp only [List.append_assoc]
  rfl
theorem getS6_eq (b : List UInt8) : zdu b = ydm b := by
  cases h : ydm b with
  | some s =>
    obtain ⟨hm, rfl⟩ := getS_some h
    have := parse6_put hm (getS_in h) []
    rw [List.append_nil] at this
    rw [zdu, okS, this, if_pos ⟨rfl, hm⟩]
  | none =>
    cases h6 : zdu b with
    | none => rfl
    | some s =>
      rw [zdu, okS] at h6
      split at h6
      · rename_i hc
        simp only [Option.some.injEq] at h6
        obtain ⟨a, a2⟩ := fine_wl hc.1
        obtain ⟨_, d, e⟩ := parse6_inv a (gL6_len _ 4)
        rw [a2, List.append_nil] at d
        rw [h6] at hc d e
        have := getS_put hc.2 e
        rw [← d] at this
        rw [this] at h; cases h
      · cases h6
end Go.Abs
