/- Ew: a part of the proofs about the tuple space and its bytes. -/
import Derived.Test.YtilfbkhbjkjicaaEg
set_option linter.all false
set_option maxRecDepth 100000
set_option maxHeartbeats 0
namespace Go.Abs
open Go
open Go.Proofs.Try (prog)
/-! ### entries as bytes: what is put is got; a part or more is none -/
structure Req.In (x : Req) : Prop where
  P : ∀ f ∈ x.P, f.In
  T : ∀ f ∈ x.T, f.In
def Ent.In (e : Ent) : Prop := ∀ x ∈ e.List, x.In
theorem parseQ_put {x : Req} (h : mayQ x = true) (hn : x.In) (t : List UInt8) : parseQ ⟨putQ x ++ t, false⟩ = (x, ⟨t, false⟩) := by
  simp only [mayQ, Bool.and_eq_true, decide_eq_true_eq] at h
  obtain ⟨⟨h1, h2, h3, h4, h5, h6⟩, h7, h8⟩ := h
  have hT : (0 ≤ x.Lease ∧ x.Lease ≤ 1099511627776) ∧ (mayP x.T = true ∨ x.T = []) := by
    split at h7
    · simp only [Bool.and_eq_true, decide_eq_true_eq] at h7; exact ⟨h7.2, .inl (mayT_mayP h7.1)⟩
    · simp only [Bool.and_eq_true, decide_eq_true_eq] at h7; exact ⟨by omega, .inr h7.1⟩
  have hP : mayP x.P = true ∨ x.P = [] := by
    split at h8
    · exact .inl h8
    · exact .inr (by simpa using h8)
  have a := num_nb (n := 1) h1 (by show x.Client < 256; omega) (by omega) (nb x.Seq 4 ++ (nb x.Kind 1 ++ (nb x.Lease 8 ++ (textB (fieldsB x.P) ++ (textB (fieldsB x.T) ++ t)))))
  have b := num_nb (n := 4) (v := x.Seq) (by omega) (by show x.Seq < 4294967296; omega) (by omega) (nb x.Kind 1 ++ (nb x.Lease 8 ++ (textB (fieldsB x.P) ++ (textB (fieldsB x.T) ++ t))))
  have c := num_nb (n := 1) (v := x.Kind) (by omega) (by show x.Kind < 256; omega) (by omega) (nb x.Lease 8 ++ (textB (fieldsB x.P) ++ (textB (fieldsB x.T) ++ t)))
  have d := num_nb (n := 8) hT.1.1 (by show x.Lease < 18446744073709551616; omega) (by omega) (textB (fieldsB x.P) ++ (textB (fieldsB x.T) ++ t))
  have e := rowR_put hP hn.P (textB (fieldsB x.T) ++ t)
  have f := rowR_put hT.2 hn.T t
  simp only [parseQ, putQ, List.append_assoc, a, b, c, d, e, f, i64_small h1 (by omega), i64_small (show 0 ≤ x.Seq by omega) (by omega), i64_small (show 0 ≤ x.Kind by omega) (by omega), i64_small hT.1.1 (by omega)]
theorem getQ_put {x : Req} (h : mayQ x = true) (hn : x.In) : getQ (putQ x) = some x := by
  have a := parseQ_put h hn []
  rw [List.append_nil] at a
  rw [getQ, a]
  exact if_pos ⟨rfl, h, rfl⟩
theorem rowQ_put {x : Req} (h : mayQ x = true) (hn : x.In) (t : List UInt8) : rowQ ⟨textB (putQ x) ++ t, false⟩ = (some x, ⟨t, false⟩) := by
  have hl := putQ_len x
  have a := RS.text_put (putQ x) t 2000 (by omega) (by omega)
  simp only [rowQ, a, getQ_put h hn]
theorem parseE_put {e : Ent} (h : mayE e = true) (hn : e.In) (t : List UInt8) : parseE ⟨putE e ++ t, false⟩ = (e, true, ⟨t, false⟩) := by
  simp only [mayE, headE, Bool.and_eq_true, decide_eq_true_eq, List.all_eq_true] at h
  obtain ⟨⟨h1, h2, h3, h4⟩, hq⟩ := h
  have a := num_nb (n := 8) h1 (by show e.Now < 18446744073709551616; omega) (by omega) (beN e.List.length 1 ++ ((e.List.flatMap fun x => textB (putQ x)) ++ t))
  have b := RS.num_be (e.List.length : Int) (by omega) 1 (by show (e.List.length : Int) < 256; omega) ((e.List.flatMap fun x => textB (putQ x)) ++ t)
  have c := getMany_put (f := rowQ) (g := fun o => textB (putQ (o.getD zQ))) (e.List.map some) t (fun o ho t => by
    obtain ⟨x, hx, rfl⟩ := List.mem_map.1 ho
    exact rowQ_put (hq x hx) (hn x hx) t)
  have hf : (e.List.map some).flatMap (fun o : Option Req => textB (putQ (o.getD zQ))) = e.List.flatMap fun x => textB (putQ x) := by rw [List.flatMap_map]; rfl
  rw [hf, List.length_map] at c
  have hm : (min (e.List.length : Int) 9).toNat = e.List.length := by omega
  have hi : (e.List.map some).map (fun o : Option Req => o.getD zQ) = e.List := by rw [List.map_map]; exact List.map_id _
  have ha : (e.List.map some).all Option.isSome = true := by simp
  simp only [parseE, putE, List.append_assoc, a, b, hm, c, hi, ha, i64_small h1 (by omega)]
theorem getEn_put {e : Ent} (h : mayE e = true) (hn : e.In) : getEn (putE e) = some e := by
  have a := parseE_put h hn []
  rw [List.append_nil] at a
  rw [getEn, a]
  exact if_pos ⟨rfl, rfl, h⟩
/-! what is read of a beginning -/
theorem RS.num_stuck (l : List UInt8) (n : Nat) : (RS.num ⟨l, true⟩ n).2.w = true := by simp [RS.num]
theorem RS.raw_stuck (l : List UInt8) (n : Int) : (RS.raw ⟨l, true⟩ n).2.w = true := by simp [RS.raw]
theorem RS.text_stuck (l : List UInt8) (m : Int) : (RS.text ⟨l, true⟩ m).2.w = true := by
  rw [RS.text]
  have h := RS.num_stuck l 4
  generalize (RS.num ⟨l, true⟩ 4).2 = t at h
  obtain ⟨l', w⟩ := t
  subst h
  exact RS.raw_stuck ..
theorem RS.num_more {l : List UInt8} {n : Nat} (h : (RS.num ⟨l, false⟩ n).2.w = false) (c : List UInt8) : RS.num ⟨l ++ c, false⟩ n = ((RS.num ⟨l, false⟩ n).1, ⟨(RS.num ⟨l, false⟩ n).2.l ++ c, false⟩) := by
  by_cases hl : n ≤ l.length
  · have e1 : RS.num ⟨l, false⟩ n = (Go.Abs.num (l.take n), ⟨l.drop n, false⟩) := if_pos ⟨rfl, hl⟩
    have e2 : RS.num ⟨l ++ c, false⟩ n = (Go.Abs.num ((l ++ c).take n), ⟨(l ++ c).drop n, false⟩) := if_pos ⟨rfl, by simp; omega⟩
    rw [e1, e2, List.take_append_of_le_length hl, List.drop_append_of_le_length hl]
  · have e1 : RS.num ⟨l, false⟩ n = (0, ⟨l, true⟩) := if_neg (fun e => hl e.2)
    rw [e1] at h; cases h
theorem RS.raw_more {l : List UInt8} {n : Int} (h : (RS.raw ⟨l, false⟩ n).2.w = false) (c : List UInt8) : RS.raw ⟨l ++ c, false⟩ n = ((RS.raw ⟨l, false⟩ n).1, ⟨(RS.raw ⟨l, false⟩ n).2.l ++ c, false⟩) := by
  by_cases hl : 0 ≤ n ∧ n ≤ l.length
  · have e1 : RS.raw ⟨l, false⟩ n = (l.take n.toNat, ⟨l.drop n.toNat, false⟩) := if_pos ⟨rfl, hl⟩
    have e2 : RS.raw ⟨l ++ c, false⟩ n = ((l ++ c).take n.toNat, ⟨(l ++ c).drop n.toNat, false⟩) := if_pos ⟨rfl, hl.1, by simp; omega⟩
    rw [e1, e2, List.take_append_of_le_length (by omega), List.drop_append_of_le_length (by omega)]
  · have e1 : RS.raw ⟨l, false⟩ n = ([], ⟨l, true⟩) := if_neg (fun e => hl e.2)
    rw [e1] at h; cases h
theorem RS.eta (s : RS) (h : s.w = false) : s = ⟨s.l, false⟩ := by cases s; cases h; rfl
theorem RS.text_more {l : List UInt8} {m : Int} (h : (RS.text ⟨l, false⟩ m).2.w = false) (c : List UInt8) : RS.text ⟨l ++ c, false⟩ m = ((RS.text ⟨l, false⟩ m).1, ⟨(RS.text ⟨l, false⟩ m).2.l ++ c, false⟩) := by
  have hw : (RS.num ⟨l, false⟩ 4).2.w = false := by
    cases hh : (RS.num ⟨l, false⟩ 4).2.w with
    | false => rfl
    | true =>
      rw [RS.text] at h
      generalize (RS.num ⟨l, false⟩ 4).2 = t at h hh
      obtain ⟨l', w⟩ := t
      subst hh
      rw [RS.raw_stuck] at h; cases h
  have e1 := RS.num_more hw c
  simp only [RS.text, e1] at h ⊢
  generalize RS.num ⟨l, false⟩ 4 = p at h hw
  obtain ⟨v, l', w⟩ := p
  simp only at hw
  subst hw
  exact RS.raw_more h c
/-- a reader that, once it fails, fails on, and that reads of more what it reads of less -/
structure RdOn {α : Type} (f : RS → α × RS) : Prop where
  stuck : ∀ l, (f ⟨l, true⟩).2.w = true
  more : ∀ l c, (f ⟨l, false⟩).2.w = false → f ⟨l ++ c, false⟩ = ((f ⟨l, false⟩).1, ⟨(f ⟨l, false⟩).2.l ++ c, false⟩)
theorem RdOn.w {α : Type} {f : RS → α × RS} (r : RdOn f) {s : RS} (h : (f s).2.w = false) : s.w = false := by
  obtain ⟨l, w⟩ := s
  cases w with
  | false => rfl
  | true => rw [r.stuck] at h; cases h
theorem rd_many {α : Type} {f : RS → α × RS} (r : RdOn f) : ∀ n, RdOn (getMany f n)
  | 0 => ⟨fun l => rfl, fun l c _ => rfl⟩
  | n + 1 => by
    have ih := rd_many r n
    refine ⟨fun l => ?_, fun l c h => ?_⟩
    · have a := r.stuck l
      simp only [getMany]
      generalize f ⟨l, true⟩ = p at a
      obtain ⟨x, l', w⟩ := p
      simp only at a
      subst a
      exact ih.stuck _
    · simp only [getMany] at h
      have hw := ih.w h
      have e := r.more l c hw
      simp only [getMany, e]
      generalize f ⟨l, false⟩ = p at h hw
      obtain ⟨x, l', w⟩ := p
      simp only at hw
      subst hw
      have e2 := ih.more l' c h
      simp only [e2]
theorem rd_rowQ : RdOn rowQ := by
  refine ⟨fun l => ?_, fun l c h => ?_⟩
  · exact RS.text_stuck l 2000
  · have e := RS.text_more (m := 2000) h c
    simp only [rowQ, e]
theorem parseE_more {b c : List UInt8} (h : (parseE ⟨b, false⟩).2.2.w = false) : parseE ⟨b ++ c, false⟩ = ((parseE ⟨b, false⟩).1, (parseE ⟨b, false⟩).2.1, ⟨(parseE ⟨b, false⟩).2.2.l ++ c, false⟩) := by
  simp only [parseE] at h
  have h2 := (rd_many rd_rowQ _).w h
  have h1 : ((⟨b, false⟩ : RS).num 8).2.w = false := by
    cases hh : ((⟨b, false⟩ : RS).num 8).2.w with
    | false => rfl
    | true =>
      generalize ((⟨b, false⟩ : RS).num 8).2 = t at h2 hh
      obtain ⟨l', w⟩ := t
      subst hh
      rw [RS.num_stuck] at h2; cases h2
  have e1 := RS.num_more h1 c
  simp only [parseE, e1]
  generalize (⟨b, false⟩ : RS).num 8 = p at h h1 h2
  obtain ⟨v, l1, w⟩ := p
  simp only at h1
  subst h1
  simp only at h h2
  have e2 := RS.num_more h2 c
  simp only [e2]
  generalize RS.num ⟨l1, false⟩ 1 = p at h h2
  obtain ⟨v2, l2, w⟩ := p
  simp only at h2
  subst h2
  simp only at h
  have e3 := (rd_many rd_rowQ _).more l2 c h
  simp only [e3]
theorem fine_w {s : RS} (h : s.fine = true) : s.w = false ∧ s.l = [] := by
  simp only [RS.fine, Bool.and_eq_true, Bool.not_eq_true', decide_eq_true_eq] at h; exact h
theorem getEn_more {e : Ent} (h : mayE e = true) (hn : e.In) {c : List UInt8} (hc : c ≠ []) : getEn (putE e ++ c) = none := by
  rw [getEn, parseE_put h hn c, if_neg]
  rintro ⟨_, h2, _⟩
  exact hc (fine_w h2).2
theorem getEn_less {e : Ent} (h : mayE e = true) (hn : e.In) {b c : List UInt8} (hb : putE e = b ++ c) (hc : c ≠ []) : getEn b = none := by
  rw [getEn, if_neg]
  rintro ⟨_, h2, _⟩
  have a := parseE_more (c := c) (fine_w h2).1
  have p := parseE_put h hn []
  rw [List.append_nil, hb, a] at p
  have := congrArg (fun q : Ent × Bool × RS => q.2.2.l) p
  simp only at this
  rw [(fine_w h2).2, List.nil_append] at this
  exact hc this
theorem putE_inj {e d : Ent} (h : mayE e = true) (hn : e.In) (h' : mayE d = true) (hn' : d.In) (he : putE e = putE d) : e = d := by
  have a := getEn_put h hn
  rw [he, getEn_put h' hn'] at a
  cases a; rfl

end Go.Abs
