/- Et: a part of the proofs about the tuple space and its bytes. -/
import Derived.Test.YtilfbkhbjkjicaaEg
import Derived.Test.YtilfbkhbjkjicaaP2
import Derived.Test.YtilfbkhbjkjicaaMq
import Derived.Test.YtilfbkhbjkjicaaEa
import Derived.Test.YtilfbkhbjkjicaaGw
import Derived.Test.YtilfbkhbjkjicaaN6
set_option linter.all false
set_option maxRecDepth 100000
set_option maxHeartbeats 0
namespace Go.Abs
open Go
open Go.Proofs.Try (prog)
structure Req.In (x : Req) : Prop where
  P : ∀ f ∈ x.P, f.In
  T : ∀ f ∈ x.T, f.In
def Ent.In (e : Ent) : Prop := ∀ x ∈ e.List, x.In
theorem parseQ_put {x : Req} (h : zcp x = true) (hn : x.In) (t : List UInt8) : ydl ⟨qde x ++ t, false⟩ = (x, ⟨t, false⟩) := by
  simp only [zcp, Bool.and_eq_true, decide_eq_true_eq] at h
  obtain ⟨⟨h1, h2, h3, h4, h5, h6⟩, h7, h8⟩ := h
  have hT : (0 ≤ x.Lease ∧ x.Lease ≤ 1099511627776) ∧ (zdt x.T = true ∨ x.T = []) := by
    split at h7
    · simp only [Bool.and_eq_true, decide_eq_true_eq] at h7; exact ⟨h7.2, .inl (mayT_mayP h7.1)⟩
    · simp only [Bool.and_eq_true, decide_eq_true_eq] at h7; exact ⟨by omega, .inr h7.1⟩
  have hP : zdt x.P = true ∨ x.P = [] := by
    split at h8
    · exact .inl h8
    · exact .inr (by simpa using h8)
  have a := num_nb (n := 1) h1 (by show x.Client < 256; omega) (by omega) (nb x.Seq 4 ++ (nb x.Kind 1 ++ (nb x.Lease 8 ++ (qbh (qav x.P) ++ (qbh (qav x.T) ++ t)))))
  have b := num_nb (n := 4) (v := x.Seq) (by omega) (by show x.Seq < 4294967296; omega) (by omega) (nb x.Kind 1 ++ (nb x.Lease 8 ++ (qbh (qav x.P) ++ (qbh (qav x.T) ++ t))))
  have c := num_nb (n := 1) (v := x.Kind) (by omega) (by show x.Kind < 256; omega) (by omega) (nb x.Lease 8 ++ (qbh (qav x.P) ++ (qbh (qav x.T) ++ t)))
  have d := num_nb (n := 8) hT.1.1 (by show x.Lease < 18446744073709551616; omega) (by omega) (qbh (qav x.P) ++ (qbh (qav x.T) ++ t))
  have e := rowR_put hP hn.P (qbh (qav x.T) ++ t)
  have f := rowR_put hT.2 hn.T t
  simp only [ydl, qde, List.append_assoc, a, b, c, d, e, f, zb3 h1 (by omega), zb3 (show 0 ≤ x.Seq by omega) (by omega), zb3 (show 0 ≤ x.Kind by omega) (by omega), zb3 hT.1.1 (by omega)]
theorem getQ_put {x : Req} (h : zcp x = true) (hn : x.In) : getQ (qde x) = some x := by
  have a := parseQ_put h hn []
  rw [List.append_nil] at a
  rw [getQ, a]
  exact if_pos ⟨rfl, h, rfl⟩
theorem rowQ_put {x : Req} (h : zcp x = true) (hn : x.In) (t : List UInt8) : rowQ ⟨qbh (qde x) ++ t, false⟩ = (some x, ⟨t, false⟩) := by
  have hl := putQ_len x
  have a := RS.text_put (qde x) t 2000 (by omega) (by omega)
  simp only [rowQ, a, getQ_put h hn]
theorem parseE_put {e : Ent} (h : zc8 e = true) (hn : e.In) (t : List UInt8) : parseE ⟨putE e ++ t, false⟩ = (e, true, ⟨t, false⟩) := by
  simp only [zc8, qdx, Bool.and_eq_true, decide_eq_true_eq, List.all_eq_true] at h
  obtain ⟨⟨h1, h2, h3, h4⟩, hq⟩ := h
  have a := num_nb (n := 8) h1 (by show e.Now < 18446744073709551616; omega) (by omega) (beN e.List.length 1 ++ ((e.List.flatMap fun x => qbh (qde x)) ++ t))
  have b := RS.num_be (e.List.length : Int) (by omega) 1 (by show (e.List.length : Int) < 256; omega) ((e.List.flatMap fun x => qbh (qde x)) ++ t)
  have c := getMany_put (f := rowQ) (g := fun o => qbh (qde (o.getD zQ))) (e.List.map some) t (fun o ho t => by
    obtain ⟨x, hx, rfl⟩ := List.mem_map.1 ho
    exact rowQ_put (hq x hx) (hn x hx) t)
  have hf : (e.List.map some).flatMap (fun o : Option Req => qbh (qde (o.getD zQ))) = e.List.flatMap fun x => qbh (qde x) := by rw [List.flatMap_map]; rfl
  rw [hf, List.length_map] at c
  have hm : (min (e.List.length : Int) 9).toNat = e.List.length := by omega
  have hi : (e.List.map some).map (fun o : Option Req => o.getD zQ) = e.List := by rw [List.map_map]; exact List.map_id _
  have ha : (e.List.map some).all Option.isSome = true := by simp
  simp only [parseE, putE, List.append_assoc, a, b, hm, c, hi, ha, zb3 h1 (by omega)]
theorem getEn_put {e : Ent} (h : zc8 e = true) (hn : e.In) : getEn (putE e) = some e := by
  have a := parseE_put h hn []
  rw [List.append_nil] at a
  rw [getEn, a]
  exact if_pos ⟨rfl, rfl, h⟩
structure RdOn {α : Type} (f : RS → α × RS) : Prop where
  stuck : ∀ l, (f ⟨l, true⟩).2.w = true
  more : ∀ l c, (f ⟨l, false⟩).2.w = false → f ⟨l ++ c, false⟩ = ((f ⟨l, false⟩).1, ⟨(f ⟨l, false⟩).2.l ++ c, false⟩)
theorem RdOn.w {α : Type} {f : RS → α × RS} (r : RdOn f) {s : RS} (h : (f s).2.w = false) : s.w = false := by
  obtain ⟨l, w⟩ := s
  cases w with
  | false => rfl
  | true => rw [r.stuck] at h; cases h
end Go.Abs
set_option linter.all false
set_option maxRecDepth 100000
set_option maxHeartbeats 0
namespace Go.Abs
open Go
open Go.Proofs.Try (prog)
def fewQ (r : Req) : Bool := fewF r.P && fewF r.T
def fewE (e : Ent) : Bool := decide (e.List.length ≤ 20) && e.List.all fewQ
theorem c_Few11 (e : Ent) (he : e.Small) : Fn prog 26 [eE e] (.bool (fewE e)) := by
  refine run_26 rfl fun h => ?_
  have g1 : za7 (eE e) [1] = some (.list 60 (e.List.map eQ)) := rfl
  have hln := he.n
  by_cases hH : e.List.length ≤ 20
  · have g3 : decide ((20 : Int) < (e.List.length : Int)) = false := by simp; omega
    repeat' (first
    | simp (implicitDefEqProofs := false) only [push_cast, reduceIte, reduceCtorEq, Nat.reduceAdd, Nat.reduceSub, Nat.reduceEqDiff, Nat.reduceLT, Nat.reduceLeDiff, Nat.reduceBEq, Nat.reduceMul, Int.reduceLT, Int.reduceLE, Int.reduceEq, Int.reduceToNat, Int.reduceMul, Int.reduceNeg, Go.Proofs.Try.f26, g1, yb5, qb5, zb5, List.length_map, g3, zad, yae, qad, zae, zab, qae, sst, qab, qaa, yaa, zac, qaq, List.replicate_succ, List.drop_zero]
    | refine Sp2.f ?_ ?_
    | refine Spl.f ?_ ?_ <;> intro hb
    | refine qac rfl (fun b hb => ?_))
    refine zbl (GI1 h ⟨49, [eE e], .own⟩ (fun i => i ≤ e.List.length ∧ ∀ j x, j < i → e.List[j]? = some x → fewQ x = true) (fun i a => [(0, eE e), (1, .ref h.length [0] 49), (2, .bool false), (3, .int .i64 i), (7, a 7), (12, a 12), (21, a 21)])) e.List.length ?_ ?_
    · exact .mk0 ⟨Nat.zero_le _, fun j x hj => absurd hj (Nat.not_lt_zero _)⟩ (by simp) (yas h _) rfl
    rintro i env H ⟨⟨hi, hinv⟩, hT, a0, henv⟩
    refine ⟨hi, ?_⟩
    rw [henv]
    generalize lk env = a
    clear henv env
    by_cases hlt : i < e.List.length
    · obtain ⟨x, hx⟩ : ∃ x, e.List[i]? = some x := ⟨_, List.getElem?_eq_getElem hlt⟩
      have gx := zai eQ hx
      have f1 := c_Few7 x (he.q x (List.mem_of_getElem? hx))
      rw [show (fewF x.P && fewF x.T) = fewQ x from rfl] at f1
      cases hf : fewQ x with
      | false =>
        rw [hf] at f1
        repeat' (first
    | simp (implicitDefEqProofs := false) only [push_cast, reduceIte, reduceCtorEq, Nat.reduceAdd, Nat.reduceSub, Nat.reduceEqDiff, Nat.reduceLT, Nat.reduceLeDiff, Nat.reduceBEq, Nat.reduceMul, Int.reduceLT, Int.reduceLE, Int.reduceEq, Int.reduceToNat, Int.reduceMul, Int.reduceNeg, Go.Proofs.Try.f26, a0, g1, yb5, qb5, zb5, zay, zaz, yaz, List.length_map, yaj hlt, qaj hlt, gx, Int.toNat_natCast, zad, yae, qad, zae, zab, qae, sst, qab, qaa, yaa, zac, qaq, List.replicate_succ, List.drop_zero]
    | refine Sp2.f ?_ ?_
    | refine Spl.f ?_ ?_ <;> intro hb
    | refine qac rfl (fun b hb => ?_)
    | refine zat f1 ?_)
        have : fewE e = false := by
          have hb : e.List.all fewQ = false := by rw [List.all_eq_false]; exact ⟨x, List.mem_of_getElem? hx, by simp [hf]⟩
          simp only [fewE, hb, Bool.and_false]
        exact ⟨hT, by rw [this]⟩
      | true =>
        rw [hf] at f1
        repeat' (first
    | simp (implicitDefEqProofs := false) only [push_cast, reduceIte, reduceCtorEq, Nat.reduceAdd, Nat.reduceSub, Nat.reduceEqDiff, Nat.reduceLT, Nat.reduceLeDiff, Nat.reduceBEq, Nat.reduceMul, Int.reduceLT, Int.reduceLE, Int.reduceEq, Int.reduceToNat, Int.reduceMul, Int.reduceNeg, Go.Proofs.Try.f26, a0, g1, yb5, qb5, zb5, zay, zaz, yaz, List.length_map, yaj hlt, qaj hlt, gx, Int.toNat_natCast, qaf (show i < 9223372036854775807 by omega), zad, yae, qad, zae, zab, qae, sst, qab, qaa, yaa, zac, qaq, List.replicate_succ, List.drop_zero]
    | refine Sp2.f ?_ ?_
    | refine Spl.f ?_ ?_ <;> intro hb
    | refine qac rfl (fun b hb => ?_)
    | refine zat f1 ?_)
        exact .mk0 ⟨hlt, ycg hx hf hinv⟩ hT a0 rfl
    · repeat' (first
    | simp (implicitDefEqProofs := false) only [push_cast, reduceIte, reduceCtorEq, Nat.reduceAdd, Nat.reduceSub, Nat.reduceEqDiff, Nat.reduceLT, Nat.reduceLeDiff, Nat.reduceBEq, Nat.reduceMul, Int.reduceLT, Int.reduceLE, Int.reduceEq, Int.reduceToNat, Int.reduceMul, Int.reduceNeg, Go.Proofs.Try.f26, a0, g1, yb5, qb5, zb5, List.length_map, yal hlt, zad, yae, qad, zae, zab, qae, sst, qab, qaa, yaa, zac, qaq, List.replicate_succ, List.drop_zero]
    | refine Sp2.f ?_ ?_
    | refine Spl.f ?_ ?_ <;> intro hb
    | refine qac rfl (fun b hb => ?_))
      have : fewE e = true := by
        simp only [fewE, decide_eq_true hH, Bool.true_and]
        exact yc5 fun j x hj hx => hinv j x (by omega) hx
      exact ⟨hT, by rw [this]⟩
  · have g3 : decide ((20 : Int) < (e.List.length : Int)) = true := by simp; omega
    repeat' (first
    | simp (implicitDefEqProofs := false) only [push_cast, reduceIte, reduceCtorEq, Nat.reduceAdd, Nat.reduceSub, Nat.reduceEqDiff, Nat.reduceLT, Nat.reduceLeDiff, Nat.reduceBEq, Nat.reduceMul, Int.reduceLT, Int.reduceLE, Int.reduceEq, Int.reduceToNat, Int.reduceMul, Int.reduceNeg, Go.Proofs.Try.f26, g1, yb5, qb5, zb5, List.length_map, g3, zad, yae, qad, zae, zab, qae, sst, qab, qaa, yaa, zac, qaq, List.replicate_succ, List.drop_zero]
    | refine Sp2.f ?_ ?_
    | refine Spl.f ?_ ?_ <;> intro hb
    | refine qac rfl (fun b hb => ?_))
    simp only [fewE, decide_eq_false hH, Bool.false_and]
theorem c_MayEntry6 (e : Ent) (he : e.Small) : Fn prog 29 [eE e] (.bool (zc8 e)) := by
  refine run_29 rfl fun h => ?_
  have g0 : za7 (eE e) [0] = some (.int .i64 e.Now) := rfl
  have g1 : za7 (eE e) [1] = some (.list 60 (e.List.map eQ)) := rfl
  have hln := he.n
  cases hH : qdx e with
  | false =>
    have hm : zc8 e = false := by rw [zc8, hH, Bool.false_and]
    have hH2 := hH
    simp only [qdx, Bool.and_eq_false_iff, decide_eq_false_iff_not] at hH2
    repeat' (first
    | simp (implicitDefEqProofs := false) only [push_cast, reduceIte, reduceCtorEq, Nat.reduceAdd, Nat.reduceSub, Nat.reduceEqDiff, Nat.reduceLT, Nat.reduceLeDiff, Nat.reduceBEq, Nat.reduceMul, Int.reduceLT, Int.reduceLE, Int.reduceEq, Int.reduceToNat, Int.reduceMul, Int.reduceNeg, Go.Proofs.Try.f29, g0, g1, yb5, qb5, zb5, List.length_map, zad, yae, qad, zae, zab, qae, sst, qab, qaa, yaa, zac, qaq, List.replicate_succ, List.drop_zero]
    | refine Sp2.f ?_ ?_
    | refine Spl.f ?_ ?_ <;> intro hb
    | refine qac rfl (fun b hb => ?_))
    all_goals first
      | (exfalso; simp only [decide_eq_true_eq, decide_eq_false_iff_not, Int.not_lt] at *; omega)
      | exact ⟨by simp, by rw [hm]⟩
      | rw [hm]
  | true =>
    have hH2 := hH
    simp only [qdx, Bool.and_eq_true, decide_eq_true_eq] at hH2
    obtain ⟨k1, k2, k3, k4⟩ := hH2
    have d1 : decide (e.Now < 0) = false := by simp; omega
    have d2 : decide ((1099511627776 : Int) < e.Now) = false := by simp; omega
    have d3 : decide ((e.List.length : Int) < 1) = false := by simp; omega
    have d4 : decide ((8 : Int) < (e.List.length : Int)) = false := by simp; omega
    repeat' (first
    | simp (implicitDefEqProofs := false) only [push_cast, reduceIte, reduceCtorEq, Nat.reduceAdd, Nat.reduceSub, Nat.reduceEqDiff, Nat.reduceLT, Nat.reduceLeDiff, Nat.reduceBEq, Nat.reduceMul, Int.reduceLT, Int.reduceLE, Int.reduceEq, Int.reduceToNat, Int.reduceMul, Int.reduceNeg, Go.Proofs.Try.f29, g0, g1, yb5, qb5, zb5, List.length_map, d1, d2, d3, d4, zad, yae, qad, zae, zab, qae, sst, qab, qaa, yaa, zac, qaq, List.replicate_succ, List.drop_zero]
    | refine Sp2.f ?_ ?_
    | refine Spl.f ?_ ?_ <;> intro hb
    | refine qac rfl (fun b hb => ?_))
    refine zbl (GI1 h ⟨49, [eE e], .own⟩ (fun i => i ≤ e.List.length ∧ ∀ j x, j < i → e.List[j]? = some x → zcp x = true) (fun i a => [(0, eE e), (1, .ref h.length [0] 49), (2, .bool false), (3, .int .i64 i), (23, a 23), (28, a 28), (37, a 37)])) e.List.length ?_ ?_
    · exact .mk0 ⟨Nat.zero_le _, fun j x hj => absurd hj (Nat.not_lt_zero _)⟩ (by simp) (yas h _) rfl
    rintro i env H ⟨⟨hi, hinv⟩, hT, a0, henv⟩
    refine ⟨hi, ?_⟩
    rw [henv]
    generalize lk env = a
    clear henv env
    by_cases hlt : i < e.List.length
    · obtain ⟨x, hx⟩ : ∃ x, e.List[i]? = some x := ⟨_, List.getElem?_eq_getElem hlt⟩
      have gx := zai eQ hx
      have f1 := zdr x (he.q x (List.mem_of_getElem? hx))
      rw [mayQ6_eq] at f1
      cases hf : zcp x with
      | false =>
        rw [hf] at f1
        repeat' (first
    | simp (implicitDefEqProofs := false) only [push_cast, reduceIte, reduceCtorEq, Nat.reduceAdd, Nat.reduceSub, Nat.reduceEqDiff, Nat.reduceLT, Nat.reduceLeDiff, Nat.reduceBEq, Nat.reduceMul, Int.reduceLT, Int.reduceLE, Int.reduceEq, Int.reduceToNat, Int.reduceMul, Int.reduceNeg, Go.Proofs.Try.f29, a0, g0, g1, yb5, qb5, zb5, zay, zaz, yaz, List.length_map, yaj hlt, qaj hlt, gx, Int.toNat_natCast, zad, yae, qad, zae, zab, qae, sst, qab, qaa, yaa, zac, qaq, List.replicate_succ, List.drop_zero]
    | refine Sp2.f ?_ ?_
    | refine Spl.f ?_ ?_ <;> intro hb
    | refine qac rfl (fun b hb => ?_)
    | refine zat f1 ?_)
        have : zc8 e = false := by
          have hb : e.List.all zcp = false := by rw [List.all_eq_false]; exact ⟨x, List.mem_of_getElem? hx, by simp [hf]⟩
          simp only [zc8, hb, Bool.and_false]
        exact ⟨hT, by rw [this]⟩
      | true =>
        rw [hf] at f1
        repeat' (first
    | simp (implicitDefEqProofs := false) only [push_cast, reduceIte, reduceCtorEq, Nat.reduceAdd, Nat.reduceSub, Nat.reduceEqDiff, Nat.reduceLT, Nat.reduceLeDiff, Nat.reduceBEq, Nat.reduceMul, Int.reduceLT, Int.reduceLE, Int.reduceEq, Int.reduceToNat, Int.reduceMul, Int.reduceNeg, Go.Proofs.Try.f29, a0, g0, g1, yb5, qb5, zb5, zay, zaz, yaz, List.length_map, yaj hlt, qaj hlt, gx, Int.toNat_natCast, qaf (show i < 9223372036854775807 by omega), zad, yae, qad, zae, zab, qae, sst, qab, qaa, yaa, zac, qaq, List.replicate_succ, List.drop_zero]
    | refine Sp2.f ?_ ?_
    | refine Spl.f ?_ ?_ <;> intro hb
    | refine qac rfl (fun b hb => ?_)
    | refine zat f1 ?_)
        exact .mk0 ⟨hlt, ycg hx hf hinv⟩ hT a0 rfl
    · repeat' (first
    | simp (implicitDefEqProofs := false) only [push_cast, reduceIte, reduceCtorEq, Nat.reduceAdd, Nat.reduceSub, Nat.reduceEqDiff, Nat.reduceLT, Nat.reduceLeDiff, Nat.reduceBEq, Nat.reduceMul, Int.reduceLT, Int.reduceLE, Int.reduceEq, Int.reduceToNat, Int.reduceMul, Int.reduceNeg, Go.Proofs.Try.f29, a0, g0, g1, yb5, qb5, zb5, List.length_map, yal hlt, zad, yae, qad, zae, zab, qae, sst, qab, qaa, yaa, zac, qaq, List.replicate_succ, List.drop_zero]
    | refine Sp2.f ?_ ?_
    | refine Spl.f ?_ ?_ <;> intro hb
    | refine qac rfl (fun b hb => ?_))
      have : zc8 e = true := by
        simp only [zc8, hH, Bool.true_and]
        exact yc5 fun j x hj hx => hinv j x (by omega) hx
      exact ⟨hT, by rw [this]⟩
end Go.Abs
set_option linter.all false
set_option maxRecDepth 100000
set_option maxHeartbeats 0
namespace Go.Abs
open Go
open Go.Proofs.Try (prog)
def R11 : Req := ⟨0, 1, 8, [], [], 0⟩
def E11 : Ent := ⟨5, [R11]⟩
def S11 : Spc := (ybe (newS 15 15) E11).1
theorem t11a : ybe (newS 15 15) E11 = (S11, [⟨0, 1, 1, [], false⟩], 0) := by kernel_rfl
theorem t11b : S11.Now = 5 := by kernel_rfl
theorem t11c : (ybe S11 ⟨4, [R11]⟩).2.2 = 7 := by kernel_rfl
theorem t11d : (ybe (newS 15 15) zE).2.2 = 1 := by kernel_rfl
theorem t11e : zc8 E11 = true := by kernel_rfl
theorem t11f : zc8 zE = false := by kernel_rfl
theorem R11_small : R11.Small := ⟨by simp [R11], by simp [R11]⟩
theorem yds : E11.Small := ⟨by simp [E11], fun x hx => by rw [List.mem_singleton.1 hx]; exact R11_small⟩
theorem E4_small : (⟨4, [R11]⟩ : Ent).Small := ⟨by simp, fun x hx => by rw [List.mem_singleton.1 hx]; exact R11_small⟩
theorem zE_small : zE.Small := ⟨by simp [zE], fun x hx => by simp [zE] at hx⟩
theorem E11_in : E11.In := fun x hx => by rw [List.mem_singleton.1 hx]; exact ⟨by simp [R11], by simp [R11]⟩
theorem zcz (r w : Int) : (newS r w).Small := ⟨⟨by simp [newS], by simp [newS]⟩, ⟨by simp [newS], by simp [newS]⟩, ⟨by simp [newS], by simp [newS]⟩, rfl⟩
theorem S11_small : S11.Small := by
  have e : S11 = (doN E11 (newS 15 15) 1).1 := by rw [S11, ybe, if_pos ⟨(by kernel_rfl : yct (newS 15 15) = true), t11e⟩, if_neg (by decide)]; rfl
  rw [e]
  exact (qb3 E11 (newS 15 15) (zcz ..) yds 1 (Nat.le_refl _)).1
def rq11 : AV := .agg 60 [.int .i64 0, .int .i64 1, .int .i64 8, .nils, .nils, .int .i64 0]
theorem wkd_0 (T : TypeId) (a : AV) : wkd prog 0 T a = a := rfl
theorem w11 {g : FuncId} {r : AV} {H : List Entry} {k : Nat} (hk : H[k]? = some ⟨60, [rq11], .fz⟩) (n : Int) (hp : Fn prog g [eE ⟨n, [R11]⟩] r) : FSpec prog g [.agg 49 [.int .i64 n, .win k [] 60 0 1 1]] H fun r' h' => r' = r ∧ h' = H := by
  refine FSpec.readw wfp 3 [(6, 49)] (args1 := [.agg 49 [.int .i64 n, .list 60 [rq11]]]) ?_ ?_ ?_ hp
  · simp [Go.Abs.bzd, bzdWin, hk, qaw, rq11]
  · exact ⟨by simp [tyB], trivial⟩
  · simp only [wkds, wkd_aggE, qdg, wkd_int, wkd_list, wkd_nils, yap, rq11, sh_49, fl_49, sh_60, fl_60, ydd, List.zipWith_cons_cons, List.zipWith_nil_left, if_true, List.map_cons, List.map_nil]
    rfl
theorem w11s {g : FuncId} {r : AV} {H : List Entry} {k : Nat} (hk : H[k]? = some ⟨60, [rq11], .fz⟩) (s : Spc) (n : Int) (hp : Fn prog g [eS s, eE ⟨n, [R11]⟩] r) : FSpec prog g [eS s, .agg 49 [.int .i64 n, .win k [] 60 0 1 1]] H fun r' h' => r' = r ∧ h' = H := by
  refine FSpec.readw wfp 3 [(0, 29), (6, 49)] (args1 := [eS s, .agg 49 [.int .i64 n, .list 60 [rq11]]]) ?_ ?_ ?_ hp
  · rw [List.map_cons, bzd_datw 3 _ (zcj s)]
    simp [Go.Abs.bzd, bzdWin, hk, qaw, rq11]
  · exact ⟨qbx s, by simp [tyB], trivial⟩
  · simp only [wkds, wkd_0, wkd_aggE, qdg, wkd_int, wkd_list, wkd_nils, yap, rq11, sh_49, fl_49, sh_60, fl_60, ydd, List.zipWith_cons_cons, List.zipWith_nil_left, if_true, List.map_cons, List.map_nil]
    rfl
theorem k_frz11 {g : FuncId} {args raw : List AV} {d : Option Tmp} {s : List Ctl} {env : Env} {h : List Entry} {Q : zau} {k : Nat} {T : TypeId} {es : List AV} (hk : h[k]? = some ⟨T, es, .own⟩) (hne : es ≠ []) (hr : Rk prog g args raw d s env (h.set k ⟨T, es, .fz⟩) Q) : Rk prog g args raw d s env h Q :=
  hr.imp (FSpec.freeze wfp hk rfl hne) (FSpec.freeze wfp hk rfl hne)
theorem c_told11 : Fn prog 27 [] (.bool true) := by
  refine run_27 rfl fun h => ?_
  repeat' (first
    | simp (implicitDefEqProofs := false) only [push_cast, reduceIte, reduceCtorEq, Nat.reduceAdd, Nat.reduceSub, Nat.reduceEqDiff, Nat.reduceLT, Nat.reduceLeDiff, Nat.reduceBEq, Nat.reduceMul, Int.reduceLT, Int.reduceLE, Int.reduceEq, Int.reduceToNat, Int.reduceMul, Int.reduceNeg, Go.Proofs.Try.f27, zad, yae, qad, zae, zab, qae, sst, qab, qaa, yaa, List.replicate_succ, List.drop_zero]
    | refine Sp2.f ?_ ?_
    | refine Spl.f ?_ ?_ <;> intro hb
    | refine qac rfl (fun b hb => ?_))
  refine k_frz11 (k := h.length) (T := 60) (es := [rq11]) (yas ..) (by simp) ?_
  have hs0 : (h ++ [(⟨60, [rq11], .own⟩ : Entry), ⟨49, [.agg 49 [.int .i64 5, .win h.length [] 60 0 1 1]], .own⟩]).set h.length ⟨60, [rq11], .fz⟩ = h ++ [(⟨60, [rq11], .fz⟩ : Entry), ⟨49, [.agg 49 [.int .i64 5, .win h.length [] 60 0 1 1]], .own⟩] := by
    rw [ydv]; rfl
  have hs1 : (h ++ [(⟨60, [.agg 60 [.int .i64 0, .int .i64 1, .int .i64 8, .nils, .nils, .int .i64 0]], .own⟩ : Entry), ⟨49, [.agg 49 [.int .i64 5, .win h.length [] 60 0 1 1]], .own⟩]).set h.length ⟨60, [rq11], .fz⟩ = h ++ [(⟨60, [rq11], .fz⟩ : Entry), ⟨49, [.agg 49 [.int .i64 5, .win h.length [] 60 0 1 1]], .own⟩] := hs0
  rw [hs1]
  have p1 := c_ePut E11 yds
  rw [t11e] at p1
  have hk : ∀ l : List Entry, (h ++ (⟨60, [rq11], .fz⟩ : Entry) :: l)[h.length]? = some ⟨60, [rq11], .fz⟩ := fun l => yas ..
  have e00 : ((0 : Int) == 0) = true := rfl
  have hgB : (putE E11).length ≤ 900000 := by
    have := fm_len (fun x => qbh (qde x)) 604 textQ_len E11.List
    simp only [putE, nb, List.length_append, za3]
    have : E11.List.length = 1 := rfl
    omega
  have g1 := c_eGet (putE E11) hgB
  rw [getEn_put t11e E11_in] at g1
  refine qa1 (w11 (hk _) 5 p1) ?_
  generalize putE E11 = B at g1
  have n1 := c_New6 15 15
  have a1 := qdq (newS 15 15) E11 (zcz ..) yds
  rw [t11a] at a1
  have a2 := qdq S11 ⟨4, [R11]⟩ S11_small E4_small
  rw [t11c] at a2
  have a3 := qdq (newS 15 15) zE (zcz ..) zE_small
  rw [t11d] at a3
  have hN := t11b
  have gN : za7 (eS S11) [0] = some (.int .i64 S11.Now) := rfl
  rw [hN] at gN
  generalize ybe S11 ⟨4, [R11]⟩ = A2 at a2
  generalize ybe (newS 15 15) zE = A3 at a3
  generalize newS 15 15 = S0 at n1 a1 a3
  generalize S11 = S1 at a1 a2 gN
  have m1 := c_eMay E11 yds
  rw [t11e] at m1
  have m2 := c_eMay zE zE_small
  rw [t11f] at m2
  have gE0 : za7 (eE E11) [0] = some (.int .i64 5) := rfl
  have gE1 : za7 (eE E11) [1] = some (.list 60 [eQ R11]) := rfl
  have e11 : ((1 : Int) == 1) = true := rfl
  have e55 : ((5 : Int) == 5) = true := rfl
  have e77 : ((7 : Int) == 7) = true := rfl
  have hEL : eRs [⟨0, 1, 1, [], false⟩] = .list 26 [eR ⟨0, 1, 1, [], false⟩] := rfl
  have gR2 : za7 (eR ⟨0, 1, 1, [], false⟩) [2] = some (.int .i64 1) := rfl
  have hER : eR ⟨0, 1, 1, [], false⟩ = .agg 26 [.int .i64 0, .int .i64 1, .int .i64 1, eFs [], .bool false] := rfl
  rw [hEL] at a1
  rw [hER] at a1
  have e01 : ((0 : Int) + 1 == 1) = true := rfl
  have h01 : ((0 : Int) < 0 + 1) = True := by simp
  repeat' (first
    | simp (implicitDefEqProofs := false) only [push_cast, reduceIte, reduceCtorEq, Nat.reduceAdd, Nat.reduceSub, Nat.reduceEqDiff, Nat.reduceLT, Nat.reduceLeDiff, Nat.reduceBEq, Nat.reduceMul, Int.reduceLT, Int.reduceLE, Int.reduceEq, Int.reduceToNat, Int.reduceMul, Int.reduceNeg, Go.Proofs.Try.f27, e00, e11, e55, e77, gE0, gE1, gN, e01, h01, List.getD_cons_zero, yb5, qb5, zb5, qbx, zcd, yb3, zbm, qbi, ybp, eRs_ty, eRs_pl, eRs_wk, zad, yae, qad, zae, zab, qae, sst, qab, qaa, yaa, List.replicate_succ, List.drop_zero]
    | refine Sp2.f ?_ ?_
    | refine Spl.f ?_ ?_ <;> intro hb
    | refine qac rfl (fun b hb => ?_)
    | refine zat g1 ?_
    | refine zat n1 ?_
    | refine qa1 (w11s (hk _) S0 5 a1) ?_
    | refine qa1 (w11s (hk _) S1 4 a2) ?_
    | refine zat a3 ?_
    | refine qa1 (w11 (hk _) 5 m1) ?_
    | refine zat m2 ?_)
end Go.Abs
