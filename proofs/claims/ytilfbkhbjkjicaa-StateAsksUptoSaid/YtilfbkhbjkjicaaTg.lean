/- Tg: a part of the proofs about the tuple space and its bytes. -/
import Derived.Test.YtilfbkhbjkjicaaCi
import Derived.Test.YtilfbkhbjkjicaaSb
import Derived.Test.YtilfbkhbjkjicaaGv
set_option linter.all false
set_option maxRecDepth 100000
set_option maxHeartbeats 0
namespace Go.Abs
open Go
open Go.Proofs.Try (prog)
def rdE (kb : Nat) (B : List UInt8) (s : RS) : Entry := ⟨162, [.agg 162 [.win kb [] 5 (B.length - s.l.length) s.l.length s.l.length, .bool s.w]], .own⟩
def byE (B : List UInt8) : Entry := ⟨5, B.map eB, .own⟩
structure Rdr (h : List Entry) (kd kb : Nat) (B : List UInt8) (s : RS) : Prop where
  d : h[kd]? = some (rdE kb B s)
  b : h[kb]? = some (byE B)
  suf : s.l = B.drop (B.length - s.l.length)
  len : s.l.length ≤ B.length
  big : B.length ≤ 100000000
theorem Rdr.ne {h : List Entry} {kd kb : Nat} {B : List UInt8} {s : RS} (r : Rdr h kd kb B s) : kd ≠ kb := by
  rintro rfl
  have := r.d.symm.trans r.b
  simp only [rdE, byE, Option.some.injEq, Entry.mk.injEq] at this
  exact absurd this.1 (by decide)
theorem qdi {h : List Entry} {kd kb : Nat} {B : List UInt8} {s : RS} (r : Rdr h kd kb B s) (s' : RS) : yas h.length (rdE kb B s').es = true := by
  have := zac r.b
  simp [rdE, yas, zan, this]
theorem Rdr.set {h : List Entry} {kd kb : Nat} {B : List UInt8} {s s' : RS} (r : Rdr h kd kb B s) (h1 : s'.l = B.drop (B.length - s'.l.length)) (h2 : s'.l.length ≤ B.length) : Rdr (h.set kd (rdE kb B s')) kd kb B s' :=
  ⟨zad (zac r.d), (qac r.ne).trans r.b, h1, h2, r.big⟩
def RS.bad (s : RS) (n : Int) : Bool := s.w || (decide (n < 0) || decide ((s.l.length : Int) < n))
theorem c_right {h : List Entry} {kd kb : Nat} {B : List UInt8} {s : RS} (r : Rdr h kd kb B s) (n : Int) :
    FSpec prog 120 [.ref kd [0] 162, .int .i64 n] h fun r' h' => r' = .bool (!s.bad n) ∧ h' = h.set kd (rdE kb B ⟨s.l, s.bad n⟩) := by
  have hkd := zac r.d
  have hk := r.d
  refine det_set wfp (qdi r _) rfl (frun_120 rfl ?_)
  repeat' (first
    | simp (implicitDefEqProofs := false) only [push_cast, reduceIte, reduceCtorEq, Nat.reduceAdd, Nat.reduceSub, Nat.reduceEqDiff, Nat.reduceLT, Nat.reduceLeDiff, Nat.reduceBEq, Nat.reduceMul, Int.reduceLT, Int.reduceLE, Int.reduceEq, Int.reduceToNat, Int.reduceMul, Int.reduceNeg, Go.Proofs.Try.f120, hk, hkd, rdE, zaj hkd, yag hkd, za4 hkd, yaj hkd, yad, zae, qac, zad, yab, qad, sst, qab, yaa, qaa, List.replicate_succ, List.drop_zero]
    | refine Sp2.f ?_ ?_
    | refine Spl.f ?_ ?_ <;> intro hb
    | refine yac rfl (fun b hb => ?_))
  all_goals (simp only [RS.bad, *, Bool.true_or, Bool.false_or, Bool.or_true, Bool.not_true, Bool.not_false]; exact ⟨by rw [List.take_of_length_le (by simp)], rfl, rfl⟩)
theorem num_snoc (l : List UInt8) (b : UInt8) : num (l ++ [b]) = num l * 256 + (b.toNat : Int) := by
  simp [num, numF, List.foldl_append]
theorem num_take (l : List UInt8) {i : Nat} (h : i < l.length) : num (l.take (i + 1)) = num (l.take i) * 256 + ((l.getD i 0).toNat : Int) := by
  rw [List.take_add_one, List.getElem?_eq_getElem h, Option.toList_some, num_snoc, List.getD_eq_getElem?_getD, List.getElem?_eq_getElem h]; rfl
theorem get_suf {B : List UInt8} {l : List UInt8} (hs : l = B.drop (B.length - l.length)) (hl : l.length ≤ B.length) {i : Nat} (hi : i < l.length) : (B.map eB)[B.length - l.length + i]? = some (eB (l.getD i 0)) := by
  have h2 : B.length - l.length + i < B.length := by omega
  rw [List.getElem?_map, List.getElem?_eq_getElem h2, List.getD_eq_getElem?_getD, List.getElem?_eq_getElem hi]
  have : l[i]? = B[B.length - l.length + i]? := by
    have e : l[i]? = (B.drop (B.length - l.length))[i]? := by rw [← hs]
    rw [e, List.getElem?_drop]
  rw [List.getElem?_eq_getElem hi, List.getElem?_eq_getElem h2] at this
  simp only [Option.some.injEq] at this
  simp [this]
theorem RS.bad_nat (s : RS) (n : Nat) : s.bad n = !decide (s.w = false ∧ n ≤ s.l.length) := by
  obtain ⟨l, w⟩ := s
  cases w
  · by_cases h : n ≤ l.length
    · have a : decide ((n : Int) < 0) = false := by simp
      have b : decide ((l.length : Int) < (n : Int)) = false := by simp; omega
      simp only [RS.bad, a, b, h, and_self, decide_true]; rfl
    · have b : decide ((l.length : Int) < (n : Int)) = true := by simp; omega
      simp only [RS.bad, b, h, and_false, decide_false]; simp
  · simp [RS.bad]
theorem c_RNum {h : List Entry} {kd kb : Nat} {B : List UInt8} {s : RS} (r : Rdr h kd kb B s) (n : Nat) (h1 : 1 ≤ n) (h8 : n ≤ 8) :
    FSpec prog 67 [.ref kd [0] 162, .int .i64 n] h fun r' h' => r' = .int .u64 (s.num n).1 ∧ h' = h.set kd (rdE kb B (s.num n).2) := by
  have hkd := zac r.d
  have hr := c_right r (n : Int)
  have f1 : decide ((n : Int) < 1) = false := by simp; omega
  have f2 : decide ((8 : Int) < (n : Int)) = false := by simp; omega
  refine det_set wfp (qdi r _) rfl (frun_67 rfl ?_)
  by_cases hb : s.w = false ∧ n ≤ s.l.length
  · have hbad : s.bad (n : Int) = false := by rw [RS.bad_nat, decide_eq_true hb]; rfl
    have hnum : s.num n = (num (s.l.take n), ⟨s.l.drop n, false⟩) := by rw [RS.num, if_pos hb]
    rw [hnum]
    rw [hbad] at hr
    have r1 : Rdr (h.set kd (rdE kb B ⟨s.l, false⟩)) kd kb B ⟨s.l, false⟩ := r.set r.suf r.len
    have hd := r1.d
    have hbb := r1.b
    have hset : ∀ E, (h.set kd (rdE kb B ⟨s.l, false⟩)).set kd E = h.set kd E := fun E => List.set_set ..
    have hll : (h.set kd (rdE kb B ⟨s.l, false⟩)).length = h.length := by simp
    generalize h.set kd (rdE kb B ⟨s.l, false⟩) = H at hr hd hbb hset hll
    repeat' (first
    | simp (implicitDefEqProofs := false) only [push_cast, reduceIte, reduceCtorEq, Nat.reduceAdd, Nat.reduceSub, Nat.reduceEqDiff, Nat.reduceLT, Nat.reduceLeDiff, Nat.reduceBEq, Nat.reduceMul, Int.reduceLT, Int.reduceLE, Int.reduceEq, Int.reduceToNat, Int.reduceMul, Int.reduceNeg, Go.Proofs.Try.f67, f1, f2, yad, zae, qac, zad, yab, qad, sst, qab, yaa, qaa, List.replicate_succ, List.drop_zero]
    | refine Sp2.f ?_ ?_
    | refine Spl.f ?_ ?_ <;> intro hb
    | refine yac rfl (fun b hb => ?_)
    | refine yal hr ?_)
    refine qax (fun i a => [(0, .ref kd [0] 162), (1, .int .i64 n), (4, a 4), (5, .int .u64 (num (s.l.take i))), (6, a 6), (12, a 12), (16, a 16), (17, .int .i64 n), (18, .int .i64 i), (19, a 19)]) (fun _ _ => H) (fun i => i ≤ n) n (za3 ?_ ⟨[], rfl⟩ (Nat.zero_le _)) ?_
    · rfl
    rintro i a g hi
    refine ⟨hi, ?_⟩
    by_cases hlt : i < n
    · have gi := get_suf r.suf r.len (show i < s.l.length by omega)
      have hnt := num_take s.l (show i < s.l.length by omega)
      have hrg := num_range (s.l.take i)
      have hpw : (256 : Int) ^ (s.l.take i).length ≤ 72057594037927936 := by
        have : (s.l.take i).length ≤ 7 := by simp; omega
        rcases (by omega : (s.l.take i).length = 0 ∨ (s.l.take i).length = 1 ∨ (s.l.take i).length = 2 ∨ (s.l.take i).length = 3 ∨ (s.l.take i).length = 4 ∨ (s.l.take i).length = 5 ∨ (s.l.take i).length = 6 ∨ (s.l.take i).length = 7) with e | e | e | e | e | e | e | e <;> rw [e] <;> decide
      have hor := or_add (v := num (s.l.take i)) (b := s.l.getD i 0) hrg.1 (by omega)
      rw [← hnt] at hor
      generalize s.l.getD i 0 = b at gi hor
      have hcv : IntKind.wrap .u64 (b.toNat : Int) = (b.toNat : Int) := by have := b.toNat_lt; rw [zak]; omega
      have hin := yar (show i < s.l.length by omega)
      repeat' (first
    | simp (implicitDefEqProofs := false) only [push_cast, reduceIte, reduceCtorEq, Nat.reduceAdd, Nat.reduceSub, Nat.reduceEqDiff, Nat.reduceLT, Nat.reduceLeDiff, Nat.reduceBEq, Nat.reduceMul, Int.reduceLT, Int.reduceLE, Int.reduceEq, Int.reduceToNat, Int.reduceMul, Int.reduceNeg, Go.Proofs.Try.f67, hd, hbb, gi, hor, hcv, hin, zau hlt, rdE, byE, eB_eq, Int.toNat_natCast, qae (show i < 9223372036854775807 by omega), yad, zae, qac, zad, yab, qad, sst, qab, yaa, qaa, List.replicate_succ, List.drop_zero]
    | refine Sp2.f ?_ ?_
    | refine Spl.f ?_ ?_ <;> intro hb
    | refine yac rfl (fun b hb => ?_))
      exact za3 rfl ⟨[], rfl⟩ hlt
    · have hie : i = n := by omega
      have e1 : (0 ≤ (n : Int) ∧ (n : Int) ≤ (s.l.length : Int)) = True := by simp; omega
      have e2 : ((n : Int) ≤ (s.l.length : Int)) = True := by simp; omega
      have e3 : ((0 : Int) ≤ (n : Int)) = True := by simp
      have hkH : kd < H.length := by rw [hll]; exact hkd
      repeat' (first
    | simp (implicitDefEqProofs := false) only [push_cast, reduceIte, reduceCtorEq, Nat.reduceAdd, Nat.reduceSub, Nat.reduceEqDiff, Nat.reduceLT, Nat.reduceLeDiff, Nat.reduceBEq, Nat.reduceMul, Int.reduceLT, Int.reduceLE, Int.reduceEq, Int.reduceToNat, Int.reduceMul, Int.reduceNeg, Go.Proofs.Try.f67, hd, hbb, ya5 hlt, e1, e2, e3, hkH, rdE, byE, Int.toNat_natCast, zaj hkH, yag hkH, za4 hkH, yaj hkH, yad, zae, qac, zad, yab, qad, sst, qab, yaa, qaa, List.replicate_succ, List.drop_zero]
    | refine Sp2.f ?_ ?_
    | refine Spl.f ?_ ?_ <;> intro hb
    | refine yac rfl (fun b hb => ?_))
      · exact .inl (Int.le_refl _)
      · have e4 : B.length - s.l.length + n = B.length - (s.l.length - n) := by have := r.len; omega
        refine ⟨?_, rfl, by rw [hie]; rfl⟩
        rw [List.take_of_length_le (by simp; omega), hset, List.length_drop, Nat.max_self, e4]
  · have hbad : s.bad (n : Int) = true := by rw [RS.bad_nat, decide_eq_false hb]; rfl
    have hnum : s.num n = (0, ⟨s.l, true⟩) := by rw [RS.num, if_neg hb]
    rw [hnum]
    rw [hbad] at hr
    repeat' (first
    | simp (implicitDefEqProofs := false) only [push_cast, reduceIte, reduceCtorEq, Nat.reduceAdd, Nat.reduceSub, Nat.reduceEqDiff, Nat.reduceLT, Nat.reduceLeDiff, Nat.reduceBEq, Nat.reduceMul, Int.reduceLT, Int.reduceLE, Int.reduceEq, Int.reduceToNat, Int.reduceMul, Int.reduceNeg, Go.Proofs.Try.f67, f1, f2, yad, zae, qac, zad, yab, qad, sst, qab, yaa, qaa, List.replicate_succ, List.drop_zero]
    | refine Sp2.f ?_ ?_
    | refine Spl.f ?_ ?_ <;> intro hb
    | refine yac rfl (fun b hb => ?_)
    | refine yal hr ?_)
    exact ⟨by rw [List.take_of_length_le (by simp)], rfl, rfl⟩
theorem c_RRaw {h : List Entry} {kd kb : Nat} {B : List UInt8} {s : RS} (r : Rdr h kd kb B s) (n : Int) :
    FSpec prog 102 [.ref kd [0] 162, .int .i64 n] h fun r' h' => (r' = eBs (s.raw n).1 ∨ ((s.raw n).1 = [] ∧ r' = .nils)) ∧ h' = h.set kd (rdE kb B (s.raw n).2) := by
  have hkd := zac r.d
  have hr := c_right r n
  by_cases hb : s.w = false ∧ 0 ≤ n ∧ n ≤ s.l.length
  · obtain ⟨m, hm⟩ : ∃ m : Nat, n = m := ⟨n.toNat, by omega⟩
    subst hm
    have hml : m ≤ s.l.length := by omega
    have hbad : s.bad (m : Int) = false := by rw [RS.bad_nat, decide_eq_true ⟨hb.1, hml⟩]; rfl
    have hraw : s.raw (m : Int) = (s.l.take m, ⟨s.l.drop m, false⟩) := by rw [RS.raw, if_pos hb]; simp
    rw [hraw]
    rw [hbad] at hr
    have r1 : Rdr (h.set kd (rdE kb B ⟨s.l, false⟩)) kd kb B ⟨s.l, false⟩ := r.set r.suf r.len
    have hd := r1.d
    have hbb := r1.b
    have hset : ∀ E, (h.set kd (rdE kb B ⟨s.l, false⟩)).set kd E = h.set kd E := fun E => List.set_set ..
    have hll : (h.set kd (rdE kb B ⟨s.l, false⟩)).length = h.length := by simp
    have e1 : (0 ≤ (m : Int) ∧ (m : Int) ≤ (s.l.length : Int)) = True := by simp; omega
    have e2 : ((m : Int) ≤ (s.l.length : Int)) = True := by simp; omega
    have e3 : ((0 : Int) ≤ (m : Int)) = True := by simp
    have e4 : B.length - s.l.length + m = B.length - (s.l.length - m) := by have := r.len; omega
    have e5 : (B.length - s.l.length + m ≤ B.length) = True := by have := r.len; simp; omega
    have e9 : (s.l.take m).length = m := by simp; omega
    have e6 : ((B.map eB).drop (B.length - s.l.length)).take m = (s.l.take m).map eB := by
      rw [← List.map_drop, ← r.suf, List.map_take]
    have e7 : decide (m ≤ 4294967296) = true := by have := r.big; have := r.len; simp; omega
    have e8 : decide (s.l.length ≤ 4294967296) = true := by have := r.big; have := r.len; simp; omega
    refine (FSpec.mono (det_set wfp (r := eBs (s.l.take m)) (qdi r _) (qan _ (zbd _)) (frun_102 rfl ?_)) fun r' h' ⟨a1, a2⟩ => ⟨.inl a1, a2⟩)
    have hkH : kd < (h.set kd (rdE kb B ⟨s.l, false⟩)).length := by rw [hll]; exact hkd
    generalize h.set kd (rdE kb B ⟨s.l, false⟩) = H at hr hd hbb hset hll hkH
    have hkB := zac hbb
    have hneb := r.ne
    repeat' (first
    | simp (implicitDefEqProofs := false) only [push_cast, reduceIte, reduceCtorEq, Nat.reduceAdd, Nat.reduceSub, Nat.reduceEqDiff, Nat.reduceLT, Nat.reduceLeDiff, Nat.reduceBEq, Nat.reduceMul, Int.reduceLT, Int.reduceLE, Int.reduceEq, Int.reduceToNat, Int.reduceMul, Int.reduceNeg, Go.Proofs.Try.f102, hd, hbb, e1, e2, e3, e5, e6, e7, e8, e9, hkH, hkB, hneb, Ne.symm hneb, zaj hkB, yag hkB, za4 hkB, yaj hkB, rdE, byE, List.length_map, Int.toNat_natCast, Nat.sub_zero, Nat.add_zero, zaj hkH, yag hkH, za4 hkH, yaj hkH, yad, zae, qac, zad, yab, qad, sst, qab, yaa, qaa, List.replicate_succ, List.drop_zero]
    | refine Sp2.f ?_ ?_
    | refine Spl.f ?_ ?_ <;> intro hb
    | refine yac rfl (fun b hb => ?_)
    | refine yal hr ?_)
    · exact .inl (Int.le_refl _)
    · refine ⟨?_, rfl, ?_⟩
      · rw [← hll, take_set_app, hset, List.length_drop, Nat.max_self, e4]
      · have e10 : ((s.l.take m).map eB).take m = (s.l.take m).map eB := List.take_of_length_le (by simp; omega)
        rw [← hll]
        simp only [rz, Nat.le_refl, if_true, yaa, List.getElem?_cons_zero, yb5, qaq, List.drop_zero, Nat.zero_add, List.length_map, e9, e10, eBs]
  · have hbad : s.bad n = true := by
      simp only [RS.bad, Bool.or_eq_true, decide_eq_true_eq]
      cases hw : s.w
      · right; rcases Classical.em (n < 0) with h | h
        · exact .inl h
        · right; have : ¬ (0 ≤ n ∧ n ≤ s.l.length) := fun hc => hb ⟨hw, hc⟩; omega
      · exact .inl rfl
    have hraw : s.raw n = ([], ⟨s.l, true⟩) := by rw [RS.raw, if_neg hb]
    rw [hraw]
    rw [hbad] at hr
    refine (FSpec.mono (det_set wfp (r := .nils) (qdi r _) rfl (frun_102 rfl ?_)) fun r' h' ⟨a1, a2⟩ => ⟨.inr ⟨rfl, a1⟩, a2⟩)
    repeat' (first
    | simp (implicitDefEqProofs := false) only [push_cast, reduceIte, reduceCtorEq, Nat.reduceAdd, Nat.reduceSub, Nat.reduceEqDiff, Nat.reduceLT, Nat.reduceLeDiff, Nat.reduceBEq, Nat.reduceMul, Int.reduceLT, Int.reduceLE, Int.reduceEq, Int.reduceToNat, Int.reduceMul, Int.reduceNeg, Go.Proofs.Try.f102, yad, zae, qac, zad, yab, qad, sst, qab, yaa, qaa, List.replicate_succ, List.drop_zero]
    | refine Sp2.f ?_ ?_
    | refine Spl.f ?_ ?_ <;> intro hb
    | refine yac rfl (fun b hb => ?_)
    | refine yal hr ?_)
    exact ⟨by rw [List.take_of_length_le (by simp)], rfl, rfl⟩
def RawOK (l : List UInt8) (v : AV) : Prop := v = eBs l ∨ (l = [] ∧ v = .nils)
theorem RawOK.ty {l : List UInt8} {v : AV} (h : RawOK l v) : tyB prog v 30 = true ∧ zah v = true ∧ ∀ n, wk prog (n + 1) 30 v = eBs l := by
  rcases h with rfl | ⟨rfl, rfl⟩
  · exact ⟨zas l, rfl, fun n => by rw [eBs, qcb]⟩
  · exact ⟨by rw [yci, zbl]; rfl, rfl, fun n => by rw [qbr, zbl, za1]; rfl⟩
theorem RS.num_suf {B : List UInt8} {s : RS} (h : s.l = B.drop (B.length - s.l.length)) (hl : s.l.length ≤ B.length) (n : Nat) : (s.num n).2.l = B.drop (B.length - (s.num n).2.l.length) ∧ (s.num n).2.l.length ≤ B.length := by
  unfold RS.num
  split
  · rename_i hc
    simp only [List.length_drop]
    refine ⟨?_, by omega⟩
    have e : s.l.drop n = (B.drop (B.length - s.l.length)).drop n := by rw [← h]
    rw [e, List.drop_drop]
    congr 1; omega
  · exact ⟨h, hl⟩
theorem RS.raw_suf {B : List UInt8} {s : RS} (h : s.l = B.drop (B.length - s.l.length)) (hl : s.l.length ≤ B.length) (n : Int) : (s.raw n).2.l = B.drop (B.length - (s.raw n).2.l.length) ∧ (s.raw n).2.l.length ≤ B.length := by
  unfold RS.raw
  split
  · rename_i hc
    simp only [List.length_drop]
    refine ⟨?_, by omega⟩
    have e : s.l.drop n.toNat = (B.drop (B.length - s.l.length)).drop n.toNat := by rw [← h]
    rw [e, List.drop_drop]
    congr 1; omega
  · exact ⟨h, hl⟩
theorem c_RText {h : List Entry} {kd kb : Nat} {B : List UInt8} {s : RS} (r : Rdr h kd kb B s) (m : Int) :
    FSpec prog 66 [.ref kd [0] 162, .int .i64 m] h fun r' h' => RawOK (s.text m).1 r' ∧ h' = h.set kd (rdE kb B (s.text m).2) := by
  have hkd := zac r.d
  have hn : FSpec prog 67 [.ref kd [0] 162, .int .i64 4] h fun r' h' => r' = .int .u64 (s.num 4).1 ∧ h' = h.set kd (rdE kb B (s.num 4).2) := c_RNum r 4 (by omega) (by omega)
  have hns := RS.num_suf r.suf r.len 4
  have hrg := s.num_range 4
  have h256 : (256 : Int) ^ 4 = 4294967296 := by decide
  have hcv : IntKind.wrap .i64 (s.num 4).1 = (s.num 4).1 := qam hrg.1 (by omega)
  have r1 := r.set hns.1 hns.2
  have hmx : (if m < 0 then (0 : Int) else m) = max m 0 := by split <;> omega
  by_cases hc : max m 0 < (s.num 4).1
  · have ht : s.text m = (s.num 4).2.raw (-1) := by rw [RS.text, if_pos hc]
    have hw := c_RRaw r1 (-1)
    rw [← ht, List.set_set] at hw
    have hcd : decide ((if m < 0 then (0 : Int) else m) < (s.num 4).1) = true := by rw [hmx]; simpa using hc
    refine frun_66 rfl ?_
    repeat' (first
    | simp (implicitDefEqProofs := false) only [push_cast, reduceIte, reduceCtorEq, Nat.reduceAdd, Nat.reduceSub, Nat.reduceEqDiff, Nat.reduceLT, Nat.reduceLeDiff, Nat.reduceBEq, Nat.reduceMul, Int.reduceLT, Int.reduceLE, Int.reduceEq, Int.reduceToNat, Int.reduceMul, Int.reduceNeg, Go.Proofs.Try.f66, hcv, hcd, yad, zae, qac, zad, yab, qad, sst, qab, yaa, qaa, List.replicate_succ, List.drop_zero]
    | refine Sp2.f ?_ ?_
    | refine Spl.f ?_ ?_ <;> intro hb
    | refine yac rfl (fun b hb => ?_)
    | refine yal hn ?_
    | refine ya4 hw fun v H hv => ?_)
    exact hv
  · have ht : s.text m = (s.num 4).2.raw (s.num 4).1 := by rw [RS.text, if_neg hc]
    have hw := c_RRaw r1 (s.num 4).1
    rw [← ht, List.set_set] at hw
    have hcd : decide ((if m < 0 then (0 : Int) else m) < (s.num 4).1) = false := by rw [hmx]; simpa using hc
    refine frun_66 rfl ?_
    repeat' (first
    | simp (implicitDefEqProofs := false) only [push_cast, reduceIte, reduceCtorEq, Nat.reduceAdd, Nat.reduceSub, Nat.reduceEqDiff, Nat.reduceLT, Nat.reduceLeDiff, Nat.reduceBEq, Nat.reduceMul, Int.reduceLT, Int.reduceLE, Int.reduceEq, Int.reduceToNat, Int.reduceMul, Int.reduceNeg, Go.Proofs.Try.f66, hcv, hcd, yad, zae, qac, zad, yab, qad, sst, qab, yaa, qaa, List.replicate_succ, List.drop_zero]
    | refine Sp2.f ?_ ?_
    | refine Spl.f ?_ ?_ <;> intro hb
    | refine yac rfl (fun b hb => ?_)
    | refine yal hn ?_
    | refine ya4 hw fun v H hv => ?_)
    exact hv
theorem c_REnd {h : List Entry} {kd kb : Nat} {B : List UInt8} {s : RS} (r : Rdr h kd kb B s) :
    FSpec prog 68 [.ref kd [0] 162] h fun r' h' => r' = .int .i64 (if s.fine = true then 0 else 2) ∧ h' = h.set kd (rdE kb B s) := by
  have hkd := zac r.d
  have hr := c_right r 0
  have hb0 : s.bad 0 = s.w := by
    have a : decide ((s.l.length : Int) < 0) = false := by simp
    simp only [RS.bad, a]; simp
  rw [hb0] at hr
  have r1 := r.set (s' := s) r.suf r.len
  have hd := r1.d
  refine frun_68 rfl ?_
  cases hw : s.w with
  | true =>
    have hf : s.fine = false := by simp [RS.fine, hw]
    rw [hw] at hr
    repeat' (first
    | simp (implicitDefEqProofs := false) only [push_cast, reduceIte, reduceCtorEq, Nat.reduceAdd, Nat.reduceSub, Nat.reduceEqDiff, Nat.reduceLT, Nat.reduceLeDiff, Nat.reduceBEq, Nat.reduceMul, Int.reduceLT, Int.reduceLE, Int.reduceEq, Int.reduceToNat, Int.reduceMul, Int.reduceNeg, Go.Proofs.Try.f68, yad, zae, qac, zad, yab, qad, sst, qab, yaa, qaa, List.replicate_succ, List.drop_zero]
    | refine Sp2.f ?_ ?_
    | refine Spl.f ?_ ?_ <;> intro hb
    | refine yac rfl (fun b hb => ?_)
    | refine yal hr ?_)
    exact ⟨by rw [hf]; rfl, by rw [← hw]⟩
  | false =>
    rw [hw] at hr
    have e : (⟨s.l, false⟩ : RS) = s := by rw [← hw]
    rw [e] at hr
    have hfe : s.fine = decide (s.l = []) := by simp [RS.fine, hw]
    have hlt : decide ((0 : Int) < (s.l.length : Int)) = !decide (s.l = []) := by cases s.l <;> simp
    rw [hfe]
    by_cases hl : s.l = []
    · have hlt : decide ((0 : Int) < (s.l.length : Int)) = false := by simp [hl]
      rw [decide_eq_true hl, if_pos rfl]
      generalize h.set kd (rdE kb B s) = H at hr hd
      repeat' (first
    | simp (implicitDefEqProofs := false) only [push_cast, reduceIte, reduceCtorEq, Nat.reduceAdd, Nat.reduceSub, Nat.reduceEqDiff, Nat.reduceLT, Nat.reduceLeDiff, Nat.reduceBEq, Nat.reduceMul, Int.reduceLT, Int.reduceLE, Int.reduceEq, Int.reduceToNat, Int.reduceMul, Int.reduceNeg, Go.Proofs.Try.f68, hd, hlt, rdE, yad, zae, qac, zad, yab, qad, sst, qab, yaa, qaa, List.replicate_succ, List.drop_zero]
    | refine Sp2.f ?_ ?_
    | refine Spl.f ?_ ?_ <;> intro hb
    | refine yac rfl (fun b hb => ?_)
    | refine yal hr ?_)
    · have hlt : decide ((0 : Int) < (s.l.length : Int)) = true := by rw [hlt]; simp [hl]
      rw [decide_eq_false hl, if_neg (by simp)]
      generalize h.set kd (rdE kb B s) = H at hr hd
      repeat' (first
    | simp (implicitDefEqProofs := false) only [push_cast, reduceIte, reduceCtorEq, Nat.reduceAdd, Nat.reduceSub, Nat.reduceEqDiff, Nat.reduceLT, Nat.reduceLeDiff, Nat.reduceBEq, Nat.reduceMul, Int.reduceLT, Int.reduceLE, Int.reduceEq, Int.reduceToNat, Int.reduceMul, Int.reduceNeg, Go.Proofs.Try.f68, hd, hlt, rdE, yad, zae, qac, zad, yab, qad, sst, qab, yaa, qaa, List.replicate_succ, List.drop_zero]
    | refine Sp2.f ?_ ?_
    | refine Spl.f ?_ ?_ <;> intro hb
    | refine yac rfl (fun b hb => ?_)
    | refine yal hr ?_)
theorem c_PNew (b : List UInt8) (hb : b.length ≤ 100000000) (h : List Entry) :
    FSpec prog 63 [eBs b] h fun r' H => ∃ kd kb l, r' = .ref kd [0] 162 ∧ H = h ++ l ∧ h.length ≤ kd ∧ h.length ≤ kb ∧ Rdr H kd kb b ⟨b, false⟩ := by
  refine frun_63 rfl ?_
  have e1 : decide (b.length ≤ 4294967296) = true := by simp; omega
  by_cases h0 : b = []
  · subst h0
    repeat' (first
    | simp (implicitDefEqProofs := false) only [push_cast, reduceIte, reduceCtorEq, Nat.reduceAdd, Nat.reduceSub, Nat.reduceEqDiff, Nat.reduceLT, Nat.reduceLeDiff, Nat.reduceBEq, Nat.reduceMul, Int.reduceLT, Int.reduceLE, Int.reduceEq, Int.reduceToNat, Int.reduceMul, Int.reduceNeg, Go.Proofs.Try.f63, eBs, List.length_map, yad, zae, qac, zad, yab, qad, sst, qab, yaa, qaa, List.replicate_succ, List.drop_zero]
    | refine Sp2.f ?_ ?_
    | refine Spl.f ?_ ?_ <;> intro hb
    | refine yac rfl (fun b hb => ?_))
    exact ⟨_, _, _, rfl, rfl, by omega, Nat.le_refl _, ⟨qa9 _ _ 2, zar .., rfl, Nat.le_refl _, hb⟩⟩
  · have e2 : (b.length ≤ 0) = False := by cases b with | nil => exact absurd rfl h0 | cons => simp
    repeat' (first
    | simp (implicitDefEqProofs := false) only [push_cast, reduceIte, reduceCtorEq, Nat.reduceAdd, Nat.reduceSub, Nat.reduceEqDiff, Nat.reduceLT, Nat.reduceLeDiff, Nat.reduceBEq, Nat.reduceMul, Int.reduceLT, Int.reduceLE, Int.reduceEq, Int.reduceToNat, Int.reduceMul, Int.reduceNeg, Go.Proofs.Try.f63, e1, e2, eBs, List.length_map, yad, zae, qac, zad, yab, qad, sst, qab, yaa, qaa, List.replicate_succ, List.drop_zero]
    | refine Sp2.f ?_ ?_
    | refine Spl.f ?_ ?_ <;> intro hb
    | refine yac rfl (fun b hb => ?_))
    refine ⟨_, _, _, rfl, rfl, by omega, Nat.le_add_right _ 1, ⟨?_, qa9 _ _ 1, by simp, Nat.le_refl _, hb⟩⟩
    rw [qa9]
    simp [rdE]
end Go.Abs
set_option linter.all false
set_option maxRecDepth 100000
set_option maxHeartbeats 0
namespace Go.Abs
open Go
open Go.Proofs.Try (prog)
def wrE (v : AV) : Entry := ⟨94, [.agg 94 [v]], .own⟩
structure Wr (X : Nat → Prop) (k : Nat) (l : List UInt8) (h : List Entry) : Prop where
  bd : ∀ j, X j → j < h.length
  own : X k
  ex : ∃ v, h[k]? = some (wrE v) ∧ View X h 5 v (l.map eB)
  big : l.length ≤ 100000000
def WMth (f : FuncId) (args : List AV) (X : Nat → Prop) (k : Nat) (h : List Entry) (l' : List UInt8) : Prop :=
  FSpec prog f (.ref k [0] 94 :: args) h fun r' h'' => r' = .tup [] ∧ Wr (yc7 X h h'') k l' h'' ∧ Keeps X h h''
theorem wr_app {X : Nat → Prop} {k : Nat} {h H H6 : List Entry} {vb v6 : AV} {m : List AV} {x : Entry} (bd : ∀ j, X j → j < h.length) (own : X k) (kp : Keeps X h H) (hH6 : H6[k]? = some (wrE vb)) (hl6 : (H ++ [x]).length ≤ H6.length)
    (hk6 : ∀ j e, (H ++ [x])[j]? = some e → (¬ yc7 X h H j ∨ e.T ≠ 5) → H6[j]? = some e) (hv6 : View (yc7 (yc7 X h H) (H ++ [x]) H6) H6 5 v6 m) (E : Entry) :
    Keeps X h (H6.set k E) ∧ View (yc7 X h (H6.set k E)) (H6.set k E) 5 v6 m := by
  have hl := kp.len
  simp only [List.length_append, List.length_cons, List.length_nil] at hl6
  refine ⟨⟨by simp; omega, fun j hj hx => ?_⟩, ?_⟩
  · have hjk : k ≠ j := by rintro rfl; exact hx own
    rw [List.getElem?_set_ne hjk]
    have e := List.getElem?_eq_getElem hj
    rw [e]
    refine hk6 j _ ?_ (.inl ?_)
    · rw [List.getElem?_append_left (by omega), kp.old j hj hx, e]
    · rintro (a | ⟨a, _⟩)
      · exact hx a
      · omega
  · refine (hv6.set hH6 (show (wrE vb).T ≠ 5 from (by decide : 94 ≠ 5)) E).up ?_
    rintro j ((a | ⟨a, b⟩) | ⟨a, b⟩)
    · exact .inl a
    · exact .inr ⟨a, by simp; omega⟩
    · simp only [List.length_append, List.length_cons, List.length_nil] at a
      exact .inr ⟨by omega, by simpa using b⟩
theorem beN_get (v : Int) : ∀ (n j : Nat), j < n → (beN v n)[j]? = some (u8 (v.fdiv (2 ^ (8 * (n - 1 - j)))))
  | 0, j, h => by omega
  | n + 1, 0, h => by simp [beN]
  | n + 1, j + 1, h => by
    rw [beN, List.getElem?_cons_succ, beN_get v n j (by omega)]
    congr 4; omega
theorem c_WNum {X : Nat → Prop} {k : Nat} {l : List UInt8} {h : List Entry} (w : Wr X k l h) (v : Int) (n : Nat) (h1 : 1 ≤ n) (h8 : n ≤ 8) (hb : l.length + 8 ≤ 100000000) :
    WMth 53 [.int .u64 v, .int .i64 n] X k h (l ++ beN v n) := by
  refine frun_53 rfl ?_
  obtain ⟨bd, own, ⟨v0, hk, hv⟩, _⟩ := w
  have hkl := zac hk
  have f1 : decide ((n : Int) < 1) = false := by simp; omega
  have f2 : decide ((8 : Int) < (n : Int)) = false := by simp; omega
  have f3 : IntKind.wrap .i64 ((n : Int) - 1) = (n : Int) - 1 - (0 : Nat) := by rw [IntWalk.i64_in _ (by omega)]; simp
  have tW : 94 ≠ 5 := by decide
  repeat' (first
    | simp (implicitDefEqProofs := false) only [push_cast, reduceIte, reduceCtorEq, Nat.reduceAdd, Nat.reduceSub, Nat.reduceEqDiff, Nat.reduceLT, Nat.reduceLeDiff, Nat.reduceBEq, Nat.reduceMul, Int.reduceLT, Int.reduceLE, Int.reduceEq, Int.reduceToNat, Int.reduceMul, Int.reduceNeg, Go.Proofs.Try.f53, f1, f2, f3, yad, zae, qac, zad, yab, qad, sst, qab, yaa, qaa, List.replicate_succ, List.drop_zero]
    | refine Sp2.f ?_ ?_
    | refine Spl.f ?_ ?_ <;> intro hb
    | refine yac rfl (fun b hb => ?_))
  refine qau (fun j env' H => j ≤ n ∧ Keeps X h H ∧ (∃ vb, H[k]? = some (wrE vb) ∧ View (yc7 X h H) H 5 vb ((l ++ (beN v n).take j).map eB)) ∧ env' = (fun a : Nat → AV => [(0, .ref k [0] 94), (1, .int .u64 v), (2, .int .i64 n), (6, .int .i64 ((n : Int) - 1 - (j : Int))), (16, a 16), (20, a 20)]) (lk env')) n ?_ ?_
  · refine ⟨Nat.zero_le _, .refl _ _, ⟨v0, hk, ?_⟩, rfl⟩
    rw [List.take_zero, List.append_nil, grow_self]; exact hv
  rintro j env H ⟨hj, kp, ⟨vb, hkH, hvH⟩, henv⟩
  refine ⟨hj, ?_⟩
  rw [henv]
  generalize lk env = a
  clear henv env
  have hkHl := zac hkH
  by_cases hlt : j < n
  · have c1 : decide ((0 : Int) ≤ (n : Int) - 1 - (j : Int)) = true := by simp; omega
    obtain ⟨i, hi⟩ : ∃ i, i = n - 1 - j := ⟨_, rfl⟩
    obtain ⟨m, hm⟩ : ∃ m, m = 8 * i := ⟨_, rfl⟩
    have c2 : IntKind.wrap .i64 (8 * ((n : Int) - 1 - (j : Int))) = (m : Int) := qap m (by omega) (by omega)
    have c3 : IntKind.wrap .u64 (m : Int) = (m : Int) := by rw [zak]; omega
    have c4 : ((m : Int) < 0) = False := by simp
    have c5 : min m IntKind.u64.bits = m := by show min m 64 = m; omega
    have c6 : IntKind.wrap .i64 ((n : Int) - 1 - (j : Int) - 1) = (n : Int) - 1 - ((j : Int) + 1) := by rw [IntWalk.i64_in _ (by omega)]; omega
    have hla := hvH.lenAV
    rw [List.length_map, List.length_append, List.length_take, yak, Nat.min_eq_left hj] at hla
    have c7 : decide (l.length + (j + 1) ≤ 4294967296) = true := by simp; omega
    obtain ⟨v6, H6, hv6, hl6, hk6, hgo⟩ := yb4 (P := prog) (.int .u8 (IntKind.wrap .u8 (v.fdiv (2 ^ m)))) (hvH.app [(⟨5, [.int .u8 (IntKind.wrap .u8 (v.fdiv (2 ^ m)))], .own⟩ : Entry)])
    have hH6 : H6[k]? = some (wrE vb) := hk6 k _ (by rw [List.getElem?_append_left hkHl]; exact hkH) (.inr tW)
    have hkH6 := zac hH6
    rw [show (H ++ [(⟨5, [.int .u8 (IntKind.wrap .u8 (v.fdiv (2 ^ m)))], .own⟩ : Entry)]).length = H.length + 1 by simp] at hgo
    have hty := hv6.ty (U := 30) zbl
    repeat' (first
    | simp (implicitDefEqProofs := false) only [push_cast, reduceIte, reduceCtorEq, Nat.reduceAdd, Nat.reduceSub, Nat.reduceEqDiff, Nat.reduceLT, Nat.reduceLeDiff, Nat.reduceBEq, Nat.reduceMul, Int.reduceLT, Int.reduceLE, Int.reduceEq, Int.reduceToNat, Int.reduceMul, Int.reduceNeg, Go.Proofs.Try.f53, hty, hkH, hkHl, hla, hH6, hkH6, c1, c2, c3, c4, c5, c6, c7, wrE, Int.toNat_natCast, zaj hkHl, yag hkHl, za4 hkHl, yaj hkHl, yad, zae, qac, zad, yab, qad, sst, qab, yaa, qaa, List.replicate_succ, List.drop_zero]
    | refine Sp2.f ?_ ?_
    | refine Spl.f ?_ ?_ <;> intro hb
    | refine yac rfl (fun b hb => ?_)
    | refine hgo _ _ _ _ ?_)
    obtain ⟨k1, v1⟩ := wr_app bd own kp hH6 hl6 hk6 hv6 (wrE v6)
    refine ⟨hlt, k1, v6, rfl, ?_⟩
    have hz : (l ++ (beN v n).take (j + 1)).map eB = (l ++ (beN v n).take j).map eB ++ [.int .u8 (IntKind.wrap .u8 (v.fdiv (2 ^ m)))] := by
      rw [List.take_add_one, beN_get v n j hlt, Option.toList_some, ← List.append_assoc, List.map_append, u8_eq, hm, hi]; rfl
    rw [hz]
    exact v1
  · have c1 : decide ((0 : Int) ≤ (n : Int) - 1 - (j : Int)) = false := by simp; omega
    have hjn : j = n := by omega
    repeat' (first
    | simp (implicitDefEqProofs := false) only [push_cast, reduceIte, reduceCtorEq, Nat.reduceAdd, Nat.reduceSub, Nat.reduceEqDiff, Nat.reduceLT, Nat.reduceLeDiff, Nat.reduceBEq, Nat.reduceMul, Int.reduceLT, Int.reduceLE, Int.reduceEq, Int.reduceToNat, Int.reduceMul, Int.reduceNeg, Go.Proofs.Try.f53, c1, yad, zae, qac, zad, yab, qad, sst, qab, yaa, qaa, List.replicate_succ, List.drop_zero]
    | refine Sp2.f ?_ ?_
    | refine Spl.f ?_ ?_ <;> intro hb
    | refine yac rfl (fun b hb => ?_))
    rw [hjn, List.take_of_length_le (by rw [yak]; exact Nat.le_refl _)] at hvH
    exact ⟨⟨grow_bd bd kp.len, .inl own, ⟨vb, hkH, hvH⟩, by simp [yak]; omega⟩, kp⟩
theorem rh_apps {X : Nat → Prop} {h : List Entry} {T : TypeId} {v : AV} {l : List AV} (ys : List AV) (hv : View X h T v l) :
    ∃ v' h', View (yc7 X h h') h' T v' (l ++ ys) ∧ h.length ≤ h'.length ∧ (∀ j e, h[j]? = some e → (¬ X j ∨ e.T ≠ T) → h'[j]? = some e) ∧
      ∀ (d : Option Tmp) (s : List Ctl) (env : Env) (Q : yap), Rn prog s .normal (ybf env d v') h' Q → Rh prog (zap T ys h.length v) d s env h Q := by
  cases hv with
  | nil =>
    refine ⟨.win h.length [] T 0 ys.length ys.length, h ++ [⟨T, ys, .own⟩], ?_, by simp, fun j e hj _ => by rw [List.getElem?_append_left (zac hj)]; exact hj, fun d s env Q hr => ?_⟩
    · exact View.mk' (l := ys) [] (.inr ⟨Nat.le_refl _, by simp⟩) (by rw [zar]; rfl) (by simp) rfl
    · simp only [zap, rh_new]
      exact hr
  | @win k lo _ z hx hk =>
    have hkl := zac hk
    have htk : (l ++ z).take l.length = l := by simp
    have hle : l.length ≤ (l ++ z).length := by simp
    have hdr : (l ++ z).drop (l.length + ys.length) = z.drop ys.length := by rw [List.drop_append]; simp
    have hkH : (h ++ [(⟨0, [], .hole⟩ : Entry)])[k]? = some ⟨T, l ++ z, .own⟩ := by rw [List.getElem?_append_left hkl]; exact hk
    have hold : ∀ (E : Entry) (m : List Entry) j e, h[j]? = some e → (¬ X j ∨ e.T ≠ T) → (h.set k E ++ m)[j]? = some e := fun E m j e hj hc => by
      rw [List.getElem?_append_left (by simpa using zac hj), List.getElem?_set_ne]
      · exact hj
      · rintro rfl
        rw [hk] at hj
        cases hj
        rcases hc with hc | hc
        · exact hc hx
        · exact hc rfl
    by_cases hfit : l.length + ys.length ≤ lo
    · refine ⟨.win k [] T 0 (l.length + ys.length) lo, h.set k ⟨T, l ++ ys ++ z.drop ys.length, .own⟩ ++ [⟨0, [], .hole⟩], ?_, by simp, hold _ _, fun d s env Q hr => ?_⟩
      · exact View.mk' (l := l ++ ys) (z.drop ys.length) (.inl hx) (by rw [List.getElem?_append_left (by simpa using hkl), List.getElem?_set_self hkl]) rfl (by simp)
      · simp only [zap, yco, and_self, if_true, rh_rd, hkH, ydh, htk, hle, hdr, hfit, rh_ret, yay]
        rw [List.set_append_left _ _ hkl]
        exact hr
    · refine ⟨.win h.length [] T 0 (l.length + ys.length) (l.length + ys.length), h.set k ⟨T, [], .dead⟩ ++ [⟨T, l ++ ys, .own⟩], ?_, by simp, hold _ _, fun d s env Q hr => ?_⟩
      · refine View.mk' (l := l ++ ys) (es := l ++ ys) [] (.inr ⟨Nat.le_refl _, by simp⟩) ?_ (by simp) (by simp)
        have := zar (h.set k ⟨T, [], .dead⟩) [⟨T, l ++ ys, .own⟩]
        rw [List.length_set] at this
        exact this
      · simp only [zap, yco, and_self, if_true, rh_rd, hkH, ydh, htk, hle, hdr, hfit, if_false, rh_ret, yay]
        rw [List.set_append_left _ _ hkl]
        have := set_at0 (h.set k ⟨T, [], .dead⟩) [(⟨0, [], .hole⟩ : Entry)] ⟨T, l ++ ys, .own⟩
        rw [List.length_set] at this
        rw [this]
        exact hr
theorem wr_apps {X : Nat → Prop} {k : Nat} {h H6 : List Entry} {vb v6 : AV} {m : List AV} (own : X k) (hH6 : H6[k]? = some (wrE vb)) (hl6 : h.length ≤ H6.length)
    (hk6 : ∀ j e, h[j]? = some e → (¬ X j ∨ e.T ≠ 5) → H6[j]? = some e) (hv6 : View (yc7 X h H6) H6 5 v6 m) (E : Entry) :
    Keeps X h (H6.set k E) ∧ View (yc7 X h (H6.set k E)) (H6.set k E) 5 v6 m := by
  refine ⟨⟨by simpa using hl6, fun j hj hx => ?_⟩, ?_⟩
  · have hjk : k ≠ j := by rintro rfl; exact hx own
    rw [List.getElem?_set_ne hjk, List.getElem?_eq_getElem hj]
    exact hk6 j _ (List.getElem?_eq_getElem hj) (.inl hx)
  · refine (hv6.set hH6 (show (wrE vb).T ≠ 5 from (by decide : 94 ≠ 5)) E).up ?_
    rintro j (a | ⟨a, b⟩)
    · exact .inl a
    · exact .inr ⟨a, by simpa using b⟩
theorem c_WRaw {X : Nat → Prop} {k : Nat} {l : List UInt8} {h : List Entry} (w : Wr X k l h) (b : List UInt8) (hb : l.length + b.length ≤ 100000000) :
    WMth 101 [eBs b] X k h (l ++ b) := by
  refine frun_101 rfl ?_
  obtain ⟨bd, own, ⟨v0, hk, hv⟩, _⟩ := w
  have hkl := zac hk
  have tW : 94 ≠ 5 := by decide
  obtain ⟨v6, H6, hv6, hl6, hk6, hgo⟩ := rh_apps (b.map eB) hv
  have hH6 : H6[k]? = some (wrE v0) := hk6 k _ hk (.inr tW)
  have hkH6 := zac hH6
  have hla := hv.lenAV
  rw [List.length_map] at hla
  have c7 : decide (l.length + b.length ≤ 4294967296) = true := by simp; omega
  have hty := hv6.ty (U := 30) zbl
  repeat' (first
    | simp (implicitDefEqProofs := false) only [push_cast, reduceIte, reduceCtorEq, Nat.reduceAdd, Nat.reduceSub, Nat.reduceEqDiff, Nat.reduceLT, Nat.reduceLeDiff, Nat.reduceBEq, Nat.reduceMul, Int.reduceLT, Int.reduceLE, Int.reduceEq, Int.reduceToNat, Int.reduceMul, Int.reduceNeg, Go.Proofs.Try.f101, hty, hk, hkl, hla, hH6, hkH6, c7, wrE, eBs, List.length_map, zaj hkl, yag hkl, za4 hkl, yaj hkl, yad, zae, qac, zad, yab, qad, sst, qab, yaa, qaa, List.replicate_succ, List.drop_zero]
    | refine Sp2.f ?_ ?_
    | refine Spl.f ?_ ?_ <;> intro hb
    | refine yac rfl (fun b hb => ?_)
    | refine hgo _ _ _ _ ?_)
  obtain ⟨k1, v1⟩ := wr_apps own hH6 hl6 hk6 hv6 (wrE v6)
  exact ⟨⟨grow_bd bd k1.len, .inl own, ⟨v6, zad hkH6, by rw [List.map_append]; exact v1⟩, by simp; omega⟩, k1⟩
theorem WMth.seq {X : Nat → Prop} {k : Nat} {h h1 h2 : List Entry} {l : List UInt8} (p1 : Keeps X h h1) (p2 : Keeps (yc7 X h h1) h1 h2) (w : Wr (yc7 (yc7 X h h1) h1 h2) k l h2) : Wr (yc7 X h h2) k l h2 ∧ Keeps X h h2 := by
  rw [grow_grow p1.len p2.len] at w
  exact ⟨w, p1.trans p2⟩
theorem c_WText {X : Nat → Prop} {k : Nat} {l : List UInt8} {h : List Entry} (w : Wr X k l h) (b : List UInt8) (hb : l.length + b.length + 8 ≤ 100000000) :
    WMth 54 [eBs b] X k h (l ++ qaz b) := by
  refine frun_54 rfl ?_
  have hc : IntKind.wrap .u64 (b.length : Int) = b.length := by rw [zak]; omega
  have hn : WMth 53 [.int .u64 b.length, .int .i64 4] X k h (l ++ beN b.length 4) := c_WNum w b.length 4 (by omega) (by omega) (by omega)
  repeat' (first
    | simp (implicitDefEqProofs := false) only [push_cast, reduceIte, reduceCtorEq, Nat.reduceAdd, Nat.reduceSub, Nat.reduceEqDiff, Nat.reduceLT, Nat.reduceLeDiff, Nat.reduceBEq, Nat.reduceMul, Int.reduceLT, Int.reduceLE, Int.reduceEq, Int.reduceToNat, Int.reduceMul, Int.reduceNeg, Go.Proofs.Try.f54, hc, eBs, List.length_map, yad, zae, qac, zad, yab, qad, sst, qab, yaa, qaa, List.replicate_succ, List.drop_zero]
    | refine Sp2.f ?_ ?_
    | refine Spl.f ?_ ?_ <;> intro hb
    | refine yac rfl (fun b hb => ?_)
    | refine ya4 hn fun v H ⟨e1, w1, p1⟩ => ?_)
  have hll : (l ++ beN (b.length : Int) 4).length = l.length + 4 := by simp [yak]
  refine ya4 (c_WRaw w1 b (by omega)) fun v2 H2 ⟨e2, w2, p2⟩ => ?_
  repeat' (first
    | simp (implicitDefEqProofs := false) only [push_cast, reduceIte, reduceCtorEq, Nat.reduceAdd, Nat.reduceSub, Nat.reduceEqDiff, Nat.reduceLT, Nat.reduceLeDiff, Nat.reduceBEq, Nat.reduceMul, Int.reduceLT, Int.reduceLE, Int.reduceEq, Int.reduceToNat, Int.reduceMul, Int.reduceNeg, Go.Proofs.Try.f54, yad, zae, qac, zad, yab, qad, sst, qab, yaa, qaa, List.replicate_succ, List.drop_zero]
    | refine Sp2.f ?_ ?_
    | refine Spl.f ?_ ?_ <;> intro hb
    | refine yac rfl (fun b hb => ?_))
  rw [List.append_assoc] at w2
  exact WMth.seq p1 p2 w2
theorem c_WBytes {X : Nat → Prop} {k : Nat} {l : List UInt8} {h : List Entry} (w : Wr X k l h) :
    FSpec prog 57 [.ref k [0] 94] h fun r' h'' => r' = eBs l ∧ h'' = h := by
  refine det_none wfp (qan _ (zbd _)) (frun_57 rfl ?_)
  obtain ⟨bd, own, ⟨v0, hk, hv⟩, big⟩ := w
  have hkl := zac hk
  have e1 : decide (l.length ≤ 4294967296) = true := by simp; omega
  have hlm : (l.map eB).length = l.length := by simp
  have heq : eBs l = .list 5 (l.map eB) := rfl
  rw [heq]
  generalize l.map eB = L at hv hlm
  cases hv with
  | nil =>
    repeat' (first
    | simp (implicitDefEqProofs := false) only [push_cast, reduceIte, reduceCtorEq, Nat.reduceAdd, Nat.reduceSub, Nat.reduceEqDiff, Nat.reduceLT, Nat.reduceLeDiff, Nat.reduceBEq, Nat.reduceMul, Int.reduceLT, Int.reduceLE, Int.reduceEq, Int.reduceToNat, Int.reduceMul, Int.reduceNeg, Go.Proofs.Try.f57, hk, hkl, wrE, zaj hkl, yag hkl, za4 hkl, yaj hkl, yad, zae, qac, zad, yab, qad, sst, qab, yaa, qaa, List.replicate_succ, List.drop_zero]
    | refine Sp2.f ?_ ?_
    | refine Spl.f ?_ ?_ <;> intro hb
    | refine yac rfl (fun b hb => ?_))
    refine ⟨by simp, rfl, ?_⟩
    simp [rz, yb5, qaq]
  | @win kw lo _ z hx hkw =>
    have hkwl := zac hkw
    have htk : (L ++ z).take L.length = L := by simp
    have hle : (L.length ≤ (L ++ z).length) = True := by simp
    rw [← hlm] at e1
    by_cases h0 : L = []
    · subst h0
      repeat' (first
    | simp (implicitDefEqProofs := false) only [push_cast, reduceIte, reduceCtorEq, Nat.reduceAdd, Nat.reduceSub, Nat.reduceEqDiff, Nat.reduceLT, Nat.reduceLeDiff, Nat.reduceBEq, Nat.reduceMul, Int.reduceLT, Int.reduceLE, Int.reduceEq, Int.reduceToNat, Int.reduceMul, Int.reduceNeg, Go.Proofs.Try.f57, hk, hkl, hkw, hkwl, htk, hle, e1, wrE, Nat.zero_le, List.drop_zero, List.length_nil, zaj hkl, yag hkl, za4 hkl, yaj hkl, zaj hkwl, yag hkwl, za4 hkwl, yaj hkwl, yad, zae, qac, zad, yab, qad, sst, qab, yaa, qaa, List.replicate_succ, List.drop_zero]
    | refine Sp2.f ?_ ?_
    | refine Spl.f ?_ ?_ <;> intro hb
    | refine yac rfl (fun b hb => ?_))
      refine ⟨by simp, rfl, ?_⟩
      simp [rz, yb5, qaq]
    · have e2 : (L.length ≤ 0) = False := by cases L with | nil => exact absurd rfl h0 | cons => simp
      repeat' (first
    | simp (implicitDefEqProofs := false) only [push_cast, reduceIte, reduceCtorEq, Nat.reduceAdd, Nat.reduceSub, Nat.reduceEqDiff, Nat.reduceLT, Nat.reduceLeDiff, Nat.reduceBEq, Nat.reduceMul, Int.reduceLT, Int.reduceLE, Int.reduceEq, Int.reduceToNat, Int.reduceMul, Int.reduceNeg, Go.Proofs.Try.f57, hk, hkl, hkw, hkwl, htk, hle, e1, e2, wrE, zaj hkl, yag hkl, za4 hkl, yaj hkl, zaj hkwl, yag hkwl, za4 hkwl, yaj hkwl, yad, zae, qac, zad, yab, qad, sst, qab, yaa, qaa, List.replicate_succ, List.drop_zero]
    | refine Sp2.f ?_ ?_
    | refine Spl.f ?_ ?_ <;> intro hb
    | refine yac rfl (fun b hb => ?_))
      refine ⟨by simp, rfl, ?_⟩
      simp [rz, yb5, qaq]
end Go.Abs
set_option linter.all false
set_option maxRecDepth 100000
set_option maxHeartbeats 0
namespace Go.Abs
open Go
open Go.Proofs.Try (prog)
theorem Wr.up {X Y : Nat → Prop} {k : Nat} {l : List UInt8} {h : List Entry} (w : Wr X k l h) (hX : ∀ j, X j → Y j) (hb : ∀ j, Y j → j < h.length) : Wr Y k l h := by
  obtain ⟨_, o, ⟨v, h1, h2⟩, b⟩ := w
  exact ⟨hb, hX _ o, ⟨v, h1, h2.up hX⟩, b⟩
theorem Wr.app {X : Nat → Prop} {k : Nat} {l : List UInt8} {h : List Entry} (w : Wr X k l h) (m : List Entry) : Wr X k l (h ++ m) := by
  obtain ⟨b, o, ⟨v, h1, h2⟩, g⟩ := w
  exact ⟨fun j hj => by have := b j hj; simp; omega, o, ⟨v, by rw [List.getElem?_append_left (zac h1)]; exact h1, h2.app m⟩, g⟩
def From (n : Nat) (H : List Entry) : Nat → Prop := fun j => n ≤ j ∧ j < H.length
theorem Wr.from {X : Nat → Prop} {k n : Nat} {l : List UInt8} {h : List Entry} (w : Wr X k l h) (hX : ∀ j, X j → n ≤ j) : Wr (From n h) k l h := w.up (fun j hj => ⟨hX j hj, w.bd j hj⟩) fun j hj => hj.2
theorem wr_new (h : List Entry) : Wr (From h.length (h ++ [wrE .nils])) h.length [] (h ++ [wrE .nils]) :=
  ⟨fun j hj => hj.2, ⟨Nat.le_refl _, by simp⟩, ⟨.nils, zar .., .nil⟩, Nat.zero_le _⟩
theorem zcx {n : Nat} {X : Nat → Prop} {h h' : List Entry} (hX : ∀ j, X j → n ≤ j) (hn : n ≤ h.length) : ∀ j, yc7 X h h' j → n ≤ j := by
  rintro j (a | ⟨a, _⟩)
  · exact hX j a
  · omega
theorem putFs_snoc (l : List Fld) {i : Nat} {x : Fld} (h : l[i]? = some x) : qbh (l.take (i + 1)) = qbh (l.take i) ++ qb8 x := by
  rw [List.take_add_one, h, Option.toList_some, qbh, List.flatMap_append]; simp [qbh]
theorem c_tPut (l : List Fld) (hl : l.length ≤ 4294967296) : Fn prog 119 [eFs l] (.tup [eBs (yah l), .int .i64 (if qcf l = true then 0 else 1)]) := by
  refine ybm (R := fun r => ∃ v, r = .tup [v, .int .i64 (if qcf l = true then 0 else 1)] ∧ RawOK (yah l) v) [30, 3] (fn_tup wfp fun h => ?_) ?_
  rotate_left
  · rintro r ⟨v, rfl, hv⟩
    refine ⟨_, rfl, ⟨hv.ty.1, by rw [zc6, sh_3]; rfl, trivial⟩, ?_⟩
    simp only [wks, hv.ty.2.2, qbu]
  refine frun_119 rfl ?_
  cases hm : qcf l with
  | false =>
    have hf := zb0 l hl
    rw [hm] at hf
    have hfb : yah l = [] := by rw [yah, hm]; rfl
    repeat' (first
    | simp (implicitDefEqProofs := false) only [push_cast, reduceIte, reduceCtorEq, Nat.reduceAdd, Nat.reduceSub, Nat.reduceEqDiff, Nat.reduceLT, Nat.reduceLeDiff, Nat.reduceBEq, Nat.reduceMul, Int.reduceLT, Int.reduceLE, Int.reduceEq, Int.reduceToNat, Int.reduceMul, Int.reduceNeg, Go.Proofs.Try.f119, fk_tt, yav, yax, zax, yad, zae, qac, zad, yab, qad, sst, qab, yaa, qaa, List.replicate_succ, List.drop_zero]
    | refine Sp2.f ?_ ?_
    | refine Spl.f ?_ ?_ <;> intro hb
    | refine yac rfl (fun b hb => ?_)
    | refine zay hf ?_)
    exact ⟨_, rfl, rfl, .nils, rfl, .inr ⟨hfb, rfl⟩⟩
  | true =>
    have hf := zb0 l hl
    rw [hm] at hf
    obtain ⟨m1, m6, ma⟩ := zck hm
    have hfb : yah l = putF l := by rw [yah, hm]; rfl
    have hc : IntKind.wrap .u64 (l.length : Int) = l.length := by rw [zak]; omega
    have hn : WMth 53 [.int .u64 l.length, .int .i64 1] (From h.length (h ++ [wrE .nils])) h.length (h ++ [wrE .nils]) ([] ++ beN l.length 1) := c_WNum (wr_new h) l.length 1 (by omega) (by omega) (by simp)
    repeat' (first
    | simp (implicitDefEqProofs := false) only [push_cast, reduceIte, reduceCtorEq, Nat.reduceAdd, Nat.reduceSub, Nat.reduceEqDiff, Nat.reduceLT, Nat.reduceLeDiff, Nat.reduceBEq, Nat.reduceMul, Int.reduceLT, Int.reduceLE, Int.reduceEq, Int.reduceToNat, Int.reduceMul, Int.reduceNeg, Go.Proofs.Try.f119, hc, yav, yax, zax, eFs, List.length_map, yad, zae, qac, zad, yab, qad, sst, qab, yaa, qaa, List.replicate_succ, List.drop_zero]
    | refine Sp2.f ?_ ?_
    | refine Spl.f ?_ ?_ <;> intro hb
    | refine yac rfl (fun b hb => ?_)
    | refine zay hf ?_
    | refine ya4 hn fun v H ⟨e1, w1, p1⟩ => ?_)
    have w2 : Wr (From h.length H) h.length (beN l.length 1 ++ qbh (l.take 0)) H := by
      have := w1.from (n := h.length) (zcx (fun j hj => hj.1) (by simp))
      simpa [qbh] using this
    have t1 : H.take h.length = h := (p1.take (n := h.length) (by simp) (fun j hj => hj.1)).trans (by simp)
    clear hn
    refine qau (fun i env' H => i ≤ l.length ∧ H.take h.length = h ∧ Wr (From h.length H) h.length (beN l.length 1 ++ qbh (l.take i)) H ∧ env' = (fun a : Nat → AV => [(0, .list 160 (l.map eF)), (2, .nils), (3, .int .i64 0), (4, .ref h.length [0] 94), (6, a 6), (9, a 9), (14, .list 160 (l.map eF)), (15, .int .i64 l.length), (16, .int .i64 i), (17, a 17), (25, a 25), (26, a 26), (32, a 32)]) (lk env')) l.length ⟨Nat.zero_le _, t1, w2, rfl⟩ ?_
    clear w2 t1
    rintro i env H ⟨hi, t1, w, henv⟩
    refine ⟨hi, ?_⟩
    rw [henv]
    generalize lk env = a
    clear henv env
    by_cases hlt : i < l.length
    · obtain ⟨x, hx⟩ : ∃ x, l[i]? = some x := ⟨_, List.getElem?_eq_getElem hlt⟩
      have hxa := ma x (List.mem_of_getElem? hx)
      obtain ⟨k1, k5, _, _, _, k40⟩ := zcm hxa
      have hpl : (qbh (l.take i)).length ≤ 45 * 6 := by
        have := zdj (l.take i) fun y hy => ma y (List.mem_of_mem_take hy)
        have : (l.take i).length ≤ 6 := by simp; omega
        omega
      have hw0 : (beN (l.length : Int) 1 ++ qbh (l.take i)).length ≤ 271 := by simp only [List.length_append, yak]; omega
      have hHl : h.length ≤ H.length := by have := w.bd _ w.own; have := w.own.1; omega
      have wA := w.app [(⟨160, [eF x], .own⟩ : Entry)]
      have hn1 : WMth 53 [.int .u64 (IntKind.wrap .u64 x.K), .int .i64 1] (From h.length H) h.length (H ++ [⟨160, [eF x], .own⟩]) _ := c_WNum wA (IntKind.wrap .u64 x.K) 1 (by omega) (by omega) (by omega)
      have hi9 : i < 9223372036854775807 := by omega
      have gx := zal eF hx
      have gK : qbg (eF x) [0] = some (.int .i64 x.K) := rfl
      have gN : qbg (eF x) [1] = some (.int .i64 x.N) := rfl
      have gS : qbg (eF x) [2] = some (.str x.S) := rfl
      have hps := putFs_snoc l hx
      have hbig : ∀ z : List UInt8, z.length ≤ 45 → (beN (l.length : Int) 1 ++ qbh (l.take i) ++ z).length ≤ 316 := fun z hz => by rw [List.length_append]; omega
      repeat' (first
    | simp (implicitDefEqProofs := false) only [push_cast, reduceIte, reduceCtorEq, Nat.reduceAdd, Nat.reduceSub, Nat.reduceEqDiff, Nat.reduceLT, Nat.reduceLeDiff, Nat.reduceBEq, Nat.reduceMul, Int.reduceLT, Int.reduceLE, Int.reduceEq, Int.reduceToNat, Int.reduceMul, Int.reduceNeg, Go.Proofs.Try.f119, zau hlt, yar hlt, gx, gK, eF_ty, List.length_map, Int.toNat_natCast, yad, zae, qac, zad, yab, qad, sst, qab, yaa, qaa, List.replicate_succ, List.drop_zero]
    | refine Sp2.f ?_ ?_
    | refine Spl.f ?_ ?_ <;> intro hb
    | refine yac rfl (fun b hb => ?_))
      refine ya4 hn1 fun v1 H1 ⟨e1, w1, p1⟩ => ?_
      have hcell := p1.get (zar H _) (fun hx => absurd hx.2 (Nat.lt_irrefl _))
      have hX : ∀ j, From h.length H j → h.length ≤ j := fun j hj => hj.1
      have t2 : H1.take h.length = h := (p1.take (n := h.length) (by simp; omega) hX).trans (by rw [List.take_append_of_le_length hHl]; exact t1)
      have hX1 := zcx (h := H ++ [(⟨160, [eF x], .own⟩ : Entry)]) (h' := H1) hX (by simp; omega)
      have hb1 := hbig (beN (IntKind.wrap .u64 x.K) 1) (by simp [yak])
      by_cases e1K : x.K = 1
      · have cK : (x.K == 1) = true := by simpa using e1K
        have hn2 : WMth 53 [.int .u64 (IntKind.wrap .u64 x.N), .int .i64 8] _ h.length H1 _ := c_WNum w1 (IntKind.wrap .u64 x.N) 8 (by omega) (by omega) (by omega)
        repeat' (first
    | simp (implicitDefEqProofs := false) only [push_cast, reduceIte, reduceCtorEq, Nat.reduceAdd, Nat.reduceSub, Nat.reduceEqDiff, Nat.reduceLT, Nat.reduceLeDiff, Nat.reduceBEq, Nat.reduceMul, Int.reduceLT, Int.reduceLE, Int.reduceEq, Int.reduceToNat, Int.reduceMul, Int.reduceNeg, Go.Proofs.Try.f119, hcell, gK, gN, cK, yad, zae, qac, zad, yab, qad, sst, qab, yaa, qaa, List.replicate_succ, List.drop_zero]
    | refine Sp2.f ?_ ?_
    | refine Spl.f ?_ ?_ <;> intro hb
    | refine yac rfl (fun b hb => ?_))
        refine ya4 hn2 fun v2 H2 ⟨e2, w2, p2⟩ => ?_
        repeat' (first
    | simp (implicitDefEqProofs := false) only [push_cast, reduceIte, reduceCtorEq, Nat.reduceAdd, Nat.reduceSub, Nat.reduceEqDiff, Nat.reduceLT, Nat.reduceLeDiff, Nat.reduceBEq, Nat.reduceMul, Int.reduceLT, Int.reduceLE, Int.reduceEq, Int.reduceToNat, Int.reduceMul, Int.reduceNeg, Go.Proofs.Try.f119, qae hi9, yad, zae, qac, zad, yab, qad, sst, qab, yaa, qaa, List.replicate_succ, List.drop_zero]
    | refine Sp2.f ?_ ?_
    | refine Spl.f ?_ ?_ <;> intro hb
    | refine yac rfl (fun b hb => ?_))
        refine ⟨hlt, (p2.take (n := h.length) (by have := congrArg List.length t2; simp at this; omega) hX1).trans t2, ?_⟩
        rw [hps, qb8, if_pos e1K, ← List.append_assoc, ← List.append_assoc]
        exact w2.from (zcx hX1 (by have := congrArg List.length t2; simp at this; omega))
      · have cK : (x.K == 1) = false := by simpa using e1K
        by_cases e2K : x.K = 2
        · have cK2 : (x.K == 2) = true := by simpa using e2K
          have hSl : x.S.data.toList.length = x.S.size := rfl
          have hn2 : WMth 54 [eBs x.S.data.toList] _ h.length H1 _ := c_WText w1 x.S.data.toList (by omega)
          repeat' (first
    | simp (implicitDefEqProofs := false) only [push_cast, reduceIte, reduceCtorEq, Nat.reduceAdd, Nat.reduceSub, Nat.reduceEqDiff, Nat.reduceLT, Nat.reduceLeDiff, Nat.reduceBEq, Nat.reduceMul, Int.reduceLT, Int.reduceLE, Int.reduceEq, Int.reduceToNat, Int.reduceMul, Int.reduceNeg, Go.Proofs.Try.f119, hcell, gK, gS, cK, cK2, yad, zae, qac, zad, yab, qad, sst, qab, yaa, qaa, List.replicate_succ, List.drop_zero]
    | refine Sp2.f ?_ ?_
    | refine Spl.f ?_ ?_ <;> intro hb
    | refine yac rfl (fun b hb => ?_))
          refine ya4 hn2 fun v2 H2 ⟨e2, w2, p2⟩ => ?_
          repeat' (first
    | simp (implicitDefEqProofs := false) only [push_cast, reduceIte, reduceCtorEq, Nat.reduceAdd, Nat.reduceSub, Nat.reduceEqDiff, Nat.reduceLT, Nat.reduceLeDiff, Nat.reduceBEq, Nat.reduceMul, Int.reduceLT, Int.reduceLE, Int.reduceEq, Int.reduceToNat, Int.reduceMul, Int.reduceNeg, Go.Proofs.Try.f119, qae hi9, yad, zae, qac, zad, yab, qad, sst, qab, yaa, qaa, List.replicate_succ, List.drop_zero]
    | refine Sp2.f ?_ ?_
    | refine Spl.f ?_ ?_ <;> intro hb
    | refine yac rfl (fun b hb => ?_))
          refine ⟨hlt, (p2.take (n := h.length) (by have := congrArg List.length t2; simp at this; omega) hX1).trans t2, ?_⟩
          rw [hps, qb8, if_neg e1K, if_pos e2K, ← List.append_assoc, ← List.append_assoc]
          exact w2.from (zcx hX1 (by have := congrArg List.length t2; simp at this; omega))
        · have cK2 : (x.K == 2) = false := by simpa using e2K
          repeat' (first
    | simp (implicitDefEqProofs := false) only [push_cast, reduceIte, reduceCtorEq, Nat.reduceAdd, Nat.reduceSub, Nat.reduceEqDiff, Nat.reduceLT, Nat.reduceLeDiff, Nat.reduceBEq, Nat.reduceMul, Int.reduceLT, Int.reduceLE, Int.reduceEq, Int.reduceToNat, Int.reduceMul, Int.reduceNeg, Go.Proofs.Try.f119, hcell, gK, cK, cK2, qae hi9, yad, zae, qac, zad, yab, qad, sst, qab, yaa, qaa, List.replicate_succ, List.drop_zero]
    | refine Sp2.f ?_ ?_
    | refine Spl.f ?_ ?_ <;> intro hb
    | refine yac rfl (fun b hb => ?_))
          refine ⟨hlt, t2, ?_⟩
          rw [hps, qb8, if_neg e1K, if_neg e2K, List.append_nil, ← List.append_assoc]
          exact w1.from hX1
    · have hie : i = l.length := by omega
      repeat' (first
    | simp (implicitDefEqProofs := false) only [push_cast, reduceIte, reduceCtorEq, Nat.reduceAdd, Nat.reduceSub, Nat.reduceEqDiff, Nat.reduceLT, Nat.reduceLeDiff, Nat.reduceBEq, Nat.reduceMul, Int.reduceLT, Int.reduceLE, Int.reduceEq, Int.reduceToNat, Int.reduceMul, Int.reduceNeg, Go.Proofs.Try.f119, ya5 hlt, fk_tt, yad, zae, qac, zad, yab, qad, sst, qab, yaa, qaa, List.replicate_succ, List.drop_zero]
    | refine Sp2.f ?_ ?_
    | refine Spl.f ?_ ?_ <;> intro hb
    | refine yac rfl (fun b hb => ?_)
    | refine yal (c_WBytes w) ?_)
      have hfb2 : yah l = beN (l.length : Int) 1 ++ qbh (l.take i) := by rw [hfb, putF, hie, List.take_length]
      rw [← hfb2]
      refine ⟨rfl, t1, [eBs (yah l), .int .i64 0], rfl, ?_, ?_⟩
      · simp only [rzL, ybr _ (zbd _), rz, yas, qan _ (zbd _), zan, Bool.and_self]
      · simp only [rzL, ybr _ (zbd _), rz]
        exact ⟨_, rfl, .inl rfl⟩
end Go.Abs
set_option linter.all false
set_option maxRecDepth 100000
set_option maxHeartbeats 0
namespace Go.Abs
open Go
open Go.Proofs.Try (prog)
theorem qdu : ∀ (i : Nat) (s : RS), ya1 (i + 1) s = ((ya1 i s).1 ++ [(zbg (ya1 i s).2).1], (zbg (ya1 i s).2).2)
  | 0, s => rfl
  | i + 1, s => by
    have := qdu i (zbg s).2
    rw [ya1, this]
    simp [ya1]
theorem Rdr.keep {H H' : List Entry} {kd kb : Nat} {B : List UInt8} {s : RS} (r : Rdr H kd kb B s) (h1 : ∀ e, H[kd]? = some e → H'[kd]? = some e) (h2 : ∀ e, H[kb]? = some e → H'[kb]? = some e) : Rdr H' kd kb B s :=
  ⟨h1 _ r.d, h2 _ r.b, r.suf, r.len, r.big⟩
theorem tg_fin {h A H6 : List Entry} {kd kb : Nat} {b : List UInt8} {s : RS} {v6 : AV} {m : List AV} (hT : A.take h.length = h) (hl : h.length ≤ A.length) (r : Rdr A kd kb b s) (hl6 : A.length ≤ H6.length)
    (hk6 : ∀ j e, A[j]? = some e → (¬ h.length ≤ j ∨ e.T ≠ 160) → H6[j]? = some e) (hv6 : View (yc7 (fun j => h.length ≤ j) A H6) H6 160 v6 m) :
    H6.take h.length = h ∧ Rdr H6 kd kb b s ∧ View (fun j => h.length ≤ j) H6 160 v6 m := by
  refine ⟨?_, r.keep (fun e he => hk6 _ _ he (.inr ?_)) (fun e he => hk6 _ _ he (.inr ?_)), hv6.up fun j hj => hj.elim id fun hj => by have := hj.1; omega⟩
  · conv => rhs; rw [← hT]
    apply List.ext_getElem?
    intro j
    rw [List.getElem?_take, List.getElem?_take]
    split
    · rename_i hj
      rw [List.getElem?_eq_getElem (show j < A.length by omega)]
      exact hk6 j _ (List.getElem?_eq_getElem _) (.inl (by omega))
    · rfl
  · rw [r.d] at he; cases he; exact (by decide : 162 ≠ 160)
  · rw [r.b] at he; cases he; exact (by decide : 5 ≠ 160)
theorem zds {h l : List Entry} {k : Nat} {e e' : Entry} : (h.set k e ++ l).set h.length e' = h.set k e ++ l.set 0 e' := by
  have := set_at0 (h.set k e) l e'
  simpa using this
theorem qb6 : ∀ (i : Nat) (s : RS), (ya1 i s).1.length = i
  | 0, s => rfl
  | i + 1, s => by simp [ya1, qb6 i]
theorem RawOK.str {l : List UInt8} {v : AV} (h : RawOK l v) : qbk prog 30 9 v = .ret (.str ⟨l.toArray⟩) [] := by
  have e : strA (l.map eB) = ⟨l.toArray⟩ := by
    have : (l.map eB).map u8A = l := by
      rw [List.map_map]
      conv => rhs; rw [← List.map_id l]
      refine List.map_congr_left fun b _ => ?_
      simp [eB, u8A]
    rw [strA, this]
  rcases h with rfl | ⟨rfl, rfl⟩
  · simp only [eBs, qbk, stConvB, zbl, sh_9, sh_5, and_self, if_true, e]
  · simp only [qbk, stConvB, zbl, sh_9, sh_5, and_self, if_true]
    rfl
theorem Rdr.num {H : List Entry} {kd kb : Nat} {B : List UInt8} {s : RS} (r : Rdr H kd kb B s) (n : Nat) : Rdr (H.set kd (rdE kb B (s.num n).2)) kd kb B (s.num n).2 := r.set (RS.num_suf r.suf r.len n).1 (RS.num_suf r.suf r.len n).2
theorem Rdr.text {H : List Entry} {kd kb : Nat} {B : List UInt8} {s : RS} (r : Rdr H kd kb B s) (m : Int) : Rdr (H.set kd (rdE kb B (s.text m).2)) kd kb B (s.text m).2 := by
  have h1 := RS.num_suf r.suf r.len 4
  have h2 := fun n => RS.raw_suf h1.1 h1.2 n
  exact r.set (h2 _).1 (h2 _).2
theorem view_wkbw2 {X : Nat → Prop} {h : List Entry} {T U : TypeId} {v : AV} {l : List AV} (hv : View X h T v l) (hd : qc8 l = true) (hU : zab prog U = .slice T) (n m : Nat) : bw h (n + 1) (wk prog (m + 1) U v) = .list T l := by
  cases hv with
  | nil => rw [qbr, hU, za1]; rfl
  | win hx hk =>
    rw [wk_win]
    rcases View.bw (View.win (lo := _) hx hk) hd n with h | ⟨h1, h2⟩
    · exact h
    · rw [bw_winE, hk, bwWin_own] at h2 ⊢
      have : qaq (l ++ ‹_›) [] 0 l.length = some l := by simp [qaq]
      rw [this] at h2
      cases h2
theorem c_tGet (b : List UInt8) (hb : b.length ≤ 100000000) : Fn prog 65 [eBs b] (.tup [eFs ((qc7 b).getD []), .int .i64 (if (qc7 b).isSome = true then 0 else 2)]) := by
  refine ybm (R := fun r => ∃ v, r = .tup [v, .int .i64 (if (qc7 b).isSome = true then 0 else 2)] ∧ (v = eFs ((qc7 b).getD []) ∨ ((qc7 b).getD [] = [] ∧ v = .nils))) [24, 3] (fn_tup wfp fun h => ?_) ?_
  rotate_left
  · rintro r ⟨v, rfl, hv⟩
    rcases hv with rfl | ⟨e, rfl⟩
    · exact ⟨_, rfl, ⟨yav _, by rw [zc6, sh_3]; rfl, trivial⟩, by simp only [wks, zax, qbu]⟩
    · exact ⟨_, rfl, ⟨by rw [yci, zc5]; rfl, by rw [zc6, sh_3]; rfl, trivial⟩, by simp only [wks, qbr, zc5, za1, qbu, e]; rfl⟩
  refine frun_65 rfl ?_
  repeat' (first
    | simp (implicitDefEqProofs := false) only [push_cast, reduceIte, reduceCtorEq, Nat.reduceAdd, Nat.reduceSub, Nat.reduceEqDiff, Nat.reduceLT, Nat.reduceLeDiff, Nat.reduceBEq, Nat.reduceMul, Int.reduceLT, Int.reduceLE, Int.reduceEq, Int.reduceToNat, Int.reduceMul, Int.reduceNeg, Go.Proofs.Try.f65, zas, qat, yat, yad, zae, qac, zad, yab, qad, sst, qab, yaa, qaa, List.replicate_succ, List.drop_zero]
    | refine Sp2.f ?_ ?_
    | refine Spl.f ?_ ?_ <;> intro hb
    | refine yac rfl (fun b hb => ?_))
  refine ya4 (c_PNew b hb h) fun v H hP => ?_
  obtain ⟨kd, kb, l0, rfl, hH, hkd, hkb, r0⟩ := hP
  have hT0 : H.take h.length = h := by rw [hH]; simp
  clear hH l0
  have hn0 : FSpec prog 67 [.ref kd [0] 162, .int .i64 1] H fun r' h' => r' = .int .u64 ((⟨b, false⟩ : RS).num 1).1 ∧ h' = H.set kd (rdE kb b ((⟨b, false⟩ : RS).num 1).2) := c_RNum r0 1 (by omega) (by omega)
  have r1 := r0.num 1
  have hrg := (⟨b, false⟩ : RS).num_range 1
  have hT1 : (H.set kd (rdE kb b ((⟨b, false⟩ : RS).num 1).2)).take h.length = h := by rw [List.take_set_of_le hkd]; exact hT0
  generalize H.set kd (rdE kb b ((⟨b, false⟩ : RS).num 1).2) = H1 at hn0 r1 hT1
  clear hT0 r0
  have hget : qc7 b = (if (ya1 (min ((⟨b, false⟩ : RS).num 1).1 7).toNat ((⟨b, false⟩ : RS).num 1).2).2.fine = true ∧ qcf (ya1 (min ((⟨b, false⟩ : RS).num 1).1 7).toNat ((⟨b, false⟩ : RS).num 1).2).1 = true then some (ya1 (min ((⟨b, false⟩ : RS).num 1).1 7).toNat ((⟨b, false⟩ : RS).num 1).2).1 else none) := rfl
  obtain ⟨N, hN⟩ : ∃ N, N = (min ((⟨b, false⟩ : RS).num 1).1 7).toNat := ⟨_, rfl⟩
  rw [← hN] at hget
  have hN7 : N ≤ 7 := by omega
  have hmn : (if (7 : Int) < ((⟨b, false⟩ : RS).num 1).1 then (7 : Int) else ((⟨b, false⟩ : RS).num 1).1) = (N : Int) := by split <;> omega
  generalize ((⟨b, false⟩ : RS).num 1).1 = a1 at hn0 hmn hN hrg
  generalize ((⟨b, false⟩ : RS).num 1).2 = s1 at hget r1
  repeat' (first
    | simp (implicitDefEqProofs := false) only [push_cast, reduceIte, reduceCtorEq, Nat.reduceAdd, Nat.reduceSub, Nat.reduceEqDiff, Nat.reduceLT, Nat.reduceLeDiff, Nat.reduceBEq, Nat.reduceMul, Int.reduceLT, Int.reduceLE, Int.reduceEq, Int.reduceToNat, Int.reduceMul, Int.reduceNeg, Go.Proofs.Try.f65, hmn, yad, zae, qac, zad, yab, qad, sst, qab, yaa, qaa, List.replicate_succ, List.drop_zero]
    | refine Sp2.f ?_ ?_
    | refine Spl.f ?_ ?_ <;> intro hb
    | refine yac rfl (fun b hb => ?_)
    | refine yal hn0 ?_)
  refine qau (fun i env' H => i ≤ N ∧ H.take h.length = h ∧ Rdr H kd kb b (ya1 i s1).2 ∧ (∃ v5, View (fun j => h.length ≤ j) H 160 v5 ((ya1 i s1).1.map eF) ∧ env' = (fun a : Nat → AV => [(0, eBs b), (2, .nils), (3, .int .i64 0), (4, .ref kd [0] 162), (5, v5), (6, .int .u64 ((N : Int) - (i : Int))), (7, a 7), (14, a 14), (22, a 22), (23, a 23), (29, a 29), (46, a 46)]) (lk env'))) N ⟨Nat.zero_le _, hT1, r1, .nils, .nil, ?_⟩ ?_
  · have e0 : (N : Int) - ((0 : Nat) : Int) = N := by simp
    rw [e0]; rfl
  clear r1 hT1 hn0 hmn
  rintro i env H ⟨hi, hT, r, v5, hv, henv⟩
  refine ⟨hi, ?_⟩
  rw [henv]
  generalize lk env = a
  clear henv env
  by_cases hlt : i < N
  · have c1 : decide ((0 : Int) < (N : Int) - (i : Int)) = true := by simp; omega
    have c2 : IntKind.wrap .u64 ((N : Int) - (i : Int) - 1) = (N : Int) - ((i : Int) + 1) := by rw [zak]; omega
    have hsn := qdu i s1
    have hln : (ya1 i s1).1.length ≤ 7 := by rw [qb6]; omega
    generalize (ya1 i s1).2 = s at r hsn
    generalize hfs : (ya1 i s1).1 = fs at hv hsn hln
    have hk1 : FSpec prog 67 [.ref kd [0] 162, .int .i64 1] H fun r' h' => r' = .int .u64 (s.num 1).1 ∧ h' = H.set kd (rdE kb b (s.num 1).2) := c_RNum r 1 (by omega) (by omega)
    have r1 := r.num 1
    have hrg1 := s.num_range 1
    have hTn : (H.set kd (rdE kb b (s.num 1).2)).take h.length = h := by rw [List.take_set_of_le hkd]; exact hT
    have hvn := hv.set r.d (show (rdE kb b s).T ≠ 160 from (by decide : 162 ≠ 160)) (rdE kb b (s.num 1).2)
    generalize H.set kd (rdE kb b (s.num 1).2) = H1 at hk1 r1 hTn hvn
    clear hT hv r
    have cv : IntKind.wrap .i64 (s.num 1).1 = (s.num 1).1 := qam hrg1.1 (by omega)
    have hHl : h.length ≤ H1.length := by have := congrArg List.length hTn; simp at this; omega
    have hdl := zac r1.d
    have hbl := zac r1.b
    have la := hvn.lenAV
    rw [List.length_map] at la
    have e7 : decide (fs.length + 1 ≤ 4294967296) = true := by simp; omega
    have r2 := r1.keep (H' := H1 ++ [(⟨160, [.agg 160 [.int .i64 (s.num 1).1, .int .i64 0, .str ByteArray.empty]], .own⟩ : Entry)]) (fun e he => by rw [List.getElem?_append_left hdl]; exact he) (fun e he => by rw [List.getElem?_append_left hbl]; exact he)
    by_cases k1 : (s.num 1).1 = 1
    · have cK : ((s.num 1).1 == 1) = true := by simpa using k1
      have hx : zbg s = (⟨(s.num 1).1, IntKind.i64.wrap ((s.num 1).2.num 8).1, ByteArray.empty⟩, ((s.num 1).2.num 8).2) := by rw [zbg, if_pos k1, k1]; rfl
      have hk8 : FSpec prog 67 [.ref kd [0] 162, .int .i64 8] (H1 ++ [(⟨160, [.agg 160 [.int .i64 (s.num 1).1, .int .i64 0, .str ByteArray.empty]], .own⟩ : Entry)]) fun r' h' => r' = .int .u64 ((s.num 1).2.num 8).1 ∧ h' = (H1 ++ [(⟨160, [.agg 160 [.int .i64 (s.num 1).1, .int .i64 0, .str ByteArray.empty]], .own⟩ : Entry)]).set kd (rdE kb b ((s.num 1).2.num 8).2) := c_RNum r2 8 (by omega) (by omega)
      rw [List.set_append_left _ _ hdl] at hk8
      have hvC := (hvn.set r1.d (show (rdE kb b (s.num 1).2).T ≠ 160 from (by decide : 162 ≠ 160)) (rdE kb b ((s.num 1).2.num 8).2)).app [(⟨160, [.agg 160 [.int .i64 (s.num 1).1, .int .i64 (IntKind.i64.wrap ((s.num 1).2.num 8).1), .str ByteArray.empty]], .own⟩ : Entry)]
      obtain ⟨v6, H6, hv6, hl6, hk6, hgo⟩ := yb4 (P := prog) (.agg 160 [.int .i64 (s.num 1).1, .int .i64 (IntKind.i64.wrap ((s.num 1).2.num 8).1), .str ByteArray.empty]) (hvC.app [(⟨160, [.agg 160 [.int .i64 (s.num 1).1, .int .i64 (IntKind.i64.wrap ((s.num 1).2.num 8).1), .str ByteArray.empty]], .own⟩ : Entry)])
      rw [show ((H1.set kd (rdE kb b ((s.num 1).2.num 8).2) ++ [(⟨160, [.agg 160 [.int .i64 (s.num 1).1, .int .i64 (IntKind.i64.wrap ((s.num 1).2.num 8).1), .str ByteArray.empty]], .own⟩ : Entry)]) ++ [(⟨160, [.agg 160 [.int .i64 (s.num 1).1, .int .i64 (IntKind.i64.wrap ((s.num 1).2.num 8).1), .str ByteArray.empty]], .own⟩ : Entry)]).length = H1.length + 2 by simp] at hgo
      rw [List.append_assoc, List.cons_append, List.nil_append] at hgo
      repeat' (first
    | simp (implicitDefEqProofs := false) only [push_cast, reduceIte, reduceCtorEq, Nat.reduceAdd, Nat.reduceSub, Nat.reduceEqDiff, Nat.reduceLT, Nat.reduceLeDiff, Nat.reduceBEq, Nat.reduceMul, Int.reduceLT, Int.reduceLE, Int.reduceEq, Int.reduceToNat, Int.reduceMul, Int.reduceNeg, Go.Proofs.Try.f65, c1, c2, cv, la, e7, hdl, zds, cK, zaj hdl, yag hdl, za4 hdl, yaj hdl, yad, zae, qac, zad, yab, qad, sst, qab, yaa, qaa, List.replicate_succ, List.drop_zero]
    | refine Sp2.f ?_ ?_
    | refine Spl.f ?_ ?_ <;> intro hb
    | refine yac rfl (fun b hb => ?_)
    | refine yal hk1 ?_
    | refine yal hk8 ?_
    | refine hgo _ _ _ _ ?_)
      · omega
      obtain ⟨g1, g2, g3⟩ := tg_fin (by rw [List.append_assoc, List.take_append_of_le_length (by simp; omega), List.take_set_of_le hkd]; exact hTn) (by simp; omega) ((r1.num 8).keep (fun e he => by rw [List.append_assoc, List.getElem?_append_left (zac he)]; exact he) (fun e he => by rw [List.append_assoc, List.getElem?_append_left (zac he)]; exact he)) hl6 hk6 hv6
      rw [hsn, hx]
      refine ⟨hlt, g1, g2, v6, ?_, rfl⟩
      rw [List.map_append]
      exact g3
    have cK : ((s.num 1).1 == 1) = false := by simpa using k1
    by_cases k2 : (s.num 1).1 = 2
    · have cK2 : ((s.num 1).1 == 2) = true := by simpa using k2
      have hx : zbg s = (⟨(s.num 1).1, 0, ⟨((s.num 1).2.text 40).1.toArray⟩⟩, ((s.num 1).2.text 40).2) := by rw [zbg, if_neg k1, if_pos k2, k2]
      have hk40 : FSpec prog 66 [.ref kd [0] 162, .int .i64 40] (H1 ++ [(⟨160, [.agg 160 [.int .i64 (s.num 1).1, .int .i64 0, .str ByteArray.empty]], .own⟩ : Entry)]) fun r' h' => RawOK ((s.num 1).2.text 40).1 r' ∧ h' = (H1 ++ [(⟨160, [.agg 160 [.int .i64 (s.num 1).1, .int .i64 0, .str ByteArray.empty]], .own⟩ : Entry)]).set kd (rdE kb b ((s.num 1).2.text 40).2) := c_RText r2 40
      rw [List.set_append_left _ _ hdl] at hk40
      repeat' (first
    | simp (implicitDefEqProofs := false) only [push_cast, reduceIte, reduceCtorEq, Nat.reduceAdd, Nat.reduceSub, Nat.reduceEqDiff, Nat.reduceLT, Nat.reduceLeDiff, Nat.reduceBEq, Nat.reduceMul, Int.reduceLT, Int.reduceLE, Int.reduceEq, Int.reduceToNat, Int.reduceMul, Int.reduceNeg, Go.Proofs.Try.f65, c1, c2, cv, cK, cK2, yad, zae, qac, zad, yab, qad, sst, qab, yaa, qaa, List.replicate_succ, List.drop_zero]
    | refine Sp2.f ?_ ?_
    | refine Spl.f ?_ ?_ <;> intro hb
    | refine yac rfl (fun b hb => ?_)
    | refine yal hk1 ?_)
      refine ya4 hk40 fun v H2 hvH => ?_
      obtain ⟨hv1, rfl⟩ := hvH
      have hstr := hv1.str
      have hvC := (hvn.set r1.d (show (rdE kb b (s.num 1).2).T ≠ 160 from (by decide : 162 ≠ 160)) (rdE kb b ((s.num 1).2.text 40).2)).app [(⟨160, [.agg 160 [.int .i64 (s.num 1).1, .int .i64 0, .str ⟨((s.num 1).2.text 40).1.toArray⟩]], .own⟩ : Entry)]
      obtain ⟨v6, H6, hv6, hl6, hk6, hgo⟩ := yb4 (P := prog) (.agg 160 [.int .i64 (s.num 1).1, .int .i64 0, .str ⟨((s.num 1).2.text 40).1.toArray⟩]) (hvC.app [(⟨160, [.agg 160 [.int .i64 (s.num 1).1, .int .i64 0, .str ⟨((s.num 1).2.text 40).1.toArray⟩]], .own⟩ : Entry)])
      rw [show (H1.set kd (rdE kb b ((s.num 1).2.text 40).2) ++ [(⟨160, [.agg 160 [.int .i64 (s.num 1).1, .int .i64 0, .str ⟨((s.num 1).2.text 40).1.toArray⟩]], .own⟩ : Entry)] ++ [(⟨160, [.agg 160 [.int .i64 (s.num 1).1, .int .i64 0, .str ⟨((s.num 1).2.text 40).1.toArray⟩]], .own⟩ : Entry)]).length = H1.length + 2 by simp] at hgo
      rw [List.append_assoc, List.cons_append, List.nil_append] at hgo
      repeat' (first
    | simp (implicitDefEqProofs := false) only [push_cast, reduceIte, reduceCtorEq, Nat.reduceAdd, Nat.reduceSub, Nat.reduceEqDiff, Nat.reduceLT, Nat.reduceLeDiff, Nat.reduceBEq, Nat.reduceMul, Int.reduceLT, Int.reduceLE, Int.reduceEq, Int.reduceToNat, Int.reduceMul, Int.reduceNeg, Go.Proofs.Try.f65, hstr, c2, la, e7, hdl, zds, zaj hdl, yag hdl, za4 hdl, yaj hdl, yad, zae, qac, zad, yab, qad, sst, qab, yaa, qaa, List.replicate_succ, List.drop_zero]
    | refine Sp2.f ?_ ?_
    | refine Spl.f ?_ ?_ <;> intro hb
    | refine yac rfl (fun b hb => ?_)
    | refine hgo _ _ _ _ ?_)
      · omega
      obtain ⟨g1, g2, g3⟩ := tg_fin (by rw [List.append_assoc, List.take_append_of_le_length (by simp; omega), List.take_set_of_le hkd]; exact hTn) (by simp; omega) ((r1.text 40).keep (fun e he => by rw [List.append_assoc, List.getElem?_append_left (zac he)]; exact he) (fun e he => by rw [List.append_assoc, List.getElem?_append_left (zac he)]; exact he)) hl6 hk6 hv6
      rw [hsn, hx]
      refine ⟨hlt, g1, g2, v6, ?_, rfl⟩
      rw [List.map_append]
      exact g3
    · have cK2 : ((s.num 1).1 == 2) = false := by simpa using k2
      have hx : zbg s = (⟨(s.num 1).1, 0, ByteArray.empty⟩, (s.num 1).2) := by rw [zbg, if_neg k1, if_neg k2]; rfl
      have hvC := hvn.app [(⟨160, [.agg 160 [.int .i64 (s.num 1).1, .int .i64 0, .str ByteArray.empty]], .own⟩ : Entry)]
      obtain ⟨v6, H6, hv6, hl6, hk6, hgo⟩ := yb4 (P := prog) (.agg 160 [.int .i64 (s.num 1).1, .int .i64 0, .str ByteArray.empty]) (hvC.app [(⟨160, [.agg 160 [.int .i64 (s.num 1).1, .int .i64 0, .str ByteArray.empty]], .own⟩ : Entry)])
      rw [show (H1 ++ [(⟨160, [.agg 160 [.int .i64 (s.num 1).1, .int .i64 0, .str ByteArray.empty]], .own⟩ : Entry)] ++ [(⟨160, [.agg 160 [.int .i64 (s.num 1).1, .int .i64 0, .str ByteArray.empty]], .own⟩ : Entry)]).length = H1.length + 2 by simp] at hgo
      rw [List.append_assoc, List.cons_append, List.nil_append] at hgo
      repeat' (first
    | simp (implicitDefEqProofs := false) only [push_cast, reduceIte, reduceCtorEq, Nat.reduceAdd, Nat.reduceSub, Nat.reduceEqDiff, Nat.reduceLT, Nat.reduceLeDiff, Nat.reduceBEq, Nat.reduceMul, Int.reduceLT, Int.reduceLE, Int.reduceEq, Int.reduceToNat, Int.reduceMul, Int.reduceNeg, Go.Proofs.Try.f65, c1, c2, cv, cK, cK2, la, e7, hdl, zds, zaj hdl, yag hdl, za4 hdl, yaj hdl, yad, zae, qac, zad, yab, qad, sst, qab, yaa, qaa, List.replicate_succ, List.drop_zero]
    | refine Sp2.f ?_ ?_
    | refine Spl.f ?_ ?_ <;> intro hb
    | refine yac rfl (fun b hb => ?_)
    | refine yal hk1 ?_
    | refine hgo _ _ _ _ ?_)
      · omega
      obtain ⟨g1, g2, g3⟩ := tg_fin (by rw [List.append_assoc, List.take_append_of_le_length (by omega)]; exact hTn) (by simp; omega) (r1.keep (fun e he => by rw [List.append_assoc, List.getElem?_append_left (zac he)]; exact he) (fun e he => by rw [List.append_assoc, List.getElem?_append_left (zac he)]; exact he)) hl6 hk6 hv6
      rw [hsn, hx]
      refine ⟨hlt, g1, g2, v6, ?_, rfl⟩
      rw [List.map_append]
      exact g3
  · have hiN : i = N := by omega
    subst hiN
    have c1 : decide ((0 : Int) < (i : Int) - (i : Int)) = false := by simp
    have hE := c_REnd r
    have hgl := qb6 i s1
    generalize ya1 i s1 = p at hget r hv hE hgl
    rw [ybl r.d] at hE
    have hty := hv.ty (U := 24) zc5
    have hpl := hv.pl
    cases hfi : p.2.fine with
    | false =>
      have hg : qc7 b = none := by rw [hget, if_neg (by rw [hfi]; simp)]
      rw [hfi] at hE
      have hE2 : FSpec prog 68 [.ref kd [0] 162] H fun r' h' => r' = .int .i64 2 ∧ h' = H := hE
      have c2 : ((2 : Int) != 0) = true := rfl
      repeat' (first
    | simp (implicitDefEqProofs := false) only [push_cast, reduceIte, reduceCtorEq, Nat.reduceAdd, Nat.reduceSub, Nat.reduceEqDiff, Nat.reduceLT, Nat.reduceLeDiff, Nat.reduceBEq, Nat.reduceMul, Int.reduceLT, Int.reduceLE, Int.reduceEq, Int.reduceToNat, Int.reduceMul, Int.reduceNeg, Go.Proofs.Try.f65, c1, c2, fk_tt, yad, zae, qac, zad, yab, qad, sst, qab, yaa, qaa, List.replicate_succ, List.drop_zero]
    | refine Sp2.f ?_ ?_
    | refine Spl.f ?_ ?_ <;> intro hb
    | refine yac rfl (fun b hb => ?_)
    | refine yal hE2 ?_)
      rw [hg]
      exact ⟨hT, _, rfl, rfl, .nils, rfl, .inr ⟨rfl, rfl⟩⟩
    | true =>
      rw [hfi] at hE
      have hE2 : FSpec prog 68 [.ref kd [0] 162] H fun r' h' => r' = .int .i64 0 ∧ h' = H := hE
      have c2 : ((0 : Int) != 0) = false := rfl
      have hpn : p.1.length ≤ 4294967296 := by omega
      have hmay : FSpec prog 117 [wk prog 6 24 v5] H fun r' h'' => r' = .bool (qcf p.1) ∧ h'' = H := by
        have e : [wk prog 6 24 v5].map (bw H 8) = [eFs p.1] := by
          simp only [List.map_cons, List.map_nil, view_wkbw2 hv (yaw eF eF_dat _) zc5 7 5, eFs]
        refine (FSpec.borrow wfp (R := fun r' => r' = .bool (qcf p.1)) ?_ ?_ (by rintro r' rfl; rfl)).mono fun r' h' ⟨e1, e2⟩ => ⟨e2, e1⟩
        · rw [e]; exact zb0 p.1 hpn
        · rw [e]; simp only [List.all_cons, List.all_nil, Bool.and_true, qan (n := 0) _ (zcz p.1)]; exact qan _ (zcz p.1)
      have hz := hv.rz (n := h.length) (fun j hj => hj) (yaw eF eF_dat _)
      cases hm : qcf p.1 with
      | false =>
        rw [hm] at hmay
        have hg : qc7 b = none := by rw [hget, if_neg (by rw [hm]; simp)]
        repeat' (first
    | simp (implicitDefEqProofs := false) only [push_cast, reduceIte, reduceCtorEq, Nat.reduceAdd, Nat.reduceSub, Nat.reduceEqDiff, Nat.reduceLT, Nat.reduceLeDiff, Nat.reduceBEq, Nat.reduceMul, Int.reduceLT, Int.reduceLE, Int.reduceEq, Int.reduceToNat, Int.reduceMul, Int.reduceNeg, Go.Proofs.Try.f65, c1, c2, hty, hpl, fk_tt, yad, zae, qac, zad, yab, qad, sst, qab, yaa, qaa, List.replicate_succ, List.drop_zero]
    | refine Sp2.f ?_ ?_
    | refine Spl.f ?_ ?_ <;> intro hb
    | refine yac rfl (fun b hb => ?_)
    | refine yal hE2 ?_
    | refine yal hmay ?_)
        rw [hg]
        exact ⟨hT, _, rfl, rfl, .nils, rfl, .inr ⟨rfl, rfl⟩⟩
      | true =>
        rw [hm] at hmay
        have hg : qc7 b = some p.1 := by rw [hget, if_pos ⟨hfi, hm⟩]
        repeat' (first
    | simp (implicitDefEqProofs := false) only [push_cast, reduceIte, reduceCtorEq, Nat.reduceAdd, Nat.reduceSub, Nat.reduceEqDiff, Nat.reduceLT, Nat.reduceLeDiff, Nat.reduceBEq, Nat.reduceMul, Int.reduceLT, Int.reduceLE, Int.reduceEq, Int.reduceToNat, Int.reduceMul, Int.reduceNeg, Go.Proofs.Try.f65, c1, c2, hty, hpl, fk_tt, yad, zae, qac, zad, yab, qad, sst, qab, yaa, qaa, List.replicate_succ, List.drop_zero]
    | refine Sp2.f ?_ ?_
    | refine Spl.f ?_ ?_ <;> intro hb
    | refine yac rfl (fun b hb => ?_)
    | refine yal hE2 ?_
    | refine yal hmay ?_)
        rw [hg]
        have hb2 : zan h.length (rz H h.length v5) = true := by
          rcases hz with e | ⟨_, e⟩ <;> rw [e]
          · exact qan _ (zcz p.1)
          · rfl
        refine ⟨hT, [v5, .int .i64 0], rfl, ?_, ?_⟩
        · simp only [rzL, rz, yas, hb2, zan, Bool.and_self]
        · simp only [rzL, rz]
          refine ⟨_, rfl, ?_⟩
          rcases hz with e | ⟨e0, e⟩
          · exact .inl e
          · exact .inr ⟨List.map_eq_nil_iff.1 e0, e⟩
end Go.Abs
