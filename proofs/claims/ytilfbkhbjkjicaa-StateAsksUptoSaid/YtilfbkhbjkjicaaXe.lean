/- Xe: a part of the proofs about the tuple space and its bytes. -/
import Derived.Test.YtilfbkhbjkjicaaXc
import Derived.Test.YtilfbkhbjkjicaaMq
set_option linter.all false
set_option maxRecDepth 100000
set_option maxHeartbeats 0
namespace Go.Abs
open Go
open Go.Proofs.Try (prog)
theorem RS.raw_len (s : RS) (n : Int) : (s.raw n).2.l.length ≤ s.l.length := by
  unfold RS.raw; split
  · simp
  · exact Nat.le_refl _
theorem RS.num_len (s : RS) (n : Nat) : (s.num n).2.l.length ≤ s.l.length := by rw [RS.num_raw]; exact s.raw_len _
theorem RS.text_len (s : RS) (m : Int) : (s.text m).2.l.length ≤ s.l.length := Nat.le_trans (RS.raw_len _ _) (s.num_len 4)
theorem getF1_less (s : RS) : (zbg s).2.l.length ≤ s.l.length := by
  have a := s.num_len 1
  unfold zbg
  split
  · exact Nat.le_trans (RS.num_len _ 8) a
  · split
    · exact Nat.le_trans (RS.text_len _ 40) a
    · exact a
theorem getFs_less : ∀ (n : Nat) (s : RS), (ya1 n s).2.l.length ≤ s.l.length
  | 0, s => Nat.le_refl _
  | n + 1, s => Nat.le_trans (getFs_less n (zbg s).2) (getF1_less s)
theorem RS.raw_bad {s : RS} (h : s.w = true) (n : Int) : s.raw n = ([], ⟨s.l, true⟩) := by rw [RS.raw, if_neg (by rw [h]; simp)]
theorem RS.num_bad {s : RS} (h : s.w = true) (n : Nat) : s.num n = (0, ⟨s.l, true⟩) := by rw [RS.num, if_neg (by rw [h]; simp)]
theorem RS.text_bad {s : RS} (h : s.w = true) (m : Int) : (s.text m).2.w = true := by rw [RS.text, s.num_bad h]; rw [RS.raw_bad rfl]
theorem getF1_bad {s : RS} (h : s.w = true) : (zbg s).2.w = true := by
  unfold zbg
  rw [s.num_bad h]
  simp only [show ((0 : Int) = 1) = False by simp, show ((0 : Int) = 2) = False by simp, if_false]
theorem getFs_bad : ∀ (n : Nat) {s : RS}, s.w = true → (ya1 n s).2.w = true
  | 0, s, h => h
  | n + 1, s, h => getFs_bad n (getF1_bad h)
theorem getFs_add : ∀ (i j : Nat) (s : RS), (ya1 (i + j) s).2 = (ya1 j (ya1 i s).2).2
  | 0, j, s => by simp [ya1]
  | i + 1, j, s => by rw [show i + 1 + j = (i + j) + 1 by omega]; exact getFs_add i j (zbg s).2
theorem fine_bad {s : RS} (h : s.w = true) : s.fine = false := by simp [RS.fine, h]
def getT6 (b : List UInt8) : Option (List Fld) :=
  let a := RS.num ⟨b, false⟩ 1
  let p := ya1 a.1.toNat a.2
  if p.2.fine = true ∧ qcf p.1 = true then some p.1 else none
theorem getT6_eq (b : List UInt8) : getT6 b = qc7 b := by
  unfold getT6 qc7
  simp only
  by_cases h : (RS.num ⟨b, false⟩ 1).1 ≤ 7
  · rw [show min (RS.num ⟨b, false⟩ 1).1 7 = (RS.num ⟨b, false⟩ 1).1 by omega]
  · have h7 : ∀ n s, 7 ≤ n → qcf (ya1 n s).1 = false := fun n s hn => by
      cases hm : qcf (ya1 n s).1 with
      | false => rfl
      | true => have := (zck hm).2.1; rw [qb6] at this; omega
    rw [if_neg (by rw [h7 _ _ (by omega)]; simp), if_neg (by rw [h7 _ _ (by omega)]; simp)]
theorem rawV_ok (s : RS) (n : Int) : RawOK (s.raw n).1 (rawV s n) := by
  unfold rawV
  split
  · exact .inl rfl
  · rename_i h; exact .inr ⟨by rw [RS.raw, if_neg h], rfl⟩
theorem textV_ok (s : RS) (m : Int) : RawOK (s.text m).1 (textV s m) := rawV_ok _ _
theorem rE_T (s : RS) : (rE s).T ≠ 160 := (by decide : 115 ≠ 160)
theorem tg6_fin {h A H6 : List Entry} {k : Nat} {s : RS} {v6 : AV} {m : List AV} (hT : A.take h.length = h) (hl : h.length ≤ A.length) (r : A[k]? = some (rE s)) (hl6 : A.length ≤ H6.length)
    (hk6 : ∀ j e, A[j]? = some e → (¬ h.length ≤ j ∨ e.T ≠ 160) → H6[j]? = some e) (hv6 : View (yc7 (fun j => h.length ≤ j) A H6) H6 160 v6 m) :
    H6.take h.length = h ∧ H6[k]? = some (rE s) ∧ View (fun j => h.length ≤ j) H6 160 v6 m :=
  ⟨tk11 hT hl fun j e hj hjl => hk6 j e hj (.inl (by omega)), hk6 _ _ r (.inr (rE_T s)), hv6.up fun j hj => hj.elim id fun hj => by have := hj.1; omega⟩
theorem c_GetFields6 (b : List UInt8) (hb : b.length ≤ 100000000) : Fn prog 123 [eBs b] (.tup [eFs ((qc7 b).getD []), .int .i64 (if (qc7 b).isSome = true then 0 else 2)]) := by
  rw [← getT6_eq]
  refine ybm (R := fun r => ∃ v, r = .tup [v, .int .i64 (if (getT6 b).isSome = true then 0 else 2)] ∧ (v = eFs ((getT6 b).getD []) ∨ ((getT6 b).getD [] = [] ∧ v = .nils))) [24, 3] (fn_tup wfp fun h => ?_) ?_
  rotate_left
  · rintro r ⟨v, rfl, hv⟩
    rcases hv with rfl | ⟨e, rfl⟩
    · exact ⟨_, rfl, ⟨yav _, by rw [zc6, sh_3]; rfl, trivial⟩, by simp only [wks, zax, qbu]⟩
    · exact ⟨_, rfl, ⟨by rw [yci, zc5]; rfl, by rw [zc6, sh_3]; rfl, trivial⟩, by simp only [wks, qbr, zc5, za1, qbu, e]; rfl⟩
  refine frun_123 rfl ?_
  have hR : (⟨115, [.agg 115 [eBs b, .bool false]], .own⟩ : Entry) = rE ⟨b, false⟩ := rfl
  repeat' (first
    | simp (implicitDefEqProofs := false) only [push_cast, reduceIte, reduceCtorEq, Nat.reduceAdd, Nat.reduceSub, Nat.reduceEqDiff, Nat.reduceLT, Nat.reduceLeDiff, Nat.reduceBEq, Nat.reduceMul, Int.reduceLT, Int.reduceLE, Int.reduceEq, Int.reduceToNat, Int.reduceMul, Int.reduceNeg, Go.Proofs.Try.f123, zas, qat, yat, hR, yad, zae, qac, zad, yab, qad, sst, qab, yaa, qaa, List.replicate_succ, List.drop_zero]
    | refine Sp2.f ?_ ?_
    | refine Spl.f ?_ ?_ <;> intro hb
    | refine yac rfl (fun b hb => ?_))
  have hk0 : (h ++ [rE ⟨b, false⟩])[h.length]? = some (rE ⟨b, false⟩) := zar ..
  have hn0 : FSpec prog 71 [.ref h.length [0] 115, .int .i64 1] (h ++ [rE ⟨b, false⟩]) fun r' h' => r' = .int .u64 ((⟨b, false⟩ : RS).num 1).1 ∧ h' = (h ++ [rE ⟨b, false⟩]).set h.length (rE ((⟨b, false⟩ : RS).num 1).2) := zb8 hk0 1 (by omega) (by omega) hb
  have hk1 : ((h ++ [rE ⟨b, false⟩]).set h.length (rE ((⟨b, false⟩ : RS).num 1).2))[h.length]? = some (rE ((⟨b, false⟩ : RS).num 1).2) := List.getElem?_set_self (zac hk0)
  have hT1 : ((h ++ [rE ⟨b, false⟩]).set h.length (rE ((⟨b, false⟩ : RS).num 1).2)).take h.length = h := by rw [List.take_set_of_le (Nat.le_refl _)]; simp
  have hrg := (⟨b, false⟩ : RS).num_range 1
  have hls1 := RS.num_len ⟨b, false⟩ 1
  have hget : getT6 b = (if (ya1 ((⟨b, false⟩ : RS).num 1).1.toNat ((⟨b, false⟩ : RS).num 1).2).2.fine = true ∧ qcf (ya1 ((⟨b, false⟩ : RS).num 1).1.toNat ((⟨b, false⟩ : RS).num 1).2).1 = true then some (ya1 ((⟨b, false⟩ : RS).num 1).1.toNat ((⟨b, false⟩ : RS).num 1).2).1 else none) := rfl
  obtain ⟨N, hN⟩ : ∃ N, N = ((⟨b, false⟩ : RS).num 1).1.toNat := ⟨_, rfl⟩
  rw [← hN] at hget
  have hmn : IntKind.wrap .i64 ((⟨b, false⟩ : RS).num 1).1 = (N : Int) := by rw [qam hrg.1 (by omega)]; omega
  have hN2 : N ≤ 256 := by omega
  generalize (h ++ [rE ⟨b, false⟩]).set h.length (rE ((⟨b, false⟩ : RS).num 1).2) = H1 at hn0 hk1 hT1
  generalize ((⟨b, false⟩ : RS).num 1).1 = a1 at hn0 hmn
  generalize ((⟨b, false⟩ : RS).num 1).2 = s1 at hget hk1 hls1
  have hls1 : s1.l.length ≤ 100000000 := Nat.le_trans hls1 hb
  repeat' (first
    | simp (implicitDefEqProofs := false) only [push_cast, reduceIte, reduceCtorEq, Nat.reduceAdd, Nat.reduceSub, Nat.reduceEqDiff, Nat.reduceLT, Nat.reduceLeDiff, Nat.reduceBEq, Nat.reduceMul, Int.reduceLT, Int.reduceLE, Int.reduceEq, Int.reduceToNat, Int.reduceMul, Int.reduceNeg, Go.Proofs.Try.f123, hmn, yad, zae, qac, zad, yab, qad, sst, qab, yaa, qaa, List.replicate_succ, List.drop_zero]
    | refine Sp2.f ?_ ?_
    | refine Spl.f ?_ ?_ <;> intro hb
    | refine yac rfl (fun b hb => ?_)
    | refine yal hn0 ?_)
  refine qau (fun i env' H => i ≤ N ∧ H.take h.length = h ∧ H[h.length]? = some (rE (ya1 i s1).2) ∧ (∃ v6, View (fun j => h.length ≤ j) H 160 v6 ((ya1 i s1).1.map eF) ∧ env' = (fun a : Nat → AV => [(0, eBs b), (2, .nils), (3, .int .i64 0), (4, .ref h.length [0] 115), (5, .int .i64 N), (6, v6), (7, .int .i64 (i : Int)), (8, a 8), (24, a 24), (32, a 32), (33, a 33), (39, a 39), (56, a 56)]) (lk env'))) N ⟨Nat.zero_le _, hT1, hk1, .nils, .nil, rfl⟩ ?_
  clear hT1 hk1 hn0 hmn
  rintro i env H ⟨hi, hT, hk, v5, hv, henv⟩
  refine ⟨hi, ?_⟩
  rw [henv]
  generalize lk env = a
  clear henv env
  have hls := Nat.le_trans (getFs_less i s1) hls1
  have hkl := zac hk
  by_cases hgo : i < N ∧ (ya1 i s1).2.w = false
  · obtain ⟨hlt, hw⟩ := hgo
    have c1 : decide ((i : Int) < (N : Int)) = true := by simpa using hlt
    have hsn := qdu i s1
    have hln : (ya1 i s1).1.length ≤ 256 := by rw [qb6]; omega
    generalize (ya1 i s1).2 = s at hk hsn hls hw
    generalize hfs : (ya1 i s1).1 = fs at hv hsn hln
    have hkE := hk
    rw [qct hw] at hkE
    have hk1 : FSpec prog 71 [.ref h.length [0] 115, .int .i64 1] H fun r' h' => r' = .int .u64 (s.num 1).1 ∧ h' = H.set h.length (rE (s.num 1).2) := zb8 hk 1 (by omega) (by omega) hls
    have r1 : (H.set h.length (rE (s.num 1).2))[h.length]? = some (rE (s.num 1).2) := List.getElem?_set_self hkl
    have hrg1 := s.num_range 1
    have hls2 := Nat.le_trans (s.num_len 1) hls
    have hTn : (H.set h.length (rE (s.num 1).2)).take h.length = h := by rw [List.take_set_of_le (Nat.le_refl _)]; exact hT
    have hvn := hv.set hk (rE_T s) (rE (s.num 1).2)
    generalize H.set h.length (rE (s.num 1).2) = H1 at hk1 r1 hTn hvn
    clear hT hv hk
    have cv : IntKind.wrap .i64 (s.num 1).1 = (s.num 1).1 := qam hrg1.1 (by omega)
    have hdl := zac r1
    have la := hvn.lenAV
    rw [List.length_map] at la
    have e7 : decide (fs.length + 1 ≤ 4294967296) = true := by simp; omega
    have r2 : (H1 ++ [(⟨160, [.agg 160 [.int .i64 (s.num 1).1, .int .i64 0, .str ByteArray.empty]], .own⟩ : Entry)])[h.length]? = some (rE (s.num 1).2) := by rw [List.getElem?_append_left hdl]; exact r1
    by_cases k1 : (s.num 1).1 = 1
    · have cK : ((s.num 1).1 == 1) = true := by simpa using k1
      have hx : zbg s = (⟨(s.num 1).1, IntKind.i64.wrap ((s.num 1).2.num 8).1, ByteArray.empty⟩, ((s.num 1).2.num 8).2) := by rw [zbg, if_pos k1, k1]; rfl
      have hk8 : FSpec prog 71 [.ref h.length [0] 115, .int .i64 8] (H1 ++ [(⟨160, [.agg 160 [.int .i64 (s.num 1).1, .int .i64 0, .str ByteArray.empty]], .own⟩ : Entry)]) fun r' h' => r' = .int .u64 ((s.num 1).2.num 8).1 ∧ h' = (H1 ++ [(⟨160, [.agg 160 [.int .i64 (s.num 1).1, .int .i64 0, .str ByteArray.empty]], .own⟩ : Entry)]).set h.length (rE ((s.num 1).2.num 8).2) := zb8 r2 8 (by omega) (by omega) hls2
      rw [List.set_append_left _ _ hdl] at hk8
      have hvC := (hvn.set r1 (rE_T _) (rE ((s.num 1).2.num 8).2)).app [(⟨160, [.agg 160 [.int .i64 (s.num 1).1, .int .i64 (IntKind.i64.wrap ((s.num 1).2.num 8).1), .str ByteArray.empty]], .own⟩ : Entry)]
      obtain ⟨v6, H6, hv6, hl6, hk6, hgo⟩ := yb4 (P := prog) (.agg 160 [.int .i64 (s.num 1).1, .int .i64 (IntKind.i64.wrap ((s.num 1).2.num 8).1), .str ByteArray.empty]) (hvC.app [(⟨160, [.agg 160 [.int .i64 (s.num 1).1, .int .i64 (IntKind.i64.wrap ((s.num 1).2.num 8).1), .str ByteArray.empty]], .own⟩ : Entry)])
      rw [show ((H1.set h.length (rE ((s.num 1).2.num 8).2) ++ [(⟨160, [.agg 160 [.int .i64 (s.num 1).1, .int .i64 (IntKind.i64.wrap ((s.num 1).2.num 8).1), .str ByteArray.empty]], .own⟩ : Entry)]) ++ [(⟨160, [.agg 160 [.int .i64 (s.num 1).1, .int .i64 (IntKind.i64.wrap ((s.num 1).2.num 8).1), .str ByteArray.empty]], .own⟩ : Entry)]).length = H1.length + 2 by simp] at hgo
      rw [List.append_assoc, List.cons_append, List.nil_append] at hgo
      have r3 : (H1.set h.length (rE ((s.num 1).2.num 8).2))[h.length]? = some (rE ((s.num 1).2.num 8).2) := List.getElem?_set_self hdl
      repeat' (first
    | simp (implicitDefEqProofs := false) only [push_cast, reduceIte, reduceCtorEq, Nat.reduceAdd, Nat.reduceSub, Nat.reduceEqDiff, Nat.reduceLT, Nat.reduceLeDiff, Nat.reduceBEq, Nat.reduceMul, Int.reduceLT, Int.reduceLE, Int.reduceEq, Int.reduceToNat, Int.reduceMul, Int.reduceNeg, Go.Proofs.Try.f123, c1, hkE, hkl, cv, la, e7, hdl, zds, cK, zaj hdl, yag hdl, za4 hdl, yaj hdl, Int.toNat_natCast, qae (show i < 9223372036854775807 by omega), yad, zae, qac, zad, yab, qad, sst, qab, yaa, qaa, List.replicate_succ, List.drop_zero]
    | refine Sp2.f ?_ ?_
    | refine Spl.f ?_ ?_ <;> intro hb
    | refine yac rfl (fun b hb => ?_)
    | refine yal hk1 ?_
    | refine yal hk8 ?_
    | refine hgo _ _ _ _ ?_)
      · omega
      obtain ⟨g1, g2, g3⟩ := tg6_fin (by rw [List.append_assoc, List.take_append_of_le_length (by simp; omega), List.take_set_of_le (Nat.le_refl _)]; exact hTn) (by simp; omega) (by rw [List.append_assoc, List.getElem?_append_left (zac r3)]; exact r3) hl6 hk6 hv6
      rw [hsn, hx]
      refine ⟨hlt, g1, g2, v6, ?_, rfl⟩
      rw [List.map_append]
      exact g3
    have cK : ((s.num 1).1 == 1) = false := by simpa using k1
    by_cases k2 : (s.num 1).1 = 2
    · have cK2 : ((s.num 1).1 == 2) = true := by simpa using k2
      have hx : zbg s = (⟨(s.num 1).1, 0, ⟨((s.num 1).2.text 40).1.toArray⟩⟩, ((s.num 1).2.text 40).2) := by rw [zbg, if_neg k1, if_pos k2, k2]
      have hk40 : FSpec prog 122 [.ref h.length [0] 115, .int .i64 40] (H1 ++ [(⟨160, [.agg 160 [.int .i64 (s.num 1).1, .int .i64 0, .str ByteArray.empty]], .own⟩ : Entry)]) fun r' h' => r' = textV (s.num 1).2 40 ∧ h' = (H1 ++ [(⟨160, [.agg 160 [.int .i64 (s.num 1).1, .int .i64 0, .str ByteArray.empty]], .own⟩ : Entry)]).set h.length (rE ((s.num 1).2.text 40).2) := c_1Text r2 40 (by omega) (by omega) hls2
      rw [List.set_append_left _ _ hdl] at hk40
      have hstr := (textV_ok (s.num 1).2 40).str
      have hvC := (hvn.set r1 (rE_T _) (rE ((s.num 1).2.text 40).2)).app [(⟨160, [.agg 160 [.int .i64 (s.num 1).1, .int .i64 0, .str ⟨((s.num 1).2.text 40).1.toArray⟩]], .own⟩ : Entry)]
      obtain ⟨v6, H6, hv6, hl6, hk6, hgo⟩ := yb4 (P := prog) (.agg 160 [.int .i64 (s.num 1).1, .int .i64 0, .str ⟨((s.num 1).2.text 40).1.toArray⟩]) (hvC.app [(⟨160, [.agg 160 [.int .i64 (s.num 1).1, .int .i64 0, .str ⟨((s.num 1).2.text 40).1.toArray⟩]], .own⟩ : Entry)])
      rw [show (H1.set h.length (rE ((s.num 1).2.text 40).2) ++ [(⟨160, [.agg 160 [.int .i64 (s.num 1).1, .int .i64 0, .str ⟨((s.num 1).2.text 40).1.toArray⟩]], .own⟩ : Entry)] ++ [(⟨160, [.agg 160 [.int .i64 (s.num 1).1, .int .i64 0, .str ⟨((s.num 1).2.text 40).1.toArray⟩]], .own⟩ : Entry)]).length = H1.length + 2 by simp] at hgo
      rw [List.append_assoc, List.cons_append, List.nil_append] at hgo
      have r3 : (H1.set h.length (rE ((s.num 1).2.text 40).2))[h.length]? = some (rE ((s.num 1).2.text 40).2) := List.getElem?_set_self hdl
      repeat' (first
    | simp (implicitDefEqProofs := false) only [push_cast, reduceIte, reduceCtorEq, Nat.reduceAdd, Nat.reduceSub, Nat.reduceEqDiff, Nat.reduceLT, Nat.reduceLeDiff, Nat.reduceBEq, Nat.reduceMul, Int.reduceLT, Int.reduceLE, Int.reduceEq, Int.reduceToNat, Int.reduceMul, Int.reduceNeg, Go.Proofs.Try.f123, c1, hkE, hkl, cv, cK, cK2, hstr, la, e7, hdl, zds, zaj hdl, yag hdl, za4 hdl, yaj hdl, Int.toNat_natCast, qae (show i < 9223372036854775807 by omega), yad, zae, qac, zad, yab, qad, sst, qab, yaa, qaa, List.replicate_succ, List.drop_zero]
    | refine Sp2.f ?_ ?_
    | refine Spl.f ?_ ?_ <;> intro hb
    | refine yac rfl (fun b hb => ?_)
    | refine yal hk1 ?_
    | refine yal hk40 ?_
    | refine hgo _ _ _ _ ?_)
      · omega
      obtain ⟨g1, g2, g3⟩ := tg6_fin (by rw [List.append_assoc, List.take_append_of_le_length (by simp; omega), List.take_set_of_le (Nat.le_refl _)]; exact hTn) (by simp; omega) (by rw [List.append_assoc, List.getElem?_append_left (zac r3)]; exact r3) hl6 hk6 hv6
      rw [hsn, hx]
      refine ⟨hlt, g1, g2, v6, ?_, rfl⟩
      rw [List.map_append]
      exact g3
    · have cK2 : ((s.num 1).1 == 2) = false := by simpa using k2
      have hx : zbg s = (⟨(s.num 1).1, 0, ByteArray.empty⟩, (s.num 1).2) := by rw [zbg, if_neg k1, if_neg k2]; rfl
      have hvC := hvn.app [(⟨160, [.agg 160 [.int .i64 (s.num 1).1, .int .i64 0, .str ByteArray.empty]], .own⟩ : Entry)]
      obtain ⟨v6, H6, hv6, hl6, hk6, hgo⟩ := yb4 (P := prog) (.agg 160 [.int .i64 (s.num 1).1, .int .i64 0, .str ByteArray.empty]) (hvC.app [(⟨160, [.agg 160 [.int .i64 (s.num 1).1, .int .i64 0, .str ByteArray.empty]], .own⟩ : Entry)])
      rw [show (H1 ++ [(⟨160, [.agg 160 [.int .i64 (s.num 1).1, .int .i64 0, .str ByteArray.empty]], .own⟩ : Entry)] ++ [(⟨160, [.agg 160 [.int .i64 (s.num 1).1, .int .i64 0, .str ByteArray.empty]], .own⟩ : Entry)]).length = H1.length + 2 by simp] at hgo
      rw [List.append_assoc, List.cons_append, List.nil_append] at hgo
      repeat' (first
    | simp (implicitDefEqProofs := false) only [push_cast, reduceIte, reduceCtorEq, Nat.reduceAdd, Nat.reduceSub, Nat.reduceEqDiff, Nat.reduceLT, Nat.reduceLeDiff, Nat.reduceBEq, Nat.reduceMul, Int.reduceLT, Int.reduceLE, Int.reduceEq, Int.reduceToNat, Int.reduceMul, Int.reduceNeg, Go.Proofs.Try.f123, c1, hkE, hkl, cv, cK, cK2, la, e7, hdl, zds, zaj hdl, yag hdl, za4 hdl, yaj hdl, Int.toNat_natCast, qae (show i < 9223372036854775807 by omega), yad, zae, qac, zad, yab, qad, sst, qab, yaa, qaa, List.replicate_succ, List.drop_zero]
    | refine Sp2.f ?_ ?_
    | refine Spl.f ?_ ?_ <;> intro hb
    | refine yac rfl (fun b hb => ?_)
    | refine yal hk1 ?_
    | refine hgo _ _ _ _ ?_)
      · omega
      obtain ⟨g1, g2, g3⟩ := tg6_fin (by rw [List.append_assoc, List.take_append_of_le_length (by omega)]; exact hTn) (by simp; omega) (by rw [List.append_assoc, List.getElem?_append_left hdl]; exact r1) hl6 hk6 hv6
      rw [hsn, hx]
      refine ⟨hlt, g1, g2, v6, ?_, rfl⟩
      rw [List.map_append]
      exact g3
  · have hE := c_1End hk hls
    have hgl := qb6 i s1
    have hty := hv.ty (U := 24) zc5
    have hpl := hv.pl
    have c20 : ((2 : Int) != 0) = true := rfl
    have c00 : ((0 : Int) != 0) = false := rfl
    cases hw : (ya1 i s1).2.w with
    | true =>
      have hg : getT6 b = none := by
        obtain ⟨j, hj⟩ : ∃ j, N = i + j := ⟨N - i, by omega⟩
        rw [hget, hj, getFs_add, fine_bad (getFs_bad j hw), if_neg (by simp)]
      have hkE := hk
      rw [qcn hw] at hkE
      rw [fine_bad hw] at hE
      have hE2 : FSpec prog 74 [.ref h.length [0] 115] H fun r' h' => r' = .int .i64 2 ∧ h' = H := hE
      rw [hg]
      cases c1 : decide ((i : Int) < (N : Int))
      all_goals repeat' (first
    | simp (implicitDefEqProofs := false) only [push_cast, reduceIte, reduceCtorEq, Nat.reduceAdd, Nat.reduceSub, Nat.reduceEqDiff, Nat.reduceLT, Nat.reduceLeDiff, Nat.reduceBEq, Nat.reduceMul, Int.reduceLT, Int.reduceLE, Int.reduceEq, Int.reduceToNat, Int.reduceMul, Int.reduceNeg, Go.Proofs.Try.f123, c1, hkE, hkl, c20, fk_tt, yad, zae, qac, zad, yab, qad, sst, qab, yaa, qaa, List.replicate_succ, List.drop_zero]
    | refine Sp2.f ?_ ?_
    | refine Spl.f ?_ ?_ <;> intro hb
    | refine yac rfl (fun b hb => ?_)
    | refine yal hE2 ?_)
      all_goals exact ⟨hT, _, rfl, rfl, .nils, rfl, .inr ⟨rfl, rfl⟩⟩
    | false =>
    have hiN : i = N := by rw [hw] at hgo; simp at hgo; omega
    subst hiN
    have c1 : decide ((i : Int) < (i : Int)) = false := by simp
    generalize ya1 i s1 = p at hget hk hv hE hgl
    cases hfi : p.2.fine with
    | false =>
      have hg : getT6 b = none := by rw [hget, if_neg (by rw [hfi]; simp)]
      rw [hfi] at hE
      have hE2 : FSpec prog 74 [.ref h.length [0] 115] H fun r' h' => r' = .int .i64 2 ∧ h' = H := hE
      repeat' (first
    | simp (implicitDefEqProofs := false) only [push_cast, reduceIte, reduceCtorEq, Nat.reduceAdd, Nat.reduceSub, Nat.reduceEqDiff, Nat.reduceLT, Nat.reduceLeDiff, Nat.reduceBEq, Nat.reduceMul, Int.reduceLT, Int.reduceLE, Int.reduceEq, Int.reduceToNat, Int.reduceMul, Int.reduceNeg, Go.Proofs.Try.f123, c1, c20, fk_tt, yad, zae, qac, zad, yab, qad, sst, qab, yaa, qaa, List.replicate_succ, List.drop_zero]
    | refine Sp2.f ?_ ?_
    | refine Spl.f ?_ ?_ <;> intro hb
    | refine yac rfl (fun b hb => ?_)
    | refine yal hE2 ?_)
      rw [hg]
      exact ⟨hT, _, rfl, rfl, .nils, rfl, .inr ⟨rfl, rfl⟩⟩
    | true =>
      rw [hfi] at hE
      have hE2 : FSpec prog 74 [.ref h.length [0] 115] H fun r' h' => r' = .int .i64 0 ∧ h' = H := hE
      have hpn : p.1.length ≤ 4294967296 := by omega
      have hmay : FSpec prog 50 [wk prog 6 24 v5] H fun r' h'' => r' = .bool (qcf p.1) ∧ h'' = H := by
        have e : [wk prog 6 24 v5].map (bw H 8) = [eFs p.1] := by
          simp only [List.map_cons, List.map_nil, view_wkbw2 hv (yaw eF eF_dat _) zc5 7 5, eFs]
        refine (FSpec.borrow wfp (R := fun r' => r' = .bool (qcf p.1)) ?_ ?_ (by rintro r' rfl; rfl)).mono fun r' h' ⟨e1, e2⟩ => ⟨e2, e1⟩
        · rw [e]; exact (may6_5 p.1) ▸ zc9 p.1 hpn
        · rw [e]; simp only [List.all_cons, List.all_nil, Bool.and_true, qan (n := 0) _ (zcz p.1)]; exact qan _ (zcz p.1)
      have hz := hv.rz (n := h.length) (fun j hj => hj) (yaw eF eF_dat _)
      cases hm : qcf p.1 with
      | false =>
        rw [hm] at hmay
        have hg : getT6 b = none := by rw [hget, if_neg (by rw [hm]; simp)]
        repeat' (first
    | simp (implicitDefEqProofs := false) only [push_cast, reduceIte, reduceCtorEq, Nat.reduceAdd, Nat.reduceSub, Nat.reduceEqDiff, Nat.reduceLT, Nat.reduceLeDiff, Nat.reduceBEq, Nat.reduceMul, Int.reduceLT, Int.reduceLE, Int.reduceEq, Int.reduceToNat, Int.reduceMul, Int.reduceNeg, Go.Proofs.Try.f123, c1, c00, hty, hpl, fk_tt, yad, zae, qac, zad, yab, qad, sst, qab, yaa, qaa, List.replicate_succ, List.drop_zero]
    | refine Sp2.f ?_ ?_
    | refine Spl.f ?_ ?_ <;> intro hb
    | refine yac rfl (fun b hb => ?_)
    | refine yal hE2 ?_
    | refine yal hmay ?_)
        rw [hg]
        exact ⟨hT, _, rfl, rfl, .nils, rfl, .inr ⟨rfl, rfl⟩⟩
      | true =>
        rw [hm] at hmay
        have hg : getT6 b = some p.1 := by rw [hget, if_pos ⟨hfi, hm⟩]
        repeat' (first
    | simp (implicitDefEqProofs := false) only [push_cast, reduceIte, reduceCtorEq, Nat.reduceAdd, Nat.reduceSub, Nat.reduceEqDiff, Nat.reduceLT, Nat.reduceLeDiff, Nat.reduceBEq, Nat.reduceMul, Int.reduceLT, Int.reduceLE, Int.reduceEq, Int.reduceToNat, Int.reduceMul, Int.reduceNeg, Go.Proofs.Try.f123, c1, c00, hty, hpl, fk_tt, yad, zae, qac, zad, yab, qad, sst, qab, yaa, qaa, List.replicate_succ, List.drop_zero]
    | refine Sp2.f ?_ ?_
    | refine Spl.f ?_ ?_ <;> intro hb
    | refine yac rfl (fun b hb => ?_)
    | refine yal hE2 ?_
    | refine yal hmay ?_)
        rw [hg]
        have hb2 : zan h.length (rz H h.length v5) = true := by
          rcases hz with e | ⟨_, e⟩ <;> rw [e]
          · exact qan _ (zcz p.1)
          · rfl
        refine ⟨hT, [v5, .int .i64 0], rfl, ?_, ?_⟩
        · simp only [rzL, rz, yas, hb2, zan, Bool.and_self]
        · simp only [rzL, rz]
          refine ⟨_, rfl, ?_⟩
          rcases hz with e | ⟨e0, e⟩
          · exact .inl e
          · exact .inr ⟨List.map_eq_nil_iff.1 e0, e⟩
end Go.Abs
set_option linter.all false
set_option maxRecDepth 100000
set_option maxHeartbeats 0
namespace Go.Abs
open Go
open Go.Proofs.Try (prog)
def zco (s : RS) : Int × RS := if 4611686018427387904 ≤ (s.num 8).1 then (0, ⟨(s.num 8).2.l, true⟩) else s.num 8
def qde (s : RS) : Bool × RS := ((s.num 1).1 == 1, if 1 < (s.num 1).1 then ⟨(s.num 1).2.l, true⟩ else (s.num 1).2)
def qba (s : RS) : List Fld × RS := if (s.text 1000).1 = [] then ([], (s.text 1000).2) else if (qc7 (s.text 1000).1).isSome = true then ((qc7 (s.text 1000).1).getD [], (s.text 1000).2) else ([], ⟨(s.text 1000).2.l, true⟩)
theorem RS.raw_len1 (s : RS) (n : Int) : (s.raw n).1.length ≤ s.l.length := by
  unfold RS.raw; split
  · simp only [List.length_take]; omega
  · exact Nat.zero_le _
theorem rE_any (s : RS) : ∃ b w, rE s = ⟨115, [.agg 115 [b, .bool w]], .own⟩ := ⟨_, _, rfl⟩
theorem c_number6 {h : List Entry} {k : Nat} {s : RS} (hk : h[k]? = some (rE s)) (hl : s.l.length ≤ 100000000) :
    FSpec prog 70 [.ref k [0] 115] h fun r' h' => r' = .int .i64 (zco s).1 ∧ h' = h.set k (rE (zco s).2) := by
  have hn : FSpec prog 71 [.ref k [0] 115, .int .i64 8] h fun r' h' => r' = .int .u64 (s.num 8).1 ∧ h' = h.set k (rE (s.num 8).2) := zb8 hk 8 (by omega) (by omega) hl
  have hrg := s.num_range 8
  have hk2 : (h.set k (rE (s.num 8).2))[k]? = some (rE (s.num 8).2) := List.getElem?_set_self (zac hk)
  have hkl := zac hk2
  have hset : ∀ E, (h.set k (rE (s.num 8).2)).set k E = h.set k E := fun E => List.set_set ..
  obtain ⟨b, w, hE⟩ := rE_any (s.num 8).2
  refine frun_70 rfl ?_
  by_cases hc : 4611686018427387904 ≤ (s.num 8).1
  · have hcd : decide (4611686018427387904 ≤ (s.num 8).1) = true := by simpa using hc
    rw [zco, if_pos hc, qcn rfl, ← hset]
    have hk2 := hk2.trans (congrArg some hE)
    generalize h.set k (rE (s.num 8).2) = H at hn hk2 hkl ⊢
    generalize (s.num 8).1 = v at hn hcd
    repeat' (first
    | simp (implicitDefEqProofs := false) only [push_cast, reduceIte, reduceCtorEq, Nat.reduceAdd, Nat.reduceSub, Nat.reduceEqDiff, Nat.reduceLT, Nat.reduceLeDiff, Nat.reduceBEq, Nat.reduceMul, Int.reduceLT, Int.reduceLE, Int.reduceEq, Int.reduceToNat, Int.reduceMul, Int.reduceNeg, Go.Proofs.Try.f70, hcd, hk2, hkl, zaj hkl, yag hkl, za4 hkl, yaj hkl, yad, zae, qac, zad, yab, qad, sst, qab, yaa, qaa, List.replicate_succ, List.drop_zero]
    | refine Sp2.f ?_ ?_
    | refine Spl.f ?_ ?_ <;> intro hb
    | refine yac rfl (fun b hb => ?_)
    | refine yal hn ?_)
  · have hcd : decide (4611686018427387904 ≤ (s.num 8).1) = false := by simpa using hc
    have hcv : IntKind.wrap .i64 (s.num 8).1 = (s.num 8).1 := qam hrg.1 (by omega)
    rw [zco, if_neg hc]
    generalize h.set k (rE (s.num 8).2) = H at hn ⊢
    generalize (s.num 8).1 = v at hn hcd hcv ⊢
    repeat' (first
    | simp (implicitDefEqProofs := false) only [push_cast, reduceIte, reduceCtorEq, Nat.reduceAdd, Nat.reduceSub, Nat.reduceEqDiff, Nat.reduceLT, Nat.reduceLeDiff, Nat.reduceBEq, Nat.reduceMul, Int.reduceLT, Int.reduceLE, Int.reduceEq, Int.reduceToNat, Int.reduceMul, Int.reduceNeg, Go.Proofs.Try.f70, hcd, hcv, yad, zae, qac, zad, yab, qad, sst, qab, yaa, qaa, List.replicate_succ, List.drop_zero]
    | refine Sp2.f ?_ ?_
    | refine Spl.f ?_ ?_ <;> intro hb
    | refine yac rfl (fun b hb => ?_)
    | refine yal hn ?_)
theorem c_yes6 {h : List Entry} {k : Nat} {s : RS} (hk : h[k]? = some (rE s)) (hl : s.l.length ≤ 100000000) :
    FSpec prog 73 [.ref k [0] 115] h fun r' h' => r' = .bool (qde s).1 ∧ h' = h.set k (rE (qde s).2) := by
  have hn : FSpec prog 71 [.ref k [0] 115, .int .i64 1] h fun r' h' => r' = .int .u64 (s.num 1).1 ∧ h' = h.set k (rE (s.num 1).2) := zb8 hk 1 (by omega) (by omega) hl
  have hk2 : (h.set k (rE (s.num 1).2))[k]? = some (rE (s.num 1).2) := List.getElem?_set_self (zac hk)
  have hkl := zac hk2
  have hset : ∀ E, (h.set k (rE (s.num 1).2)).set k E = h.set k E := fun E => List.set_set ..
  obtain ⟨b, w, hE⟩ := rE_any (s.num 1).2
  refine frun_73 rfl ?_
  by_cases hc : 1 < (s.num 1).1
  · have hcd : decide (1 < (s.num 1).1) = true := by simpa using hc
    have hce : ((s.num 1).1 == 1) = false := by simp; omega
    rw [qde, if_pos hc, qcn rfl, ← hset, hce]
    have hk2 := hk2.trans (congrArg some hE)
    generalize h.set k (rE (s.num 1).2) = H at hn hk2 hkl ⊢
    generalize (s.num 1).1 = v at hn hcd hce
    repeat' (first
    | simp (implicitDefEqProofs := false) only [push_cast, reduceIte, reduceCtorEq, Nat.reduceAdd, Nat.reduceSub, Nat.reduceEqDiff, Nat.reduceLT, Nat.reduceLeDiff, Nat.reduceBEq, Nat.reduceMul, Int.reduceLT, Int.reduceLE, Int.reduceEq, Int.reduceToNat, Int.reduceMul, Int.reduceNeg, Go.Proofs.Try.f73, hcd, hce, hk2, hkl, zaj hkl, yag hkl, za4 hkl, yaj hkl, yad, zae, qac, zad, yab, qad, sst, qab, yaa, qaa, List.replicate_succ, List.drop_zero]
    | refine Sp2.f ?_ ?_
    | refine Spl.f ?_ ?_ <;> intro hb
    | refine yac rfl (fun b hb => ?_)
    | refine yal hn ?_)
  · have hcd : decide (1 < (s.num 1).1) = false := by simpa using hc
    rw [qde, if_neg hc]
    generalize h.set k (rE (s.num 1).2) = H at hn ⊢
    generalize (s.num 1).1 = v at hn hcd ⊢
    cases hce : (v == 1)
    all_goals repeat' (first
    | simp (implicitDefEqProofs := false) only [push_cast, reduceIte, reduceCtorEq, Nat.reduceAdd, Nat.reduceSub, Nat.reduceEqDiff, Nat.reduceLT, Nat.reduceLeDiff, Nat.reduceBEq, Nat.reduceMul, Int.reduceLT, Int.reduceLE, Int.reduceEq, Int.reduceToNat, Int.reduceMul, Int.reduceNeg, Go.Proofs.Try.f73, hcd, hce, yad, zae, qac, zad, yab, qad, sst, qab, yaa, qaa, List.replicate_succ, List.drop_zero]
    | refine Sp2.f ?_ ?_
    | refine Spl.f ?_ ?_ <;> intro hb
    | refine yac rfl (fun b hb => ?_)
    | refine yal hn ?_)
theorem c_some6 {h : List Entry} {k : Nat} {s : RS} (hk : h[k]? = some (rE s)) (hl : s.l.length ≤ 100000000) :
    FSpec prog 72 [.ref k [0] 115] h fun r' h' => r' = eFs (qba s).1 ∧ h' = h.set k (rE (qba s).2) := by
  have hn : FSpec prog 122 [.ref k [0] 115, .int .i64 1000] h fun r' h' => r' = eBs (s.text 1000).1 ∧ h' = h.set k (rE (s.text 1000).2) :=
    FSpec.wk1 30 (c_1Text hk 1000 (by omega) (by omega) hl) fun r' h' ⟨hv, hh⟩ => by subst hv; exact ⟨(textV_ok s 1000).ty.1, (textV_ok s 1000).ty.2.2 5, hh⟩
  have hk2 : (h.set k (rE (s.text 1000).2))[k]? = some (rE (s.text 1000).2) := List.getElem?_set_self (zac hk)
  have hkl := zac hk2
  have hset : ∀ E, (h.set k (rE (s.text 1000).2)).set k E = h.set k E := fun E => List.set_set ..
  have htl : (s.text 1000).1.length ≤ s.l.length := by
    exact Nat.le_trans (RS.raw_len1 _ _) (s.num_len 4)
  obtain ⟨b, w, hE⟩ := rE_any (s.text 1000).2
  have hg := c_GetFields6 (s.text 1000).1 (by omega)
  by_cases h0 : (s.text 1000).1 = []
  · rw [qba, if_pos h0]
    refine FSpec.wk1 24 (K := fun r' h' => r' = .nils ∧ h' = h.set k (rE (s.text 1000).2)) ?_ fun r' h' ⟨hv, hh⟩ => by subst hv; exact ⟨by rw [yci, zc5]; rfl, by rw [qbr, zc5, za1]; rfl, hh⟩
    rw [h0] at hn
    refine frun_72 rfl ?_
    generalize h.set k (rE (s.text 1000).2) = H at hn ⊢
    repeat' (first
    | simp (implicitDefEqProofs := false) only [push_cast, reduceIte, reduceCtorEq, Nat.reduceAdd, Nat.reduceSub, Nat.reduceEqDiff, Nat.reduceLT, Nat.reduceLeDiff, Nat.reduceBEq, Nat.reduceMul, Int.reduceLT, Int.reduceLE, Int.reduceEq, Int.reduceToNat, Int.reduceMul, Int.reduceNeg, Go.Proofs.Try.f72, eBs, List.map_nil, List.length_nil, yad, zae, qac, zad, yab, qad, sst, qab, yaa, qaa, List.replicate_succ, List.drop_zero]
    | refine Sp2.f ?_ ?_
    | refine Spl.f ?_ ?_ <;> intro hb
    | refine yac rfl (fun b hb => ?_)
    | refine yal hn ?_)
  · have c1 : (((s.text 1000).1.length : Int) == 0) = false := by simpa using h0
    refine frun_72 rfl ?_
    have c20 : ((2 : Int) != 0) = true := rfl
    have c00 : ((0 : Int) != 0) = false := rfl
    have hEl : zcp prog 30 (eBs (s.text 1000).1) = .ret (.int .i64 (s.text 1000).1.length) [] := by rw [eBs, ybt, List.length_map]; rfl
    cases hs : (qc7 (s.text 1000).1).isSome with
    | true =>
      rw [hs] at hg
      have hg : Fn prog 123 [eBs (s.text 1000).1] (.tup [eFs ((qc7 (s.text 1000).1).getD []), .int .i64 0]) := hg
      rw [qba, if_neg h0, hs, if_pos rfl]
      generalize h.set k (rE (s.text 1000).2) = H at hn ⊢
      generalize (qc7 (s.text 1000).1).getD [] = L at hg ⊢
      generalize (s.text 1000).1 = T at hn hg c1 hEl
      repeat' (first
    | simp (implicitDefEqProofs := false) only [push_cast, reduceIte, reduceCtorEq, Nat.reduceAdd, Nat.reduceSub, Nat.reduceEqDiff, Nat.reduceLT, Nat.reduceLeDiff, Nat.reduceBEq, Nat.reduceMul, Int.reduceLT, Int.reduceLE, Int.reduceEq, Int.reduceToNat, Int.reduceMul, Int.reduceNeg, Go.Proofs.Try.f72, c1, c00, hEl, zas, qat, yat, yav, yax, yad, zae, qac, zad, yab, qad, sst, qab, yaa, qaa, List.replicate_succ, List.drop_zero]
    | refine Sp2.f ?_ ?_
    | refine Spl.f ?_ ?_ <;> intro hb
    | refine yac rfl (fun b hb => ?_)
    | refine yal hn ?_
    | refine zay hg ?_)
    | false =>
      rw [hs] at hg
      have hL : (qc7 (s.text 1000).1).getD [] = [] := by cases hh : qc7 (s.text 1000).1 with | none => rfl | some x => rw [hh] at hs; cases hs
      rw [hL] at hg
      have hg : Fn prog 123 [eBs (s.text 1000).1] (.tup [eFs [], .int .i64 2]) := hg
      have hr : qba s = ([], ⟨(s.text 1000).2.l, true⟩) := by rw [qba, if_neg h0, hs, if_neg (by simp)]
      rw [hr, qcn rfl, ← hset]
      have hk2 := hk2.trans (congrArg some hE)
      generalize h.set k (rE (s.text 1000).2) = H at hn hk2 hkl ⊢
      generalize (s.text 1000).1 = T at hn hg c1 hEl
      repeat' (first
    | simp (implicitDefEqProofs := false) only [push_cast, reduceIte, reduceCtorEq, Nat.reduceAdd, Nat.reduceSub, Nat.reduceEqDiff, Nat.reduceLT, Nat.reduceLeDiff, Nat.reduceBEq, Nat.reduceMul, Int.reduceLT, Int.reduceLE, Int.reduceEq, Int.reduceToNat, Int.reduceMul, Int.reduceNeg, Go.Proofs.Try.f72, c1, c20, hEl, hk2, hkl, zaj hkl, yag hkl, za4 hkl, yaj hkl, zas, qat, yat, yav, yax, yad, zae, qac, zad, yab, qad, sst, qab, yaa, qaa, List.replicate_succ, List.drop_zero]
    | refine Sp2.f ?_ ?_
    | refine Spl.f ?_ ?_ <;> intro hb
    | refine yac rfl (fun b hb => ?_)
    | refine yal hn ?_
    | refine zay hg ?_)
end Go.Abs
