/- Gg: a part of the proofs about the tuple space and its bytes. -/
import Derived.Test.YtilfbkhbjkjicaaGl
set_option linter.all false
set_option maxRecDepth 100000
set_option maxHeartbeats 0
namespace Go.Abs
open Go
open Go.Proofs.Try (prog)
/-! ### genesis.Get -/
def rawK (s : RS) : List UInt8 × RS := s.raw 56
def nK (f : Int) : Nat := (min (3 * f + 1) 7).toNat
def parseG (s : RS) : Gen × RS :=
  let a := s.num 1
  let b := a.2.num 1
  let c := b.2.num 1
  let K := getMany rawK (nK a.1) c.2
  let t := K.2.text 65536
  (⟨a.1, b.1, c.1, K.1, t.1⟩, t.2)
def getG (b : List UInt8) : Option Gen :=
  if (parseG ⟨b, false⟩).2.fine = true ∧ mayG (parseG ⟨b, false⟩).1 = true ∧ putG (parseG ⟨b, false⟩).1 = b then some (parseG ⟨b, false⟩).1 else none
def zGen : Gen := ⟨0, 0, 0, [], []⟩
theorem c_RRaw9 {h : List Entry} {kd kb : Nat} {B : List UInt8} {s : RS} (r : Rdr h kd kb B s) (n : Int) :
    FSpec prog 102 [.ref kd [0] 162, .int .i64 n] h fun r' h' => r' = eBs (s.raw n).1 ∧ h' = h.set kd (rdE kb B (s.raw n).2) := by
  refine FSpec.wk1 30 (c_RRaw r n) fun r' h' ⟨hv, hh⟩ => ?_
  rcases hv with rfl | ⟨e, rfl⟩
  · exact ⟨eBs_ty _, eBs_wk _, hh⟩
  · exact ⟨by rw [ty_nils, sh_30]; rfl, by rw [wk_nils, sh_30, wkNil_slice, e]; rfl, hh⟩
theorem c_RText9 {h : List Entry} {kd kb : Nat} {B : List UInt8} {s : RS} (r : Rdr h kd kb B s) (m : Int) :
    FSpec prog 66 [.ref kd [0] 162, .int .i64 m] h fun r' h' => r' = eBs (s.text m).1 ∧ h' = h.set kd (rdE kb B (s.text m).2) := by
  refine FSpec.wk1 30 (c_RText r m) fun r' h' ⟨hv, hh⟩ => ⟨hv.ty.1, ?_, hh⟩
  exact hv.ty.2.2 5
theorem RS.raw_le (s : RS) (n : Int) : (s.raw n).1.length ≤ n.toNat := by
  unfold RS.raw
  split
  · simp only [List.length_take]; omega
  · simp
theorem RS.text_le {s : RS} {B : List UInt8} (h : s.l = B.drop (B.length - s.l.length)) (hl : s.l.length ≤ B.length) (m : Int) : (s.text m).1.length ≤ B.length := by
  have h1 := RS.num_suf h hl 4
  rw [RS.text]
  generalize (if max m 0 < (s.num 4).1 then (-1 : Int) else (s.num 4).1) = q
  unfold RS.raw
  split
  · simp only [List.length_take]; omega
  · simp
theorem gt00 {h l : List Entry} {k : Nat} {e : Entry} : (h.set k e ++ l)[h.length]? = l[0]? := by
  have := get_at0 (h.set k e) l
  simpa using this
theorem gt0i {h l : List Entry} {k i : Nat} {e : Entry} : (h.set k e ++ l)[h.length + i]? = l[i]? := by
  have := get_at (h.set k e) l i
  simpa using this
theorem sst0i {h l : List Entry} {k i : Nat} {e e' : Entry} : (h.set k e ++ l).set (h.length + i) e' = h.set k e ++ l.set i e' := by
  have := set_at (h.set k e) l i e'
  simpa using this
theorem rz_agg9 (h : List Entry) (n : Nat) (T : TypeId) (vs : List AV) : rz h n (.agg T vs) = .agg T (rzL h n vs) := by simp only [rz]
theorem rz_int9 (h : List Entry) (n : Nat) (k : IntKind) (x : Int) : rz h n (.int k x) = .int k x := by simp only [rz]
theorem wk_eBs9 (n : Nat) (T : TypeId) (l : List UInt8) : wk prog n T (eBs l) = eBs l := wk_list ..
theorem gget_bad (h H : List Entry) (hT : H.take h.length = h) (E : Entry) : (H.set h.length E).take h.length = h ∧ ∃ l, AV.tup [.agg 72 [.int .i64 0, .int .i64 0, .int .i64 0, .nils, .nils], .int .i64 2] = .tup l ∧ belowL h.length (rzL (H.set h.length E) h.length l) = true ∧
    ∃ l', AV.tup (rzL (H.set h.length E) h.length l) = .tup l' ∧ argsOK prog [72, 3] l' ∧ wks prog [72, 3] l' = [eG zGen, .int .i64 2] := by
  refine ⟨by rw [List.take_set_of_le (Nat.le_refl _)]; exact hT, _, rfl, rfl, _, rfl, ⟨by simp only [rz]; rw [ty_agg]; rfl, by simp only [rz]; rw [ty_int, sh_3]; rfl, trivial⟩, ?_⟩
  simp only [rzL, rz, wks, wk_aggE, wkAgg_struct, wk_int, wk_nils, wkNil_slice, sh_72, fl_72, sh_70, sh_30, List.zipWith_cons_cons, List.zipWith_nil_left, if_true]
  rfl
theorem gget_good {h H : List Entry} (hT : H.take h.length = h) {k6 i : Nat} {wF wR wW : Int} {Ks : List (List UInt8)} {rest : List AV} {t : List UInt8} (q7 : H[k6]? = some (⟨143, [.agg 143 (Ks.map eBs ++ rest)], .fz⟩ : Entry)) (hk : h.length < k6) (hi : Ks.length = i) (E : Entry) :
    (H.set h.length E).take h.length = h ∧ ∃ l, AV.tup [.agg 72 [.int .i64 wF, .int .i64 wR, .int .i64 wW, .win k6 [0] 30 0 i 7, eBs t], .int .i64 0] = .tup l ∧ belowL h.length (rzL (H.set h.length E) h.length l) = true ∧
    ∃ l', AV.tup (rzL (H.set h.length E) h.length l) = .tup l' ∧ argsOK prog [72, 3] l' ∧ wks prog [72, 3] l' = [eG ⟨wF, wR, wW, Ks, t⟩, .int .i64 0] := by
  have q8 : (H.set h.length E)[k6]? = _ := (List.getElem?_set_ne (show h.length ≠ k6 by omega)).trans q7
  have wG : winGet [.agg 143 (Ks.map eBs ++ rest)] [0] 0 i = some (Ks.map eBs) := by
    simp [winGet, getE, getP, hi, List.take_append_of_le_length]
  have e1 : rz (H.set h.length E) h.length (.win k6 [0] 30 0 i 7) = eKs Ks := by
    simp only [rz, if_pos (show h.length ≤ k6 by omega), q8, liveB, if_true, wG]; rfl
  refine ⟨by rw [List.take_set_of_le (Nat.le_refl _)]; exact hT, _, rfl, ?_, _, rfl, ⟨by simp only [rz]; rw [ty_agg]; rfl, by simp only [rz]; rw [ty_int, sh_3]; rfl, trivial⟩, ?_⟩
  · simp only [rzL, rz_agg9, rz_int9, e1, dat_rz _ (eBs_dat t), belowL, below, dat_below _ (eKs_dat Ks), dat_below _ (eBs_dat t), Bool.and_self]
  · simp only [rzL, rz_agg9, rz_int9, e1, dat_rz _ (eBs_dat t), wks, wk_aggE, wkAgg_struct, wk_int, eKs_wk, wk_eBs9, sh_72, fl_72, List.zipWith_cons_cons, List.zipWith_nil_left, if_true]
    rfl
theorem c_gGet (b : List UInt8) (hb : b.length ≤ 900000) : Fn prog 40 [eBs b] (.tup [eG ((getG b).getD zGen), .int .i64 (if (getG b).isSome = true then 0 else 2)]) := by
  refine pure_wk_tup (R := fun r => ∃ l, r = .tup l ∧ argsOK prog [72, 3] l ∧ wks prog [72, 3] l = [eG ((getG b).getD zGen), .int .i64 (if (getG b).isSome = true then 0 else 2)]) [72, 3] (fn_tup wfp fun h => ?_) fun r h => h
  refine frun_40 rfl ?_
  repeat' (first
    | simp (implicitDefEqProofs := false) only [push_cast, reduceIte, reduceCtorEq, Nat.reduceAdd, Nat.reduceSub, Nat.reduceEqDiff, Nat.reduceLT, Nat.reduceLeDiff, Nat.reduceBEq, Nat.reduceMul, Int.reduceLT, Int.reduceLE, Int.reduceEq, Int.reduceToNat, Int.reduceMul, Int.reduceNeg, Go.Proofs.Try.f40, eBs_ty, eBs_pl, eBs_wk, ap_lo, st_lo, st_ne, st_eq, len_st, st_st, sst, at_set, at_set0, at_set2, List.replicate_succ, List.drop_zero]
    | refine Sp2.f ?_ ?_
    | refine Spl.f ?_ ?_ <;> intro hb
    | refine rq_mk rfl (fun b hb => ?_))
  refine k_spec (c_PNew b (by omega) _) fun v H hP => ?_
  obtain ⟨kd, kb, l0, rfl, hH, hkd, hkb, r0⟩ := hP
  obtain ⟨z0, hz0⟩ : ∃ z0, H[h.length]? = some (⟨72, [z0], .own⟩ : Entry) := ⟨_, by rw [hH, List.append_assoc]; exact get_at0 ..⟩
  have hT0 : H.take h.length = h := by rw [hH, List.append_assoc]; simp
  simp only [List.length_append, List.length_cons, List.length_nil, Nat.zero_add] at hkd hkb
  clear hH l0
  have hn1 : FSpec prog 67 [.ref kd [0] 162, .int .i64 1] H fun r' h' => r' = .int .u64 ((⟨b, false⟩ : RS).num 1).1 ∧ h' = H.set kd (rdE kb b ((⟨b, false⟩ : RS).num 1).2) := c_RNum r0 1 (by omega) (by omega)
  have o0 := r0.of
  have hn2 : FSpec prog 67 [.ref kd [0] 162, .int .i64 1] (H.set kd (rdE kb b ((⟨b, false⟩ : RS).num 1).2)) _ := c_RNum (r0.at (o0.num 1)) 1 (by omega) (by omega)
  have hn3 : FSpec prog 67 [.ref kd [0] 162, .int .i64 1] (H.set kd (rdE kb b (((⟨b, false⟩ : RS).num 1).2.num 1).2)) _ := c_RNum (r0.at ((o0.num 1).num 1)) 1 (by omega) (by omega)
  obtain ⟨s3, hs3⟩ : ∃ s3, s3 = ((((⟨b, false⟩ : RS).num 1).2.num 1).2.num 1).2 := ⟨_, rfl⟩
  have o3 : s3.Of b := by rw [hs3]; exact ((o0.num 1).num 1).num 1
  rw [← hs3] at hn3
  have rg1 := (⟨b, false⟩ : RS).num_range 1
  have rg2 := ((⟨b, false⟩ : RS).num 1).2.num_range 1
  have rg3 := (((⟨b, false⟩ : RS).num 1).2.num 1).2.num_range 1
  obtain ⟨wF, hF⟩ : ∃ wF, wF = ((⟨b, false⟩ : RS).num 1).1 := ⟨_, rfl⟩
  obtain ⟨wR, hR⟩ : ∃ wR, wR = (((⟨b, false⟩ : RS).num 1).2.num 1).1 := ⟨_, rfl⟩
  obtain ⟨wW, hW⟩ : ∃ wW, wW = ((((⟨b, false⟩ : RS).num 1).2.num 1).2.num 1).1 := ⟨_, rfl⟩
  rw [← hF] at hn1 rg1
  rw [← hR] at hn2 rg2
  rw [← hW] at hn3 rg3
  have vF : IntKind.wrap .i64 wF = wF := i64_small rg1.1 (by omega)
  have vR : IntKind.wrap .i64 wR = wR := i64_small rg2.1 (by omega)
  have vW : IntKind.wrap .i64 wW = wW := i64_small rg3.1 (by omega)
  have v3 : IntKind.wrap .i64 (3 * wF) = 3 * wF := i64_small (by omega) (by omega)
  have v4 : IntKind.wrap .i64 (3 * wF + 1) = 3 * wF + 1 := i64_small (by omega) (by omega)
  obtain ⟨n, hn⟩ : ∃ n, n = nK wF := ⟨_, rfl⟩
  have hn7 : n ≤ 7 := by rw [hn, nK]; omega
  have v7 : (if (7 : Int) < 3 * wF + 1 then (7 : Int) else 3 * wF + 1) = (n : Int) := by rw [hn, nK]; split <;> omega
  repeat' (first
    | simp (implicitDefEqProofs := false) only [push_cast, reduceIte, reduceCtorEq, Nat.reduceAdd, Nat.reduceSub, Nat.reduceEqDiff, Nat.reduceLT, Nat.reduceLeDiff, Nat.reduceBEq, Nat.reduceMul, Int.reduceLT, Int.reduceLE, Int.reduceEq, Int.reduceToNat, Int.reduceMul, Int.reduceNeg, Go.Proofs.Try.f40, vF, vR, vW, v3, v4, v7, sst00, sst0i, gt00, gt0i, ap_lo, st_lo, st_ne, st_eq, len_st, st_st, sst, at_set, at_set0, at_set2, List.replicate_succ, List.drop_zero]
    | refine Sp2.f ?_ ?_
    | refine Spl.f ?_ ?_ <;> intro hb
    | refine rq_mk rfl (fun b hb => ?_)
    | refine k_det hn1 ?_
    | refine k_det hn2 ?_
    | refine k_det hn3 ?_)
  obtain ⟨k5, hk5⟩ : ∃ k5, k5 = H.length := ⟨_, rfl⟩
  have hdl := lt_some r0.d
  have hbl := lt_some r0.b
  have hnl := lt_some hz0
  have rA := r0.to o3 [(⟨72, [.agg 72 [.int .i64 wF, .int .i64 wR, .int .i64 wW, .nils, .nils]], .own⟩ : Entry), ⟨143, [.agg 143 [.nils, .nils, .nils, .nils, .nils, .nils, .nils]], .own⟩]
  refine rl_gen (fun i env' H' => i ≤ n ∧ H'.take h.length = h ∧ H'[h.length]? = some (⟨72, [z0], .own⟩ : Entry) ∧ Rdr H' kd kb b (getMany rawK i s3).2 ∧ H'[k5]? = some (⟨72, [.agg 72 [.int .i64 wF, .int .i64 wR, .int .i64 wW, .nils, .nils]], .own⟩ : Entry) ∧
    H'[k5 + 1]? = some (⟨143, [.agg 143 ((getMany rawK i s3).1.map eBs ++ List.replicate (7 - i) .nils)], .own⟩ : Entry) ∧
    env' = (fun a : Nat → AV => [(0, eBs b), (2, .ref h.length [0] 72), (3, .int .i64 0), (4, .ref kd [0] 162), (5, .ref k5 [0] 72), (6, .ref (k5 + 1) [0] 143), (7, a 7), (8, a 8), (9, a 9), (26, .int .i64 (n : Int)), (27, .int .i64 (i : Int)), (28, a 28), (62, a 62)]) (lk env')) n ⟨Nat.zero_le _, ?_, ?_, rA, ?_, ?_, ?_⟩ ?_
  · rw [List.take_append_of_le_length (by simp; omega), List.take_set_of_le (by omega)]; exact hT0
  · rw [List.getElem?_append_left (by simp; omega), List.getElem?_set_ne (by omega)]; exact hz0
  · rw [hk5]; exact gt00
  · rw [hk5]; exact gt0i
  · rw [hk5]; rfl
  have hd5 : kd ≠ k5 := by omega
  have hd6 : kd ≠ k5 + 1 := by omega
  have hb5 : kb ≠ k5 := by omega
  have hb6 : kb ≠ k5 + 1 := by omega
  have hn5 : h.length < k5 := by omega
  have hn4 : h.length ≠ kd := by omega
  clear rA r0 hT0 hz0 hdl hbl hnl hn1 hn2 hn3 hk5 o0
  clear H
  rintro i env H ⟨hi, hT, hz, r, h5, h6, henv⟩
  refine ⟨hi, ?_⟩
  rw [henv]
  generalize lk env = a
  clear henv env
  by_cases hlt : i < n
  · have c1 : decide ((i : Int) < (n : Int)) = true := by simp; omega
    have hsn := getMany_snoc rawK i s3
    have hln := getMany_len rawK i s3
    have hrep : List.replicate (7 - i) AV.nils = AV.nils :: List.replicate (7 - (i + 1)) AV.nils := by
      rw [show 7 - i = (7 - (i + 1)) + 1 by omega]; rfl
    rw [hrep] at h6
    generalize (getMany rawK i s3).2 = s at r hsn
    generalize hfs : (getMany rawK i s3).1 = fs at h6 hsn hln
    have gp1 : (fs.map eBs ++ AV.nils :: List.replicate (7 - (i + 1)) AV.nils)[i]? = some AV.nils := by rw [List.getElem?_append_right (by simp [hln])]; simp [hln]
    have gp2 : ∀ y, (fs.map eBs ++ AV.nils :: List.replicate (7 - (i + 1)) AV.nils).set i y = fs.map eBs ++ y :: List.replicate (7 - (i + 1)) AV.nils := fun y => by rw [List.set_append_right _ _ (by simp [hln])]; simp [hln]
    have hr7 : (0 ≤ (i : Int) ∧ (i : Int) < 7) = True := by simp; omega
    have c7N : ((7 : Nat) : Int) = 7 := rfl
    have hraw := c_RRaw9 r 56
    have h6s : (H.set kd (rdE kb b (s.raw 56).2))[k5 + 1]? = _ := (List.getElem?_set_ne hd6).trans h6
    have h6l := lt_some h6
    repeat' (first
    | simp (implicitDefEqProofs := false) only [push_cast, reduceIte, reduceCtorEq, Nat.reduceAdd, Nat.reduceSub, Nat.reduceEqDiff, Nat.reduceLT, Nat.reduceLeDiff, Nat.reduceBEq, Nat.reduceMul, Int.reduceLT, Int.reduceLE, Int.reduceEq, Int.reduceToNat, Int.reduceMul, Int.reduceNeg, Go.Proofs.Try.f40, c1, hr7, c7N, gp1, gp2, h6s, h6l, eBs_ty, eBs_pl, eBs_wk, Int.toNat_natCast, wrap_succ (show i < 9223372036854775807 by omega), ap_lo, st_lo, st_ne, st_eq, len_st, st_st, sst, at_set, at_set0, at_set2, List.replicate_succ, List.drop_zero]
    | refine Sp2.f ?_ ?_
    | refine Spl.f ?_ ?_ <;> intro hb
    | refine rq_mk rfl (fun b hb => ?_)
    | refine k_det hraw ?_)
    rw [hsn]
    have o1 : (s.raw 56).2.Of b := RS.raw_suf r.of.1 r.of.2 56
    refine ⟨hlt, ?_, ?_, ?_, ?_, ?_⟩
    · rw [List.take_set_of_le (by omega), List.take_set_of_le (by omega)]; exact hT
    · rw [List.getElem?_set_ne (by omega), List.getElem?_set_ne (by omega)]; exact hz
    · exact (r.at o1).keep (fun e he => by rw [List.getElem?_set_ne (Ne.symm hd6)]; exact he) (fun e he => by rw [List.getElem?_set_ne (Ne.symm hb6)]; exact he)
    · rw [List.getElem?_set_ne hd5]; exact h5
    · simp only [List.map_append, List.map_cons, List.map_nil, List.append_assoc, List.cons_append, List.nil_append, rawK]
  · have hin : i = n := by omega
    subst hin
    have c1 : decide ((i : Int) < (i : Int)) = false := by simp
    generalize hPK : getMany rawK i s3 = pK at r h6
    have hPKl : pK.1.length = i := by rw [← hPK]; exact getMany_len ..
    obtain ⟨Ks, s5⟩ := pK
    simp only at r h6 hPKl
    have htx := c_RText9 r 65536
    have c7N : ((7 : Nat) : Int) = 7 := rfl
    have s7 : (0 ≤ (i : Int) ∧ (i : Int) ≤ 7) = True := by simp; omega
    have h5l := lt_some h5
    have h6l := lt_some h6
    have o5 := r.of
    have r1 : Rdr (H.set k5 ⟨72, [.agg 72 [.int .i64 wF, .int .i64 wR, .int .i64 wW, .win (k5 + 1) [0] 30 0 i 7, .nils]], .own⟩) kd kb b s5 := r.keep (fun e he => by rw [List.getElem?_set_ne (Ne.symm hd5)]; exact he) (fun e he => by rw [List.getElem?_set_ne (Ne.symm hb5)]; exact he)
    have htx := c_RText9 r1 65536
    have o6 : (s5.text 65536).2.Of b := RS.Of.text o5 65536
    have h5s : ((H.set k5 (⟨72, [.agg 72 [.int .i64 wF, .int .i64 wR, .int .i64 wW, .win (k5 + 1) [0] 30 0 i 7, .nils]], .own⟩ : Entry)).set kd (rdE kb b (s5.text 65536).2))[k5]? = _ := (List.getElem?_set_ne hd5).trans (List.getElem?_set_self h5l)
    repeat' (first
    | simp (implicitDefEqProofs := false) only [push_cast, reduceIte, reduceCtorEq, Nat.reduceAdd, Nat.reduceSub, Nat.reduceEqDiff, Nat.reduceLT, Nat.reduceLeDiff, Nat.reduceBEq, Nat.reduceMul, Int.reduceLT, Int.reduceLE, Int.reduceEq, Int.reduceToNat, Int.reduceMul, Int.reduceNeg, Go.Proofs.Try.f40, c1, vF, v3, v4, v7, c7N, s7, h5, h5l, h6, h6l, h5s, eBs_ty, eBs_pl, eBs_wk, Int.toNat_natCast, ap_lo, st_lo, st_ne, st_eq, len_st, st_st, sst, at_set, at_set0, at_set2, List.replicate_succ, List.drop_zero]
    | refine Sp2.f ?_ ?_
    | refine Spl.f ?_ ?_ <;> intro hb
    | refine rq_mk rfl (fun b hb => ?_)
    | refine k_det htx ?_)
    have htl : (s5.text 65536).1.length ≤ 1000000 := by have := RS.text_short (B := b) r1.suf r1.len (by omega) 65536; have h2 := RS.text_le (B := b) r1.suf r1.len 65536; omega
    have r2 : Rdr (((H.set k5 (⟨72, [.agg 72 [.int .i64 wF, .int .i64 wR, .int .i64 wW, .win (k5 + 1) [0] 30 0 i 7, .nils]], .own⟩ : Entry)).set kd (rdE kb b (s5.text 65536).2)).set k5 (⟨72, [.agg 72 [.int .i64 wF, .int .i64 wR, .int .i64 wW, .win (k5 + 1) [0] 30 0 i 7, eBs (s5.text 65536).1]], .own⟩ : Entry)) kd kb b (s5.text 65536).2 := (r1.at o6).keep (fun e he => by rw [List.getElem?_set_ne (Ne.symm hd5)]; exact he) (fun e he => by rw [List.getElem?_set_ne (Ne.symm hb5)]; exact he)
    have hT2 : (((H.set k5 (⟨72, [.agg 72 [.int .i64 wF, .int .i64 wR, .int .i64 wW, .win (k5 + 1) [0] 30 0 i 7, .nils]], .own⟩ : Entry)).set kd (rdE kb b (s5.text 65536).2)).set k5 (⟨72, [.agg 72 [.int .i64 wF, .int .i64 wR, .int .i64 wW, .win (k5 + 1) [0] 30 0 i 7, eBs (s5.text 65536).1]], .own⟩ : Entry)).take h.length = h := by
      rw [List.take_set_of_le (by omega), List.take_set_of_le (by omega), List.take_set_of_le (by omega)]; exact hT
    have hz2 : (((H.set k5 (⟨72, [.agg 72 [.int .i64 wF, .int .i64 wR, .int .i64 wW, .win (k5 + 1) [0] 30 0 i 7, .nils]], .own⟩ : Entry)).set kd (rdE kb b (s5.text 65536).2)).set k5 (⟨72, [.agg 72 [.int .i64 wF, .int .i64 wR, .int .i64 wW, .win (k5 + 1) [0] 30 0 i 7, eBs (s5.text 65536).1]], .own⟩ : Entry))[h.length]? = _ := ((List.getElem?_set_ne (show k5 ≠ h.length by omega)).trans ((List.getElem?_set_ne (Ne.symm hn4)).trans (List.getElem?_set_ne (show k5 ≠ h.length by omega)))).trans hz
    have q6 : (((H.set k5 (⟨72, [.agg 72 [.int .i64 wF, .int .i64 wR, .int .i64 wW, .win (k5 + 1) [0] 30 0 i 7, .nils]], .own⟩ : Entry)).set kd (rdE kb b (s5.text 65536).2)).set k5 (⟨72, [.agg 72 [.int .i64 wF, .int .i64 wR, .int .i64 wW, .win (k5 + 1) [0] 30 0 i 7, eBs (s5.text 65536).1]], .own⟩ : Entry))[k5 + 1]? = _ := ((List.getElem?_set_ne (show k5 ≠ k5 + 1 by omega)).trans ((List.getElem?_set_ne hd6).trans (List.getElem?_set_ne (show k5 ≠ k5 + 1 by omega)))).trans h6
    have q5 : (((H.set k5 (⟨72, [.agg 72 [.int .i64 wF, .int .i64 wR, .int .i64 wW, .win (k5 + 1) [0] 30 0 i 7, .nils]], .own⟩ : Entry)).set kd (rdE kb b (s5.text 65536).2)).set k5 (⟨72, [.agg 72 [.int .i64 wF, .int .i64 wR, .int .i64 wW, .win (k5 + 1) [0] 30 0 i 7, eBs (s5.text 65536).1]], .own⟩ : Entry))[k5]? = _ := List.getElem?_set_self (by simpa using h5l)
    generalize (((H.set k5 _).set kd (rdE kb b (s5.text 65536).2)).set k5 _) = H2 at r2 hT2 hz2 q6 q5 ⊢
    generalize hs6 : (s5.text 65536).2 = s6 at r2
    generalize htt : (s5.text 65536).1 = t at q5 htl ⊢
    obtain ⟨p, hp⟩ : ∃ p, p = (⟨wF, wR, wW, Ks, t⟩ : Gen) := ⟨_, rfl⟩
    have hparse : parseG ⟨b, false⟩ = (p, s6) := by
      simp only [parseG, ← hs3, ← hF, ← hR, ← hW, ← hn, hPK, htt, hs6, hp]
    have hsm : p.Small := by
      rw [hp]
      refine ⟨by show Ks.length ≤ _; omega, fun x hx => ?_, htl⟩
      have := getMany_all (f := rawK) (p := fun x : List UInt8 => x.length ≤ 1000000) (fun s => by have := RS.raw_le s 56; show (s.raw 56).1.length ≤ _; omega) i s3
      rw [hPK] at this
      exact this x hx
    have hget : getG b = (if s6.fine = true ∧ mayG p = true ∧ putG p = b then some p else none) := by rw [getG, hparse]
    have wG : winGet [.agg 143 (Ks.map eBs ++ List.replicate (7 - i) .nils)] [0] 0 i = some (Ks.map eBs) := by
      simp [winGet, getE, getP, hPKl, List.take_append_of_le_length]
    have hput : FSpec prog 39 [.agg 72 [.int .i64 wF, .int .i64 wR, .int .i64 wW, .win (k5 + 1) [0] 30 0 i 7, eBs t]] H2 (fun r' h' => r' = .tup [eBs (if mayG p = true then putG p else []), .int .i64 (if mayG p = true then 0 else 1)] ∧ h' = H2.set (k5 + 1) (fzE ⟨143, [.agg 143 (Ks.map eBs ++ List.replicate (7 - i) .nils)], .own⟩)) := by
      refine FSpec.freeze wfp q6 rfl (by simp) (FSpec.read wfp (args' := [eG p]) ?_ (c_gPut p hsm))
      simp only [List.map_cons, List.map_nil, bz_aggE, bz_intE, bz_winE, List.getElem?_set_self (lt_some q6), fzE, bzWin, if_true, wG, bz_dat 3 _ (eBs_dat t), hp]
      rfl
    have w5 : wk prog 5 30 (eBs t) = eBs t := wk_list ..
    have b20 : ((2 : Int) != 0) = true := rfl
    have b10 : ((1 : Int) != 0) = true := rfl
    have b00 : ((0 : Int) != 0) = false := rfl
    have r3 := r2.keep (H' := H2.set (k5 + 1) (fzE ⟨143, [.agg 143 (Ks.map eBs ++ List.replicate (7 - i) .nils)], .own⟩)) (fun e he => by rw [List.getElem?_set_ne (Ne.symm hd6)]; exact he) (fun e he => by rw [List.getElem?_set_ne (Ne.symm hb6)]; exact he)
    have hT3 : (H2.set (k5 + 1) (fzE ⟨143, [.agg 143 (Ks.map eBs ++ List.replicate (7 - i) .nils)], .own⟩)).take h.length = h := by rw [List.take_set_of_le (by omega)]; exact hT2
    have q5' := (List.getElem?_set_ne (a := fzE ⟨143, [.agg 143 (Ks.map eBs ++ List.replicate (7 - i) .nils)], .own⟩) (show k5 + 1 ≠ k5 by omega)).trans q5
    have z3 := (List.getElem?_set_ne (a := fzE ⟨143, [.agg 143 (Ks.map eBs ++ List.replicate (7 - i) .nils)], .own⟩) (show k5 + 1 ≠ h.length by omega)).trans hz2
    have q7 : (H2.set (k5 + 1) (fzE ⟨143, [.agg 143 (Ks.map eBs ++ List.replicate (7 - i) .nils)], .own⟩))[k5 + 1]? = some (⟨143, [.agg 143 (Ks.map eBs ++ List.replicate (7 - i) .nils)], .fz⟩ : Entry) := List.getElem?_set_self (lt_some q6)
    generalize H2.set (k5 + 1) _ = H3 at hput r3 hT3 q5' z3 q7
    have k5l := lt_some q5'
    have z3l := lt_some z3
    have hEnd : FSpec prog 68 [.ref kd [0] 162] H3 fun r' h' => r' = .int .i64 (if s6.fine = true then 0 else 2) ∧ h' = H3.set kd (rdE kb b s6) := c_REnd r3
    have hT3' : (H3.set kd (rdE kb b s6)).take h.length = h := by rw [List.take_set_of_le (by omega)]; exact hT3
    have z4 := (List.getElem?_set_ne (a := rdE kb b s6) (Ne.symm hn4)).trans z3
    have q5s := (List.getElem?_set_ne (a := rdE kb b s6) hd5).trans q5'
    have q7s := (List.getElem?_set_ne (a := rdE kb b s6) hd6).trans q7
    cases hfi : s6.fine <;> cases hma : mayG p <;> rw [hfi] at hEnd <;> rw [hma] at hput
    · have hg : getG b = none := by rw [hget, if_neg (by rw [hfi]; simp)]
      rw [hg]
      repeat' (first
    | simp (implicitDefEqProofs := false) only [push_cast, reduceIte, reduceCtorEq, Nat.reduceAdd, Nat.reduceSub, Nat.reduceEqDiff, Nat.reduceLT, Nat.reduceLeDiff, Nat.reduceBEq, Nat.reduceMul, Int.reduceLT, Int.reduceLE, Int.reduceEq, Int.reduceToNat, Int.reduceMul, Int.reduceNeg, Go.Proofs.Try.f40, w5, hT3', fk_cell, q5', k5l, z3, z3l, z4, q5s, b20, b10, b00, eBs_ty, eBs_pl, eBs_wk, ap_lo, st_lo, st_ne, st_eq, len_st, st_st, sst, at_set, at_set0, at_set2, List.replicate_succ, List.drop_zero]
    | refine Sp2.f ?_ ?_
    | refine Spl.f ?_ ?_ <;> intro hb
    | refine rq_mk rfl (fun b hb => ?_)
    | refine k_det hput ?_
    | refine k_det hEnd ?_)
      exact gget_bad _ _ hT3' _
    · have hg : getG b = none := by rw [hget, if_neg (by rw [hfi]; simp)]
      rw [hg]
      repeat' (first
    | simp (implicitDefEqProofs := false) only [push_cast, reduceIte, reduceCtorEq, Nat.reduceAdd, Nat.reduceSub, Nat.reduceEqDiff, Nat.reduceLT, Nat.reduceLeDiff, Nat.reduceBEq, Nat.reduceMul, Int.reduceLT, Int.reduceLE, Int.reduceEq, Int.reduceToNat, Int.reduceMul, Int.reduceNeg, Go.Proofs.Try.f40, w5, hT3', fk_cell, q5', k5l, z3, z3l, z4, q5s, b20, b10, b00, eBs_ty, eBs_pl, eBs_wk, ap_lo, st_lo, st_ne, st_eq, len_st, st_st, sst, at_set, at_set0, at_set2, List.replicate_succ, List.drop_zero]
    | refine Sp2.f ?_ ?_
    | refine Spl.f ?_ ?_ <;> intro hb
    | refine rq_mk rfl (fun b hb => ?_)
    | refine k_det hput ?_
    | refine k_det hEnd ?_)
      exact gget_bad _ _ hT3' _
    · have hg : getG b = none := by rw [hget, if_neg (by rw [hma]; simp)]
      rw [hg]
      repeat' (first
    | simp (implicitDefEqProofs := false) only [push_cast, reduceIte, reduceCtorEq, Nat.reduceAdd, Nat.reduceSub, Nat.reduceEqDiff, Nat.reduceLT, Nat.reduceLeDiff, Nat.reduceBEq, Nat.reduceMul, Int.reduceLT, Int.reduceLE, Int.reduceEq, Int.reduceToNat, Int.reduceMul, Int.reduceNeg, Go.Proofs.Try.f40, w5, hT3', fk_cell, q5', k5l, z3, z3l, z4, q5s, b20, b10, b00, eBs_ty, eBs_pl, eBs_wk, ap_lo, st_lo, st_ne, st_eq, len_st, st_st, sst, at_set, at_set0, at_set2, List.replicate_succ, List.drop_zero]
    | refine Sp2.f ?_ ?_
    | refine Spl.f ?_ ?_ <;> intro hb
    | refine rq_mk rfl (fun b hb => ?_)
    | refine k_det hput ?_
    | refine k_det hEnd ?_)
      exact gget_bad _ _ hT3' _
    · have hEq := c_Equal_B (putG p) b (by have := putG_len hma hsm; omega) (by omega)
      cases hq : putG p == b
      · rw [hq] at hEq
        have hg : getG b = none := by rw [hget, if_neg (by rintro ⟨_, _, e⟩; rw [e] at hq; simp at hq)]
        rw [hg]
        repeat' (first
    | simp (implicitDefEqProofs := false) only [push_cast, reduceIte, reduceCtorEq, Nat.reduceAdd, Nat.reduceSub, Nat.reduceEqDiff, Nat.reduceLT, Nat.reduceLeDiff, Nat.reduceBEq, Nat.reduceMul, Int.reduceLT, Int.reduceLE, Int.reduceEq, Int.reduceToNat, Int.reduceMul, Int.reduceNeg, Go.Proofs.Try.f40, w5, hT3', fk_cell, q5', k5l, z3, z3l, z4, q5s, b20, b10, b00, eBs_ty, eBs_pl, eBs_wk, ap_lo, st_lo, st_ne, st_eq, len_st, st_st, sst, at_set, at_set0, at_set2, List.replicate_succ, List.drop_zero]
    | refine Sp2.f ?_ ?_
    | refine Spl.f ?_ ?_ <;> intro hb
    | refine rq_mk rfl (fun b hb => ?_)
    | refine k_det hput ?_
    | refine k_det hEnd ?_
    | refine k_fn hEq ?_)
        exact gget_bad _ _ hT3' _
      · rw [hq] at hEq
        have hg : getG b = some p := by rw [hget, if_pos ⟨hfi, hma, eq_of_beq hq⟩]
        rw [hg]
        repeat' (first
    | simp (implicitDefEqProofs := false) only [push_cast, reduceIte, reduceCtorEq, Nat.reduceAdd, Nat.reduceSub, Nat.reduceEqDiff, Nat.reduceLT, Nat.reduceLeDiff, Nat.reduceBEq, Nat.reduceMul, Int.reduceLT, Int.reduceLE, Int.reduceEq, Int.reduceToNat, Int.reduceMul, Int.reduceNeg, Go.Proofs.Try.f40, w5, hT3', fk_cell, q5', k5l, z3, z3l, z4, q5s, b20, b10, b00, eBs_ty, eBs_pl, eBs_wk, ap_lo, st_lo, st_ne, st_eq, len_st, st_st, sst, at_set, at_set0, at_set2, List.replicate_succ, List.drop_zero]
    | refine Sp2.f ?_ ?_
    | refine Spl.f ?_ ?_ <;> intro hb
    | refine rq_mk rfl (fun b hb => ?_)
    | refine k_det hput ?_
    | refine k_det hEnd ?_
    | refine k_fn hEq ?_)
        rw [hp]
        exact gget_good hT3' q7s (by omega) hPKl _

end Go.Abs
