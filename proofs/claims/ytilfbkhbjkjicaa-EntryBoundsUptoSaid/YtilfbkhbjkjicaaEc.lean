/- Ec: a part of the proofs about the tuple space and its bytes. -/
import Derived.Test.YtilfbkhbjkjicaaEb2
import Derived.Test.YtilfbkhbjkjicaaEv
import Derived.Test.YtilfbkhbjkjicaaEh
set_option linter.all false
set_option maxRecDepth 100000
set_option maxHeartbeats 0
namespace Go.Abs
open Go
open Go.Proofs.Try (prog)
theorem and3b {i : Nat} (h : i < 16) : bits .and .i64 (i : Int) 3 = ((i % 4 : Nat) : Int) := by
  have : ∀ j : _root_.Fin 16, bits .and .i64 (j.val : Int) 3 = ((j.val % 4 : Nat) : Int) := by decide +kernel
  exact this ⟨i, h⟩
theorem wrapU {n : Nat} (hn : n ≤ 10) : IntKind.wrap .u64 (n : Int) = (n : Int) := by rw [yaq]; omega
theorem wrapB {n : Nat} (h0 : n ≠ 0) (hn : n ≤ 10) : (IntKind.wrap .u64 (n : Int) == 0) = false := by rw [wrapU hn]; simp; omega
theorem pickB (y : Int) {n : Nat} (h0 : n ≠ 0) (hn : n ≤ 10) : ∃ kk : Nat, kk < n ∧ IntKind.wrap .i64 ((IntKind.wrap .u64 ((IntKind.wrap .u64 y).tdiv 2)).tmod (IntKind.wrap .u64 (n : Int))) = (kk : Int) := by
  rw [wrapU hn]
  have h : 0 ≤ IntKind.wrap .u64 ((IntKind.wrap .u64 y).tdiv 2) := by rw [yaq]; omega
  rw [IntWalk.rem_in _ _ h]
  have h1 := Int.emod_nonneg (IntKind.wrap .u64 ((IntKind.wrap .u64 y).tdiv 2)) (show (n : Int) ≠ 0 by omega)
  have h2 := Int.emod_lt_of_pos (IntKind.wrap .u64 ((IntKind.wrap .u64 y).tdiv 2)) (show 0 < (n : Int) by omega)
  generalize IntKind.wrap .u64 ((IntKind.wrap .u64 y).tdiv 2) % (n : Int) = r at h1 h2 ⊢
  exact ⟨r.toNat, by omega, by rw [IntWalk.i64_in _ (by omega)]; omega⟩
def lT (n k : Nat) : List Req := (lB n).set k { rB k with Seq := 0 }
theorem lT_len (n k : Nat) : (lT n k).length = n := by simp [lT, zco]
theorem lT_bare (n k : Nat) : ∀ x ∈ lT n k, bare x := fun x hx => by
  rcases List.mem_or_eq_of_mem_set hx with h | rfl
  · exact zcv n x h
  · exact ⟨rfl, rfl⟩
theorem lT_may {n k : Nat} (h : k < n) (t : Int) : zc2 ⟨t, lT n k⟩ = false := by
  have h1 : ({ rB k with Seq := 0 } : Req) ∈ lT n k := List.mem_set (by rw [zco]; exact h) _
  have h2 : qcp { rB k with Seq := 0 } = false := by
    rw [qcp, decide_eq_false (fun h => absurd (show (1 : Int) ≤ 0 from h.2.2.1) (by decide)), Bool.false_and]
  have h3 : (lT n k).all qcp = false := by
    rw [Bool.eq_false_iff]; intro e; rw [List.all_eq_true] at e; rw [e _ h1] at h2; cases h2
  show (headE _ && (lT n k).all qcp) = false
  rw [h3, Bool.and_false]
theorem lB_get {n k : Nat} (h : k < n) (z : List AV) : ((lB n).map rqA ++ z)[k]? = some (rqA (rB k)) := by
  rw [List.getElem?_append_left (by simp [zco]; exact h), List.getElem?_map, lB, List.getElem?_map, List.getElem?_range h]; rfl
theorem lT_row {n k : Nat} (h : k < n) (z : List AV) : ((lB n).map rqA ++ z).set k (rqA { rB k with Seq := 0 }) = (lT n k).map rqA ++ z := by
  rw [List.set_append_left _ _ (by simp [zco]; exact h), lT, List.map_set]
theorem qbm (x y w t : Int) (n j : Nat) (hkx : IntKind.wrap .i64 ((IntKind.wrap .u64 x).tmod 11) = (n : Int)) (hn : n ≤ 10) (hkw : IntKind.wrap .i64 ((IntKind.wrap .u64 w).tmod 5) = (j : Int)) (hj5 : j < 5)
    (ht : ([.int .i64 0, .int .i64 1, .int .i64 1099511627776, .int .i64 1099511627777, .int .i64 (-1)] : List AV)[j]? = some (.int .i64 t)) (hr5 : (0 ≤ (j : Int) ∧ (j : Int) < 5) = True) (htj : 0 ≤ t → t ≤ 1099511627776 → t = 0 ∨ t = 1 ∨ t = 1099511627776) : Fn prog 9 [.int .i64 x, .int .i64 y, .int .i64 w] (.bool true) := by
  refine run_9 rfl fun h => ?_
  repeat' (first
    | simp (implicitDefEqProofs := false) only [push_cast, reduceIte, reduceCtorEq, Nat.reduceAdd, Nat.reduceSub, Nat.reduceEqDiff, Nat.reduceLT, Nat.reduceLeDiff, Nat.reduceBEq, Nat.reduceMul, Int.reduceLT, Int.reduceLE, Int.reduceEq, Int.reduceToNat, Int.reduceMul, Int.reduceNeg, Go.Proofs.Try.f9, hkx, hkw, ht, hr5, Int.toNat_natCast, zad, zae, qac, yad, yab, qad, sst, zac, qaa, yaa, zag, ybk, List.replicate_succ, List.drop_zero]
    | refine Sp2.f ?_ ?_
    | refine Spl.f ?_ ?_ <;> intro hb
    | refine yac rfl (fun b hb => ?_)
    | refine zaa (U := [[], [0], [], [], [], [], [], [0, 1, 2], [], [], []]) (H := [⟨0, [], .hole⟩]) yae (by kernel_rfl) (by decide +kernel) (by kernel_rfl) ?_
    | refine zaa (U := [[], [], [], [], [], [], [], [], [], [], [], [], [], [12], [], [], []]) (H := []) yae (by kernel_rfl) (by decide +kernel) (by kernel_rfl) ?_)
  · simp only [hr5] at *; omega
  refine qa6 (fun i env' H => i ≤ n ∧ H.take h.length = h ∧ ∃ v, H[h.length + 1]? = some ⟨49, [.agg 49 [.int .i64 t, v]], .own⟩ ∧ View (fun k => h.length + 2 ≤ k) H 60 v ((lB i).map rqA) ∧ NilOr v ((lB i).map rqA) ∧
    env' = (fun a : Nat → AV => [(0, .int .i64 x), (1, .int .i64 y), (2, .int .i64 w), (6, .bool false), (7, .int .i64 n), (8, .int .i64 t), (9, .ref (h.length + 1) [0] 49), (10, .int .i64 i), (11, a 11), (12, a 12), (13, a 13), (14, a 14), (15, a 15), (16, a 16), (17, a 17), (33, a 33), (66, a 66), (114, a 114), (116, a 116)]) (lk env')) n ⟨Nat.zero_le _, by simp, .nils, za0 h _ 1, .nil, fun _ => rfl, rfl⟩ ?_
  clear ht hr5 hkx hkw hj5
  rintro i env H ⟨hi, hT, v, hc, hv, hnI, henv⟩
  refine ⟨hi, ?_⟩
  rw [henv]
  generalize lk env = a
  clear henv env
  have lc := qab hc
  have la : lenAV v = i := by rw [hv.lenAV]; simp [zco]
  by_cases hlt : i < n
  · have c1 : decide ((i : Int) < (n : Int)) = true := by simp; omega
    have f3 := and3b (show i < 16 by omega)
    obtain ⟨r4, hr4⟩ : ∃ r4, r4 = i % 4 := ⟨_, rfl⟩
    rw [← hr4] at f3
    have hty := hv.ty (P := prog) (U := 47) sh_47
    have hpl := hv.pl
    have e7 : decide (i + 1 ≤ 4294967296) = true := by simp; omega
    have e8 : i ≤ 4294967295 := by omega
    have w1 : IntKind.wrap .i64 ((i : Int) + 1) = (i : Int) + 1 := zbh (by omega) (by omega)
    have hrb : rqA (rB i) = .agg 60 [.int .i64 (r4 : Int), .int .i64 ((i : Int) + 1), .int .i64 8, .nils, .nils, .int .i64 0] := by rw [hr4]; rfl
    obtain ⟨v6, H6, hv6, hl6, hk6, hgo⟩ := qc6 (P := prog) (rqA (rB i)) (hv.app [(⟨60, [rqA (rB i)], .own⟩ : Entry)])
    rw [show (H ++ [(⟨60, [rqA (rB i)], .own⟩ : Entry)]).length = H.length + 1 by simp] at hgo
    have hkeep : ∀ k e, H[k]? = some e → k < h.length + 2 → H6[k]? = some e := fun k e hk hkl => hk6 k e (by rw [List.getElem?_append_left (qab hk)]; exact hk) (.inl (by omega))
    have c6 := hkeep _ _ hc (by omega)
    have l6 := qab c6
    have hty6 := hv6.ty (P := prog) (U := 47) sh_47
    have hpl6 := hv6.pl
    rw [hrb] at hgo
    repeat' (first
    | simp (implicitDefEqProofs := false) only [push_cast, reduceIte, reduceCtorEq, Nat.reduceAdd, Nat.reduceSub, Nat.reduceEqDiff, Nat.reduceLT, Nat.reduceLeDiff, Nat.reduceBEq, Nat.reduceMul, Int.reduceLT, Int.reduceLE, Int.reduceEq, Int.reduceToNat, Int.reduceMul, Int.reduceNeg, Go.Proofs.Try.f9, c1, f3, w1, hc, lc, la, e7, e8, hty, hpl, hty6, hpl6, c6, l6, Int.toNat_natCast, zad, zae, qac, yad, yab, qad, sst, zac, qaa, yaa, zag, ybk, List.replicate_succ, List.drop_zero]
    | refine Sp2.f ?_ ?_
    | refine Spl.f ?_ ?_ <;> intro hb
    | refine yac rfl (fun b hb => ?_)
    | refine zaa (U := [[], [0], [], [], [], [], [], [0, 1, 2], [], [], []]) (H := [⟨0, [], .hole⟩]) yae (by kernel_rfl) (by decide +kernel) (by kernel_rfl) ?_
    | refine zaa (U := [[], [], [], [], [], [], [], [], [], [], [], [], [], [12], [], [], []]) (H := []) yae (by kernel_rfl) (by decide +kernel) (by kernel_rfl) ?_
    | refine hgo _ _ _ _ ?_)
    refine ⟨by omega, ?_, v6, ?_, ?_, ?_⟩
    · rw [List.take_set_of_le (by omega)]; exact tk11 hT (by omega) fun k e hk hkl => hkeep k e hk (by omega)
    · rfl
    · rw [lB_snoc, List.map_append]
      exact (hv6.up fun k hk => hk.elim id fun hk => by have := hk.1; simp only [List.length_append] at this; omega).set c6 (show 49 ≠ 60 by decide) _
    · intro e; rw [lB_snoc] at e; simp at e
  · have hie : i = n := by omega
    have c1 : decide ((i : Int) < (n : Int)) = false := by simp; omega
    obtain ⟨ok, hok⟩ : ∃ ok : Bool, ok = (decide (1 ≤ (n : Int)) && (decide ((n : Int) ≤ 8) && (decide (0 ≤ t) && decide (t ≤ 1099511627776)))) := ⟨_, rfl⟩
    rw [hie] at hv hnI
    have h7 : True := trivial
    have paths : (decide ((1 : Int) ≤ (n : Int)) = false ∧ True ∧ True ∧ True ∧ zc2 ⟨t, lB n⟩ = false) ∨ (decide ((1 : Int) ≤ (n : Int)) = true ∧ decide ((n : Int) ≤ 8) = false ∧ True ∧ True ∧ zc2 ⟨t, lB n⟩ = false) ∨
        (decide ((1 : Int) ≤ (n : Int)) = true ∧ decide ((n : Int) ≤ 8) = true ∧ decide (0 ≤ t) = false ∧ True ∧ zc2 ⟨t, lB n⟩ = false) ∨ (decide ((1 : Int) ≤ (n : Int)) = true ∧ decide ((n : Int) ≤ 8) = true ∧ decide (0 ≤ t) = true ∧ decide (t ≤ 1099511627776) = false ∧ zc2 ⟨t, lB n⟩ = false) ∨
        (decide ((1 : Int) ≤ (n : Int)) = true ∧ decide ((n : Int) ≤ 8) = true ∧ decide (0 ≤ t) = true ∧ decide (t ≤ 1099511627776) = true ∧ zc2 ⟨t, lB n⟩ = true) := by
      rw [lB_may hn]
      by_cases a1 : 1 ≤ n
      · by_cases a2 : n ≤ 8
        · by_cases a3 : 0 ≤ t
          · by_cases a4 : t ≤ 1099511627776
            · exact .inr (.inr (.inr (.inr ⟨by simp; omega, by simp; omega, by simp; omega, by simp; omega, by simp [a1, a2, a3, a4]⟩)))
            · exact .inr (.inr (.inr (.inl ⟨by simp; omega, by simp; omega, by simp; omega, by simp; omega, by simp [a4]⟩)))
          · exact .inr (.inr (.inl ⟨by simp; omega, by simp; omega, by simp; omega, trivial, by simp [a3]⟩))
        · exact .inr (.inl ⟨by simp; omega, by simp; omega, trivial, trivial, by simp [a2]⟩)
      · exact .inl ⟨by simp; omega, trivial, trivial, trivial, by simp [a1]⟩
    have n1 := c_New6 0 0
    have s6 := c_SameSpace6 (qb2 0 0) (qb2 0 0) (zba ..) (zba ..)
    rw [sameS_rfl] at s6
    have b10 : ((1 : Int) != 0) = true := rfl
    have e10 : ((1 : Int) == 0) = false := rfl
    have e00 : ((0 : Int) == 0) = true := rfl
    have b11 : ((1 : Int) != 1) = false := rfl
    have hE0 : eRs [] = .list 26 [] := rfl
    have hB0 : eBs [] = .list 5 [] := rfl
    by_cases hn0 : n = 0
    · have hv0 : v = .nils := hnI (by rw [hn0]; rfl)
      have c6 : decide ((0 : Int) < (n : Int)) = false := by simp; omega
      have f1 : decide ((1 : Int) ≤ (n : Int)) = false := by simp; omega
      have fm : zc2 ⟨t, []⟩ = false := by simp [zc2, headE]
      have hEs : (⟨t, []⟩ : Ent).Small := ⟨by simp, fun x hx => by cases hx⟩
      have p1 := c_ePut ⟨t, []⟩ hEs
      have m1 := c_eMay ⟨t, []⟩ hEs
      have a1 := yc4 (qb2 0 0) ⟨t, []⟩ (zba ..) hEs
      have ha : za6 (qb2 0 0) ⟨t, []⟩ = (qb2 0 0, [], 1) := by rw [za6, if_neg (by rw [fm]; simp)]
      rw [ha, hE0] at a1
      rw [fm] at p1 m1
      subst hv0
      clear hv hnI paths
      cases hy : bits .and .i64 y 1 == 1
      all_goals repeat' (first
    | simp (implicitDefEqProofs := false) only [push_cast, reduceIte, reduceCtorEq, Nat.reduceAdd, Nat.reduceSub, Nat.reduceEqDiff, Nat.reduceLT, Nat.reduceLeDiff, Nat.reduceBEq, Nat.reduceMul, Int.reduceLT, Int.reduceLE, Int.reduceEq, Int.reduceToNat, Int.reduceMul, Int.reduceNeg, Go.Proofs.Try.f9, c1, c6, f1, hy, hc, lc, b10, e10, e00, b11, hE0, hB0, yb9, ycp, qch, List.map_nil, List.length_nil, Int.toNat_natCast, zad, zae, qac, yad, yab, qad, sst, zac, qaa, yaa, zag, ybk, List.replicate_succ, List.drop_zero]
    | refine Sp2.f ?_ ?_
    | refine Spl.f ?_ ?_ <;> intro hb
    | refine yac rfl (fun b hb => ?_)
    | refine zaa (U := [[], [0], [], [], [], [], [], [0, 1, 2], [], [], []]) (H := [⟨0, [], .hole⟩]) yae (by kernel_rfl) (by decide +kernel) (by kernel_rfl) ?_
    | refine zaa (U := [[], [], [], [], [], [], [], [], [], [], [], [], [], [12], [], [], []]) (H := []) yae (by kernel_rfl) (by decide +kernel) (by kernel_rfl) ?_
    | refine qaz p1 ?_
    | refine qaz m1 ?_
    | refine yao n1 ?_
    | refine yao a1 ?_
    | refine yao c_told11 ?_
    | refine yao s6 ?_)
      all_goals first
        | (rw [List.take_append_of_le_length (by omega)]; exact hT)
        | (simp only [Bool.not_eq_true', decide_eq_false_iff_not]; omega)
    obtain ⟨kv, lo, z, rfl, hkx, hkv⟩ := hv.cons11 (by intro e; have := congrArg List.length e; simp [zco] at this; exact hn0 this)
    have c6 : decide ((0 : Int) < (n : Int)) = true := by simp; omega
    by_cases hy : (bits .and .i64 y 1 == 1) = true
    · obtain ⟨kk, hkn, hdv⟩ := pickB y hn0 hn
      have w0 : (IntKind.wrap .u64 (n : Int) == 0) = false := wrapB hn0 hn
      have r0 : (0 ≤ (kk : Int) ∧ (kk : Int) < (n : Int)) = True := by apply eq_true; omega
      have hgk := lB_get hkn z
      have hsP : setP (rqA (rB kk)) [1] (.int .i64 0) = some (rqA { rB kk with Seq := 0 }) := rfl
      have hsr := lT_row hkn z
      have hlT := lT_len n kk
      have hlB : ((lB n).map rqA).length = ((lT n kk).map rqA).length := by simp [hlT, zco]
      rw [hlB] at hc
      have hln : ((lT n kk).map rqA).length = n := by simp [hlT]
      have hkvl := qab hkv
      have hEs : (⟨t, lT n kk⟩ : Ent).Small := ⟨by show (lT n kk).length ≤ _; rw [hlT]; omega, fun x hx => by obtain ⟨a, b⟩ := lT_bare n kk x hx; exact ⟨by rw [a]; simp, by rw [b]; simp⟩⟩
      have fm := lT_may hkn t
      have p1 := c_ePut ⟨t, lT n kk⟩ hEs
      have m1 := c_eMay ⟨t, lT n kk⟩ hEs
      have a1 := yc4 (qb2 0 0) ⟨t, lT n kk⟩ (zba ..) hEs
      have ha : za6 (qb2 0 0) ⟨t, lT n kk⟩ = (qb2 0 0, [], 1) := by rw [za6, if_neg (by rw [fm]; simp)]
      rw [ha, hE0] at a1
      rw [fm] at p1 m1
      have hkx2 : h.length + 2 ≤ kv := hkx
      have hc2 : (H.set kv ⟨60, (lT n kk).map rqA ++ z, .own⟩)[h.length + 1]? = some ⟨49, [.agg 49 [.int .i64 t, .win kv [] 60 0 ((lT n kk).map rqA).length lo]], .own⟩ := (List.getElem?_set_ne (by omega)).trans hc
      have lc2 := qab hc2
      have hk2 : (H.set kv ⟨60, (lT n kk).map rqA ++ z, .own⟩)[kv]? = some ⟨60, (lT n kk).map rqA ++ z, .own⟩ := List.getElem?_set_self hkvl
      have hkl2 := qab hk2
      have hT2 : (H.set kv ⟨60, (lT n kk).map rqA ++ z, .own⟩).take h.length = h := by rw [List.take_set_of_le (by omega)]; exact hT
      have hwt : ∀ k, tyB prog (.agg 49 [.int .i64 t, .win kv [] 60 0 k lo]) 49 = true := fun k => by simp [tyB]
      have hLb := lT_bare n kk
      have hne : (lT n kk).map rqA ++ z ≠ [] := by intro e; have := congrArg List.length e; simp [hlT] at this; omega
      clear hv hnI hT hEs
      have wn : (IntKind.wrap .u64 (n : Int) = 0) = False := by rw [wrapU hn]; apply eq_false; omega
      generalize rqA { rB kk with Seq := 0 } = y0 at hsP hsr
      generalize rqA (rB kk) = x0 at hsP hgk
      generalize hG : lT n kk = L at hsr hlT hlB hc hln p1 m1 a1 hc2 lc2 hk2 hkl2 hT2 hLb hne
      rw [hln] at hc2
      have hkf := List.getElem?_set_self hkl2 (a := (⟨60, L.map rqA ++ z, .fz⟩ : Entry))
      have hkfl : ∀ l : List Entry, ((H.set kv ⟨60, L.map rqA ++ z, .own⟩).set kv ⟨60, L.map rqA ++ z, .fz⟩ ++ l)[kv]? = some ⟨60, L.map rqA ++ z, .fz⟩ := fun l => by rw [List.getElem?_append_left (by simpa using hkvl)]; exact hkf
      have hc3 : ((H.set kv ⟨60, L.map rqA ++ z, .own⟩).set kv ⟨60, L.map rqA ++ z, .fz⟩)[h.length + 1]? = some ⟨49, [.agg 49 [.int .i64 t, .win kv [] 60 0 n lo]], .own⟩ := (List.getElem?_set_ne (by omega)).trans hc2
      have hc3l : ∀ l : List Entry, ((H.set kv ⟨60, L.map rqA ++ z, .own⟩).set kv ⟨60, L.map rqA ++ z, .fz⟩ ++ l)[h.length + 1]? = some ⟨49, [.agg 49 [.int .i64 t, .win kv [] 60 0 n lo]], .own⟩ := fun l => by rw [List.getElem?_append_left (by simpa using lc)]; exact hc3
      have lz1 := qab hc3
      have lkv := qab hkf
      have hT3 : ((H.set kv ⟨60, L.map rqA ++ z, .own⟩).set kv ⟨60, L.map rqA ++ z, .fz⟩).take h.length = h := by rw [List.take_set_of_le (by omega)]; exact hT2
      rcases paths with ⟨f1, f2, f3, f4, _⟩ | ⟨f1, f2, f3, f4, _⟩ | ⟨f1, f2, f3, f4, _⟩ | ⟨f1, f2, f3, f4, _⟩ | ⟨f1, f2, f3, f4, _⟩
      all_goals repeat' (first
    | simp (implicitDefEqProofs := false) only [push_cast, reduceIte, reduceCtorEq, Nat.reduceAdd, Nat.reduceSub, Nat.reduceEqDiff, Nat.reduceLT, Nat.reduceLeDiff, Nat.reduceBEq, Nat.reduceMul, Int.reduceLT, Int.reduceLE, Int.reduceEq, Int.reduceToNat, Int.reduceMul, Int.reduceNeg, Go.Proofs.Try.f9, c1, c6, f1, f2, f3, f4, hy, hdv, w0, wn, r0, hgk, hsP, hsr, hkv, hkvl, hc, hc2, lc, lc2, hln, hlT, Int.toNat_natCast, yai hkvl, qaf hkvl, zax hkvl, qai hkvl, zad, zae, qac, yad, yab, qad, sst, zac, qaa, yaa, zag, ybk, List.replicate_succ, List.drop_zero]
    | refine Sp2.f ?_ ?_
    | refine Spl.f ?_ ?_ <;> intro hb
    | refine yac rfl (fun b hb => ?_)
    | refine zaa (U := [[], [0], [], [], [], [], [], [0, 1, 2], [], [], []]) (H := [⟨0, [], .hole⟩]) yae (by kernel_rfl) (by decide +kernel) (by kernel_rfl) ?_
    | refine zaa (U := [[], [], [], [], [], [], [], [], [], [], [], [], [], [12], [], [], []]) (H := []) yae (by kernel_rfl) (by decide +kernel) (by kernel_rfl) ?_)
      all_goals refine k_frz12 (k := kv) hk2 hne ?_
      all_goals refine qar (wEnt1 hLb hlT.symm hkf t p1) ?_
      all_goals generalize List.set (H.set kv _) kv _ = K at hkf hkfl hc3 hc3l lz1 lkv hT3 ⊢
      all_goals repeat' (first
    | simp (implicitDefEqProofs := false) only [push_cast, reduceIte, reduceCtorEq, Nat.reduceAdd, Nat.reduceSub, Nat.reduceEqDiff, Nat.reduceLT, Nat.reduceLeDiff, Nat.reduceBEq, Nat.reduceMul, Int.reduceLT, Int.reduceLE, Int.reduceEq, Int.reduceToNat, Int.reduceMul, Int.reduceNeg, Go.Proofs.Try.f9, hc3, hc3l, lz1, lkv, yai lz1, qaf lz1, zax lz1, qai lz1, yai lkv, qaf lkv, zax lkv, qai lkv, hwt, b10, e10, e00, b11, hE0, hB0, yb9, ycp, qch, List.map_nil, List.length_nil, zad, zae, qac, yad, yab, qad, sst, zac, qaa, yaa, zag, ybk, List.replicate_succ, List.drop_zero]
    | refine Sp2.f ?_ ?_
    | refine Spl.f ?_ ?_ <;> intro hb
    | refine yac rfl (fun b hb => ?_)
    | refine zaa (U := [[], [0], [], [], [], [], [], [0, 1, 2], [], [], []]) (H := [⟨0, [], .hole⟩]) yae (by kernel_rfl) (by decide +kernel) (by kernel_rfl) ?_
    | refine zaa (U := [[], [], [], [], [], [], [], [], [], [], [], [], [], [12], [], [], []]) (H := []) yae (by kernel_rfl) (by decide +kernel) (by kernel_rfl) ?_
    | refine yao n1 ?_
    | refine dk_look [kv] (fun h2 hh => wEnt2 hLb hlT.symm (by rw [hh kv (by simp)]; first
    | exact hkf
    | exact hkfl _) (qb2 0 0) t a1) ?_
    | refine qar (wEnt1 hLb hlT.symm (by first
    | exact hkf
    | exact hkfl _) t m1) ?_
    | refine yao c_told11 ?_
    | refine yao s6 ?_)
      all_goals (rw [List.take_append_of_le_length (by omega)]; exact hT3)
    have hy : (bits .and .i64 y 1 == 1) = false := by simpa using hy
    have hEs : (⟨t, lB n⟩ : Ent).Small := ⟨by show (lB n).length ≤ _; rw [zco]; omega, fun x hx => by obtain ⟨a, b⟩ := zcv n x hx; exact ⟨by rw [a]; simp, by rw [b]; simp⟩⟩
    have p1 := c_ePut ⟨t, lB n⟩ hEs
    have m1 := c_eMay ⟨t, lB n⟩ hEs
    have a1 := yc4 (qb2 0 0) ⟨t, lB n⟩ (zba ..) hEs
    have hkvl := qab hkv
    have hH3 : ∀ h2 : List Entry, (∀ k ∈ [kv], h2[k]? = (H.set kv ⟨60, (lB n).map rqA ++ z, .fz⟩)[k]?) → h2[kv]? = some ⟨60, (lB n).map rqA ++ z, .fz⟩ := fun h2 hh => by rw [hh kv (by simp)]; exact List.getElem?_set_self hkvl
    have hc3 : (H.set kv ⟨60, (lB n).map rqA ++ z, .fz⟩)[h.length + 1]? = some ⟨49, [.agg 49 [.int .i64 t, .win kv [] 60 0 ((lB n).map rqA).length lo]], .own⟩ := (List.getElem?_set_ne (by have : h.length + 2 ≤ kv := hkx; omega)).trans hc
    have hkf := List.getElem?_set_self hkvl (a := (⟨60, (lB n).map rqA ++ z, .fz⟩ : Entry))
    have hkfl : ∀ l : List Entry, (H.set kv ⟨60, (lB n).map rqA ++ z, .fz⟩ ++ l)[kv]? = some ⟨60, (lB n).map rqA ++ z, .fz⟩ := fun l => by rw [List.getElem?_append_left (by simpa using hkvl)]; exact hkf
    have hc3l : ∀ l : List Entry, (H.set kv ⟨60, (lB n).map rqA ++ z, .fz⟩ ++ l)[h.length + 1]? = some ⟨49, [.agg 49 [.int .i64 t, .win kv [] 60 0 ((lB n).map rqA).length lo]], .own⟩ := fun l => by rw [List.getElem?_append_left (by simpa using lc)]; exact hc3
    have hwt : ∀ k, tyB prog (.agg 49 [.int .i64 t, .win kv [] 60 0 k lo]) 49 = true := fun k => by simp [tyB]
    have lz1 := qab hc3
    have lkv := qab hkf
    have hT3 : (H.set kv ⟨60, (lB n).map rqA ++ z, .fz⟩).take h.length = h := by rw [List.take_set_of_le (by have : h.length + 2 ≤ kv := hkx; omega)]; exact hT
    cases fm : zc2 ⟨t, lB n⟩ with
    | false =>
      rw [fm] at p1 m1 paths
      have ha : za6 (qb2 0 0) ⟨t, lB n⟩ = (qb2 0 0, [], 1) := by rw [za6, if_neg (by rw [fm]; simp)]
      rw [ha, hE0] at a1
      rcases paths with ⟨f1, f2, f3, f4, _⟩ | ⟨f1, f2, f3, f4, _⟩ | ⟨f1, f2, f3, f4, _⟩ | ⟨f1, f2, f3, f4, _⟩ | ⟨_, _, _, _, f5⟩
      rotate_right
      · cases f5
      all_goals repeat' (first
    | simp (implicitDefEqProofs := false) only [push_cast, reduceIte, reduceCtorEq, Nat.reduceAdd, Nat.reduceSub, Nat.reduceEqDiff, Nat.reduceLT, Nat.reduceLeDiff, Nat.reduceBEq, Nat.reduceMul, Int.reduceLT, Int.reduceLE, Int.reduceEq, Int.reduceToNat, Int.reduceMul, Int.reduceNeg, Go.Proofs.Try.f9, c1, c6, f1, f2, f3, f4, hy, hc, lc, Int.toNat_natCast, zad, zae, qac, yad, yab, qad, sst, zac, qaa, yaa, zag, ybk, List.replicate_succ, List.drop_zero]
    | refine Sp2.f ?_ ?_
    | refine Spl.f ?_ ?_ <;> intro hb
    | refine yac rfl (fun b hb => ?_)
    | refine zaa (U := [[], [0], [], [], [], [], [], [0, 1, 2], [], [], []]) (H := [⟨0, [], .hole⟩]) yae (by kernel_rfl) (by decide +kernel) (by kernel_rfl) ?_
    | refine zaa (U := [[], [], [], [], [], [], [], [], [], [], [], [], [], [12], [], [], []]) (H := []) yae (by kernel_rfl) (by decide +kernel) (by kernel_rfl) ?_)
      all_goals refine k_frz12 (k := kv) hkv (by intro e; have := congrArg List.length e; simp [zco] at this; omega) ?_
      all_goals refine qar (wEnt1 (zcv n) (by simp) hkf t p1) ?_
      all_goals generalize H.set kv ⟨60, (lB n).map rqA ++ z, .fz⟩ = K at hkf hkfl hc3 hc3l lz1 lkv hT3 ⊢
      all_goals repeat' (first
    | simp (implicitDefEqProofs := false) only [push_cast, reduceIte, reduceCtorEq, Nat.reduceAdd, Nat.reduceSub, Nat.reduceEqDiff, Nat.reduceLT, Nat.reduceLeDiff, Nat.reduceBEq, Nat.reduceMul, Int.reduceLT, Int.reduceLE, Int.reduceEq, Int.reduceToNat, Int.reduceMul, Int.reduceNeg, Go.Proofs.Try.f9, hc3, hc3l, lz1, lkv, yai lz1, qaf lz1, zax lz1, qai lz1, yai lkv, qaf lkv, zax lkv, qai lkv, hwt, b10, e10, e00, b11, hE0, hB0, yb9, ycp, qch, List.map_nil, List.length_nil, zad, zae, qac, yad, yab, qad, sst, zac, qaa, yaa, zag, ybk, List.replicate_succ, List.drop_zero]
    | refine Sp2.f ?_ ?_
    | refine Spl.f ?_ ?_ <;> intro hb
    | refine yac rfl (fun b hb => ?_)
    | refine zaa (U := [[], [0], [], [], [], [], [], [0, 1, 2], [], [], []]) (H := [⟨0, [], .hole⟩]) yae (by kernel_rfl) (by decide +kernel) (by kernel_rfl) ?_
    | refine zaa (U := [[], [], [], [], [], [], [], [], [], [], [], [], [], [12], [], [], []]) (H := []) yae (by kernel_rfl) (by decide +kernel) (by kernel_rfl) ?_
    | refine yao n1 ?_
    | refine dk_look [kv] (fun h2 hh => wEnt2 (zcv n) (by simp) (by rw [hh kv (by simp)]; first
    | exact hkf
    | exact hkfl _) (qb2 0 0) t a1) ?_
    | refine qar (wEnt1 (zcv n) (by simp) (by first
    | exact hkf
    | exact hkfl _) t m1) ?_
    | refine yao c_told11 ?_
    | refine yao s6 ?_)
      all_goals (rw [List.take_append_of_le_length (by omega)]; exact hT3)
    | true =>
      rw [fm] at p1 m1 paths
      rcases paths with ⟨_, _, _, _, f5⟩ | ⟨_, _, _, _, f5⟩ | ⟨_, _, _, _, f5⟩ | ⟨_, _, _, _, f5⟩ | ⟨f1, f2, f3, f4, _⟩
      · cases f5
      · cases f5
      · cases f5
      · cases f5
      have n8 : n ≤ 8 := by simp at f2; omega
      have t0 : 0 ≤ t := by simpa using f3
      have t1 : t ≤ 1099511627776 := by simpa using f4
      have hdoes : (doN ⟨t, lB n⟩ (qb2 0 0) n).2.length = n ∧ (doN ⟨t, lB n⟩ (qb2 0 0) n).1.Now = t := by
        have key : ∀ jj : _root_.Fin 3, t = [0, 1, 1099511627776].getD jj.val 0 → (doN ⟨t, lB n⟩ (qb2 0 0) n).2.length = n ∧ (doN ⟨t, lB n⟩ (qb2 0 0) n).1.Now = t := fun jj e => by
          have := lB_does ⟨n, by omega⟩ jj
          rw [← e] at this
          simp only [Bool.and_eq_true, Bool.or_eq_true, beq_iff_eq] at this
          exact ⟨this.1, this.2.resolve_left hn0⟩
        rcases htj t0 t1 with e | e | e
        · exact key ⟨0, by omega⟩ e
        · exact key ⟨1, by omega⟩ e
        · exact key ⟨2, by omega⟩ e
      have ha : za6 (qb2 0 0) ⟨t, lB n⟩ = ((doN ⟨t, lB n⟩ (qb2 0 0) n).1, (doN ⟨t, lB n⟩ (qb2 0 0) n).2, 0) := by
        rw [za6, if_pos ⟨ms_may (MS.newrw 0 0), fm⟩, if_neg (by show ¬ t < 0; omega), zco]
      rw [ha] at a1
      obtain ⟨hd1, hd2⟩ := hdoes
      have hpl := putE_len fm
      have hs1 := c_eSum (putE ⟨t, lB n⟩) (by omega)
      have hs2 := c_rSum (putE ⟨t, lB n⟩) (by omega)
      have hq := eqH_self (shaS (entB ++ putE ⟨t, lB n⟩))
      generalize (doN ⟨t, lB n⟩ (qb2 0 0) n).1 = S1 at a1 hd2
      generalize (doN ⟨t, lB n⟩ (qb2 0 0) n).2 = R1 at a1 hd1
      generalize shaS (entB ++ putE ⟨t, lB n⟩) = Z at hs1 hs2 hq
      have gS : zb1 (eS S1) [0] = some (.int .i64 S1.Now) := rfl
      rw [hd2] at gS
      have hRl : yc9 prog 63 (eRs R1) = .ret (.int .i64 n) [] := by rw [eRs, qc0, List.length_map, hd1]; rfl
      have ett : (t == t) = true := by simp
      have enn : ((n : Int) == (n : Int)) = true := by simp
      repeat' (first
    | simp (implicitDefEqProofs := false) only [push_cast, reduceIte, reduceCtorEq, Nat.reduceAdd, Nat.reduceSub, Nat.reduceEqDiff, Nat.reduceLT, Nat.reduceLeDiff, Nat.reduceBEq, Nat.reduceMul, Int.reduceLT, Int.reduceLE, Int.reduceEq, Int.reduceToNat, Int.reduceMul, Int.reduceNeg, Go.Proofs.Try.f9, c1, c6, f1, f2, f3, f4, hy, hc, lc, Int.toNat_natCast, zad, zae, qac, yad, yab, qad, sst, zac, qaa, yaa, zag, ybk, List.replicate_succ, List.drop_zero]
    | refine Sp2.f ?_ ?_
    | refine Spl.f ?_ ?_ <;> intro hb
    | refine yac rfl (fun b hb => ?_)
    | refine zaa (U := [[], [0], [], [], [], [], [], [0, 1, 2], [], [], []]) (H := [⟨0, [], .hole⟩]) yae (by kernel_rfl) (by decide +kernel) (by kernel_rfl) ?_
    | refine zaa (U := [[], [], [], [], [], [], [], [], [], [], [], [], [], [12], [], [], []]) (H := []) yae (by kernel_rfl) (by decide +kernel) (by kernel_rfl) ?_)
      refine k_frz12 (k := kv) hkv (by intro e; have := congrArg List.length e; simp [zco] at this; omega) ?_
      refine qar (wEnt1 (zcv n) (by simp) hkf t p1) ?_
      generalize putE ⟨t, lB n⟩ = B at hs1 hs2 ⊢
      generalize H.set kv ⟨60, (lB n).map rqA ++ z, .fz⟩ = K at hkf hkfl hc3 hc3l lz1 lkv hT3 ⊢
      repeat' (first
    | simp (implicitDefEqProofs := false) only [push_cast, reduceIte, reduceCtorEq, Nat.reduceAdd, Nat.reduceSub, Nat.reduceEqDiff, Nat.reduceLT, Nat.reduceLeDiff, Nat.reduceBEq, Nat.reduceMul, Int.reduceLT, Int.reduceLE, Int.reduceEq, Int.reduceToNat, Int.reduceMul, Int.reduceNeg, Go.Proofs.Try.f9, hc3, hc3l, lz1, lkv, yai lz1, qaf lz1, zax lz1, qai lz1, yai lkv, qaf lkv, zax lkv, qai lkv, hwt, b10, e10, e00, b11, gS, hRl, ett, enn, hq, eH, qa5, ya4, za7, eRs_ty, eRs_pl, eRs_wk, yb9, ycp, qch, zad, zae, qac, yad, yab, qad, sst, zac, qaa, yaa, zag, ybk, List.replicate_succ, List.drop_zero]
    | refine Sp2.f ?_ ?_
    | refine Spl.f ?_ ?_ <;> intro hb
    | refine yac rfl (fun b hb => ?_)
    | refine zaa (U := [[], [0], [], [], [], [], [], [0, 1, 2], [], [], []]) (H := [⟨0, [], .hole⟩]) yae (by kernel_rfl) (by decide +kernel) (by kernel_rfl) ?_
    | refine zaa (U := [[], [], [], [], [], [], [], [], [], [], [], [], [], [12], [], [], []]) (H := []) yae (by kernel_rfl) (by decide +kernel) (by kernel_rfl) ?_
    | refine yao n1 ?_
    | refine dk_look [kv] (fun h2 hh => wEnt2 (zcv n) (by simp) (by rw [hh kv (by simp)]; first
    | exact hkf
    | exact hkfl _) (qb2 0 0) t a1) ?_
    | refine qar (wEnt1 (zcv n) (by simp) (by first
    | exact hkf
    | exact hkfl _) t m1) ?_
    | refine qaz c_told11 ?_
    | refine qaz hs1 ?_
    | refine qaz hs2 ?_)
      all_goals (rw [List.take_append_of_le_length (by omega)]; exact hT3)
theorem c_EntryBounds (x y w : Int) : Fn prog 9 [.int .i64 x, .int .i64 y, .int .i64 w] (.bool true) := by
  obtain ⟨k, h1, h2, h3⟩ := mod_small9 x 11 (by omega)
  obtain ⟨j, j1, j2, j3⟩ := mod_small9 w 5 (by omega)
  obtain ⟨n, rfl⟩ : ∃ n : Nat, k = n := ⟨k.toNat, by omega⟩
  obtain ⟨i, rfl⟩ : ∃ i : Nat, j = i := ⟨j.toNat, by omega⟩
  have hr : (0 ≤ (i : Int) ∧ (i : Int) < 5) = True := eq_true ⟨j2, j3⟩
  rcases (by omega : i = 0 ∨ i = 1 ∨ i = 2 ∨ i = 3 ∨ i = 4) with rfl | rfl | rfl | rfl | rfl
  · exact qbm x y w 0 n 0 h1 (by omega) j1 (by omega) rfl hr (by omega)
  · exact qbm x y w 1 n 1 h1 (by omega) j1 (by omega) rfl hr (by omega)
  · exact qbm x y w 1099511627776 n 2 h1 (by omega) j1 (by omega) rfl hr (by omega)
  · exact qbm x y w 1099511627777 n 3 h1 (by omega) j1 (by omega) rfl hr (by omega)
  · exact qbm x y w (-1) n 4 h1 (by omega) j1 (by omega) rfl hr (by omega)
end Go.Abs
