/- St: a part of the proofs about the tuple space and its bytes. -/
import Derived.Test.YtilfbkhbjkjicaaSr
import Derived.Test.YtilfbkhbjkjicaaGv
import Derived.Test.YtilfbkhbjkjicaaSf
import Derived.Test.YtilfbkhbjkjicaaEb
import Derived.Test.YtilfbkhbjkjicaaGw
set_option linter.all false
set_option maxRecDepth 100000
set_option maxHeartbeats 0
namespace Go.Abs
open Go
open Go.Proofs.Try (prog)
theorem z_step {n i : Nat} (h : i < ybj n) : (n + 1 + i) % 64 ≠ 56 := by unfold ybj at h; omega
theorem z_end (n : Nat) : (n + 1 + ybj n) % 64 = 56 := by unfold ybj; omega
theorem tk11 {h H H6 : List Entry} (hT : H.take h.length = h) (hl : h.length ≤ H.length) (hk : ∀ j e, H[j]? = some e → j < h.length → H6[j]? = some e) : H6.take h.length = h := by
  conv => rhs; rw [← hT]
  apply List.ext_getElem?
  intro j
  rw [List.getElem?_take, List.getElem?_take]
  split
  · rename_i hj
    rw [List.getElem?_eq_getElem (show j < H.length by omega)]
    exact hk j _ (List.getElem?_eq_getElem _) hj
  · rfl
theorem View.cons11 {X : Nat → Prop} {h : List Entry} {T : TypeId} {v : AV} {l : List AV} (hv : View X h T v l) (hl : l ≠ []) : ∃ k lo z, v = .win k [] T 0 l.length lo ∧ X k ∧ h[k]? = some ⟨T, l ++ z, .own⟩ := by
  cases hv with
  | nil => exact absurd rfl hl
  | win hx hk => exact ⟨_, _, _, rfl, hx, hk⟩
theorem c_blockAt (v : V8) (P : List UInt8) (z : List AV) (st : Status) (hst : st = .own ∨ st = .fz) (hP : P ≠ []) {H : List Entry} {kv lo n : Nat} (hn : n = P.length) (hk : H[kv]? = some ⟨5, P.map eB ++ z, st⟩) (p : Nat) (hp : p + 64 ≤ P.length) (hl : P.length ≤ 4294967296) :
    FSpec prog 127 [.agg 167 (v.l.map eN), .win kv [] 5 0 n lo, .int .i64 p] H fun r h' => r = .agg 167 ((blk v ((P.drop p).take 64)).l.map eN) ∧ h' = H.set kv ⟨5, P.map eB ++ z, .fz⟩ := by
  subst hn
  have hkl := zac hk
  have hw : qaq (P.map eB ++ z) [] 0 P.length = some (P.map eB) := by simp [qaq]
  have hd : dat (.agg 167 (v.l.map eN)) = true := by rw [qbt]; exact yaw eN eN_dat _
  have core : FSpec prog 127 [.agg 167 (v.l.map eN), .win kv [] 5 0 P.length lo, .int .i64 p] (H.set kv ⟨5, P.map eB ++ z, .fz⟩) fun r h' => r = .agg 167 ((blk v ((P.drop p).take 64)).l.map eN) ∧ h' = H.set kv ⟨5, P.map eB ++ z, .fz⟩ :=
    FSpec.read wfp (args' := [.agg 167 (v.l.map eN), eBs P, .int .i64 p]) (by
      simp only [List.map_cons, List.map_nil, bz_winE, bz_dat _ _ hd, bz_intE, List.getElem?_set_self hkl, bzWin, if_true, hw]; rfl) (c_refblock v P p hp hl)
  rcases hst with rfl | rfl
  · exact FSpec.freeze wfp hk rfl (by intro e; simp at e; exact hP e.1) core
  · have e := ybl hk
    rw [e] at core ⊢
    exact core
theorem wkN11 (n : Nat) (l : List Int) : (l.map eN).map (wk prog (n + 1) 166) = l.map eN := by
  induction l with
  | nil => rfl
  | cons x l ih => rw [List.map_cons, List.map_cons, ih]; rfl
theorem shr0 (x : Int) : qc4 x 0 = x := by simp [qc4]
theorem W_get (V : V8) {i q r : Nat} (hq : q < 8) (hr : r < 4) (hi : i = 4 * q + r) : (V.l.flatMap by4)[i]? = some (u8 (qc4 (V.l.getD q 0) (24 - 8 * r))) := by
  subst hi
  have h3 : ∀ x : Int, u8 x = u8 (qc4 x 0) := fun x => by rw [shr0]
  rcases (by omega : q = 0 ∨ q = 1 ∨ q = 2 ∨ q = 3 ∨ q = 4 ∨ q = 5 ∨ q = 6 ∨ q = 7) with rfl | rfl | rfl | rfl | rfl | rfl | rfl | rfl <;>
  rcases (by omega : r = 0 ∨ r = 1 ∨ r = 2 ∨ r = 3) with rfl | rfl | rfl | rfl <;> first | rfl | exact congrArg some (h3 _)
theorem and3 {i : Nat} (h : i < 32) : bits .and .i64 (i : Int) 3 = ((i % 4 : Nat) : Int) := by
  have : ∀ j : _root_.Fin 32, bits .and .i64 (j.val : Int) 3 = ((j.val % 4 : Nat) : Int) := by decide +kernel
  exact this ⟨i, h⟩
def outA (W : List UInt8) (i : Nat) : List AV := (W.take i).map eB ++ List.replicate (32 - i) (.int .u8 0)
theorem outA_set {W : List UInt8} {i : Nat} (hW : W.length = 32) (hi : i < 32) {w : UInt8} (hw : W[i]? = some w) : (outA W i).set i (eB w) = outA W (i + 1) := by
  have e : List.replicate (32 - i) (AV.int .u8 0) = .int .u8 0 :: List.replicate (32 - (i + 1)) (.int .u8 0) := by rw [show 32 - i = (32 - (i + 1)) + 1 by omega]; rfl
  have hl : ((W.take i).map eB).length = i := by simp; omega
  rw [outA, outA, e, List.set_append_right _ _ (by omega), hl, Nat.sub_self, List.set_cons_zero, List.take_add_one, hw]
  simp
theorem outA_get {W : List UInt8} {i : Nat} (hW : W.length = 32) (hi : i < 32) : ∃ y, (outA W i)[i]? = some y := ⟨_, List.getElem?_eq_getElem (by simp [outA]; omega)⟩
theorem c_Sum1 (bs : List UInt8) (hl : bs.length ≤ 1000000) : Fn prog 78 [eBs bs] (eH (qdx bs)) := by
  refine run_78 rfl fun h => ?_
  have q6 : List.take bs.length (bs.map eB) = bs.map eB := by rw [List.take_of_length_le]; simp
  have q4 : decide (bs.length ≤ 4294967296) = true := by simp; omega
  have q5' : (bs.length ≤ 4294967295) = True := by apply eq_true; omega
  have q7 : (bs.length ≤ bs.length) = True := by simp
  have hbd : bs = [] ∨ 1 ≤ bs.length := by cases bs with | nil => exact .inl rfl | cons => exact .inr (by simp)
  rcases hbd with hb | hb1
  rotate_left
  have hq : (0 = bs.length) = False ∧ (bs.length = 0) = False ∧ (bs.length ≤ 0) = False ∧ (bs.length + 1 ≤ bs.length) = False := by refine ⟨?_, ?_, ?_, ?_⟩ <;> (apply eq_false; omega)
  obtain ⟨q0, q1, q2, q3⟩ := hq
  repeat' (first
    | simp (implicitDefEqProofs := false) only [push_cast, reduceIte, reduceCtorEq, Nat.reduceAdd, Nat.reduceSub, Nat.reduceEqDiff, Nat.reduceLT, Nat.reduceLeDiff, Nat.reduceBEq, Nat.reduceMul, Int.reduceLT, Int.reduceLE, Int.reduceEq, Int.reduceToNat, Int.reduceMul, Int.reduceNeg, Go.Proofs.Try.f78, eBs, q0, q1, q2, q3, q4, q5', q6, q7, List.length_map, yad, zae, qac, zad, yab, qad, sst, qab, yaa, qaa, List.replicate_succ, List.drop_zero]
    | refine Sp2.f ?_ ?_
    | refine Spl.f ?_ ?_ <;> intro hb
    | refine yac rfl (fun b hb => ?_))
  rotate_left
  have hm : bs.map eB = [] := by rw [hb]; rfl
  have hl0 : bs.length = 0 := by rw [hb]; rfl
  repeat' (first
    | simp (implicitDefEqProofs := false) only [push_cast, reduceIte, reduceCtorEq, Nat.reduceAdd, Nat.reduceSub, Nat.reduceEqDiff, Nat.reduceLT, Nat.reduceLeDiff, Nat.reduceBEq, Nat.reduceMul, Int.reduceLT, Int.reduceLE, Int.reduceEq, Int.reduceToNat, Int.reduceMul, Int.reduceNeg, Go.Proofs.Try.f78, eBs, hm, hl0, List.length_nil, List.take_nil, yad, zae, qac, zad, yab, qad, sst, qab, yaa, qaa, List.replicate_succ, List.drop_zero]
    | refine Sp2.f ?_ ?_
    | refine Spl.f ?_ ?_ <;> intro hb
    | refine yac rfl (fun b hb => ?_))
  all_goals
    refine qau (fun i env' H => i ≤ ybj bs.length ∧ H.take h.length = h ∧ H[h.length]? = some hE0 ∧ ∃ v5, View (fun j => h.length + 1 ≤ j) H 5 v5 ((bs ++ 0x80 :: List.replicate i 0).map eB) ∧ env' = (fun a : Nat → AV => [(0, eBs bs), (2, .ref h.length [0] 36), (3, v5), (4, a 4), (5, a 5), (6, a 6), (7, a 7), (8, a 8), (9, a 9), (18, a 18), (27, a 27), (43, a 43), (51, a 51)]) (lk env')) (ybj bs.length) (by
      first
        | exact ⟨Nat.zero_le _, by simp, zar .., .win (h.length + 4) [] 5 0 (bs.length + 1) (bs.length + 1), View.mk' (l := (bs ++ [0x80]).map eB) [] (by omega) (qa9 h _ 4) (by simp; rfl) (by simp), rfl⟩
        | exact ⟨Nat.zero_le _, by simp, zar .., .win (h.length + 4) [] 5 0 1 1, View.mk' (l := (bs ++ [0x80]).map eB) [] (by omega) (qa9 h _ 4) (by rw [hb]; rfl) (by rw [hb]; rfl), by rw [show eBs bs = AV.list 5 [] by rw [hb]; rfl]; rfl⟩) ?_
    rintro i env H ⟨hi, hT, hz, v5, hv, henv⟩
    refine ⟨hi, ?_⟩
    rw [henv]
    generalize lk env = a
    clear henv env
    have la : lenAV v5 = bs.length + 1 + i := by rw [hv.lenAV]; simp; omega
    have hln := hv.len (P := prog) (U := 30) zbl
    rw [show ((bs ++ 0x80 :: List.replicate i (0 : UInt8)).map eB).length = bs.length + 1 + i by simp; omega] at hln
    have hzl : ybj bs.length < 64 := by unfold ybj; omega
    obtain ⟨L, hL⟩ : ∃ L, L = bs.length + 1 + i := ⟨_, rfl⟩
    rw [← hL] at la hln
    have hrem : (L : Int).tmod 64 = ((L % 64 : Nat) : Int) := by
      rw [Int.tmod_eq_emod_of_nonneg (by omega)]; omega
    have hLB : zcp prog 30 (eBs bs) = .ret (.int .i64 bs.length) [] := by rw [eBs, ybt, List.length_map]; rfl
    by_cases hlt : i < ybj bs.length
    · have hne : (((L % 64 : Nat) : Int) != 56) = true := by have := z_step hlt; rw [← hL] at this; simp; omega
      have e7 : decide (L + 1 ≤ 4294967296) = true := by simp; omega
      have e8 : L ≤ 4294967295 := by omega
      have hty := hv.ty (P := prog) (U := 30) zbl
      have hpl := hv.pl
      obtain ⟨mm, hmm⟩ : ∃ mm : Int, mm = ((L % 64 : Nat) : Int) := ⟨_, rfl⟩
      rw [← hmm] at hrem hne
      repeat' (first
    | simp (implicitDefEqProofs := false) only [push_cast, reduceIte, reduceCtorEq, Nat.reduceAdd, Nat.reduceSub, Nat.reduceEqDiff, Nat.reduceLT, Nat.reduceLeDiff, Nat.reduceBEq, Nat.reduceMul, Int.reduceLT, Int.reduceLE, Int.reduceEq, Int.reduceToNat, Int.reduceMul, Int.reduceNeg, Go.Proofs.Try.f78, hln, la, hrem, hne, e7, e8, hty, hpl, yad, zae, qac, zad, yab, qad, sst, qab, yaa, qaa, List.replicate_succ, List.drop_zero]
    | refine Sp2.f ?_ ?_
    | refine Spl.f ?_ ?_ <;> intro hb
    | refine yac rfl (fun b hb => ?_))
      obtain ⟨v6, H6, hv6, hl6, hk6, hgo⟩ := yb4 (P := prog) (eB 0) (hv.app [(⟨5, [eB 0], .own⟩ : Entry)])
      rw [show (H ++ [(⟨5, [eB 0], .own⟩ : Entry)]).length = H.length + 1 by simp] at hgo
      refine hgo _ _ _ _ ?_
      have hty6 := hv6.ty (P := prog) (U := 30) zbl
      have hpl6 := hv6.pl
      repeat' (first
    | simp (implicitDefEqProofs := false) only [push_cast, reduceIte, reduceCtorEq, Nat.reduceAdd, Nat.reduceSub, Nat.reduceEqDiff, Nat.reduceLT, Nat.reduceLeDiff, Nat.reduceBEq, Nat.reduceMul, Int.reduceLT, Int.reduceLE, Int.reduceEq, Int.reduceToNat, Int.reduceMul, Int.reduceNeg, Go.Proofs.Try.f78, hty6, hpl6, yad, zae, qac, zad, yab, qad, sst, qab, yaa, qaa, List.replicate_succ, List.drop_zero]
    | refine Sp2.f ?_ ?_
    | refine Spl.f ?_ ?_ <;> intro hb
    | refine yac rfl (fun b hb => ?_))
      have hkeep : ∀ j e, H[j]? = some e → j < h.length + 1 → H6[j]? = some e := fun j e hj hjl => hk6 j e (by rw [List.getElem?_append_left (zac hj)]; exact hj) (.inl (by omega))
      refine ⟨by omega, tk11 hT (by have := zac hz; omega) fun j e hj hjl => hkeep j e hj (by omega), hkeep _ _ hz (by omega), v6, ?_, rfl⟩
      have hz2 : (bs ++ 0x80 :: List.replicate (i + 1) (0 : UInt8)).map eB = (bs ++ 0x80 :: List.replicate i 0).map eB ++ [eB 0] := by
        rw [List.replicate_succ']; simp
      change View _ _ _ _ ((bs ++ 0x80 :: List.replicate (i + 1) (0 : UInt8)).map eB)
      rw [hz2]
      exact hv6.up fun j hj => hj.elim id fun hj => by have := hj.1; have := zac hz; simp only [List.length_append] at *; omega
    · have hie : i = ybj bs.length := by omega
      have hne : (((L % 64 : Nat) : Int) != 56) = false := by have := z_end bs.length; rw [← hie, ← hL] at this; simp [this]
      obtain ⟨mm, hmm⟩ : ∃ mm : Int, mm = ((L % 64 : Nat) : Int) := ⟨_, rfl⟩
      rw [← hmm] at hrem hne
      repeat' (first
    | simp (implicitDefEqProofs := false) only [push_cast, reduceIte, reduceCtorEq, Nat.reduceAdd, Nat.reduceSub, Nat.reduceEqDiff, Nat.reduceLT, Nat.reduceLeDiff, Nat.reduceBEq, Nat.reduceMul, Int.reduceLT, Int.reduceLE, Int.reduceEq, Int.reduceToNat, Int.reduceMul, Int.reduceNeg, Go.Proofs.Try.f78, hln, la, hrem, hne, hLB, yad, zae, qac, zad, yab, qad, sst, qab, yaa, qaa, List.replicate_succ, List.drop_zero]
    | refine Sp2.f ?_ ?_
    | refine Spl.f ?_ ?_ <;> intro hb
    | refine yac rfl (fun b hb => ?_))
      have hW : IntKind.wrap .u64 (IntKind.wrap .u64 (bs.length : Int) * 8) = IntKind.wrap .u64 ((bs.length : Int) * 8) := by
        rw [show IntKind.wrap .u64 (bs.length : Int) = bs.length by rw [zak]; omega]
      rw [hW]
      have hB : bs ++ 0x80 :: List.replicate i 0 = bs ++ 0x80 :: List.replicate (ybj bs.length) 0 := by rw [hie]
      rw [hB] at hv
      obtain ⟨B, hBe⟩ : ∃ B, B = bs ++ 0x80 :: List.replicate (ybj bs.length) (0 : UInt8) := ⟨_, rfl⟩
      rw [← hBe] at hv
      have hBl : B.length + 8 ≤ 2000000 := by rw [hBe]; simp; omega
      obtain ⟨X, hX⟩ : ∃ X, X = IntKind.wrap .u64 ((bs.length : Int) * 8) := ⟨_, rfl⟩
      rw [← hX]
      refine qau (fun k env' H => k ≤ 8 ∧ H.take h.length = h ∧ H[h.length]? = some hE0 ∧ ∃ v5, View (fun j => h.length + 1 ≤ j) H 5 v5 ((B ++ (len8 bs.length).take k).map eB) ∧ env' = (fun a : Nat → AV => [(0, eBs bs), (2, .ref h.length [0] 36), (3, v5), (4, .int .u64 X), (5, .int .i64 (7 - (k : Int))), (6, a 6), (7, a 7), (8, a 8), (9, a 9), (18, a 18), (27, a 27), (43, a 43), (51, a 51)]) (lk env')) 8 ⟨Nat.zero_le _, hT, hz, v5, by simpa using hv, rfl⟩ ?_
      clear hv hln la hL hrem hne hmm hie hlt hT hz hB hi a v5
      clear L mm i H
      rintro k env H ⟨hk, hT, hz, v5, hv, henv⟩
      refine ⟨hk, ?_⟩
      rw [henv]
      generalize lk env = a
      clear henv env
      by_cases hlt : k < 8
      · have hc : decide ((0 : Int) ≤ 7 - (k : Int)) = true := by simp; omega
        have hl8 : (len8 bs.length).length = 8 := rfl
        obtain ⟨m, hm⟩ : ∃ m, m = 56 - 8 * k := ⟨_, rfl⟩
        have c1 : IntKind.wrap .i64 (8 * (7 - (k : Int))) = (m : Int) := qap m (by omega) (by omega)
        have c2 : IntKind.wrap .i64 (7 - (k : Int) - 1) = 7 - ((k : Int) + 1) := by rw [IntWalk.i64_in _ (by omega)]; omega
        have la : lenAV v5 = B.length + k := by rw [hv.lenAV]; simp [hl8]; omega
        have hty := hv.ty (P := prog) (U := 30) zbl
        have hpl := hv.pl
        have e7 : decide (B.length + k + 1 ≤ 4294967296) = true := by simp; omega
        have e8 : B.length + k ≤ 4294967295 := by omega
        have hm64 : (IntKind.wrap .u64 (m : Int)) = (m : Int) := by rw [zak]; omega
        have c3 : ((m : Int) < 0) = False := by simp
        have c4 : min m IntKind.u64.bits = m := by show min m 64 = m; omega
        have hg8 : (len8 bs.length)[k]? = some (u8 (X.fdiv (2 ^ m))) := by
          rw [hX, hm]
          rcases (by omega : k = 0 ∨ k = 1 ∨ k = 2 ∨ k = 3 ∨ k = 4 ∨ k = 5 ∨ k = 6 ∨ k = 7) with rfl | rfl | rfl | rfl | rfl | rfl | rfl | rfl <;> rfl
        obtain ⟨L, hL⟩ : ∃ L, L = B.length + k := ⟨_, rfl⟩
        rw [← hL] at la e7 e8
        obtain ⟨v6, H6, hv6, hl6, hk6, hgo⟩ := yb4 (P := prog) (.int .u8 (IntKind.wrap .u8 (X.fdiv (2 ^ m)))) (hv.app [(⟨5, [.int .u8 (IntKind.wrap .u8 (X.fdiv (2 ^ m)))], .own⟩ : Entry)])
        rw [show (H ++ [(⟨5, [.int .u8 (IntKind.wrap .u8 (X.fdiv (2 ^ m)))], .own⟩ : Entry)]).length = H.length + 1 by simp] at hgo
        have hty6 := hv6.ty (P := prog) (U := 30) zbl
        have hpl6 := hv6.pl
        repeat' (first
    | simp (implicitDefEqProofs := false) only [push_cast, reduceIte, reduceCtorEq, Nat.reduceAdd, Nat.reduceSub, Nat.reduceEqDiff, Nat.reduceLT, Nat.reduceLeDiff, Nat.reduceBEq, Nat.reduceMul, Int.reduceLT, Int.reduceLE, Int.reduceEq, Int.reduceToNat, Int.reduceMul, Int.reduceNeg, Go.Proofs.Try.f78, hc, c1, c2, c3, c4, la, hty, hpl, e7, e8, hm64, hty6, hpl6, Int.toNat_natCast, yad, zae, qac, zad, yab, qad, sst, qab, yaa, qaa, List.replicate_succ, List.drop_zero]
    | refine Sp2.f ?_ ?_
    | refine Spl.f ?_ ?_ <;> intro hb
    | refine yac rfl (fun b hb => ?_)
    | refine hgo _ _ _ _ ?_)
        have hkeep : ∀ j e, H[j]? = some e → j < h.length + 1 → H6[j]? = some e := fun j e hj hjl => hk6 j e (by rw [List.getElem?_append_left (zac hj)]; exact hj) (.inl (by omega))
        refine ⟨by omega, tk11 hT (by have := zac hz; omega) fun j e hj hjl => hkeep j e hj (by omega), hkeep _ _ hz (by omega), v6, ?_, rfl⟩
        have hz2 : (B ++ (len8 bs.length).take (k + 1)).map eB = (B ++ (len8 bs.length).take k).map eB ++ [.int .u8 (IntKind.wrap .u8 (X.fdiv (2 ^ m)))] := by
          rw [List.take_add_one, hg8, Option.toList_some, ← List.append_assoc, List.map_append, u8_eq]; rfl
        rw [hz2]
        exact hv6.up fun j hj => hj.elim id fun hj => by have := hj.1; have := zac hz; simp only [List.length_append] at *; omega
      · have hc : decide ((0 : Int) ≤ 7 - (k : Int)) = false := by simp; omega
        have h8 : k = 8 := by omega
        have hpad : B ++ (len8 bs.length).take k = qdj bs := by rw [h8, hBe]; rfl
        rw [hpad] at hv
        have hP0 := padS_len bs
        obtain ⟨P, hPe⟩ : ∃ P, P = qdj bs := ⟨_, rfl⟩
        have hPl : P.length = B.length + 8 := by rw [hPe, ← hpad, h8]; simp; rfl
        rw [← hPe] at hv hP0
        have hsha : qdx bs = (qbw v8 P (P.length / 64)).l.flatMap by4 := by rw [hPe]; rfl
        rw [hsha]
        have hPne : P ≠ [] := by intro e; rw [e] at hPl; simp at hPl
        obtain ⟨kv, lo, z, rfl, hkx, hkv⟩ := hv.cons11 (by simpa using hPne)
        have hkl := zac hkv
        have hzl := zac hz
        clear hpad h8 hlt hk hv
        repeat' (first
    | simp (implicitDefEqProofs := false) only [push_cast, reduceIte, reduceCtorEq, Nat.reduceAdd, Nat.reduceSub, Nat.reduceEqDiff, Nat.reduceLT, Nat.reduceLeDiff, Nat.reduceBEq, Nat.reduceMul, Int.reduceLT, Int.reduceLE, Int.reduceEq, Int.reduceToNat, Int.reduceMul, Int.reduceNeg, Go.Proofs.Try.f78, hc, List.length_map, yad, zae, qac, zad, yab, qad, sst, qab, yaa, qaa, List.replicate_succ, List.drop_zero]
    | refine Sp2.f ?_ ?_
    | refine Spl.f ?_ ?_ <;> intro hb
    | refine yac rfl (fun b hb => ?_))
        obtain ⟨kc, hkc⟩ : ∃ kc, kc = H.length := ⟨_, rfl⟩
        refine qau (fun q env' H' => q ≤ P.length / 64 ∧ H'.take h.length = h ∧ H'[h.length]? = some hE0 ∧ H'[kc]? = some (lE (qbw v8 P q).l) ∧ (∃ st : Status, (st = .own ∨ st = .fz) ∧ H'[kv]? = some ⟨5, P.map eB ++ z, st⟩) ∧
          env' = (fun a : Nat → AV => [(0, eBs bs), (2, .ref h.length [0] 36), (3, .win kv [] 5 0 P.length lo), (4, .int .u64 X), (5, .int .i64 (7 - (k : Int))), (6, .ref kc [0] 167), (7, .int .i64 (64 * (q : Int))), (8, a 8), (9, a 9), (18, a 18), (27, a 27), (43, a 43), (51, a 51)]) (lk env')) (P.length / 64)
          ⟨Nat.zero_le _, by rw [List.take_append_of_le_length (by omega)]; exact hT, by rw [List.getElem?_append_left hzl]; exact hz, by rw [hkc]; exact zar .., ⟨.own, .inl rfl, by rw [List.getElem?_append_left hkl]; exact hkv⟩, by rw [hkc]; rfl⟩ ?_
        have hkx2 : h.length + 1 ≤ kv := hkx
        have hkc2 : kv < kc ∧ h.length < kc := by omega
        clear hT hz hkv hkx hkl hzl hkc a
        clear H
        rintro q env H ⟨hq, hT, hz, hv, ⟨st, hst, hkv⟩, henv⟩
        refine ⟨hq, ?_⟩
        rw [henv]
        generalize lk env = a
        clear henv env
        have lz := zac hz
        have lv := zac hv
        have lkv := zac hkv
        have hlt2 : ∀ b : Bool, decide (64 * (q : Int) < (P.length : Int)) = b → decide ((64 * (q : Int)) < (P.length : Int)) = b := fun _ h => h
        by_cases hlt : q < P.length / 64
        · have hc : decide (64 * (q : Int) < (P.length : Int)) = true := by simp; omega
          have hb := c_blockAt (qbw v8 P q) P z st hst hPne (lo := lo) rfl hkv (64 * q) (by omega) (by omega)
          rw [show ((64 * q : Nat) : Int) = 64 * (q : Int) by omega] at hb
          have hw : IntKind.wrap .i64 (64 * (q : Int) + 64) = 64 * ((q : Int) + 1) := by rw [IntWalk.i64_in _ (by omega)]; omega
          have hbk : blk (qbw v8 P q) ((P.drop (64 * q)).take 64) = qbw v8 P (q + 1) := rfl
          rw [hbk] at hb
          have hkc3 : ∀ E : Entry, (H.set kv E)[kc]? = some (lE (qbw v8 P q).l) := fun E => (List.getElem?_set_ne (by omega)).trans hv
          generalize (qbw v8 P (q + 1)).l = V1 at hb ⊢
          generalize (qbw v8 P q).l = V0 at hb hv hkc3 ⊢
          repeat' (first
    | simp (implicitDefEqProofs := false) only [push_cast, reduceIte, reduceCtorEq, Nat.reduceAdd, Nat.reduceSub, Nat.reduceEqDiff, Nat.reduceLT, Nat.reduceLeDiff, Nat.reduceBEq, Nat.reduceMul, Int.reduceLT, Int.reduceLE, Int.reduceEq, Int.reduceToNat, Int.reduceMul, Int.reduceNeg, Go.Proofs.Try.f78, hc, hv, lv, lkv, hw, hkc3, wkN11, lE, List.length_map, yad, zae, qac, zad, yab, qad, sst, qab, yaa, qaa, List.replicate_succ, List.drop_zero]
    | refine Sp2.f ?_ ?_
    | refine Spl.f ?_ ?_ <;> intro hb
    | refine yac rfl (fun b hb => ?_)
    | refine yal hb ?_)
          refine ⟨by omega, ?_, ?_, .fz, .inr rfl, ?_⟩
          · rw [List.take_set_of_le (by omega), List.take_set_of_le (by omega)]; exact hT
          · rw [List.getElem?_set_ne (by omega), List.getElem?_set_ne (by omega)]; exact hz
          · rw [List.getElem?_set_ne (by omega)]; exact List.getElem?_set_self lkv
        · have hc : decide (64 * (q : Int) < (P.length : Int)) = false := by simp; omega
          have hqe : q = P.length / 64 := by omega
          rw [hqe] at hv
          generalize qbw v8 P (P.length / 64) = V at hv ⊢
          repeat' (first
    | simp (implicitDefEqProofs := false) only [push_cast, reduceIte, reduceCtorEq, Nat.reduceAdd, Nat.reduceSub, Nat.reduceEqDiff, Nat.reduceLT, Nat.reduceLeDiff, Nat.reduceBEq, Nat.reduceMul, Int.reduceLT, Int.reduceLE, Int.reduceEq, Int.reduceToNat, Int.reduceMul, Int.reduceNeg, Go.Proofs.Try.f78, hc, List.length_map, yad, zae, qac, zad, yab, qad, sst, qab, yaa, qaa, List.replicate_succ, List.drop_zero]
    | refine Sp2.f ?_ ?_
    | refine Spl.f ?_ ?_ <;> intro hb
    | refine yac rfl (fun b hb => ?_))
          obtain ⟨kd, hkd⟩ : ∃ kd, kd = H.length := ⟨_, rfl⟩
          obtain ⟨W, hW⟩ : ∃ W, W = V.l.flatMap by4 := ⟨_, rfl⟩
          rw [← hW]
          have hWl : W.length = 32 := by rw [hW]; rfl
          refine qau (fun i env' H' => i ≤ 32 ∧ H'.take h.length = h ∧ H'[h.length]? = some hE0 ∧ H'[kc]? = some (lE V.l) ∧ H'[kd]? = some ⟨36, [.agg 36 (outA W i)], .own⟩ ∧
            env' = (fun a : Nat → AV => [(0, eBs bs), (2, .ref h.length [0] 36), (3, .win kv [] 5 0 P.length lo), (4, .int .u64 X), (5, .int .i64 (7 - (k : Int))), (6, .ref kc [0] 167), (7, .int .i64 (64 * (q : Int))), (8, .ref kd [0] 36), (9, .int .i64 i), (18, a 18), (27, a 27), (43, a 43), (51, a 51)]) (lk env')) 32
            ⟨Nat.zero_le _, by rw [List.take_append_of_le_length (by omega)]; exact hT, by rw [List.getElem?_append_left lz]; exact hz, by rw [List.getElem?_append_left lv]; exact hv, by rw [hkd]; exact zar .., by rw [hkd]; rfl⟩ ?_
          have hkd2 : h.length < kd ∧ kc < kd := by omega
          clear hT hz hv hkv lz lv lkv hkd a
          clear H
          rintro i env H ⟨hi, hT, hz, hv, ho, henv⟩
          refine ⟨hi, ?_⟩
          rw [henv]
          generalize lk env = a
          clear henv env
          have lz := zac hz
          have lv := zac hv
          have lo2 := zac ho
          by_cases hlt : i < 32
          · have hc : decide ((i : Int) < 32) = true := by simp; omega
            obtain ⟨qn, hqn⟩ : ∃ qn, qn = i / 4 := ⟨_, rfl⟩
            obtain ⟨rn, hrn⟩ : ∃ rn, rn = i % 4 := ⟨_, rfl⟩
            obtain ⟨m, hm⟩ : ∃ m, m = 24 - 8 * rn := ⟨_, rfl⟩
            have f1 : (i : Int).tdiv 4 = (qn : Int) := by rw [Int.tdiv_eq_ediv_of_nonneg (by omega)]; omega
            have f1' : IntKind.wrap .i64 ((i : Int).tdiv 4) = (qn : Int) := by rw [f1]; exact qam (by omega) (by omega)
            have f0 : IntKind.wrap .i64 (qn : Int) = (qn : Int) := qam (by omega) (by omega)
            have f2 := and3 hlt
            rw [← hrn] at f2
            have f3 : IntKind.wrap .i64 (8 * (rn : Int)) = 8 * (rn : Int) := qam (by omega) (by omega)
            have f4 : IntKind.wrap .i64 (24 - 8 * (rn : Int)) = (m : Int) := qap m (by omega) (by omega)
            have f5 : IntKind.wrap .u64 (m : Int) = (m : Int) := by rw [zak]; omega
            have f6 : ((m : Int) < 0) = False := by simp
            have g1 : (V.l.map eN)[qn]? = some (eN (V.l.getD qn 0)) := ybi (by show qn < 8; omega)
            have r1 : (0 ≤ (qn : Int) ∧ (qn : Int) < 8) = True := by simp; omega
            have r2 : (0 ≤ (i : Int) ∧ (i : Int) < 32) = True := by simp; omega
            have hw := W_get V (i := i) (q := qn) (r := rn) (by omega) (by omega) (by omega)
            rw [← hW, ← hm] at hw
            have hset := outA_set hWl hlt hw
            obtain ⟨y, hy⟩ := outA_get hWl hlt
            generalize hx : V.l.getD qn 0 = x at g1 hw hset
            have hu : eB (u8 (qc4 x m)) = .int .u8 (IntKind.wrap .u8 (x.fdiv (2 ^ min m IntKind.u32.bits))) := by rw [eB, ← u8_eq]; rfl
            rw [hu] at hset
            repeat' (first
    | simp (implicitDefEqProofs := false) only [push_cast, reduceIte, reduceCtorEq, Nat.reduceAdd, Nat.reduceSub, Nat.reduceEqDiff, Nat.reduceLT, Nat.reduceLeDiff, Nat.reduceBEq, Nat.reduceMul, Int.reduceLT, Int.reduceLE, Int.reduceEq, Int.reduceToNat, Int.reduceMul, Int.reduceNeg, Go.Proofs.Try.f78, hc, f0, f1, f1', f2, f3, f4, f5, f6, g1, r1, r2, hv, ho, lv, lo2, lE, hy, hset, eN, cast8, cast32, Int.toNat_natCast, qae (show i < 9223372036854775807 by omega), yad, zae, qac, zad, yab, qad, sst, qab, yaa, qaa, List.replicate_succ, List.drop_zero]
    | refine Sp2.f ?_ ?_
    | refine Spl.f ?_ ?_ <;> intro hb
    | refine yac rfl (fun b hb => ?_))
            refine ⟨by omega, ?_, ?_, ?_⟩
            · rw [List.take_set_of_le (by omega)]; exact hT
            · rw [List.getElem?_set_ne (by omega)]; exact hz
            · rw [List.getElem?_set_ne (by omega)]; exact hv
          · have hc : decide ((i : Int) < 32) = false := by simp; omega
            have h32 : i = 32 := by omega
            have ho2 : outA W i = W.map eB := by rw [h32, outA, List.take_of_length_le (by omega)]; simp
            rw [ho2] at ho
            have hd : qc8 (W.map eB) = true := yaw eB yc8 _
            repeat' (first
    | simp (implicitDefEqProofs := false) only [push_cast, reduceIte, reduceCtorEq, Nat.reduceAdd, Nat.reduceSub, Nat.reduceEqDiff, Nat.reduceLT, Nat.reduceLeDiff, Nat.reduceBEq, Nat.reduceMul, Int.reduceLT, Int.reduceLE, Int.reduceEq, Int.reduceToNat, Int.reduceMul, Int.reduceNeg, Go.Proofs.Try.f78, hc, ho, hz, lz, lo2, hE0, yad, zae, qac, zad, yab, qad, sst, qab, yaa, qaa, List.replicate_succ, List.drop_zero]
    | refine Sp2.f ?_ ?_
    | refine Spl.f ?_ ?_ <;> intro hb
    | refine yac rfl (fun b hb => ?_))
            exact ⟨by rw [List.take_set_of_le (Nat.le_refl _)]; exact hT, res_mk (by rw [qbt]; exact hd) rfl⟩
end Go.Abs
set_option linter.all false
set_option maxRecDepth 100000
set_option maxHeartbeats 0
namespace Go.Abs
open Go
open Go.Proofs.Try (prog)
theorem fl_snoc11 {α : Type} (ls : List (List α)) {i : Nat} {x : List α} (h : ls[i]? = some x) : (ls.take (i + 1)).flatten = (ls.take i).flatten ++ x := by
  rw [List.take_add_one, h, Option.toList_some, List.flatten_append]; simp
theorem c_Cat (ls : List (List UInt8)) (hn : ls.length ≤ 1000) (hl : ls.flatten.length ≤ 100000000) : Fn prog 58 [.list 30 (ls.map eBs)] (eBs ls.flatten) := by
  refine pure_wk (R := fun r => r = eBs ls.flatten ∨ (ls.flatten = [] ∧ r = .nils)) 30 ?_ (fun r hr => ?_)
  rotate_left
  · rcases hr with rfl | ⟨e, rfl⟩
    · exact ⟨zas _, yat _⟩
    · exact ⟨by rw [yci, zbl]; rfl, by rw [qbr, zbl, za1, e]; rfl⟩
  refine run_58 rfl fun h => ?_
  have htl : ∀ i, ((ls.take i).flatten).length ≤ ls.flatten.length := fun i => by
    have : ls.flatten = (ls.take i).flatten ++ (ls.drop i).flatten := by rw [← List.flatten_append, List.take_append_drop]
    rw [this, List.length_append]; omega
  repeat' (first
    | simp (implicitDefEqProofs := false) only [push_cast, reduceIte, reduceCtorEq, Nat.reduceAdd, Nat.reduceSub, Nat.reduceEqDiff, Nat.reduceLT, Nat.reduceLeDiff, Nat.reduceBEq, Nat.reduceMul, Int.reduceLT, Int.reduceLE, Int.reduceEq, Int.reduceToNat, Int.reduceMul, Int.reduceNeg, Go.Proofs.Try.f58, List.length_map, yad, zae, qac, zad, yab, qad, sst, qab, yaa, qaa, List.replicate_succ, List.drop_zero]
    | refine Sp2.f ?_ ?_
    | refine Spl.f ?_ ?_ <;> intro hb
    | refine yac rfl (fun b hb => ?_))
  refine qau (fun i env' H => i ≤ ls.length ∧ H.take h.length = h ∧ h.length ≤ H.length ∧ ∃ v, View (fun j => h.length ≤ j) H 5 v ((ls.take i).flatten.map eB) ∧ env' = (fun a : Nat → AV => [(0, .list 30 (ls.map eBs)), (2, .nils), (3, v), (4, .int .i64 (i : Int)), (8, a 8)]) (lk env')) ls.length ⟨Nat.zero_le _, by simp, Nat.le_refl _, .nils, .nil, rfl⟩ ?_
  rintro i env H ⟨hi, hT, hHl, v, hv, henv⟩
  refine ⟨hi, ?_⟩
  rw [henv]
  generalize lk env = a
  clear henv env
  have hi1 := htl (i + 1)
  have hla := hv.lenAV
  rw [List.length_map] at hla
  by_cases hlt : i < ls.length
  · obtain ⟨x, hx⟩ : ∃ x, ls[i]? = some x := ⟨_, List.getElem?_eq_getElem hlt⟩
    have hsn := fl_snoc11 ls hx
    have hsl := congrArg List.length hsn
    rw [List.length_append] at hsl
    have gx : (ls.map eBs).getD i .junk = .list 5 (x.map eB) := zal eBs hx
    have c7 : decide ((ls.take i).flatten.length + x.length ≤ 4294967296) = true := decide_eq_true (by omega)
    have c8 : (ls.take i).flatten.length + x.length ≤ 4294967296 := by omega
    obtain ⟨v6, H6, hv6, hl6, hk6, hgo⟩ := rh_apps (x.map eB) hv
    have hty6 := hv6.ty (P := prog) (U := 30) zbl
    have hpl6 := hv6.pl
    repeat' (first
    | simp (implicitDefEqProofs := false) only [push_cast, reduceIte, reduceCtorEq, Nat.reduceAdd, Nat.reduceSub, Nat.reduceEqDiff, Nat.reduceLT, Nat.reduceLeDiff, Nat.reduceBEq, Nat.reduceMul, Int.reduceLT, Int.reduceLE, Int.reduceEq, Int.reduceToNat, Int.reduceMul, Int.reduceNeg, Go.Proofs.Try.f58, gx, hla, c7, c8, hty6, hpl6, zau hlt, yar hlt, List.length_map, Int.toNat_natCast, qae (show i < 9223372036854775807 by omega), yad, zae, qac, zad, yab, qad, sst, qab, yaa, qaa, List.replicate_succ, List.drop_zero]
    | refine Sp2.f ?_ ?_
    | refine Spl.f ?_ ?_ <;> intro hb
    | refine yac rfl (fun b hb => ?_)
    | refine hgo _ _ _ _ ?_)
    refine ⟨by omega, tk11 hT hHl fun j e hj hjl => hk6 j e hj (.inl (by omega)), by omega, v6, ?_, rfl⟩
    rw [hsn, List.map_append]
    exact hv6.up fun j hj => hj.elim id fun a => by have := a.1; omega
  · have hie : i = ls.length := by omega
    subst hie
    rw [List.take_length] at hv
    have hz := hv.rz (n := h.length) (fun j hj => hj) (yaw eB yc8 _)
    repeat' (first
    | simp (implicitDefEqProofs := false) only [push_cast, reduceIte, reduceCtorEq, Nat.reduceAdd, Nat.reduceSub, Nat.reduceEqDiff, Nat.reduceLT, Nat.reduceLeDiff, Nat.reduceBEq, Nat.reduceMul, Int.reduceLT, Int.reduceLE, Int.reduceEq, Int.reduceToNat, Int.reduceMul, Int.reduceNeg, Go.Proofs.Try.f58, ya5 hlt, hv.ty zbl, hv.pl, hT, List.length_map, yad, zae, qac, zad, yab, qad, sst, qab, yaa, qaa, List.replicate_succ, List.drop_zero]
    | refine Sp2.f ?_ ?_
    | refine Spl.f ?_ ?_ <;> intro hb
    | refine yac rfl (fun b hb => ?_))
    rcases hz with e | ⟨e0, e⟩
    · exact res_full hv.pl (by rw [e]; exact qan _ (zbd ls.flatten)) (.inl e)
    · exact res_full hv.pl (by rw [e]; rfl) (.inr ⟨List.map_eq_nil_iff.1 e0, e⟩)
theorem bzd_winS {H : List Entry} {n k fr m lo : Nat} {p : List Nat} {T T' : TypeId} {es ys : List AV} (hk : H[k]? = some ⟨T', es, .fz⟩) (hw : qaq es p fr m = some ys) : Go.Abs.bzd H (n + 1) (.win k p T fr m lo) = .list T (ys.map (Go.Abs.bzd H n)) := by
  simp only [Go.Abs.bzd, hk, bzdWin, if_true, hw]
theorem k_frz12 {g : FuncId} {args raw : List AV} {d : Option Tmp} {s : List Ctl} {env : Env} {h : List Entry} {Q : yap} {k : Nat} {T : TypeId} {es : List AV} (hk : h[k]? = some ⟨T, es, .own⟩) (hne : es ≠ []) (hr : Rk prog g args raw d s env (h.set k ⟨T, es, .fz⟩) Q) : Rk prog g args raw d s env h Q :=
  hr.imp (FSpec.freeze wfp hk rfl hne) (FSpec.freeze wfp hk rfl hne)
end Go.Abs
