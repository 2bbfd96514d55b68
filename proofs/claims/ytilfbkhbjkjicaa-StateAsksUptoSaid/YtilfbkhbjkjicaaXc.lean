/- Xc: a part of the proofs about the tuple space and its bytes. -/
import Derived.Test.YtilfbkhbjkjicaaSt
set_option linter.all false
set_option maxRecDepth 100000
set_option maxHeartbeats 0
namespace Go.Abs
open Go
open Go.Proofs.Try (prog)
theorem tk_get {h h' : List Entry} (hT : h'.take h.length = h) {k : Nat} {e : Entry} (hk : k < h.length) (he : h'[k]? = some e) : h[k]? = some e := by
  have : (h'.take h.length)[k]? = h[k]? := by rw [hT]
  rw [List.getElem?_take, if_pos hk] at this
  rw [← this]; exact he
theorem fn_view {g : FuncId} {args : List AV} {l : List UInt8} (hs : ∀ h, FSpec prog g args h fun r h' => h'.take h.length = h ∧ View (fun j => h.length ≤ j) h' 5 r (l.map eB)) : Fn prog g args (eBs l) := by
  refine pure_wk (R := fun r => r = eBs l ∨ (l = [] ∧ r = .nils)) 30 (fun h => (hs h).trim wfp fun r h' ⟨hT, hv⟩ => ?_) (fun r hr => ?_)
  · have hz := hv.rz (n := h.length) (fun j hj => hj) (yaw eB yc8 _)
    refine ⟨fun k e hk he => .inl (tk_get hT hk he), hv.pl, ?_, hT, ?_⟩
    · rcases hz with e | ⟨_, e⟩
      · rw [e]; exact qan _ (zbd l)
      · rw [e]; rfl
    · rcases hz with e | ⟨e0, e⟩
      · exact .inl e
      · exact .inr ⟨List.map_eq_nil_iff.1 e0, e⟩
  · rcases hr with rfl | ⟨e, rfl⟩
    · exact ⟨zas _, yat _⟩
    · exact ⟨by rw [yci, zbl]; rfl, by rw [qbr, zbl, za1, e]; rfl⟩
theorem c_Num1V (v : Int) (n : Nat) (h1 : 1 ≤ n) (h8 : n ≤ 8) (h : List Entry) : FSpec prog 59 [.int .u64 v, .int .i64 n] h fun r h' => h'.take h.length = h ∧ View (fun j => h.length ≤ j) h' 5 r ((beN v n).map eB) := by
  refine frun_59 rfl ?_
  have f1 : decide ((n : Int) < 1) = false := by simp; omega
  have f2 : decide ((8 : Int) < (n : Int)) = false := by simp; omega
  have f3 : IntKind.wrap .i64 ((n : Int) - 1) = (n : Int) - 1 - (0 : Nat) := by rw [IntWalk.i64_in _ (by omega)]; simp
  repeat' (first
    | simp (implicitDefEqProofs := false) only [push_cast, reduceIte, reduceCtorEq, Nat.reduceAdd, Nat.reduceSub, Nat.reduceEqDiff, Nat.reduceLT, Nat.reduceLeDiff, Nat.reduceBEq, Nat.reduceMul, Int.reduceLT, Int.reduceLE, Int.reduceEq, Int.reduceToNat, Int.reduceMul, Int.reduceNeg, Go.Proofs.Try.f59, f1, f2, f3, yad, zae, qac, zad, yab, qad, sst, qab, yaa, qaa, List.replicate_succ, List.drop_zero]
    | refine Sp2.f ?_ ?_
    | refine Spl.f ?_ ?_ <;> intro hb
    | refine yac rfl (fun b hb => ?_))
  refine qau (fun j env' H => j ≤ n ∧ H.take h.length = h ∧ h.length ≤ H.length ∧ ∃ vb, View (fun k => h.length ≤ k) H 5 vb (((beN v n).take j).map eB) ∧ env' = (fun a : Nat → AV => [(0, .int .u64 v), (1, .int .i64 n), (4, .nils), (5, vb), (6, .int .i64 ((n : Int) - 1 - (j : Int))), (12, a 12), (17, a 17)]) (lk env')) n ⟨Nat.zero_le _, by simp, Nat.le_refl _, .nils, .nil, rfl⟩ ?_
  rintro j env H ⟨hj, hT, hHl, vb, hv, henv⟩
  refine ⟨hj, ?_⟩
  rw [henv]
  generalize lk env = a
  clear henv env
  by_cases hlt : j < n
  · have c1 : decide ((0 : Int) ≤ (n : Int) - 1 - (j : Int)) = true := by simp; omega
    obtain ⟨i, hi⟩ : ∃ i, i = n - 1 - j := ⟨_, rfl⟩
    obtain ⟨m, hm⟩ : ∃ m, m = 8 * i := ⟨_, rfl⟩
    have c2 : IntKind.wrap .i64 (8 * ((n : Int) - 1 - (j : Int))) = (m : Int) := qap m (by omega) (by omega)
    have c3 : IntKind.wrap .u64 (m : Int) = (m : Int) := by rw [zak]; omega
    have c4 : ((m : Int) < 0) = False := by simp
    have c5 : min m IntKind.u64.bits = m := by show min m 64 = m; omega
    have c6 : IntKind.wrap .i64 ((n : Int) - 1 - (j : Int) - 1) = (n : Int) - 1 - ((j : Int) + 1) := by rw [IntWalk.i64_in _ (by omega)]; omega
    have hla := hv.lenAV
    rw [List.length_map, List.length_take, yak, Nat.min_eq_left hj] at hla
    have c7 : decide (j + 1 ≤ 4294967296) = true := by simp; omega
    obtain ⟨v6, H6, hv6, hl6, hk6, hgo⟩ := yb4 (P := prog) (.int .u8 (IntKind.wrap .u8 (v.fdiv (2 ^ m)))) (hv.app [(⟨5, [.int .u8 (IntKind.wrap .u8 (v.fdiv (2 ^ m)))], .own⟩ : Entry)])
    rw [show (H ++ [(⟨5, [.int .u8 (IntKind.wrap .u8 (v.fdiv (2 ^ m)))], .own⟩ : Entry)]).length = H.length + 1 by simp] at hgo hl6
    have hty := hv6.ty (U := 30) zbl
    repeat' (first
    | simp (implicitDefEqProofs := false) only [push_cast, reduceIte, reduceCtorEq, Nat.reduceAdd, Nat.reduceSub, Nat.reduceEqDiff, Nat.reduceLT, Nat.reduceLeDiff, Nat.reduceBEq, Nat.reduceMul, Int.reduceLT, Int.reduceLE, Int.reduceEq, Int.reduceToNat, Int.reduceMul, Int.reduceNeg, Go.Proofs.Try.f59, hty, hla, c1, c2, c3, c4, c5, c6, c7, Int.toNat_natCast, yad, zae, qac, zad, yab, qad, sst, qab, yaa, qaa, List.replicate_succ, List.drop_zero]
    | refine Sp2.f ?_ ?_
    | refine Spl.f ?_ ?_ <;> intro hb
    | refine yac rfl (fun b hb => ?_)
    | refine hgo _ _ _ _ ?_)
    · omega
    refine ⟨hlt, tk11 hT hHl fun k e hk hkl => hk6 k e (by rw [List.getElem?_append_left (zac hk)]; exact hk) (.inl (by omega)), by omega, v6, ?_, rfl⟩
    have hz : ((beN v n).take (j + 1)).map eB = ((beN v n).take j).map eB ++ [.int .u8 (IntKind.wrap .u8 (v.fdiv (2 ^ m)))] := by
      rw [List.take_add_one, beN_get v n j hlt, Option.toList_some, List.map_append, u8_eq, hm, hi]; rfl
    rw [hz]
    exact hv6.up fun k hk => by rcases hk with a | ⟨a, _⟩; exact a; simp only [List.length_append] at a; omega
  · have hje : j = n := by omega
    subst hje
    have c1 : decide ((0 : Int) ≤ (j : Int) - 1 - (j : Int)) = false := by simp; omega
    rw [List.take_of_length_le (by rw [yak]; exact Nat.le_refl _)] at hv
    repeat' (first
    | simp (implicitDefEqProofs := false) only [push_cast, reduceIte, reduceCtorEq, Nat.reduceAdd, Nat.reduceSub, Nat.reduceEqDiff, Nat.reduceLT, Nat.reduceLeDiff, Nat.reduceBEq, Nat.reduceMul, Int.reduceLT, Int.reduceLE, Int.reduceEq, Int.reduceToNat, Int.reduceMul, Int.reduceNeg, Go.Proofs.Try.f59, c1, hv.ty zbl, hv.pl, yad, zae, qac, zad, yab, qad, sst, qab, yaa, qaa, List.replicate_succ, List.drop_zero]
    | refine Sp2.f ?_ ?_
    | refine Spl.f ?_ ?_ <;> intro hb
    | refine yac rfl (fun b hb => ?_))
    exact ⟨hT, hv⟩
theorem qco (v : Int) (n : Nat) (h1 : 1 ≤ n) (h8 : n ≤ 8) : Fn prog 59 [.int .u64 v, .int .i64 n] (eBs (beN v n)) := fn_view (c_Num1V v n h1 h8)
theorem c_Text1 (b : List UInt8) (hb : b.length ≤ 100000000) : Fn prog 60 [eBs b] (eBs (qaz b)) := by
  refine fn_view fun h => frun_60 rfl ?_
  have c3 : IntKind.wrap .u64 (b.length : Int) = (b.length : Int) := by rw [zak]; omega
  have hN := c_Num1V (b.length : Int) 4 (by omega) (by omega) h
  have c4 : (beN (b.length : Int) 4).length = 4 := yak ..
  have c7 : decide (4 + b.length ≤ 4294967296) = true := by simp; omega
  repeat' (first
    | simp (implicitDefEqProofs := false) only [push_cast, reduceIte, reduceCtorEq, Nat.reduceAdd, Nat.reduceSub, Nat.reduceEqDiff, Nat.reduceLT, Nat.reduceLeDiff, Nat.reduceBEq, Nat.reduceMul, Int.reduceLT, Int.reduceLE, Int.reduceEq, Int.reduceToNat, Int.reduceMul, Int.reduceNeg, Go.Proofs.Try.f60, c3, eBs, List.length_map, yad, zae, qac, zad, yab, qad, sst, qab, yaa, qaa, List.replicate_succ, List.drop_zero]
    | refine Sp2.f ?_ ?_
    | refine Spl.f ?_ ?_ <;> intro hb
    | refine yac rfl (fun b hb => ?_))
  refine ya4 hN fun v H hv => ?_
  obtain ⟨hT, hv⟩ := hv
  have hla := hv.lenAV
  rw [List.length_map, c4] at hla
  obtain ⟨v6, H6, hv6, hl6, hk6, hgo⟩ := rh_apps (b.map eB) hv
  have hty := hv6.ty (U := 30) zbl
  repeat' (first
    | simp (implicitDefEqProofs := false) only [push_cast, reduceIte, reduceCtorEq, Nat.reduceAdd, Nat.reduceSub, Nat.reduceEqDiff, Nat.reduceLT, Nat.reduceLeDiff, Nat.reduceBEq, Nat.reduceMul, Int.reduceLT, Int.reduceLE, Int.reduceEq, Int.reduceToNat, Int.reduceMul, Int.reduceNeg, Go.Proofs.Try.f60, hla, c7, hty, hv6.pl, eBs, List.length_map, yad, zae, qac, zad, yab, qad, sst, qab, yaa, qaa, List.replicate_succ, List.drop_zero]
    | refine Sp2.f ?_ ?_
    | refine Spl.f ?_ ?_ <;> intro hb
    | refine yac rfl (fun b hb => ?_)
    | refine hgo _ _ _ _ ?_)
  have hHl : h.length ≤ H.length := by have := congrArg List.length hT; simp at this; omega
  refine ⟨tk11 hT hHl fun k e hk hkl => hk6 k e hk (.inl (by omega)), ?_⟩
  rw [qaz, List.map_append]
  exact hv6.up fun k hk => by rcases hk with a | ⟨a, _⟩; exact a; omega
theorem c_bit6 (b : Bool) : Fn prog 62 [.bool b] (eBs (beN (zdp b) 1)) := by
  refine run_62 rfl fun h => ?_
  cases b
  all_goals repeat' (first
    | simp (implicitDefEqProofs := false) only [push_cast, reduceIte, reduceCtorEq, Nat.reduceAdd, Nat.reduceSub, Nat.reduceEqDiff, Nat.reduceLT, Nat.reduceLeDiff, Nat.reduceBEq, Nat.reduceMul, Int.reduceLT, Int.reduceLE, Int.reduceEq, Int.reduceToNat, Int.reduceMul, Int.reduceNeg, Go.Proofs.Try.f62, yad, zae, qac, zad, yab, qad, sst, qab, yaa, qaa, List.replicate_succ, List.drop_zero]
    | refine Sp2.f ?_ ?_
    | refine Spl.f ?_ ?_ <;> intro hb
    | refine yac rfl (fun b hb => ?_))
  all_goals exact res_win (ys := (beN _ 1).map eB) (Nat.le_refl _) (zar ..) rfl rfl (yaw eB yc8 _) rfl
end Go.Abs
set_option linter.all false
set_option maxRecDepth 100000
set_option maxHeartbeats 0
namespace Go.Abs
open Go
open Go.Proofs.Try (prog)
def rB (s : RS) : AV := if s.w = true then .nils else eBs s.l
def rE (s : RS) : Entry := ⟨115, [.agg 115 [rB s, .bool s.w]], .own⟩
theorem qcn {s : RS} (h : s.w = true) : rE s = ⟨115, [.agg 115 [.nils, .bool true]], .own⟩ := by rw [rE, rB, if_pos h, h]
theorem qct {s : RS} (h : s.w = false) : rE s = ⟨115, [.agg 115 [.list 5 (s.l.map eB), .bool false]], .own⟩ := by rw [rE, rB, if_neg (by rw [h]; simp), h]; rfl
def rawV (s : RS) (n : Int) : AV := if s.w = false ∧ 0 ≤ n ∧ n ≤ s.l.length then eBs (s.raw n).1 else .nils
theorem c_1Raw {h : List Entry} {k : Nat} {s : RS} (hk : h[k]? = some (rE s)) (n : Int) (hl : s.l.length ≤ 100000000) :
    FSpec prog 121 [.ref k [0] 115, .int .i64 n] h fun r' h' => r' = rawV s n ∧ h' = h.set k (rE (s.raw n).2) := by
  have hkl := zac hk
  refine frun_121 rfl ?_
  by_cases hb : s.w = false ∧ 0 ≤ n ∧ n ≤ s.l.length
  · obtain ⟨m, hm⟩ : ∃ m : Nat, n = m := ⟨n.toNat, by omega⟩
    subst hm
    have hml : m ≤ s.l.length := by omega
    have hraw : s.raw (m : Int) = (s.l.take m, ⟨s.l.drop m, false⟩) := by rw [RS.raw, if_pos hb]; simp
    rw [rawV, if_pos hb, hraw, qct rfl]
    rw [qct hb.1] at hk
    have d1 : decide ((m : Int) < 0) = false := by simp
    have d2 : decide ((s.l.length : Int) < (m : Int)) = false := by simp; omega
    have e1 : (0 ≤ (m : Int) ∧ (m : Int) ≤ (s.l.length : Int)) = True := by simp; omega
    have e2 : ((m : Int) ≤ (s.l.length : Int)) = True := by simp; omega
    have e3 : ((0 : Int) ≤ (m : Int)) = True := by simp
    have e4 : (s.l.map eB).take m = (s.l.take m).map eB := List.map_take.symm
    have e5 : (s.l.map eB).drop m = (s.l.drop m).map eB := List.map_drop.symm
    have e6 : ((s.l.map eB).take s.l.length) = s.l.map eB := List.take_of_length_le (by simp)
    repeat' (first
    | simp (implicitDefEqProofs := false) only [push_cast, reduceIte, reduceCtorEq, Nat.reduceAdd, Nat.reduceSub, Nat.reduceEqDiff, Nat.reduceLT, Nat.reduceLeDiff, Nat.reduceBEq, Nat.reduceMul, Int.reduceLT, Int.reduceLE, Int.reduceEq, Int.reduceToNat, Int.reduceMul, Int.reduceNeg, Go.Proofs.Try.f121, hk, hkl, d1, d2, e1, e2, e3, e4, e5, e6, eBs, List.length_map, Int.toNat_natCast, List.drop_zero, zaj hkl, yag hkl, za4 hkl, yaj hkl, yad, zae, qac, zad, yab, qad, sst, qab, yaa, qaa, List.replicate_succ, List.drop_zero]
    | refine Sp2.f ?_ ?_
    | refine Spl.f ?_ ?_ <;> intro hb
    | refine yac rfl (fun b hb => ?_))
    exact Int.le_refl _
  · have hraw : s.raw n = ([], ⟨s.l, true⟩) := by rw [RS.raw, if_neg hb]
    rw [rawV, if_neg hb, hraw, qcn rfl]
    cases hw : s.w with
    | true =>
      rw [qcn hw] at hk
      repeat' (first
    | simp (implicitDefEqProofs := false) only [push_cast, reduceIte, reduceCtorEq, Nat.reduceAdd, Nat.reduceSub, Nat.reduceEqDiff, Nat.reduceLT, Nat.reduceLeDiff, Nat.reduceBEq, Nat.reduceMul, Int.reduceLT, Int.reduceLE, Int.reduceEq, Int.reduceToNat, Int.reduceMul, Int.reduceNeg, Go.Proofs.Try.f121, hk, hkl, zaj hkl, yag hkl, za4 hkl, yaj hkl, yad, zae, qac, zad, yab, qad, sst, qab, yaa, qaa, List.replicate_succ, List.drop_zero]
    | refine Sp2.f ?_ ?_
    | refine Spl.f ?_ ?_ <;> intro hb
    | refine yac rfl (fun b hb => ?_))
    | false =>
      rw [qct hw] at hk
      by_cases h0 : n < 0
      · have d1 : decide (n < 0) = true := by simpa using h0
        repeat' (first
    | simp (implicitDefEqProofs := false) only [push_cast, reduceIte, reduceCtorEq, Nat.reduceAdd, Nat.reduceSub, Nat.reduceEqDiff, Nat.reduceLT, Nat.reduceLeDiff, Nat.reduceBEq, Nat.reduceMul, Int.reduceLT, Int.reduceLE, Int.reduceEq, Int.reduceToNat, Int.reduceMul, Int.reduceNeg, Go.Proofs.Try.f121, hk, hkl, d1, zaj hkl, yag hkl, za4 hkl, yaj hkl, yad, zae, qac, zad, yab, qad, sst, qab, yaa, qaa, List.replicate_succ, List.drop_zero]
    | refine Sp2.f ?_ ?_
    | refine Spl.f ?_ ?_ <;> intro hb
    | refine yac rfl (fun b hb => ?_))
      · have d1 : decide (n < 0) = false := by simpa using h0
        have d2 : decide ((s.l.length : Int) < n) = true := by simp; by_cases h1 : n ≤ s.l.length; exact absurd ⟨hw, by omega, h1⟩ hb; omega
        repeat' (first
    | simp (implicitDefEqProofs := false) only [push_cast, reduceIte, reduceCtorEq, Nat.reduceAdd, Nat.reduceSub, Nat.reduceEqDiff, Nat.reduceLT, Nat.reduceLeDiff, Nat.reduceBEq, Nat.reduceMul, Int.reduceLT, Int.reduceLE, Int.reduceEq, Int.reduceToNat, Int.reduceMul, Int.reduceNeg, Go.Proofs.Try.f121, hk, hkl, d1, d2, List.length_map, zaj hkl, yag hkl, za4 hkl, yaj hkl, yad, zae, qac, zad, yab, qad, sst, qab, yaa, qaa, List.replicate_succ, List.drop_zero]
    | refine Sp2.f ?_ ?_
    | refine Spl.f ?_ ?_ <;> intro hb
    | refine yac rfl (fun b hb => ?_))
theorem RS.num_raw (s : RS) (n : Nat) : (s.num n).2 = (s.raw n).2 := by
  unfold RS.num RS.raw
  by_cases hb : s.w = false ∧ n ≤ s.l.length
  · rw [if_pos hb, if_pos ⟨hb.1, by omega, by omega⟩]; simp
  · rw [if_neg hb, if_neg (fun hc => hb ⟨hc.1, by omega⟩)]
theorem zb8 {h : List Entry} {k : Nat} {s : RS} (hk : h[k]? = some (rE s)) (n : Nat) (h1 : 1 ≤ n) (h8 : n ≤ 8) (hl : s.l.length ≤ 100000000) :
    FSpec prog 71 [.ref k [0] 115, .int .i64 n] h fun r' h' => r' = .int .u64 (s.num n).1 ∧ h' = h.set k (rE (s.num n).2) := by
  have hr := c_1Raw hk (n : Int) hl
  rw [← RS.num_raw] at hr
  have f1 : decide ((n : Int) < 1) = false := by simp; omega
  have f2 : decide ((8 : Int) < (n : Int)) = false := by simp; omega
  refine frun_71 rfl ?_
  by_cases hb : s.w = false ∧ n ≤ s.l.length
  · have hnum : s.num n = (num (s.l.take n), ⟨s.l.drop n, false⟩) := by rw [RS.num, if_pos hb]
    have hraw : (s.raw (n : Int)).1 = s.l.take n := by rw [RS.raw, if_pos ⟨hb.1, by omega, by omega⟩]; simp
    rw [rawV, if_pos ⟨hb.1, by omega, by omega⟩, hraw] at hr
    have hln : (s.l.take n).length = n := by simp; omega
    have hnv : (s.num n).1 = num (s.l.take n) := by rw [hnum]
    rw [hnv]
    generalize h.set k (rE (s.num n).2) = H at hr ⊢
    clear hnum hnv hraw hk
    generalize hL : s.l.take n = L at hr hln ⊢
    clear hL
    repeat' (first
    | simp (implicitDefEqProofs := false) only [push_cast, reduceIte, reduceCtorEq, Nat.reduceAdd, Nat.reduceSub, Nat.reduceEqDiff, Nat.reduceLT, Nat.reduceLeDiff, Nat.reduceBEq, Nat.reduceMul, Int.reduceLT, Int.reduceLE, Int.reduceEq, Int.reduceToNat, Int.reduceMul, Int.reduceNeg, Go.Proofs.Try.f71, f1, f2, yad, zae, qac, zad, yab, qad, sst, qab, yaa, qaa, List.replicate_succ, List.drop_zero]
    | refine Sp2.f ?_ ?_
    | refine Spl.f ?_ ?_ <;> intro hb
    | refine yac rfl (fun b hb => ?_)
    | refine yal hr ?_)
    refine qax (fun i a => [(0, .ref k [0] 115), (1, .int .i64 n), (4, .int .u64 0), (5, eBs L), (6, .int .u64 (num (L.take i))), (7, .int .i64 i), (13, a 13), (20, a 20)]) (fun _ _ => H) (fun i => i ≤ n) n (za3 ?_ ⟨[], rfl⟩ (Nat.zero_le _)) ?_
    · rfl
    rintro i a g hi
    refine ⟨hi, ?_⟩
    by_cases hlt : i < n
    · have hnt := num_take L (show i < L.length by omega)
      have hrg := num_range (L.take i)
      have hpw : (256 : Int) ^ (L.take i).length ≤ 72057594037927936 := by
        have : (L.take i).length ≤ 7 := by simp; omega
        rcases (by omega : (L.take i).length = 0 ∨ (L.take i).length = 1 ∨ (L.take i).length = 2 ∨ (L.take i).length = 3 ∨ (L.take i).length = 4 ∨ (L.take i).length = 5 ∨ (L.take i).length = 6 ∨ (L.take i).length = 7) with e | e | e | e | e | e | e | e <;> rw [e] <;> decide
      have hor := or_add (v := num (L.take i)) (b := L.getD i 0) hrg.1 (by omega)
      rw [← hnt] at hor
      have gi : (L.map eB).getD i .junk = eB (L.getD i 0) := zal eB (by rw [List.getD_eq_getElem?_getD, List.getElem?_eq_getElem (show i < L.length by omega)]; rfl)
      generalize L.getD i 0 = b at gi hor
      have hcv : IntKind.wrap .u64 (b.toNat : Int) = (b.toNat : Int) := by have := b.toNat_lt; rw [zak]; omega
      have hin := yar (show i < n by omega)
      repeat' (first
    | simp (implicitDefEqProofs := false) only [push_cast, reduceIte, reduceCtorEq, Nat.reduceAdd, Nat.reduceSub, Nat.reduceEqDiff, Nat.reduceLT, Nat.reduceLeDiff, Nat.reduceBEq, Nat.reduceMul, Int.reduceLT, Int.reduceLE, Int.reduceEq, Int.reduceToNat, Int.reduceMul, Int.reduceNeg, Go.Proofs.Try.f71, gi, hor, hcv, hin, hln, zau hlt, eBs, List.length_map, eB_eq, Int.toNat_natCast, qae (show i < 9223372036854775807 by omega), yad, zae, qac, zad, yab, qad, sst, qab, yaa, qaa, List.replicate_succ, List.drop_zero]
    | refine Sp2.f ?_ ?_
    | refine Spl.f ?_ ?_ <;> intro hb
    | refine yac rfl (fun b hb => ?_))
      exact za3 rfl ⟨[], rfl⟩ hlt
    · have hie : i = n := by omega
      subst hie
      rw [show L.take i = L from List.take_of_length_le (by omega)]
      repeat' (first
    | simp (implicitDefEqProofs := false) only [push_cast, reduceIte, reduceCtorEq, Nat.reduceAdd, Nat.reduceSub, Nat.reduceEqDiff, Nat.reduceLT, Nat.reduceLeDiff, Nat.reduceBEq, Nat.reduceMul, Int.reduceLT, Int.reduceLE, Int.reduceEq, Int.reduceToNat, Int.reduceMul, Int.reduceNeg, Go.Proofs.Try.f71, hln, ya5 hlt, eBs, List.length_map, yad, zae, qac, zad, yab, qad, sst, qab, yaa, qaa, List.replicate_succ, List.drop_zero]
    | refine Sp2.f ?_ ?_
    | refine Spl.f ?_ ?_ <;> intro hb
    | refine yac rfl (fun b hb => ?_))
  · have hnum : s.num n = (0, ⟨s.l, true⟩) := by rw [RS.num, if_neg hb]
    rw [rawV, if_neg (fun hc => hb ⟨hc.1, by omega⟩)] at hr
    have hnv : (s.num n).1 = 0 := by rw [hnum]
    rw [hnv]
    generalize h.set k (rE (s.num n).2) = H at hr ⊢
    repeat' (first
    | simp (implicitDefEqProofs := false) only [push_cast, reduceIte, reduceCtorEq, Nat.reduceAdd, Nat.reduceSub, Nat.reduceEqDiff, Nat.reduceLT, Nat.reduceLeDiff, Nat.reduceBEq, Nat.reduceMul, Int.reduceLT, Int.reduceLE, Int.reduceEq, Int.reduceToNat, Int.reduceMul, Int.reduceNeg, Go.Proofs.Try.f71, f1, f2, yad, zae, qac, zad, yab, qad, sst, qab, yaa, qaa, List.replicate_succ, List.drop_zero]
    | refine Sp2.f ?_ ?_
    | refine Spl.f ?_ ?_ <;> intro hb
    | refine yac rfl (fun b hb => ?_)
    | refine yal hr ?_)
    refine qax (fun i a => [(0, .ref k [0] 115), (1, .int .i64 n), (4, .int .u64 0), (5, .nils), (6, .int .u64 0), (7, .int .i64 i), (13, a 13), (20, a 20)]) (fun _ _ => H) (fun i => i ≤ 0) 0 (za3 ?_ ⟨[], rfl⟩ (Nat.zero_le _)) ?_
    · rfl
    rintro i a g hi
    refine ⟨hi, ?_⟩
    have hi0 : i = 0 := by omega
    subst hi0
    repeat' (first
    | simp (implicitDefEqProofs := false) only [push_cast, reduceIte, reduceCtorEq, Nat.reduceAdd, Nat.reduceSub, Nat.reduceEqDiff, Nat.reduceLT, Nat.reduceLeDiff, Nat.reduceBEq, Nat.reduceMul, Int.reduceLT, Int.reduceLE, Int.reduceEq, Int.reduceToNat, Int.reduceMul, Int.reduceNeg, Go.Proofs.Try.f71, yad, zae, qac, zad, yab, qad, sst, qab, yaa, qaa, List.replicate_succ, List.drop_zero]
    | refine Sp2.f ?_ ?_
    | refine Spl.f ?_ ?_ <;> intro hb
    | refine yac rfl (fun b hb => ?_))
def textV (s : RS) (m : Int) : AV := rawV (s.num 4).2 (if max m 0 < (s.num 4).1 then -1 else (s.num 4).1)
theorem c_1Text {h : List Entry} {k : Nat} {s : RS} (hk : h[k]? = some (rE s)) (m : Int) (h0 : 0 ≤ m) (h1 : m ≤ 1000000) (hl : s.l.length ≤ 100000000) :
    FSpec prog 122 [.ref k [0] 115, .int .i64 m] h fun r' h' => r' = textV s m ∧ h' = h.set k (rE (s.text m).2) := by
  have hn : FSpec prog 71 [.ref k [0] 115, .int .i64 4] h fun r' h' => r' = .int .u64 (s.num 4).1 ∧ h' = h.set k (rE (s.num 4).2) := zb8 hk 4 (by omega) (by omega) hl
  have hrg := s.num_range 4
  have h256 : (256 : Int) ^ 4 = 4294967296 := by decide
  have hk2 : (h.set k (rE (s.num 4).2))[k]? = some (rE (s.num 4).2) := List.getElem?_set_self (zac hk)
  have hl2 : (s.num 4).2.l.length ≤ 100000000 := by rw [RS.num_raw]; unfold RS.raw; split <;> simp <;> omega
  have hkl := zac hk2
  have hset : ∀ E, (h.set k (rE (s.num 4).2)).set k E = h.set k E := fun E => List.set_set ..
  have hmx : (if m < 0 then (0 : Int) else m) = m := by rw [if_neg (by omega)]
  have hmw : IntKind.wrap .u64 m = m := by rw [zak]; omega
  have hmax : max m 0 = m := by omega
  have hcv : IntKind.wrap .i64 (s.num 4).1 = (s.num 4).1 := qam hrg.1 (by omega)
  refine frun_122 rfl ?_
  by_cases hc : m < (s.num 4).1
  · have hcd : decide (m < (s.num 4).1) = true := by simpa using hc
    have ht : s.text m = ([], ⟨(s.num 4).2.l, true⟩) := by rw [RS.text, hmax, if_pos hc, RS.raw, if_neg (by rintro ⟨_, a, _⟩; omega)]
    have hV : textV s m = .nils := by rw [textV, hmax, if_pos hc, rawV, if_neg (by rintro ⟨_, a, _⟩; omega)]
    rw [ht, hV, qcn rfl]
    obtain ⟨b, w, hE⟩ : ∃ b w, rE (s.num 4).2 = ⟨115, [.agg 115 [b, .bool w]], .own⟩ := ⟨_, _, rfl⟩
    rw [← hset]
    have hk2 := hk2.trans (congrArg some hE)
    generalize h.set k (rE (s.num 4).2) = H at hn hk2 hkl ⊢
    repeat' (first
    | simp (implicitDefEqProofs := false) only [push_cast, reduceIte, reduceCtorEq, Nat.reduceAdd, Nat.reduceSub, Nat.reduceEqDiff, Nat.reduceLT, Nat.reduceLeDiff, Nat.reduceBEq, Nat.reduceMul, Int.reduceLT, Int.reduceLE, Int.reduceEq, Int.reduceToNat, Int.reduceMul, Int.reduceNeg, Go.Proofs.Try.f122, hmx, hmw, hcd, hk2, hkl, zaj hkl, yag hkl, za4 hkl, yaj hkl, yad, zae, qac, zad, yab, qad, sst, qab, yaa, qaa, List.replicate_succ, List.drop_zero]
    | refine Sp2.f ?_ ?_
    | refine Spl.f ?_ ?_ <;> intro hb
    | refine yac rfl (fun b hb => ?_)
    | refine yal hn ?_)
  · have hcd : decide (m < (s.num 4).1) = false := by simpa using hc
    have ht : s.text m = (s.num 4).2.raw (s.num 4).1 := by rw [RS.text, hmax, if_neg hc]
    have hV : textV s m = rawV (s.num 4).2 (s.num 4).1 := by rw [textV, hmax, if_neg hc]
    have hr := c_1Raw hk2 (s.num 4).1 hl2
    rw [hset, ← ht, ← hV] at hr
    cases hw : (s.num 4).2.w with
    | true =>
      have hz : (s.num 4).1 = 0 := by
        unfold RS.num at hw ⊢; split at hw; exact absurd hw (by simp); rename_i hq; rw [if_neg hq]
      rw [qcn hw] at hn hk2 hr hkl
      rw [hz] at hn hcd hr hcv
      generalize h.set k (⟨115, [.agg 115 [.nils, .bool true]], .own⟩ : Entry) = H at hn hk2 hkl hr ⊢
      have hw0 : IntKind.wrap .u64 0 = 0 := rfl
      have hd0 : decide ((0 : Int) < 0) = false := rfl
      repeat' (first
    | simp (implicitDefEqProofs := false) only [push_cast, reduceIte, reduceCtorEq, Nat.reduceAdd, Nat.reduceSub, Nat.reduceEqDiff, Nat.reduceLT, Nat.reduceLeDiff, Nat.reduceBEq, Nat.reduceMul, Int.reduceLT, Int.reduceLE, Int.reduceEq, Int.reduceToNat, Int.reduceMul, Int.reduceNeg, Go.Proofs.Try.f122, hmx, hmw, hcd, hcv, hw0, hd0, hk2, hkl, zaj hkl, yag hkl, za4 hkl, yaj hkl, yad, zae, qac, zad, yab, qad, sst, qab, yaa, qaa, List.replicate_succ, List.drop_zero]
    | refine Sp2.f ?_ ?_
    | refine Spl.f ?_ ?_ <;> intro hb
    | refine yac rfl (fun b hb => ?_)
    | refine yal hn ?_
    | refine yal hr ?_)
    | false =>
      have hE := qct hw
      have huw : IntKind.wrap .u64 ((s.num 4).2.l.length : Int) = ((s.num 4).2.l.length : Int) := by rw [zak]; omega
      rw [hE] at hn hk2 hr hkl hset
      by_cases hq : ((s.num 4).2.l.length : Int) < (s.num 4).1
      · have hqd : decide (((s.num 4).2.l.length : Int) < (s.num 4).1) = true := by simpa using hq
        have ht2 : s.text m = ([], ⟨(s.num 4).2.l, true⟩) := by rw [ht, RS.raw, if_neg (by rintro ⟨_, _, a⟩; omega)]
        have hV2 : textV s m = .nils := by rw [hV, rawV, if_neg (by rintro ⟨_, _, a⟩; omega)]
        rw [ht2, hV2, qcn rfl, ← hset]
        generalize h.set k (⟨115, [.agg 115 [.list 5 ((s.num 4).2.l.map eB), .bool false]], .own⟩ : Entry) = H at hn hk2 hkl ⊢
        repeat' (first
    | simp (implicitDefEqProofs := false) only [push_cast, reduceIte, reduceCtorEq, Nat.reduceAdd, Nat.reduceSub, Nat.reduceEqDiff, Nat.reduceLT, Nat.reduceLeDiff, Nat.reduceBEq, Nat.reduceMul, Int.reduceLT, Int.reduceLE, Int.reduceEq, Int.reduceToNat, Int.reduceMul, Int.reduceNeg, Go.Proofs.Try.f122, hmx, hmw, hcd, hqd, huw, hk2, hkl, List.length_map, zaj hkl, yag hkl, za4 hkl, yaj hkl, yad, zae, qac, zad, yab, qad, sst, qab, yaa, qaa, List.replicate_succ, List.drop_zero]
    | refine Sp2.f ?_ ?_
    | refine Spl.f ?_ ?_ <;> intro hb
    | refine yac rfl (fun b hb => ?_)
    | refine yal hn ?_)
      · have hqd : decide (((s.num 4).2.l.length : Int) < (s.num 4).1) = false := by simpa using hq
        generalize h.set k (⟨115, [.agg 115 [.list 5 ((s.num 4).2.l.map eB), .bool false]], .own⟩ : Entry) = H at hn hk2 hkl hr ⊢
        repeat' (first
    | simp (implicitDefEqProofs := false) only [push_cast, reduceIte, reduceCtorEq, Nat.reduceAdd, Nat.reduceSub, Nat.reduceEqDiff, Nat.reduceLT, Nat.reduceLeDiff, Nat.reduceBEq, Nat.reduceMul, Int.reduceLT, Int.reduceLE, Int.reduceEq, Int.reduceToNat, Int.reduceMul, Int.reduceNeg, Go.Proofs.Try.f122, hmx, hmw, hcd, hqd, huw, hcv, hk2, hkl, List.length_map, zaj hkl, yag hkl, za4 hkl, yaj hkl, yad, zae, qac, zad, yab, qad, sst, qab, yaa, qaa, List.replicate_succ, List.drop_zero]
    | refine Sp2.f ?_ ?_
    | refine Spl.f ?_ ?_ <;> intro hb
    | refine yac rfl (fun b hb => ?_)
    | refine yal hn ?_
    | refine yal hr ?_)
theorem c_1End {h : List Entry} {k : Nat} {s : RS} (hk : h[k]? = some (rE s)) (hl : s.l.length ≤ 100000000) :
    FSpec prog 74 [.ref k [0] 115] h fun r' h' => r' = .int .i64 (if s.fine = true then 0 else 2) ∧ h' = h := by
  refine frun_74 rfl ?_
  cases hw : s.w with
  | true =>
    have hf : s.fine = false := by simp [RS.fine, hw]
    rw [qcn hw] at hk
    repeat' (first
    | simp (implicitDefEqProofs := false) only [push_cast, reduceIte, reduceCtorEq, Nat.reduceAdd, Nat.reduceSub, Nat.reduceEqDiff, Nat.reduceLT, Nat.reduceLeDiff, Nat.reduceBEq, Nat.reduceMul, Int.reduceLT, Int.reduceLE, Int.reduceEq, Int.reduceToNat, Int.reduceMul, Int.reduceNeg, Go.Proofs.Try.f74, hk, hf, yad, zae, qac, zad, yab, qad, sst, qab, yaa, qaa, List.replicate_succ, List.drop_zero]
    | refine Sp2.f ?_ ?_
    | refine Spl.f ?_ ?_ <;> intro hb
    | refine yac rfl (fun b hb => ?_))
  | false =>
    rw [qct hw] at hk
    have hfe : s.fine = decide (s.l = []) := by simp [RS.fine, hw]
    rw [hfe]
    by_cases hl : s.l = []
    · have hlt : decide ((0 : Int) < (s.l.length : Int)) = false := by simp [hl]
      rw [decide_eq_true hl, if_pos rfl]
      repeat' (first
    | simp (implicitDefEqProofs := false) only [push_cast, reduceIte, reduceCtorEq, Nat.reduceAdd, Nat.reduceSub, Nat.reduceEqDiff, Nat.reduceLT, Nat.reduceLeDiff, Nat.reduceBEq, Nat.reduceMul, Int.reduceLT, Int.reduceLE, Int.reduceEq, Int.reduceToNat, Int.reduceMul, Int.reduceNeg, Go.Proofs.Try.f74, hk, hlt, List.length_map, yad, zae, qac, zad, yab, qad, sst, qab, yaa, qaa, List.replicate_succ, List.drop_zero]
    | refine Sp2.f ?_ ?_
    | refine Spl.f ?_ ?_ <;> intro hb
    | refine yac rfl (fun b hb => ?_))
    · have hlt : decide ((0 : Int) < (s.l.length : Int)) = true := by cases h2 : s.l with | nil => exact absurd h2 hl | cons => simp
      rw [decide_eq_false hl, if_neg (by simp)]
      repeat' (first
    | simp (implicitDefEqProofs := false) only [push_cast, reduceIte, reduceCtorEq, Nat.reduceAdd, Nat.reduceSub, Nat.reduceEqDiff, Nat.reduceLT, Nat.reduceLeDiff, Nat.reduceBEq, Nat.reduceMul, Int.reduceLT, Int.reduceLE, Int.reduceEq, Int.reduceToNat, Int.reduceMul, Int.reduceNeg, Go.Proofs.Try.f74, hk, hlt, List.length_map, yad, zae, qac, zad, yab, qad, sst, qab, yaa, qaa, List.replicate_succ, List.drop_zero]
    | refine Sp2.f ?_ ?_
    | refine Spl.f ?_ ?_ <;> intro hb
    | refine yac rfl (fun b hb => ?_))
end Go.Abs
set_option linter.all false
set_option maxRecDepth 100000
set_option maxHeartbeats 0
namespace Go.Abs
open Go
open Go.Proofs.Try (prog)
theorem byte1 (K : Int) : (beN (IntKind.wrap .u64 K) 1).map eB = [.int .u8 (IntKind.wrap .u8 K)] := by
  have h : (beN (IntKind.wrap .u64 K) 1) = [u8 ((IntKind.wrap .u64 K).fdiv (2 ^ 0))] := rfl
  rw [h, List.map_cons, List.map_nil, eB_eq, ← u8_eq, Int.pow_zero, Int.fdiv_one, zak, wrap_u8, wrap_u8, Int.emod_emod_of_dvd _ (by decide)]
theorem zc0 (l : List Fld) (hm : qcf l = true ∨ l = []) : Fn prog 61 [eFs l] (eBs (yah l)) := by
  by_cases h0 : l = []
  · subst h0
    have hf0 : yah [] = [] := rfl
    refine fn_view fun h => frun_61 rfl ?_
    repeat' (first
    | simp (implicitDefEqProofs := false) only [push_cast, reduceIte, reduceCtorEq, Nat.reduceAdd, Nat.reduceSub, Nat.reduceEqDiff, Nat.reduceLT, Nat.reduceLeDiff, Nat.reduceBEq, Nat.reduceMul, Int.reduceLT, Int.reduceLE, Int.reduceEq, Int.reduceToNat, Int.reduceMul, Int.reduceNeg, Go.Proofs.Try.f61, eFs, yad, zae, qac, zad, yab, qad, sst, qab, yaa, qaa, List.replicate_succ, List.drop_zero]
    | refine Sp2.f ?_ ?_
    | refine Spl.f ?_ ?_ <;> intro hb
    | refine yac rfl (fun b hb => ?_))
    rw [hf0]; exact .nil
  have hm := hm.resolve_right h0
  obtain ⟨m1, m6, ma⟩ := zck hm
  rw [yah, if_pos hm]
  refine fn_view fun h => frun_61 rfl ?_
  have c1 : ((l.length : Int) == 0) = false := by cases l with | nil => exact absurd rfl h0 | cons => simp; omega
  have c2 : IntKind.wrap .u64 (l.length : Int) = (l.length : Int) := by rw [zak]; omega
  have hN := c_Num1V (l.length : Int) 1 (by omega) (by omega) h
  have tl : ∀ i, (qbh (l.take i)).length ≤ 45 * 6 := fun i => by
    have := zdj (l.take i) fun y hy => ma y (List.mem_of_mem_take hy)
    have : (l.take i).length ≤ 6 := by simp; omega
    omega
  repeat' (first
    | simp (implicitDefEqProofs := false) only [push_cast, reduceIte, reduceCtorEq, Nat.reduceAdd, Nat.reduceSub, Nat.reduceEqDiff, Nat.reduceLT, Nat.reduceLeDiff, Nat.reduceBEq, Nat.reduceMul, Int.reduceLT, Int.reduceLE, Int.reduceEq, Int.reduceToNat, Int.reduceMul, Int.reduceNeg, Go.Proofs.Try.f61, c1, c2, eFs, List.length_map, yad, zae, qac, zad, yab, qad, sst, qab, yaa, qaa, List.replicate_succ, List.drop_zero]
    | refine Sp2.f ?_ ?_
    | refine Spl.f ?_ ?_ <;> intro hb
    | refine yac rfl (fun b hb => ?_))
  refine ya4 hN fun v H hv => ?_
  obtain ⟨hT0, hv0⟩ := hv
  have hl0 : h.length ≤ H.length := by have := congrArg List.length hT0; simp at this; omega
  repeat' (first
    | simp (implicitDefEqProofs := false) only [push_cast, reduceIte, reduceCtorEq, Nat.reduceAdd, Nat.reduceSub, Nat.reduceEqDiff, Nat.reduceLT, Nat.reduceLeDiff, Nat.reduceBEq, Nat.reduceMul, Int.reduceLT, Int.reduceLE, Int.reduceEq, Int.reduceToNat, Int.reduceMul, Int.reduceNeg, Go.Proofs.Try.f61, yad, zae, qac, zad, yab, qad, sst, qab, yaa, qaa, List.replicate_succ, List.drop_zero]
    | refine Sp2.f ?_ ?_
    | refine Spl.f ?_ ?_ <;> intro hb
    | refine yac rfl (fun b hb => ?_))
  refine qau (fun i env' H => i ≤ l.length ∧ H.take h.length = h ∧ h.length ≤ H.length ∧ ∃ v, View (fun j => h.length ≤ j) H 5 v ((beN l.length 1 ++ qbh (l.take i)).map eB) ∧ env' = (fun a : Nat → AV => [(0, .list 160 (l.map eF)), (2, .nils), (3, v), (4, .int .i64 (i : Int)), (7, a 7), (15, a 15), (31, a 31), (32, a 32), (43, a 43)]) (lk env')) l.length ⟨Nat.zero_le _, hT0, hl0, v, by rw [List.take_zero]; simpa [qbh] using hv0, rfl⟩ ?_
  clear hv0 hT0 hN hl0 v H
  rintro i env H ⟨hi, hT, hHl, v, hv, henv⟩
  refine ⟨hi, ?_⟩
  rw [henv]
  generalize lk env = a
  clear henv env
  by_cases hlt : i < l.length
  · obtain ⟨x, hx⟩ : ∃ x, l[i]? = some x := ⟨_, List.getElem?_eq_getElem hlt⟩
    obtain ⟨k1, k5, _, _, _, k40⟩ := zcm (ma x (List.mem_of_getElem? hx))
    have gx := zal eF hx
    have hla := hv.lenAV
    have ti := tl i
    rw [List.length_map, List.length_append, yak] at hla
    have c7 : decide (1 + (qbh (l.take i)).length + 1 ≤ 4294967296) = true := by simp; omega
    obtain ⟨v6, H6, hv6, hl6, hk6, hgo⟩ := yb4 (P := prog) (.int .u8 (IntKind.wrap .u8 x.K)) (hv.app [(⟨5, [.int .u8 (IntKind.wrap .u8 x.K)], .own⟩ : Entry)])
    rw [show (H ++ [(⟨5, [.int .u8 (IntKind.wrap .u8 x.K)], .own⟩ : Entry)]).length = H.length + 1 by simp] at hgo hl6
    have hty := hv6.ty (U := 30) zbl
    have hpl := hv6.pl
    have hT6 : H6.take h.length = h := tk11 hT hHl fun k e hk hkl => hk6 k e (by rw [List.getElem?_append_left (zac hk)]; exact hk) (.inl (by omega))
    have hla6 := hv6.lenAV
    have hv7 : View (fun j => h.length ≤ j) H6 5 v6 ((beN l.length 1 ++ qbh (l.take i) ++ beN (IntKind.wrap .u64 x.K) 1).map eB) := by
      rw [List.map_append, byte1]
      exact hv6.up fun k hk => by rcases hk with a | ⟨a, _⟩; exact a; simp only [List.length_append] at a; omega
    have hsn : beN l.length 1 ++ qbh (l.take (i + 1)) = beN l.length 1 ++ qbh (l.take i) ++ qb8 x := by rw [putFs_snoc l hx, List.append_assoc]
    rw [List.length_append, List.length_map, List.length_append, yak] at hla6
    by_cases q1 : x.K = 1
    · have cK : (x.K == 1) = true := by simpa using q1
      have hp : qb8 x = beN (IntKind.wrap .u64 x.K) 1 ++ beN (IntKind.wrap .u64 x.N) 8 := by rw [qb8, if_pos q1]
      obtain ⟨v8, H8, hv8, hl8, hk8, hgo8⟩ := rh_apps ((beN (IntKind.wrap .u64 x.N) 8).map eB) hv7
      have hty8 := hv8.ty (U := 30) zbl
      have hpl8 := hv8.pl
      have hn8 := qco (IntKind.wrap .u64 x.N) 8 (by omega) (by omega)
      have c8 : decide (1 + (qbh (l.take i)).length + 1 + 8 ≤ 4294967296) = true := by simp; omega
      have b8 : (beN (IntKind.wrap .u64 x.N) 8).length = 8 := yak ..
      repeat' (first
    | simp (implicitDefEqProofs := false) only [push_cast, reduceIte, reduceCtorEq, Nat.reduceAdd, Nat.reduceSub, Nat.reduceEqDiff, Nat.reduceLT, Nat.reduceLeDiff, Nat.reduceBEq, Nat.reduceMul, Int.reduceLT, Int.reduceLE, Int.reduceEq, Int.reduceToNat, Int.reduceMul, Int.reduceNeg, Go.Proofs.Try.f61, gx, cK, hla, hla6, c7, c8, b8, hty, hpl, hty8, hpl8, eF, zau hlt, yar hlt, List.length_map, Int.toNat_natCast, qae (show i < 9223372036854775807 by omega), yad, zae, qac, zad, yab, qad, sst, qab, yaa, qaa, List.replicate_succ, List.drop_zero]
    | refine Sp2.f ?_ ?_
    | refine Spl.f ?_ ?_ <;> intro hb
    | refine yac rfl (fun b hb => ?_)
    | refine hgo _ _ _ _ ?_
    | refine zay hn8 ?_
    | refine hgo8 _ _ _ _ ?_)
      · omega
      · have b9 : lenAV (eBs (beN (IntKind.wrap .u64 x.N) 8)) = 8 := by rw [eBs]; show (List.map eB _).length = _; rw [List.length_map]; exact b8
        rw [b9]; omega
      refine ⟨hlt, tk11 hT6 (by have := congrArg List.length hT6; simp at this; omega) fun k e hk hkl => hk8 k e hk (.inl (by omega)), by omega, v8, ?_, rfl⟩
      rw [hsn, hp, ← List.append_assoc, List.map_append]
      exact hv8.up fun k hk => by rcases hk with a | ⟨a, _⟩; exact a; omega
    have cK : (x.K == 1) = false := by simpa using q1
    by_cases q2 : x.K = 2
    · have cK2 : (x.K == 2) = true := by simpa using q2
      have hp : qb8 x = beN (IntKind.wrap .u64 x.K) 1 ++ qaz x.S.data.toList := by rw [qb8, if_neg q1, if_pos q2]
      obtain ⟨v8, H8, hv8, hl8, hk8, hgo8⟩ := rh_apps ((qaz x.S.data.toList).map eB) hv7
      have hty8 := hv8.ty (U := 30) zbl
      have hpl8 := hv8.pl
      have hsz : x.S.data.toList.length = x.S.size := rfl
      have hn8 := c_Text1 x.S.data.toList (by omega)
      have b8 : (qaz x.S.data.toList).length = 4 + x.S.size := by rw [qaz, List.length_append, yak, hsz]
      have c8 : decide (1 + (qbh (l.take i)).length + 1 + (4 + x.S.size) ≤ 4294967296) = true := by simp; omega
      repeat' (first
    | simp (implicitDefEqProofs := false) only [push_cast, reduceIte, reduceCtorEq, Nat.reduceAdd, Nat.reduceSub, Nat.reduceEqDiff, Nat.reduceLT, Nat.reduceLeDiff, Nat.reduceBEq, Nat.reduceMul, Int.reduceLT, Int.reduceLE, Int.reduceEq, Int.reduceToNat, Int.reduceMul, Int.reduceNeg, Go.Proofs.Try.f61, gx, cK, cK2, hla, hla6, c7, c8, b8, hty, hpl, hty8, hpl8, eF, zau hlt, yar hlt, List.length_map, Int.toNat_natCast, qae (show i < 9223372036854775807 by omega), yad, zae, qac, zad, yab, qad, sst, qab, yaa, qaa, List.replicate_succ, List.drop_zero]
    | refine Sp2.f ?_ ?_
    | refine Spl.f ?_ ?_ <;> intro hb
    | refine yac rfl (fun b hb => ?_)
    | refine hgo _ _ _ _ ?_
    | refine zay hn8 ?_
    | refine hgo8 _ _ _ _ ?_)
      · omega
      · have b9 : lenAV (eBs (qaz x.S.data.toList)) = 4 + x.S.size := by rw [eBs]; show (List.map eB _).length = _; rw [List.length_map]; exact b8
        rw [b9]; omega
      refine ⟨hlt, tk11 hT6 (by have := congrArg List.length hT6; simp at this; omega) fun k e hk hkl => hk8 k e hk (.inl (by omega)), by omega, v8, ?_, rfl⟩
      rw [hsn, hp, ← List.append_assoc, List.map_append]
      exact hv8.up fun k hk => by rcases hk with a | ⟨a, _⟩; exact a; omega
    · have cK2 : (x.K == 2) = false := by simpa using q2
      have hp : qb8 x = beN (IntKind.wrap .u64 x.K) 1 := by rw [qb8, if_neg q1, if_neg q2, List.append_nil]
      repeat' (first
    | simp (implicitDefEqProofs := false) only [push_cast, reduceIte, reduceCtorEq, Nat.reduceAdd, Nat.reduceSub, Nat.reduceEqDiff, Nat.reduceLT, Nat.reduceLeDiff, Nat.reduceBEq, Nat.reduceMul, Int.reduceLT, Int.reduceLE, Int.reduceEq, Int.reduceToNat, Int.reduceMul, Int.reduceNeg, Go.Proofs.Try.f61, gx, cK, cK2, hla, hla6, c7, hty, hpl, eF, zau hlt, yar hlt, List.length_map, Int.toNat_natCast, qae (show i < 9223372036854775807 by omega), yad, zae, qac, zad, yab, qad, sst, qab, yaa, qaa, List.replicate_succ, List.drop_zero]
    | refine Sp2.f ?_ ?_
    | refine Spl.f ?_ ?_ <;> intro hb
    | refine yac rfl (fun b hb => ?_)
    | refine hgo _ _ _ _ ?_)
      · omega
      exact ⟨hlt, hT6, by omega, v6, by rw [hsn, hp]; exact hv7, rfl⟩
  · have hie : i = l.length := by omega
    subst hie
    rw [List.take_length] at hv
    repeat' (first
    | simp (implicitDefEqProofs := false) only [push_cast, reduceIte, reduceCtorEq, Nat.reduceAdd, Nat.reduceSub, Nat.reduceEqDiff, Nat.reduceLT, Nat.reduceLeDiff, Nat.reduceBEq, Nat.reduceMul, Int.reduceLT, Int.reduceLE, Int.reduceEq, Int.reduceToNat, Int.reduceMul, Int.reduceNeg, Go.Proofs.Try.f61, ya5 hlt, hv.ty zbl, hv.pl, List.length_map, yad, zae, qac, zad, yab, qad, sst, qab, yaa, qaa, List.replicate_succ, List.drop_zero]
    | refine Sp2.f ?_ ?_
    | refine Spl.f ?_ ?_ <;> intro hb
    | refine yac rfl (fun b hb => ?_))
    exact ⟨hT, hv⟩
end Go.Abs
