/- En: a part of the proofs about the tuple space and its bytes. -/
import Derived.Test.YtilfbkhbjkjicaaOg
set_option linter.all false
set_option maxRecDepth 100000
set_option maxHeartbeats 0
namespace Go.Abs
open Go
open Go.Proofs.Try (prog)
structure Ent where
  Now : Int
  List : List Req
def eQs (l : List Req) : AV := .list 60 (l.map eQ)
theorem eQs_dat (l : List Req) : dat (eQs l) = true := by rw [eQs, qcj]; exact zal eQ eQ_dat l
def eE (e : Ent) : AV := .agg 49 [.int .i64 e.Now, eQs e.List]
theorem yb5 (e : Ent) : tyB prog (eE e) 49 = true := by simp [eE, tyB]
theorem qb5 (e : Ent) : yah (eE e) = true := rfl
theorem zb5 (e : Ent) : wk prog 6 49 (eE e) = eE e := by
  simp [eE, eQs, zbq, qau, zbp, zbc, sh_49, fl_49]
structure Ent.Small (e : Ent) : Prop where
  n : e.List.length ≤ 4294967296
  q : ∀ x ∈ e.List, x.Small
def qdx (e : Ent) : Bool := decide (0 ≤ e.Now) && (decide (e.Now ≤ 1099511627776) && (decide (1 ≤ e.List.length) && decide (e.List.length ≤ 8)))
def zc8 (e : Ent) : Bool := qdx e && e.List.all zcp
theorem c_IndexFunc_Req {α : Type} (e : α → AV) (l : List α) {g : FuncId} {caps : List AV} (p : α → Bool) (hl : l.length ≤ 4294967296) (hty : ∀ x, tyB prog (e x) 60 = true) (hpl : ∀ x, yah (e x) = true) (hwk : ∀ x, wk prog 6 60 (e x) = e x)
    (hp : ∀ x ∈ l, Fn prog g (e x :: caps) (.bool (p x))) (hy : isY caps = false := by rfl) : Fn prog 136 [.list 60 (l.map e), .fn g caps] (.int .i64 (fidx p l)) := by
  refine run_136 rfl fun h => ?_
  repeat' (first
    | simp (implicitDefEqProofs := false) only [push_cast, reduceIte, reduceCtorEq, Nat.reduceAdd, Nat.reduceSub, Nat.reduceEqDiff, Nat.reduceLT, Nat.reduceLeDiff, Nat.reduceBEq, Nat.reduceMul, Int.reduceLT, Int.reduceLE, Int.reduceEq, Int.reduceToNat, Int.reduceMul, Int.reduceNeg, Go.Proofs.Try.f136, hy, List.length_map]
    | refine Sp2.f ?_ ?_
    | refine Spl.f ?_ ?_ <;> intro hb
    | refine qac rfl (fun b hb => ?_))
  refine zbl (fun i env' H => i ≤ l.length ∧ (∃ g', H = h ++ g') ∧ (∀ j x, j < i → l[j]? = some x → p x = false) ∧ env' = (fun a : Nat → AV => [(0, .list 60 (l.map e)), (1, .fn g caps), (4, .int .i64 0), (5, a 5), (7, .int .i64 l.length), (8, .int .i64 (i : Int)), (9, a 9), (16, a 16)]) (lk env')) l.length ⟨Nat.zero_le _, ⟨[], (List.append_nil h).symm⟩, fun j x hj => by omega, rfl⟩ ?_
  rintro i env H ⟨hi, ⟨g', rfl⟩, hinv, henv⟩
  refine ⟨hi, ?_⟩
  rw [henv]
  generalize lk env = a
  clear henv env
  by_cases hlt : i < l.length
  · have hx : l[i]? = some l[i] := List.getElem?_eq_getElem hlt
    repeat' (first
    | simp (implicitDefEqProofs := false) only [push_cast, reduceIte, reduceCtorEq, Nat.reduceAdd, Nat.reduceSub, Nat.reduceEqDiff, Nat.reduceLT, Nat.reduceLeDiff, Nat.reduceBEq, Nat.reduceMul, Int.reduceLT, Int.reduceLE, Int.reduceEq, Int.reduceToNat, Int.reduceMul, Int.reduceNeg, Go.Proofs.Try.f136, hy, List.length_map, yaj hlt, qaj hlt, zai e hx, Int.toNat_natCast, hty, hpl, hwk, qaf (show i < 9223372036854775807 by omega), zad, yae, qad, zae, zab, qae, sst, qab, qaa, yaa, List.replicate_succ, List.drop_zero]
    | refine Sp2.f ?_ ?_
    | refine Spl.f ?_ ?_ <;> intro hb
    | refine qac rfl (fun b hb => ?_)
    | refine zat (hp _ (List.getElem_mem hlt)) ?_)
    · rw [ydo hx ‹_› hinv]
    · exact ⟨hlt, ⟨_, rfl⟩, yco hx ‹_› hinv⟩
  · repeat' (first
    | simp (implicitDefEqProofs := false) only [push_cast, reduceIte, reduceCtorEq, Nat.reduceAdd, Nat.reduceSub, Nat.reduceEqDiff, Nat.reduceLT, Nat.reduceLeDiff, Nat.reduceBEq, Nat.reduceMul, Int.reduceLT, Int.reduceLE, Int.reduceEq, Int.reduceToNat, Int.reduceMul, Int.reduceNeg, Go.Proofs.Try.f136, hy, List.length_map, yal hlt, zad, yae, qad, zae, zab, qae, sst, qab, qaa, yaa, List.replicate_succ, List.drop_zero]
    | refine Sp2.f ?_ ?_
    | refine Spl.f ?_ ?_ <;> intro hb
    | refine qac rfl (fun b hb => ?_))
    rw [qdo fun j y hj hy => hinv j y (by omega) hy]
theorem ydr {α : Type} (e : α → AV) (l : List α) {g : FuncId} {caps : List AV} (p : α → Bool) (hl : l.length ≤ 4294967296) (hty : ∀ x, tyB prog (e x) 60 = true) (hpl : ∀ x, yah (e x) = true) (hwk : ∀ x, wk prog 6 60 (e x) = e x)
    (hp : ∀ x ∈ l, Fn prog g (e x :: caps) (.bool (p x))) (hy : isY caps = false := by rfl) : Fn prog 104 [.list 60 (l.map e), .fn g caps] (.bool (l.any p)) := by
  refine run_104 rfl fun h => ?_
  repeat' (first
    | simp (implicitDefEqProofs := false) only [push_cast, reduceIte, reduceCtorEq, Nat.reduceAdd, Nat.reduceSub, Nat.reduceEqDiff, Nat.reduceLT, Nat.reduceLeDiff, Nat.reduceBEq, Nat.reduceMul, Int.reduceLT, Int.reduceLE, Int.reduceEq, Int.reduceToNat, Int.reduceMul, Int.reduceNeg, Go.Proofs.Try.f104, hy, fidx_lt]
    | refine Sp2.f ?_ ?_
    | refine Spl.f ?_ ?_ <;> intro hb
    | refine qac rfl (fun b hb => ?_)
    | refine zat (c_IndexFunc_Req e l p hl hty hpl hwk hp hy) ?_)
theorem c_eMay1 (x : Req) (hx : x.Small) : Fn prog 105 [eQ x] (.bool (!zcp x)) := by
  refine run_105 rfl fun h => ?_
  repeat' (first
    | simp (implicitDefEqProofs := false) only [push_cast, reduceIte, reduceCtorEq, Nat.reduceAdd, Nat.reduceSub, Nat.reduceEqDiff, Nat.reduceLT, Nat.reduceLeDiff, Nat.reduceBEq, Nat.reduceMul, Int.reduceLT, Int.reduceLE, Int.reduceEq, Int.reduceToNat, Int.reduceMul, Int.reduceNeg, Go.Proofs.Try.f105, zay, zaz, yaz, zad, yae, qad, zae, zab, qae, sst, qab, qaa, yaa, List.replicate_succ, List.drop_zero]
    | refine Sp2.f ?_ ?_
    | refine Spl.f ?_ ?_ <;> intro hb
    | refine qac rfl (fun b hb => ?_)
    | refine zat (ydq x hx) ?_)
theorem all_any (l : List Req) : (!l.any fun x => !zcp x) = l.all zcp := by
  rw [List.all_eq_not_any_not]
theorem c_eMay (e : Ent) (he : e.Small) : Fn prog 42 [eE e] (.bool (zc8 e)) := by
  refine run_42 rfl fun h => ?_
  have hcf := ydr eQ e.List (g := 105) (caps := []) (fun x => !zcp x) he.n zay zaz yaz fun x hx => c_eMay1 x (he.q x hx)
  repeat' (first
    | simp (implicitDefEqProofs := false) only [push_cast, reduceIte, reduceCtorEq, Nat.reduceAdd, Nat.reduceSub, Nat.reduceEqDiff, Nat.reduceLT, Nat.reduceLeDiff, Nat.reduceBEq, Nat.reduceMul, Int.reduceLT, Int.reduceLE, Int.reduceEq, Int.reduceToNat, Int.reduceMul, Int.reduceNeg, Go.Proofs.Try.f42, eE, eQs, List.length_map, all_any, zad, yae, qad, zae, zab, qae, sst, qab, qaa, yaa, List.replicate_succ, List.drop_zero]
    | refine Sp2.f ?_ ?_
    | refine Spl.f ?_ ?_ <;> intro hb
    | refine qac rfl (fun b hb => ?_)
    | refine zat hcf ?_)
  all_goals simp only [decide_eq_true_eq, decide_eq_false_iff_not] at *
  all_goals first
    | (have e1 : qdx e = true := by (simp only [qdx, Bool.and_eq_true, decide_eq_true_eq]; omega)
       rw [zc8, e1, Bool.true_and])
    | (have e1 : qdx e = false := by (simp only [qdx, Bool.and_eq_false_iff, decide_eq_false_iff_not]; omega)
       rw [zc8, e1, Bool.false_and])
def putE (e : Ent) : List UInt8 := nb e.Now 8 ++ (beN e.List.length 1 ++ e.List.flatMap fun x => qbh (qde x))
def enE (e : Ent) : Entry := ⟨49, [eE e], .own⟩
theorem putQ_len (x : Req) : (qde x).length ≤ 600 := by
  have := zbt x.P; have := zbt x.T; simp [qde, nb, za3, qbh]; omega
theorem fm_snoc {α : Type} (f : α → List UInt8) (l : List α) {i : Nat} {x : α} (h : l[i]? = some x) : (l.take (i + 1)).flatMap f = (l.take i).flatMap f ++ f x := by
  rw [List.take_add_one, h, Option.toList_some, List.flatMap_append]; simp
theorem fm_len {α : Type} (f : α → List UInt8) (n : Nat) (hf : ∀ x, (f x).length ≤ n) : ∀ l : List α, (l.flatMap f).length ≤ n * l.length
  | [] => by simp
  | x :: l => by
    have h1 := hf x
    have h2 := fm_len f n hf l
    rw [List.flatMap_cons, List.length_append, List.length_cons]
    rw [Nat.mul_add]; omega
theorem textQ_len (x : Req) : (qbh (qde x)).length ≤ 604 := by
  have := putQ_len x; simp [qbh, za3]; omega
theorem c_ePut (e : Ent) (he : e.Small) : Fn prog 28 [eE e] (.tup [eBs (if zc8 e = true then putE e else []), .int .i64 (if zc8 e = true then 0 else 1)]) := by
  refine qbl (R := fun r => ∃ v, r = .tup [v, .int .i64 (if zc8 e = true then 0 else 1)] ∧ RawOK (if zc8 e = true then putE e else []) v) [30, 3] (zdo wfp fun h => ?_) ?_
  rotate_left
  · rintro r ⟨v, rfl, hv⟩
    refine ⟨_, rfl, ⟨hv.ty.1, by rw [ycv, sh_3]; rfl, trivial⟩, ?_⟩
    simp only [wks, hv.ty.2.2, zbp]
  refine frun_28 rfl ?_
  have hmay := c_eMay e he
  cases hm : zc8 e with
  | false =>
    rw [hm] at hmay
    repeat' (first
    | simp (implicitDefEqProofs := false) only [push_cast, reduceIte, reduceCtorEq, Nat.reduceAdd, Nat.reduceSub, Nat.reduceEqDiff, Nat.reduceLT, Nat.reduceLeDiff, Nat.reduceBEq, Nat.reduceMul, Int.reduceLT, Int.reduceLE, Int.reduceEq, Int.reduceToNat, Int.reduceMul, Int.reduceNeg, Go.Proofs.Try.f28, fk_tt, yb5, qb5, zb5, zad, yae, qad, zae, zab, qae, sst, qab, qaa, yaa, List.replicate_succ, List.drop_zero]
    | refine Sp2.f ?_ ?_
    | refine Spl.f ?_ ?_ <;> intro hb
    | refine qac rfl (fun b hb => ?_)
    | refine zat hmay ?_)
    exact ⟨_, rfl, rfl, .nils, rfl, .inr ⟨rfl, rfl⟩⟩
  | true =>
    rw [hm] at hmay
    have hm2 := hm
    simp only [zc8, qdx, Bool.and_eq_true, decide_eq_true_eq, List.all_eq_true] at hm2
    obtain ⟨⟨_, _, _, h8⟩, hq⟩ := hm2
    have g0 : za7 (eE e) [0] = some (.int .i64 e.Now) := rfl
    have g1 : za7 (eE e) [1] = some (.list 60 (e.List.map eQ)) := rfl
    have p0 : PS h.length h (h.length + 1) [] [(h.length, enE e)] (h ++ [enE e, wrE .nils]) := by
      refine ⟨by simp, by simp, fun j => j = h.length + 1, fun j hj => by omega, ⟨fun j hj => by subst hj; simp, rfl, ⟨.nils, za8 .., .nil⟩, Nat.zero_le _⟩, fun c hc => ?_⟩
      rw [List.mem_singleton.1 hc]
      exact ⟨yas .., by simp⟩
    have q0 : FSpec prog 53 [.ref (h.length + 1) [0] 94, .int .u64 (IntKind.u64.wrap e.Now), .int .i64 8] (h ++ [enE e, wrE .nils]) _ := p0.num (IntKind.u64.wrap e.Now) 8 (by omega) (by omega) (by simp)
    repeat' (first
    | simp (implicitDefEqProofs := false) only [push_cast, reduceIte, reduceCtorEq, Nat.reduceAdd, Nat.reduceSub, Nat.reduceEqDiff, Nat.reduceLT, Nat.reduceLeDiff, Nat.reduceBEq, Nat.reduceMul, Int.reduceLT, Int.reduceLE, Int.reduceEq, Int.reduceToNat, Int.reduceMul, Int.reduceNeg, Go.Proofs.Try.f28, g0, yb5, qb5, zb5, zad, yae, qad, zae, zab, qae, sst, qab, qaa, yaa, List.replicate_succ, List.drop_zero]
    | refine Sp2.f ?_ ?_
    | refine Spl.f ?_ ?_ <;> intro hb
    | refine qac rfl (fun b hb => ?_)
    | refine zat hmay ?_)
    refine zax q0 fun v H hp => ?_
    have p1 := hp.2
    clear q0 p0
    have hc := p1.got (List.mem_singleton.2 rfl)
    have hwl : IntKind.wrap .u64 (e.List.length : Int) = (e.List.length : Int) := by rw [zbj]; omega
    have q1 : FSpec prog 53 [.ref (h.length + 1) [0] 94, .int .u64 (e.List.length : Int), .int .i64 1] H _ := p1.num (e.List.length : Int) 1 (by omega) (by omega) (by simp [za3])
    repeat' (first
    | simp (implicitDefEqProofs := false) only [push_cast, reduceIte, reduceCtorEq, Nat.reduceAdd, Nat.reduceSub, Nat.reduceEqDiff, Nat.reduceLT, Nat.reduceLeDiff, Nat.reduceBEq, Nat.reduceMul, Int.reduceLT, Int.reduceLE, Int.reduceEq, Int.reduceToNat, Int.reduceMul, Int.reduceNeg, Go.Proofs.Try.f28, hc, enE, g1, hwl, List.length_map, zad, yae, qad, zae, zab, qae, sst, qab, qaa, yaa, List.replicate_succ, List.drop_zero]
    | refine Sp2.f ?_ ?_
    | refine Spl.f ?_ ?_ <;> intro hb
    | refine qac rfl (fun b hb => ?_))
    refine zax q1 fun v H2 hp => ?_
    have p2 := hp.2
    clear q1 p1 hc
    have hc := p2.got (List.mem_singleton.2 rfl)
    have hl4 : (([] ++ beN (IntKind.u64.wrap e.Now) 8 ++ beN e.List.length 1 : List UInt8)).length ≤ 100 := by simp [za3]
    have hput : putE e = ([] ++ beN (IntKind.u64.wrap e.Now) 8 ++ beN e.List.length 1 : List UInt8) ++ e.List.flatMap fun x => qbh (qde x) := by simp [putE, nb]
    generalize ([] ++ beN (IntKind.u64.wrap e.Now) 8 ++ beN e.List.length 1 : List UInt8) = l4 at p2 hl4 hput
    repeat' (first
    | simp (implicitDefEqProofs := false) only [push_cast, reduceIte, reduceCtorEq, Nat.reduceAdd, Nat.reduceSub, Nat.reduceEqDiff, Nat.reduceLT, Nat.reduceLeDiff, Nat.reduceBEq, Nat.reduceMul, Int.reduceLT, Int.reduceLE, Int.reduceEq, Int.reduceToNat, Int.reduceMul, Int.reduceNeg, Go.Proofs.Try.f28, hc, enE, g1, hwl, List.length_map, zad, yae, qad, zae, zab, qae, sst, qab, qaa, yaa, List.replicate_succ, List.drop_zero]
    | refine Sp2.f ?_ ?_
    | refine Spl.f ?_ ?_ <;> intro hb
    | refine qac rfl (fun b hb => ?_))
    refine zbl (fun i env' H => i ≤ e.List.length ∧ PS h.length h (h.length + 1) (l4 ++ (e.List.take i).flatMap fun x => qbh (qde x)) [(h.length, enE e)] H ∧ env' = (fun a : Nat → AV => [(0, a 0), (1, .ref h.length [0] 49), (2, .nils), (3, .int .i64 0), (4, .ref (h.length + 1) [0] 94), (6, a 6), (7, a 7), (11, a 11), (22, .list 60 (e.List.map eQ)), (23, .int .i64 e.List.length), (24, .int .i64 (i : Int)), (25, a 25)]) (lk env')) e.List.length ⟨Nat.zero_le _, by simpa using p2, rfl⟩ ?_
    clear p2 hc
    rintro i env H ⟨hi, p, henv⟩
    refine ⟨hi, ?_⟩
    rw [henv]
    generalize lk env = a
    clear henv env
    have hfi := fm_len (fun x => qbh (qde x)) 604 textQ_len (e.List.take i)
    have htk : (e.List.take i).length ≤ 8 := by simp; omega
    by_cases hlt : i < e.List.length
    · obtain ⟨x, hx⟩ : ∃ x, e.List[i]? = some x := ⟨_, List.getElem?_eq_getElem hlt⟩
      have hi9 : i < 9223372036854775807 := by omega
      have gx := zai eQ hx
      have hxm := List.mem_of_getElem? hx
      have o1 := c_oPut x (he.q x hxm)
      rw [hq x hxm] at o1
      have hql := putQ_len x
      have pa := p.add ⟨60, [eQ x], .own⟩
      have z1 : FSpec prog 54 [.ref (h.length + 1) [0] 94, eBs (qde x)] _ _ := pa.text (qde x) (by simp only [List.length_append]; omega)
      repeat' (first
    | simp (implicitDefEqProofs := false) only [push_cast, reduceIte, reduceCtorEq, Nat.reduceAdd, Nat.reduceSub, Nat.reduceEqDiff, Nat.reduceLT, Nat.reduceLeDiff, Nat.reduceBEq, Nat.reduceMul, Int.reduceLT, Int.reduceLE, Int.reduceEq, Int.reduceToNat, Int.reduceMul, Int.reduceNeg, Go.Proofs.Try.f28, yaj hlt, qaj hlt, gx, zay, zaz, yaz, zbm, qbi, ybp, List.length_map, Int.toNat_natCast, zad, yae, qad, zae, zab, qae, sst, qab, qaa, yaa, List.replicate_succ, List.drop_zero]
    | refine Sp2.f ?_ ?_
    | refine Spl.f ?_ ?_ <;> intro hb
    | refine qac rfl (fun b hb => ?_)
    | refine zat o1 ?_)
      refine zax z1 fun v1 K1 hp1 => ?_
      have y1 := hp1.2.less
      repeat' (first
    | simp (implicitDefEqProofs := false) only [push_cast, reduceIte, reduceCtorEq, Nat.reduceAdd, Nat.reduceSub, Nat.reduceEqDiff, Nat.reduceLT, Nat.reduceLeDiff, Nat.reduceBEq, Nat.reduceMul, Int.reduceLT, Int.reduceLE, Int.reduceEq, Int.reduceToNat, Int.reduceMul, Int.reduceNeg, Go.Proofs.Try.f28, qaf hi9, zad, yae, qad, zae, zab, qae, sst, qab, qaa, yaa, List.replicate_succ, List.drop_zero]
    | refine Sp2.f ?_ ?_
    | refine Spl.f ?_ ?_ <;> intro hb
    | refine qac rfl (fun b hb => ?_))
      refine ⟨hlt, ?_⟩
      rw [fm_snoc _ _ hx]
      simp only [List.append_assoc] at y1 ⊢
      exact y1
    · have hie : i = e.List.length := by omega
      rw [hie, List.take_length] at p
      rw [← hput] at p
      repeat' (first
    | simp (implicitDefEqProofs := false) only [push_cast, reduceIte, reduceCtorEq, Nat.reduceAdd, Nat.reduceSub, Nat.reduceEqDiff, Nat.reduceLT, Nat.reduceLeDiff, Nat.reduceBEq, Nat.reduceMul, Int.reduceLT, Int.reduceLE, Int.reduceEq, Int.reduceToNat, Int.reduceMul, Int.reduceNeg, Go.Proofs.Try.f28, yal hlt, fk_tt, zad, yae, qad, zae, zab, qae, sst, qab, qaa, yaa, List.replicate_succ, List.drop_zero]
    | refine Sp2.f ?_ ?_
    | refine Spl.f ?_ ?_ <;> intro hb
    | refine qac rfl (fun b hb => ?_)
    | refine qa1 p.bytes ?_)
      refine ⟨qbi _, p.tk, [eBs (putE e), .int .i64 0], rfl, ?_, ?_⟩
      · simp only [rzL, ybm _ (zbw _), rz, zaq, zap _ (zbw _), qam, Bool.and_self]
      · simp only [rzL, ybm _ (zbw _), rz]
        exact ⟨_, rfl, .inl rfl⟩
end Go.Abs
