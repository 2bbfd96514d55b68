/- Eg: a part of the proofs about the tuple space and its bytes. -/
import Derived.Test.YtilfbkhbjkjicaaOg
import Derived.Test.YtilfbkhbjkjicaaCt
set_option linter.all false
set_option maxRecDepth 100000
set_option maxHeartbeats 0
namespace Go.Abs
open Go
open Go.Proofs.Try (prog)
structure Ent where
  Now : Int
  List : List Req
def eQs (l : List Req) : AV := .list 60 (l.map eQ)
theorem eQs_dat (l : List Req) : dat (eQs l) = true := by rw [eQs, zcm]; exact qal eQ eQ_dat l
def eE (e : Ent) : AV := .agg 49 [.int .i64 e.Now, eQs e.List]
theorem eE_ty (e : Ent) : tyB prog (eE e) 49 = true := by simp [eE, tyB]
theorem eE_pl (e : Ent) : qag (eE e) = true := rfl
theorem eE_wk (e : Ent) : wk prog 6 49 (eE e) = eE e := by
  simp [eE, eQs, ybu, qaw, ybq, zbl, sh_49, fl_49]
structure Ent.Small (e : Ent) : Prop where
  n : e.List.length ≤ 4294967296
  q : ∀ x ∈ e.List, x.Small
def headE (e : Ent) : Bool := decide (0 ≤ e.Now) && (decide (e.Now ≤ 1099511627776) && (decide (1 ≤ e.List.length) && decide (e.List.length ≤ 8)))
def zc2 (e : Ent) : Bool := headE e && e.List.all qcp
theorem c_IndexFunc_Req {α : Type} (e : α → AV) (l : List α) {g : FuncId} {caps : List AV} (p : α → Bool) (hl : l.length ≤ 4294967296) (hty : ∀ x, tyB prog (e x) 60 = true) (hpl : ∀ x, qag (e x) = true) (hwk : ∀ x, wk prog 6 60 (e x) = e x)
    (hp : ∀ x ∈ l, Fn prog g (e x :: caps) (.bool (p x))) (hy : isY caps = false := by rfl) : Fn prog 136 [.list 60 (l.map e), .fn g caps] (.int .i64 (fidx p l)) := by
  refine run_136 rfl fun h => ?_
  repeat' (first
    | simp (implicitDefEqProofs := false) only [push_cast, reduceIte, reduceCtorEq, Nat.reduceAdd, Nat.reduceSub, Nat.reduceEqDiff, Nat.reduceLT, Nat.reduceLeDiff, Nat.reduceBEq, Nat.reduceMul, Int.reduceLT, Int.reduceLE, Int.reduceEq, Int.reduceToNat, Int.reduceMul, Int.reduceNeg, Go.Proofs.Try.f136, hy, List.length_map]
    | refine Sp2.f ?_ ?_
    | refine Spl.f ?_ ?_ <;> intro hb
    | refine yac rfl (fun b hb => ?_))
  refine qa6 (fun i env' H => i ≤ l.length ∧ (∃ g', H = h ++ g') ∧ (∀ j x, j < i → l[j]? = some x → p x = false) ∧ env' = (fun a : Nat → AV => [(0, .list 60 (l.map e)), (1, .fn g caps), (4, .int .i64 0), (5, a 5), (7, .int .i64 l.length), (8, .int .i64 (i : Int)), (9, a 9), (16, a 16)]) (lk env')) l.length ⟨Nat.zero_le _, ⟨[], (List.append_nil h).symm⟩, fun j x hj => by omega, rfl⟩ ?_
  rintro i env H ⟨hi, ⟨g', rfl⟩, hinv, henv⟩
  refine ⟨hi, ?_⟩
  rw [henv]
  generalize lk env = a
  clear henv env
  by_cases hlt : i < l.length
  · have hx : l[i]? = some l[i] := List.getElem?_eq_getElem hlt
    repeat' (first
    | simp (implicitDefEqProofs := false) only [push_cast, reduceIte, reduceCtorEq, Nat.reduceAdd, Nat.reduceSub, Nat.reduceEqDiff, Nat.reduceLT, Nat.reduceLeDiff, Nat.reduceBEq, Nat.reduceMul, Int.reduceLT, Int.reduceLE, Int.reduceEq, Int.reduceToNat, Int.reduceMul, Int.reduceNeg, Go.Proofs.Try.f136, hy, List.length_map, yaz hlt, yas hlt, zar e hx, Int.toNat_natCast, hty, hpl, hwk, yag (show i < 9223372036854775807 by omega), zad, zae, qac, yad, yab, qad, sst, zac, qaa, yaa, List.replicate_succ, List.drop_zero]
    | refine Sp2.f ?_ ?_
    | refine Spl.f ?_ ?_ <;> intro hb
    | refine yac rfl (fun b hb => ?_)
    | refine qaz (hp _ (List.getElem_mem hlt)) ?_)
    · rw [fidx_some hx ‹_› hinv]
    · exact ⟨hlt, ⟨_, rfl⟩, ydb hx ‹_› hinv⟩
  · repeat' (first
    | simp (implicitDefEqProofs := false) only [push_cast, reduceIte, reduceCtorEq, Nat.reduceAdd, Nat.reduceSub, Nat.reduceEqDiff, Nat.reduceLT, Nat.reduceLeDiff, Nat.reduceBEq, Nat.reduceMul, Int.reduceLT, Int.reduceLE, Int.reduceEq, Int.reduceToNat, Int.reduceMul, Int.reduceNeg, Go.Proofs.Try.f136, hy, List.length_map, ya3 hlt, zad, zae, qac, yad, yab, qad, sst, zac, qaa, yaa, List.replicate_succ, List.drop_zero]
    | refine Sp2.f ?_ ?_
    | refine Spl.f ?_ ?_ <;> intro hb
    | refine yac rfl (fun b hb => ?_))
    rw [fidx_none fun j y hj hy => hinv j y (by omega) hy]
theorem ydn {α : Type} (e : α → AV) (l : List α) {g : FuncId} {caps : List AV} (p : α → Bool) (hl : l.length ≤ 4294967296) (hty : ∀ x, tyB prog (e x) 60 = true) (hpl : ∀ x, qag (e x) = true) (hwk : ∀ x, wk prog 6 60 (e x) = e x)
    (hp : ∀ x ∈ l, Fn prog g (e x :: caps) (.bool (p x))) (hy : isY caps = false := by rfl) : Fn prog 104 [.list 60 (l.map e), .fn g caps] (.bool (l.any p)) := by
  refine run_104 rfl fun h => ?_
  repeat' (first
    | simp (implicitDefEqProofs := false) only [push_cast, reduceIte, reduceCtorEq, Nat.reduceAdd, Nat.reduceSub, Nat.reduceEqDiff, Nat.reduceLT, Nat.reduceLeDiff, Nat.reduceBEq, Nat.reduceMul, Int.reduceLT, Int.reduceLE, Int.reduceEq, Int.reduceToNat, Int.reduceMul, Int.reduceNeg, Go.Proofs.Try.f104, hy, fidx_lt]
    | refine Sp2.f ?_ ?_
    | refine Spl.f ?_ ?_ <;> intro hb
    | refine yac rfl (fun b hb => ?_)
    | refine qaz (c_IndexFunc_Req e l p hl hty hpl hwk hp hy) ?_)
theorem c_eMay1 (x : Req) (hx : x.Small) : Fn prog 105 [eQ x] (.bool (!qcp x)) := by
  refine run_105 rfl fun h => ?_
  repeat' (first
    | simp (implicitDefEqProofs := false) only [push_cast, reduceIte, reduceCtorEq, Nat.reduceAdd, Nat.reduceSub, Nat.reduceEqDiff, Nat.reduceLT, Nat.reduceLeDiff, Nat.reduceBEq, Nat.reduceMul, Int.reduceLT, Int.reduceLE, Int.reduceEq, Int.reduceToNat, Int.reduceMul, Int.reduceNeg, Go.Proofs.Try.f105, qdl, zdu, qdt, zad, zae, qac, yad, yab, qad, sst, zac, qaa, yaa, List.replicate_succ, List.drop_zero]
    | refine Sp2.f ?_ ?_
    | refine Spl.f ?_ ?_ <;> intro hb
    | refine yac rfl (fun b hb => ?_)
    | refine qaz (zdn x hx) ?_)
theorem all_any (l : List Req) : (!l.any fun x => !qcp x) = l.all qcp := by
  rw [List.all_eq_not_any_not]
theorem c_eMay (e : Ent) (he : e.Small) : Fn prog 42 [eE e] (.bool (zc2 e)) := by
  refine run_42 rfl fun h => ?_
  have hcf := ydn eQ e.List (g := 105) (caps := []) (fun x => !qcp x) he.n qdl zdu qdt fun x hx => c_eMay1 x (he.q x hx)
  repeat' (first
    | simp (implicitDefEqProofs := false) only [push_cast, reduceIte, reduceCtorEq, Nat.reduceAdd, Nat.reduceSub, Nat.reduceEqDiff, Nat.reduceLT, Nat.reduceLeDiff, Nat.reduceBEq, Nat.reduceMul, Int.reduceLT, Int.reduceLE, Int.reduceEq, Int.reduceToNat, Int.reduceMul, Int.reduceNeg, Go.Proofs.Try.f42, eE, eQs, List.length_map, all_any, zad, zae, qac, yad, yab, qad, sst, zac, qaa, yaa, List.replicate_succ, List.drop_zero]
    | refine Sp2.f ?_ ?_
    | refine Spl.f ?_ ?_ <;> intro hb
    | refine yac rfl (fun b hb => ?_)
    | refine qaz hcf ?_)
  all_goals simp only [decide_eq_true_eq, decide_eq_false_iff_not] at *
  all_goals first
    | (have e1 : headE e = true := by (simp only [headE, Bool.and_eq_true, decide_eq_true_eq]; omega)
       rw [zc2, e1, Bool.true_and])
    | (have e1 : headE e = false := by (simp only [headE, Bool.and_eq_false_iff, decide_eq_false_iff_not]; omega)
       rw [zc2, e1, Bool.false_and])
def putE (e : Ent) : List UInt8 := nb e.Now 8 ++ (beN e.List.length 1 ++ e.List.flatMap fun x => zbb (yc7 x))
def enE (e : Ent) : Entry := ⟨49, [eE e], .own⟩
theorem putQ_len (x : Req) : (yc7 x).length ≤ 600 := by
  have := ybo x.P; have := ybo x.T; simp [yc7, nb, qax, zbb]; omega
theorem fm_snoc {α : Type} (f : α → List UInt8) (l : List α) {i : Nat} {x : α} (h : l[i]? = some x) : (l.take (i + 1)).flatMap f = (l.take i).flatMap f ++ f x := by
  rw [List.take_add_one, h, Option.toList_some, List.flatMap_append]; simp
theorem fm_len {α : Type} (f : α → List UInt8) (n : Nat) (hf : ∀ x, (f x).length ≤ n) : ∀ l : List α, (l.flatMap f).length ≤ n * l.length
  | [] => by simp
  | x :: l => by
    have h1 := hf x
    have h2 := fm_len f n hf l
    rw [List.flatMap_cons, List.length_append, List.length_cons]
    rw [Nat.mul_add]; omega
theorem textQ_len (x : Req) : (zbb (yc7 x)).length ≤ 604 := by
  have := putQ_len x; simp [zbb, qax]; omega
theorem c_ePut (e : Ent) (he : e.Small) : Fn prog 28 [eE e] (.tup [eBs (if zc2 e = true then putE e else []), .int .i64 (if zc2 e = true then 0 else 1)]) := by
  refine ybg (R := fun r => ∃ v, r = .tup [v, .int .i64 (if zc2 e = true then 0 else 1)] ∧ RawOK (if zc2 e = true then putE e else []) v) [30, 3] (fn_tup wfp fun h => ?_) ?_
  rotate_left
  · rintro r ⟨v, rfl, hv⟩
    refine ⟨_, rfl, ⟨hv.ty.1, by rw [ycr, sh_3]; rfl, trivial⟩, ?_⟩
    simp only [wks, hv.ty.2.2, ybq]
  refine frun_28 rfl ?_
  have hmay := c_eMay e he
  cases hm : zc2 e with
  | false =>
    rw [hm] at hmay
    repeat' (first
    | simp (implicitDefEqProofs := false) only [push_cast, reduceIte, reduceCtorEq, Nat.reduceAdd, Nat.reduceSub, Nat.reduceEqDiff, Nat.reduceLT, Nat.reduceLeDiff, Nat.reduceBEq, Nat.reduceMul, Int.reduceLT, Int.reduceLE, Int.reduceEq, Int.reduceToNat, Int.reduceMul, Int.reduceNeg, Go.Proofs.Try.f28, fk_tt, eE_ty, eE_pl, eE_wk, zad, zae, qac, yad, yab, qad, sst, zac, qaa, yaa, List.replicate_succ, List.drop_zero]
    | refine Sp2.f ?_ ?_
    | refine Spl.f ?_ ?_ <;> intro hb
    | refine yac rfl (fun b hb => ?_)
    | refine qaz hmay ?_)
    exact ⟨_, rfl, rfl, .nils, rfl, .inr ⟨rfl, rfl⟩⟩
  | true =>
    rw [hm] at hmay
    have hm2 := hm
    simp only [zc2, headE, Bool.and_eq_true, decide_eq_true_eq, List.all_eq_true] at hm2
    obtain ⟨⟨_, _, _, h8⟩, hq⟩ := hm2
    have g0 : zb1 (eE e) [0] = some (.int .i64 e.Now) := rfl
    have g1 : zb1 (eE e) [1] = some (.list 60 (e.List.map eQ)) := rfl
    have p0 : PS h.length h (h.length + 1) [] [(h.length, enE e)] (h ++ [enE e, wrE .nils]) := by
      refine ⟨by simp, by simp, fun j => j = h.length + 1, fun j hj => by omega, ⟨fun j hj => by subst hj; simp, rfl, ⟨.nils, za0 .., .nil⟩, Nat.zero_le _⟩, fun c hc => ?_⟩
      rw [List.mem_singleton.1 hc]
      exact ⟨zao .., by simp⟩
    have q0 : FSpec prog 53 [.ref (h.length + 1) [0] 94, .int .u64 (IntKind.u64.wrap e.Now), .int .i64 8] (h ++ [enE e, wrE .nils]) _ := p0.num (IntKind.u64.wrap e.Now) 8 (by omega) (by omega) (by simp)
    repeat' (first
    | simp (implicitDefEqProofs := false) only [push_cast, reduceIte, reduceCtorEq, Nat.reduceAdd, Nat.reduceSub, Nat.reduceEqDiff, Nat.reduceLT, Nat.reduceLeDiff, Nat.reduceBEq, Nat.reduceMul, Int.reduceLT, Int.reduceLE, Int.reduceEq, Int.reduceToNat, Int.reduceMul, Int.reduceNeg, Go.Proofs.Try.f28, g0, eE_ty, eE_pl, eE_wk, zad, zae, qac, yad, yab, qad, sst, zac, qaa, yaa, List.replicate_succ, List.drop_zero]
    | refine Sp2.f ?_ ?_
    | refine Spl.f ?_ ?_ <;> intro hb
    | refine yac rfl (fun b hb => ?_)
    | refine qaz hmay ?_)
    refine yav q0 fun v H hp => ?_
    have p1 := hp.2
    clear q0 p0
    have hc := p1.got (List.mem_singleton.2 rfl)
    have hwl : IntKind.wrap .u64 (e.List.length : Int) = (e.List.length : Int) := by rw [yaq]; omega
    have q1 : FSpec prog 53 [.ref (h.length + 1) [0] 94, .int .u64 (e.List.length : Int), .int .i64 1] H _ := p1.num (e.List.length : Int) 1 (by omega) (by omega) (by simp [qax])
    repeat' (first
    | simp (implicitDefEqProofs := false) only [push_cast, reduceIte, reduceCtorEq, Nat.reduceAdd, Nat.reduceSub, Nat.reduceEqDiff, Nat.reduceLT, Nat.reduceLeDiff, Nat.reduceBEq, Nat.reduceMul, Int.reduceLT, Int.reduceLE, Int.reduceEq, Int.reduceToNat, Int.reduceMul, Int.reduceNeg, Go.Proofs.Try.f28, hc, enE, g1, hwl, List.length_map, zad, zae, qac, yad, yab, qad, sst, zac, qaa, yaa, List.replicate_succ, List.drop_zero]
    | refine Sp2.f ?_ ?_
    | refine Spl.f ?_ ?_ <;> intro hb
    | refine yac rfl (fun b hb => ?_))
    refine yav q1 fun v H2 hp => ?_
    have p2 := hp.2
    clear q1 p1 hc
    have hc := p2.got (List.mem_singleton.2 rfl)
    have hl4 : (([] ++ beN (IntKind.u64.wrap e.Now) 8 ++ beN e.List.length 1 : List UInt8)).length ≤ 100 := by simp [qax]
    have hput : putE e = ([] ++ beN (IntKind.u64.wrap e.Now) 8 ++ beN e.List.length 1 : List UInt8) ++ e.List.flatMap fun x => zbb (yc7 x) := by simp [putE, nb]
    generalize ([] ++ beN (IntKind.u64.wrap e.Now) 8 ++ beN e.List.length 1 : List UInt8) = l4 at p2 hl4 hput
    repeat' (first
    | simp (implicitDefEqProofs := false) only [push_cast, reduceIte, reduceCtorEq, Nat.reduceAdd, Nat.reduceSub, Nat.reduceEqDiff, Nat.reduceLT, Nat.reduceLeDiff, Nat.reduceBEq, Nat.reduceMul, Int.reduceLT, Int.reduceLE, Int.reduceEq, Int.reduceToNat, Int.reduceMul, Int.reduceNeg, Go.Proofs.Try.f28, hc, enE, g1, hwl, List.length_map, zad, zae, qac, yad, yab, qad, sst, zac, qaa, yaa, List.replicate_succ, List.drop_zero]
    | refine Sp2.f ?_ ?_
    | refine Spl.f ?_ ?_ <;> intro hb
    | refine yac rfl (fun b hb => ?_))
    refine qa6 (fun i env' H => i ≤ e.List.length ∧ PS h.length h (h.length + 1) (l4 ++ (e.List.take i).flatMap fun x => zbb (yc7 x)) [(h.length, enE e)] H ∧ env' = (fun a : Nat → AV => [(0, a 0), (1, .ref h.length [0] 49), (2, .nils), (3, .int .i64 0), (4, .ref (h.length + 1) [0] 94), (6, a 6), (7, a 7), (11, a 11), (22, .list 60 (e.List.map eQ)), (23, .int .i64 e.List.length), (24, .int .i64 (i : Int)), (25, a 25)]) (lk env')) e.List.length ⟨Nat.zero_le _, by simpa using p2, rfl⟩ ?_
    clear p2 hc
    rintro i env H ⟨hi, p, henv⟩
    refine ⟨hi, ?_⟩
    rw [henv]
    generalize lk env = a
    clear henv env
    have hfi := fm_len (fun x => zbb (yc7 x)) 604 textQ_len (e.List.take i)
    have htk : (e.List.take i).length ≤ 8 := by simp; omega
    by_cases hlt : i < e.List.length
    · obtain ⟨x, hx⟩ : ∃ x, e.List[i]? = some x := ⟨_, List.getElem?_eq_getElem hlt⟩
      have hi9 : i < 9223372036854775807 := by omega
      have gx := zar eQ hx
      have hxm := List.mem_of_getElem? hx
      have o1 := c_oPut x (he.q x hxm)
      rw [hq x hxm] at o1
      have hql := putQ_len x
      have pa := p.add ⟨60, [eQ x], .own⟩
      have z1 : FSpec prog 54 [.ref (h.length + 1) [0] 94, eBs (yc7 x)] _ _ := pa.text (yc7 x) (by simp only [List.length_append]; omega)
      repeat' (first
    | simp (implicitDefEqProofs := false) only [push_cast, reduceIte, reduceCtorEq, Nat.reduceAdd, Nat.reduceSub, Nat.reduceEqDiff, Nat.reduceLT, Nat.reduceLeDiff, Nat.reduceBEq, Nat.reduceMul, Int.reduceLT, Int.reduceLE, Int.reduceEq, Int.reduceToNat, Int.reduceMul, Int.reduceNeg, Go.Proofs.Try.f28, yaz hlt, yas hlt, gx, qdl, zdu, qdt, qa5, ya4, za7, List.length_map, Int.toNat_natCast, zad, zae, qac, yad, yab, qad, sst, zac, qaa, yaa, List.replicate_succ, List.drop_zero]
    | refine Sp2.f ?_ ?_
    | refine Spl.f ?_ ?_ <;> intro hb
    | refine yac rfl (fun b hb => ?_)
    | refine qaz o1 ?_)
      refine yav z1 fun v1 K1 hp1 => ?_
      have y1 := hp1.2.less
      repeat' (first
    | simp (implicitDefEqProofs := false) only [push_cast, reduceIte, reduceCtorEq, Nat.reduceAdd, Nat.reduceSub, Nat.reduceEqDiff, Nat.reduceLT, Nat.reduceLeDiff, Nat.reduceBEq, Nat.reduceMul, Int.reduceLT, Int.reduceLE, Int.reduceEq, Int.reduceToNat, Int.reduceMul, Int.reduceNeg, Go.Proofs.Try.f28, yag hi9, zad, zae, qac, yad, yab, qad, sst, zac, qaa, yaa, List.replicate_succ, List.drop_zero]
    | refine Sp2.f ?_ ?_
    | refine Spl.f ?_ ?_ <;> intro hb
    | refine yac rfl (fun b hb => ?_))
      refine ⟨hlt, ?_⟩
      rw [fm_snoc _ _ hx]
      simp only [List.append_assoc] at y1 ⊢
      exact y1
    · have hie : i = e.List.length := by omega
      rw [hie, List.take_length] at p
      rw [← hput] at p
      repeat' (first
    | simp (implicitDefEqProofs := false) only [push_cast, reduceIte, reduceCtorEq, Nat.reduceAdd, Nat.reduceSub, Nat.reduceEqDiff, Nat.reduceLT, Nat.reduceLeDiff, Nat.reduceBEq, Nat.reduceMul, Int.reduceLT, Int.reduceLE, Int.reduceEq, Int.reduceToNat, Int.reduceMul, Int.reduceNeg, Go.Proofs.Try.f28, ya3 hlt, fk_tt, zad, zae, qac, yad, yab, qad, sst, zac, qaa, yaa, List.replicate_succ, List.drop_zero]
    | refine Sp2.f ?_ ?_
    | refine Spl.f ?_ ?_ <;> intro hb
    | refine yac rfl (fun b hb => ?_)
    | refine qar p.bytes ?_)
      refine ⟨ya4 _, p.tk, [eBs (putE e), .int .i64 0], rfl, ?_, ?_⟩
      · simp only [rzL, qa9 _ (ybd _), rz, yam, qak _ (ybd _), zal, Bool.and_self]
      · simp only [rzL, qa9 _ (ybd _), rz]
        exact ⟨_, rfl, .inl rfl⟩
end Go.Abs
set_option linter.all false
set_option maxRecDepth 100000
set_option maxHeartbeats 0
namespace Go.Abs
open Go
open Go.Proofs.Try (prog)
theorem RD.keep {n : Nat} {h0 : List Entry} {kd kb : Nat} {b : List UInt8} {s : RS} {cs : List (Nat × Entry)} {H H' : List Entry} (p : RD n h0 kd kb b s cs H) {T : TypeId} (hl : H.length ≤ H'.length) (hT : 162 ≠ T) (hU : 5 ≠ T) (hc : ∀ c ∈ cs, c.2.T ≠ T)
    (hk : ∀ j e, H[j]? = some e → (¬ n ≤ j ∨ e.T ≠ T) → H'[j]? = some e) : RD n h0 kd kb b s cs H' where
  tk := by
    have hln := p.ln
    conv => rhs; rw [← p.tk]
    apply List.ext_getElem?
    intro j
    rw [List.getElem?_take, List.getElem?_take]
    split
    · rename_i hj
      rw [List.getElem?_eq_getElem (show j < H.length by omega)]
      exact hk j _ (List.getElem?_eq_getElem _) (.inl (by omega))
    · rfl
  ln := Nat.le_trans p.ln hl
  r := p.r.keep (fun e he => hk _ _ he (.inr (by rw [p.r.d] at he; cases he; exact hT))) (fun e he => hk _ _ he (.inr (by rw [p.r.b] at he; cases he; exact hU)))
  cs := fun c hm => ⟨hk _ _ (p.cs c hm).1 (.inr (hc c hm)), (p.cs c hm).2⟩
  ld := p.ld
theorem RD.text2 {n : Nat} {h0 : List Entry} {kd kb : Nat} {b : List UInt8} {s : RS} {cs : List (Nat × Entry)} {H : List Entry} (p : RD n h0 kd kb b s cs H) (m : Int) :
    FSpec prog 66 [.ref kd [0] 162, .int .i64 m] H fun r' h'' => r' = eBs (s.text m).1 ∧ h'' = H.set kd (rdE kb b (s.text m).2) := by
  refine FSpec.wk1 30 (c_RText p.r m) fun r' h' ⟨hv, hh⟩ => ⟨hv.ty.1, ?_, ?_⟩
  · exact hv.ty.2.2 5
  · rw [hh]
theorem getQ_small {b : List UInt8} {x : Req} (h : getQ b = some x) : x.Small := by
  rw [getQ] at h
  split at h
  · cases h
    constructor
    · show (rowR _).1.length ≤ _
      exact Nat.le_trans (rowR_len _) (by omega)
    · show (rowR _).1.length ≤ _
      exact Nat.le_trans (rowR_len _) (by omega)
  · cases h
def zE : Ent := ⟨0, []⟩
theorem eget_bad (h H : List Entry) (hT : H.take h.length = h) (E : Entry) : (H.set h.length E).take h.length = h ∧ ∃ l, AV.tup [.agg 49 [.int .i64 0, .nils], .int .i64 2] = .tup l ∧ yam h.length (rzL (H.set h.length E) h.length l) = true ∧
    ∃ l', AV.tup (rzL (H.set h.length E) h.length l) = .tup l' ∧ zcf prog [49, 3] l' ∧ wks prog [49, 3] l' = [eE zE, .int .i64 2] := by
  refine ⟨by rw [List.take_set_of_le (Nat.le_refl _)]; exact hT, _, rfl, rfl, _, rfl, ⟨by simp only [rz]; rw [ty_agg]; rfl, by simp only [rz]; rw [ycr, sh_3]; rfl, trivial⟩, ?_⟩
  simp only [rzL, rz, wks, ybu, qaw, ybq, qbe, qan, sh_49, fl_49, sh_47, List.zipWith_cons_cons, List.zipWith_nil_left, if_true]
  rfl
theorem eget_good {h H : List Entry} (hT : H.take h.length = h) {v1 : AV} {w0 : Int} {l1 : List Req} {z0 : AV} (y1 : Given (fun j => h.length ≤ j) H 60 v1 (l1.map eQ)) (ht : H[h.length]? = some (⟨49, [z0], .own⟩ : Entry)) (E : Entry) :
    (H.set h.length E).take h.length = h ∧ ∃ l, AV.tup [.agg 49 [.int .i64 w0, v1], .int .i64 0] = .tup l ∧ yam h.length (rzL (H.set h.length E) h.length l) = true ∧
    ∃ l', AV.tup (rzL (H.set h.length E) h.length l) = .tup l' ∧ zcf prog [49, 3] l' ∧ wks prog [49, 3] l' = [eE ⟨w0, l1⟩, .int .i64 0] := by
  have y1 := y1.set ht (show 49 ≠ 60 by decide) E
  obtain ⟨x1, q1⟩ := y1.ex (P := prog) (U := 47) sh_47
  have r1 := q1.rz h.length fun j hj => hj
  have f1 : zal h.length (rz (H.set h.length E) h.length v1) = true ∧ ∀ n, wk prog (n + 1) 47 (rz (H.set h.length E) h.length v1) = eQs l1 := by
    rcases r1 with e | ⟨e, r⟩
    · rw [e]; exact ⟨qak _ (eQs_dat l1), fun n => zbl ..⟩
    · rw [r]; exact ⟨rfl, fun n => by rw [qbe, sh_47, qan, eQs, List.map_eq_nil_iff.1 e]; rfl⟩
  refine ⟨by rw [List.take_set_of_le (Nat.le_refl _)]; exact hT, _, rfl, ?_, _, rfl, ⟨by simp only [rz]; rw [ty_agg]; rfl, by simp only [rz]; rw [ycr, sh_3]; rfl, trivial⟩, ?_⟩
  · simp only [rzL, rz, yam, zal, f1.1, Bool.and_self]
  · simp only [rzL, rz, wks, ybu, qaw, ybq, sh_49, fl_49, List.zipWith_cons_cons, List.zipWith_nil_left, if_true, f1.2]
    rfl
def rowQ (s : RS) : Option Req × RS := (getQ (s.text 2000).1, (s.text 2000).2)
def qdx (s : RS) : Ent × Bool × RS :=
  let a := s.num 8
  let b := a.2.num 1
  let L := qa2 rowQ (min b.1 9).toNat b.2
  (⟨IntKind.i64.wrap a.1, L.1.map fun o => o.getD zQ⟩, L.1.all Option.isSome, L.2)
def getEn (b : List UInt8) : Option Ent :=
  if (qdx ⟨b, false⟩).2.1 = true ∧ (qdx ⟨b, false⟩).2.2.fine = true ∧ zc2 (qdx ⟨b, false⟩).1 = true then some (qdx ⟨b, false⟩).1 else none
theorem c_eGet (b : List UInt8) (hb : b.length ≤ 900000) : Fn prog 30 [eBs b] (.tup [eE ((getEn b).getD zE), .int .i64 (if (getEn b).isSome = true then 0 else 2)]) := by
  refine ybg (R := fun r => ∃ l, r = .tup l ∧ zcf prog [49, 3] l ∧ wks prog [49, 3] l = [eE ((getEn b).getD zE), .int .i64 (if (getEn b).isSome = true then 0 else 2)]) [49, 3] (fn_tup wfp fun h => ?_) fun r h => h
  refine frun_30 rfl ?_
  repeat' (first
    | simp (implicitDefEqProofs := false) only [push_cast, reduceIte, reduceCtorEq, Nat.reduceAdd, Nat.reduceSub, Nat.reduceEqDiff, Nat.reduceLT, Nat.reduceLeDiff, Nat.reduceBEq, Nat.reduceMul, Int.reduceLT, Int.reduceLE, Int.reduceEq, Int.reduceToNat, Int.reduceMul, Int.reduceNeg, Go.Proofs.Try.f30, qa5, ya4, za7, zad, zae, qac, yad, yab, qad, sst, zac, qaa, yaa, List.replicate_succ, List.drop_zero]
    | refine Sp2.f ?_ ?_
    | refine Spl.f ?_ ?_ <;> intro hb
    | refine yac rfl (fun b hb => ?_))
  refine yav (c_PNew b (by omega) _) fun v H hP => ?_
  obtain ⟨kd, kb, l0, rfl, hH, hkd, hkb, r0⟩ := hP
  have p0 := RD.mk0 hH hkd hkb r0
  clear hH hkd hkb r0 l0
  repeat' (first
    | simp (implicitDefEqProofs := false) only [push_cast, reduceIte, reduceCtorEq, Nat.reduceAdd, Nat.reduceSub, Nat.reduceEqDiff, Nat.reduceLT, Nat.reduceLeDiff, Nat.reduceBEq, Nat.reduceMul, Int.reduceLT, Int.reduceLE, Int.reduceEq, Int.reduceToNat, Int.reduceMul, Int.reduceNeg, Go.Proofs.Try.f30, zad, zae, qac, yad, yab, qad, sst, zac, qaa, yaa, List.replicate_succ, List.drop_zero]
    | refine Sp2.f ?_ ?_
    | refine Spl.f ?_ ?_ <;> intro hb
    | refine yac rfl (fun b hb => ?_))
  refine yav (p0.num 8 (by omega) (by omega)) fun v H hP => ?_
  obtain ⟨rfl, p1⟩ := hP
  repeat' (first
    | simp (implicitDefEqProofs := false) only [push_cast, reduceIte, reduceCtorEq, Nat.reduceAdd, Nat.reduceSub, Nat.reduceEqDiff, Nat.reduceLT, Nat.reduceLeDiff, Nat.reduceBEq, Nat.reduceMul, Int.reduceLT, Int.reduceLE, Int.reduceEq, Int.reduceToNat, Int.reduceMul, Int.reduceNeg, Go.Proofs.Try.f30, zad, zae, qac, yad, yab, qad, sst, zac, qaa, yaa, List.replicate_succ, List.drop_zero]
    | refine Sp2.f ?_ ?_
    | refine Spl.f ?_ ?_ <;> intro hb
    | refine yac rfl (fun b hb => ?_))
  have pE := p1.add ⟨49, [.agg 49 [.int .i64 (IntKind.i64.wrap ((⟨b, false⟩ : RS).num 8).1), .nils]], .own⟩
  refine yav (pE.num 1 (by omega) (by omega)) fun v H2 hP => ?_
  obtain ⟨rfl, p2⟩ := hP
  have hrg := ((⟨b, false⟩ : RS).num 8).2.num_range 1
  repeat' (first
    | simp (implicitDefEqProofs := false) only [push_cast, reduceIte, reduceCtorEq, Nat.reduceAdd, Nat.reduceSub, Nat.reduceEqDiff, Nat.reduceLT, Nat.reduceLeDiff, Nat.reduceBEq, Nat.reduceMul, Int.reduceLT, Int.reduceLE, Int.reduceEq, Int.reduceToNat, Int.reduceMul, Int.reduceNeg, Go.Proofs.Try.f30, zad, zae, qac, yad, yab, qad, sst, zac, qaa, yaa, List.replicate_succ, List.drop_zero]
    | refine Sp2.f ?_ ?_
    | refine Spl.f ?_ ?_ <;> intro hb
    | refine yac rfl (fun b hb => ?_))
  have hk5 : h.length < H.length := by have := qab p2.hd2; have := qab (p1.got (List.mem_singleton.2 rfl)); omega
  obtain ⟨k5, hk5e⟩ : ∃ k5, k5 = H.length := ⟨_, rfl⟩
  rw [← hk5e] at p2 hk5 ⊢
  clear pE p1 p0 hk5e
  generalize hW : IntKind.wrap .i64 ((⟨b, false⟩ : RS).num 8).1 = w0 at p2
  generalize hX : (((⟨b, false⟩ : RS).num 8).2.num 1).1 = x at hrg ⊢
  generalize hS : (((⟨b, false⟩ : RS).num 8).2.num 1).2 = s2 at p2
  obtain ⟨N, hN, hN9, hNm⟩ : ∃ N : Nat, (if 9 < x then 9 else x) = (N : Int) ∧ N ≤ 9 ∧ (min x 9).toNat = N := ⟨(min x 9).toNat, by omega, by omega, rfl⟩
  rw [hN]
  refine qa6 (fun i env' H => i ≤ N ∧ ∃ v, RD h.length h kd kb b (qa2 rowQ i s2).2 [(k5, ⟨49, [.agg 49 [.int .i64 w0, v]], .own⟩), (h.length, ⟨49, [.agg 49 [.int .i64 0, .nils]], .own⟩)] H ∧
      View (fun j => h.length ≤ j) H 60 v (((qa2 rowQ i s2).1.map fun o => o.getD zQ).map eQ) ∧ NilOr v (((qa2 rowQ i s2).1.map fun o => o.getD zQ).map eQ) ∧
      env' = (fun a : Nat → AV => [(0, eBs b), (2, .ref h.length [0] 49), (3, .int .i64 0), (4, .ref kd [0] 162), (5, .ref k5 [0] 49), (6, .bool ((qa2 rowQ i s2).1.all Option.isSome)), (7, .int .u64 ((N : Int) - (i : Int))), (8, a 8), (9, a 9), (20, a 20), (51, a 51)]) (lk env')) N ⟨Nat.zero_le _, .nils, p2, .nil, fun _ => rfl, ?_⟩ ?_
  · have e0 : (N : Int) - ((0 : Nat) : Int) = N := by simp
    rw [e0]; rfl
  clear p2 H H2
  rintro i env H ⟨hi, v, p, hv, hnI, henv⟩
  refine ⟨hi, ?_⟩
  rw [henv]
  generalize lk env = a
  clear henv env
  by_cases hlt : i < N
  · have c1 : decide ((0 : Int) < (N : Int) - (i : Int)) = true := by simp; omega
    have c2 : IntKind.wrap .u64 ((N : Int) - (i : Int) - 1) = (N : Int) - ((i : Int) + 1) := by rw [yaq]; omega
    have hsn := zdz rowQ i s2
    have hln := zdc rowQ i s2
    generalize (qa2 rowQ i s2).2 = s at p hsn
    generalize hfs : (qa2 rowQ i s2).1 = fs at hv hnI hsn hln ⊢
    have g1 := c_oGet (s.text 2000).1 (by have := text_le8 s 2000; omega)
    have la : lenAV v = fs.length := by rw [hv.lenAV]; simp
    have hT2 := p.text2 2000
    repeat' (first
    | simp (implicitDefEqProofs := false) only [push_cast, reduceIte, reduceCtorEq, Nat.reduceAdd, Nat.reduceSub, Nat.reduceEqDiff, Nat.reduceLT, Nat.reduceLeDiff, Nat.reduceBEq, Nat.reduceMul, Int.reduceLT, Int.reduceLE, Int.reduceEq, Int.reduceToNat, Int.reduceMul, Int.reduceNeg, Go.Proofs.Try.f30, c1, c2, qa5, ya4, za7, zad, zae, qac, yad, yab, qad, sst, zac, qaa, yaa, List.replicate_succ, List.drop_zero]
    | refine Sp2.f ?_ ?_
    | refine Spl.f ?_ ?_ <;> intro hb
    | refine yac rfl (fun b hb => ?_))
    refine yav hT2 fun v2 H2 hP => ?_
    obtain ⟨rfl, hH2⟩ := hP
    have pt := p.turn (p.r.of.text 2000)
    have hv2 := hv.set p.r.d (show (rdE kb b s).T ≠ 60 from (by show 162 ≠ 60; decide)) (rdE kb b (s.text 2000).2)
    rw [← hH2] at pt hv2
    have c5 := pt.hd
    have l5 := qab c5
    have hvr : v = .nils ∨ qag v = true := .inr hv.pl
    have e7 : decide (fs.length + 1 ≤ 4294967296) = true := by simp; omega
    have e8 : fs.length ≤ 4294967295 := by omega
    have ho : ∀ (A : Bool) (o : Option Req), (if A = true then ((if o.isSome = true then (0 : Int) else 2) == 0) else false) = (A && o.isSome) := by rintro (_ | _) (_ | _) <;> rfl
    repeat' (first
    | simp (implicitDefEqProofs := false) only [push_cast, reduceIte, reduceCtorEq, Nat.reduceAdd, Nat.reduceSub, Nat.reduceEqDiff, Nat.reduceLT, Nat.reduceLeDiff, Nat.reduceBEq, Nat.reduceMul, Int.reduceLT, Int.reduceLE, Int.reduceEq, Int.reduceToNat, Int.reduceMul, Int.reduceNeg, Go.Proofs.Try.f30, c5, l5, la, e7, e8, qdl, zdu, qdt, qa5, ya4, za7, zad, zae, qac, yad, yab, qad, sst, zac, qaa, yaa, List.replicate_succ, List.drop_zero]
    | refine Sp2.f ?_ ?_
    | refine Spl.f ?_ ?_ <;> intro hb
    | refine yac rfl (fun b hb => ?_)
    | refine qaz g1 ?_)
    all_goals
      (have pa := pt.app [(⟨60, [eQ ((getQ (s.text 2000).1).getD zQ)], .own⟩ : Entry), ⟨60, [eQ ((getQ (s.text 2000).1).getD zQ)], .own⟩]
       obtain ⟨v6, H6, hv6, hl6, hk6, hgo⟩ := qc6 (P := prog) (eQ ((getQ (s.text 2000).1).getD zQ)) (hv2.app [(⟨60, [eQ ((getQ (s.text 2000).1).getD zQ)], .own⟩ : Entry), ⟨60, [eQ ((getQ (s.text 2000).1).getD zQ)], .own⟩])
       have hlen : (H2 ++ [(⟨60, [eQ ((getQ (s.text 2000).1).getD zQ)], .own⟩ : Entry), ⟨60, [eQ ((getQ (s.text 2000).1).getD zQ)], .own⟩]).length = H2.length + 2 := by simp
       have p6 := pa.keep (H' := H6) hl6 (show 162 ≠ 60 by decide) (show 5 ≠ 60 by decide) (fun c hc => by
         rcases List.mem_cons.1 hc with rfl | hc
         · show 49 ≠ 60; decide
         · rw [List.mem_singleton.1 hc]; show 49 ≠ 60; decide) hk6
       rw [hlen] at hgo
       refine hgo _ _ _ _ ?_
       have hty6 := hv6.ty (P := prog) (U := 47) sh_47
       have hpl6 := hv6.pl
       have c6 := p6.hd
       have l6 := qab c6)
    all_goals repeat' (first
    | simp (implicitDefEqProofs := false) only [push_cast, reduceIte, reduceCtorEq, Nat.reduceAdd, Nat.reduceSub, Nat.reduceEqDiff, Nat.reduceLT, Nat.reduceLeDiff, Nat.reduceBEq, Nat.reduceMul, Int.reduceLT, Int.reduceLE, Int.reduceEq, Int.reduceToNat, Int.reduceMul, Int.reduceNeg, Go.Proofs.Try.f30, c6, l6, hty6, hpl6, c2, zad, zae, qac, yad, yab, qad, sst, zac, qaa, yaa, List.replicate_succ, List.drop_zero]
    | refine Sp2.f ?_ ?_
    | refine Spl.f ?_ ?_ <;> intro hb
    | refine yac rfl (fun b hb => ?_))
    all_goals
      (refine ⟨hlt, v6, ?_, ?_, ?_, ?_⟩
       · rw [hsn]; exact p6.put _ (by omega) (fun c hc => by rw [List.mem_singleton.1 hc]; show h.length ≠ k5; omega)
       · rw [hsn]
         simp only [List.map_append, List.map_cons, List.map_nil]
         exact (hv6.up fun j hj => hj.elim id fun a => by have := a.1; simp at this; omega).set c6 (show 49 ≠ 60 by decide) _
       · intro e; rw [hsn] at e; simp at e
       · have hq : ∀ o : Option Req, ((if o.isSome = true then (0 : Int) else 2) == 0) = o.isSome := by rintro (_ | _) <;> rfl
         rw [hsn]
         simp only [List.all_append, List.all_cons, List.all_nil, Bool.and_true, rowQ, hb, hq, Bool.true_and, Bool.false_and])
  · have hiN : i = N := by omega
    subst hiN
    have c1 : decide ((0 : Int) < (i : Int) - (i : Int)) = false := by simp
    generalize hPL : qa2 rowQ i s2 = pL at p hv hnI
    have hPLl : pL.1.length = i := by rw [← hPL]; exact zdc ..
    have hsm := getMany_all (f := rowQ) (p := fun o : Option Req => (o.getD zQ).Small) (fun s => by
      simp only [rowQ]
      cases hg : getQ (s.text 2000).1 with
      | none => exact ⟨Nat.zero_le _, Nat.zero_le _⟩
      | some x => exact getQ_small hg) i s2
    rw [hPL] at hsm
    obtain ⟨L, s3⟩ := pL
    simp only at p hv hnI hPLl hsm
    have hparse : qdx ⟨b, false⟩ = (⟨w0, L.map fun o => o.getD zQ⟩, L.all Option.isSome, s3) := by
      simp only [qdx, hW, hX, hS, hNm, hPL]
    have hget : getEn b = (if L.all Option.isSome = true ∧ s3.fine = true ∧ zc2 ⟨w0, L.map fun o => o.getD zQ⟩ = true then some ⟨w0, L.map fun o => o.getD zQ⟩ else none) := by rw [getEn, hparse]
    obtain ⟨e, he⟩ : ∃ e, e = (⟨w0, L.map fun o => o.getD zQ⟩ : Ent) := ⟨_, rfl⟩
    rw [← he] at hget
    have hes : e.Small := by
      rw [he]
      exact ⟨by show (L.map _).length ≤ _; simp; omega, fun x hx => by obtain ⟨o, ho, rfl⟩ := List.mem_map.1 hx; exact hsm o ho⟩
    obtain ⟨H1, y1, l1, e1, f1⟩ := hv.give wfp hnI
    obtain ⟨x1, q1⟩ := y1.ex (U := 47) sh_47
    have b20 : ((2 : Int) != 0) = true := rfl
    have b00 : ((0 : Int) != 0) = false := rfl
    cases hok : L.all Option.isSome with
    | false =>
      have hg : getEn b = none := by rw [hget, if_neg (by rw [hok]; simp)]
      rw [hg]
      have z0 := p.hd2
      have z1 := qab z0
      repeat' (first
    | simp (implicitDefEqProofs := false) only [push_cast, reduceIte, reduceCtorEq, Nat.reduceAdd, Nat.reduceSub, Nat.reduceEqDiff, Nat.reduceLT, Nat.reduceLeDiff, Nat.reduceBEq, Nat.reduceMul, Int.reduceLT, Int.reduceLE, Int.reduceEq, Int.reduceToNat, Int.reduceMul, Int.reduceNeg, Go.Proofs.Try.f30, fk_ct, c1, z0, z1, b20, b00, zad, zae, qac, yad, yab, qad, sst, zac, qaa, yaa, List.replicate_succ, List.drop_zero]
    | refine Sp2.f ?_ ?_
    | refine Spl.f ?_ ?_ <;> intro hb
    | refine yac rfl (fun b hb => ?_))
      exact eget_bad _ _ p.tk _
    | true =>
      have hb1 : i ≤ 9 := hN9
      have p1 := p.keep (H' := H1) (by rw [l1]; exact Nat.le_refl _) (show 162 ≠ 60 by decide) (show 5 ≠ 60 by decide) (fun c hc => by
         rcases List.mem_cons.1 hc with rfl | hc
         · show 49 ≠ 60; decide
         · rw [List.mem_singleton.1 hc]; show 49 ≠ 60; decide) e1
      have hEnd : FSpec prog 68 [.ref kd [0] 162] H fun r' h'' => r' = .int .i64 (if s3.fine = true then 0 else 2) ∧ h'' = H1.set kd (rdE kb b s3) := f1 _ _ _ (c_REnd p1.r)
      repeat' (first
    | simp (implicitDefEqProofs := false) only [push_cast, reduceIte, reduceCtorEq, Nat.reduceAdd, Nat.reduceSub, Nat.reduceEqDiff, Nat.reduceLT, Nat.reduceLeDiff, Nat.reduceBEq, Nat.reduceMul, Int.reduceLT, Int.reduceLE, Int.reduceEq, Int.reduceToNat, Int.reduceMul, Int.reduceNeg, Go.Proofs.Try.f30, c1, zad, zae, qac, yad, yab, qad, sst, zac, qaa, yaa, List.replicate_succ, List.drop_zero]
    | refine Sp2.f ?_ ?_
    | refine Spl.f ?_ ?_ <;> intro hb
    | refine yac rfl (fun b hb => ?_))
      refine qar hEnd ?_
      have p2 := p1.turn p1.r.of
      have y2 := y1.set p1.r.d (show (rdE kb b s3).T ≠ 60 from (by show 162 ≠ 60; decide)) (rdE kb b s3)
      obtain ⟨x2, q2⟩ := y2.ex (P := prog) (U := 47) sh_47
      have w2 := q2.wk
      have t2 := q2.ty
      have pl2 := q2.pl
      generalize H1.set kd (rdE kb b s3) = H3 at p2 y2 q2 ⊢
      have c3 := p2.hd
      have l3 := qab c3
      have z3 := p2.hd2
      have k3 := qab z3
      have hmay : FSpec prog 42 [.agg 49 [.int .i64 w0, x2]] H3 fun r' h' => r' = .bool (zc2 e) ∧ h' = H3 :=
        FSpec.read wfp (args' := [eE e]) (by
          simp only [List.map_cons, List.map_nil, bz_aggE, bz_intE, q2.bz, he, eE, eQs]) (c_eMay e hes)
      cases hfi : s3.fine with
      | false =>
        have hg : getEn b = none := by rw [hget, if_neg (by rw [hfi]; simp)]
        rw [hg]
        repeat' (first
    | simp (implicitDefEqProofs := false) only [push_cast, reduceIte, reduceCtorEq, Nat.reduceAdd, Nat.reduceSub, Nat.reduceEqDiff, Nat.reduceLT, Nat.reduceLeDiff, Nat.reduceBEq, Nat.reduceMul, Int.reduceLT, Int.reduceLE, Int.reduceEq, Int.reduceToNat, Int.reduceMul, Int.reduceNeg, Go.Proofs.Try.f30, fk_ct, z3, k3, b20, b00, zad, zae, qac, yad, yab, qad, sst, zac, qaa, yaa, List.replicate_succ, List.drop_zero]
    | refine Sp2.f ?_ ?_
    | refine Spl.f ?_ ?_ <;> intro hb
    | refine yac rfl (fun b hb => ?_))
        exact eget_bad _ _ p2.tk _
      | true =>
        cases hma : zc2 e with
        | false =>
          rw [hma] at hmay
          have hg : getEn b = none := by rw [hget, if_neg (by rw [hma]; simp)]
          rw [hg]
          repeat' (first
    | simp (implicitDefEqProofs := false) only [push_cast, reduceIte, reduceCtorEq, Nat.reduceAdd, Nat.reduceSub, Nat.reduceEqDiff, Nat.reduceLT, Nat.reduceLeDiff, Nat.reduceBEq, Nat.reduceMul, Int.reduceLT, Int.reduceLE, Int.reduceEq, Int.reduceToNat, Int.reduceMul, Int.reduceNeg, Go.Proofs.Try.f30, fk_ct, c3, l3, z3, k3, b20, b00, w2, t2, pl2, zad, zae, qac, yad, yab, qad, sst, zac, qaa, yaa, List.replicate_succ, List.drop_zero]
    | refine Sp2.f ?_ ?_
    | refine Spl.f ?_ ?_ <;> intro hb
    | refine yac rfl (fun b hb => ?_)
    | refine qar hmay ?_)
          exact eget_bad _ _ p2.tk _
        | true =>
          rw [hma] at hmay
          have hg : getEn b = some e := by rw [hget, if_pos ⟨hok, hfi, hma⟩]
          rw [hg]
          repeat' (first
    | simp (implicitDefEqProofs := false) only [push_cast, reduceIte, reduceCtorEq, Nat.reduceAdd, Nat.reduceSub, Nat.reduceEqDiff, Nat.reduceLT, Nat.reduceLeDiff, Nat.reduceBEq, Nat.reduceMul, Int.reduceLT, Int.reduceLE, Int.reduceEq, Int.reduceToNat, Int.reduceMul, Int.reduceNeg, Go.Proofs.Try.f30, fk_ct, c3, l3, z3, k3, b20, b00, w2, t2, pl2, zad, zae, qac, yad, yab, qad, sst, zac, qaa, yaa, List.replicate_succ, List.drop_zero]
    | refine Sp2.f ?_ ?_
    | refine Spl.f ?_ ?_ <;> intro hb
    | refine yac rfl (fun b hb => ?_)
    | refine qar hmay ?_)
          rw [he]
          exact eget_good p2.tk y2 z3 _
end Go.Abs
