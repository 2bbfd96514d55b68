/- Ea: a part of the proofs about the tuple space and its bytes. -/
import Derived.Test.YtilfbkhbjkjicaaEg
import Derived.Test.YtilfbkhbjkjicaaSz
import Derived.Test.YtilfbkhbjkjicaaGv
set_option linter.all false
set_option maxRecDepth 100000
set_option maxHeartbeats 0
namespace Go.Abs
open Go
open Go.Proofs.Try (prog)
theorem eRs_ty (l : List Rpl) : tyB prog (eRs l) 63 = true := by rw [eRs, qdp, qc9]; simp
theorem eRs_pl (l : List Rpl) : qag (eRs l) = true := rfl
theorem eRs_wk (l : List Rpl) : wk prog 6 63 (eRs l) = eRs l := zbl ..
def doN (e : Ent) (s : Spc) : Nat → Spc × List Rpl
  | 0 => (s, [])
  | i + 1 => ((doS (doN e s i).1 e.Now (e.List.getD i zQ)).1, (doN e s i).2 ++ (doS (doN e s i).1 e.Now (e.List.getD i zQ)).2)
def za6 (s : Spc) (e : Ent) : Spc × List Rpl × Int :=
  if qdi s = true ∧ zc2 e = true then (if e.Now < s.Now then (s, [], 7) else ((doN e s e.List.length).1, (doN e s e.List.length).2, 0)) else (s, [], 1)
theorem ds_apps {X : Nat → Prop} {h : List Entry} {T : TypeId} {v : AV} {l : List AV} (ys : List AV) {n : Nat} {eh : Entry} (hn : h[n]? = some eh) (hst : eh.st = .hole) (hv : View X h T v l) :
    ∃ v' wr rd, View (fun j => X j ∨ j = n) (za1 h wr) T v' (l ++ ys) ∧ (za1 h wr).length = h.length ∧ (∀ j e, h[j]? = some e → j ≠ n → (¬ X j ∨ e.T ≠ T) → (za1 h wr)[j]? = some e) ∧ (∀ k ∈ wr.map Prod.fst, k = n ∨ ∃ es, h[k]? = some ⟨T, es, .own⟩) ∧
      ∀ (acc : List Nat) (D : DC) (s : List Ctl) (env : Env) (Q : zap), Dv prog v' (.wr wr) (acc ++ rd) D s env h Q → Ds prog (yap T ys n v) acc D s env h Q := by
  have hnl := qab hn
  cases hv with
  | nil =>
    refine ⟨.win n [] T 0 ys.length ys.length, [(n, ⟨T, ys, .own⟩)], [], ?_, by simp [za1], fun j e hj hjn _ => by simp only [za1]; rw [List.getElem?_set_ne (Ne.symm hjn)]; exact hj, fun k hk => .inl (by simpa using hk), fun acc D s env Q hr => ?_⟩
    · exact View.mk' (l := ys) (es := ys) [] (.inr rfl) (by simp only [za1]; rw [List.getElem?_set_self hnl]) (by simp) rfl
    · simp only [yap, ds_ret]
      rw [List.append_nil] at hr
      exact hr
  | @win k lo _ z hx hk =>
    have hkl := qab hk
    have hkn : k ≠ n := by
      rintro rfl
      rw [hk] at hn
      cases hn
      cases hst
    have htk : (l ++ z).take l.length = l := by simp
    have hle : l.length ≤ (l ++ z).length := by simp
    have hdr : (l ++ z).drop (l.length + ys.length) = z.drop ys.length := by rw [List.drop_append]; simp
    by_cases hfit : l.length + ys.length ≤ lo
    · refine ⟨.win k [] T 0 (l.length + ys.length) lo, [(k, ⟨T, l ++ ys ++ z.drop ys.length, .own⟩)], [k], ?_, by simp [za1], fun j e hj hjn hc => ?_, fun k' hk' => by simp at hk'; first | (subst hk'; exact .inr ⟨_, hk⟩) | (rcases hk' with rfl | rfl; exact .inr ⟨_, hk⟩; exact .inl rfl), fun acc D s env Q hr => ?_⟩
      · exact View.mk' (l := l ++ ys) (z.drop ys.length) (.inl hx) (by simp only [za1]; rw [List.getElem?_set_self hkl]) rfl (by simp)
      · simp only [za1]
        rw [List.getElem?_set_ne]
        · exact hj
        · rintro rfl
          rw [hk] at hj
          cases hj
          rcases hc with hc | hc
          · exact hc hx
          · exact hc rfl
      · simp only [yap, yco, and_self, if_true, ds_rd, hk, dd_some, htk, hle, hdr, hfit, ds_ret]
        exact hr
    · refine ⟨.win n [] T 0 (l.length + ys.length) (l.length + ys.length), [(k, ⟨T, [], .dead⟩), (n, ⟨T, l ++ ys, .own⟩)], [k], ?_, by simp [za1], fun j e hj hjn hc => ?_, fun k' hk' => by simp at hk'; first | (subst hk'; exact .inr ⟨_, hk⟩) | (rcases hk' with rfl | rfl; exact .inr ⟨_, hk⟩; exact .inl rfl), fun acc D s env Q hr => ?_⟩
      · exact View.mk' (l := l ++ ys) (es := l ++ ys) [] (.inr rfl) (by simp only [za1]; rw [List.getElem?_set_self (by simpa using hnl)]) (by simp) (by simp)
      · simp only [za1]
        rw [List.getElem?_set_ne (Ne.symm hjn), List.getElem?_set_ne]
        · exact hj
        · rintro rfl
          rw [hk] at hj
          cases hj
          rcases hc with hc | hc
          · exact hc hx
          · exact hc rfl
      · simp only [yap, yco, and_self, if_true, ds_rd, hk, dd_some, htk, hle, hdr, hfit, if_false, ds_ret]
        exact hr
theorem memB_no {k : Nat} {l : List Nat} (h : k ∈ l → False) : memB k l = false := by
  cases hm : memB k l with
  | false => rfl
  | true => exact (h (memB_iff.1 hm)).elim
theorem fk_ctt (t u w : Tmp) (T : TypeId) (K : AV → List Entry → Prop) (e : AEx) (env : Env) (h' : List Entry) : qca prog [.cell t T, .tmp u, .tmp w] K e env h' = (e.fin = true ∧ CellK prog (qb7 T (lk env t)) h' fun v => [v, lk env u, lk env w].all qag = true ∧ K (.tup [v, lk env u, lk env w]) h') := rfl
theorem qc2 {X : Nat → Prop} {h H : List Entry} {s : Spc} {L : List Rpl} {c : Int} {v : AV} (hT : H.take h.length = h) (hv : View X H 26 v (L.map eR)) (hX : ∀ j, X j → h.length ≤ j) :
    H.take h.length = h ∧ ∃ l, AV.tup [eS s, v, .int .i64 c] = .tup l ∧ yam h.length (rzL H h.length l) = true ∧
    ∃ l', AV.tup (rzL H h.length l) = .tup l' ∧ zcf prog [29, 63, 3] l' ∧ wks prog [29, 63, 3] l' = [eS s, eRs L, .int .i64 c] := by
  have dR := qal eR eR_dat L
  have f3 : zal h.length (rz H h.length v) = true ∧ tyB prog (rz H h.length v) 63 = true ∧ ∀ n, wk prog (n + 1) 63 (rz H h.length v) = eRs L := by
    rcases hv.rz hX dR with t | ⟨e', t⟩ <;> rw [t]
    · exact ⟨qak _ (eRs_dat L), by rw [qdp, qc9]; simp, fun n => by rw [zbl]; rfl⟩
    · exact ⟨rfl, by rw [yb0, qc9]; rfl, fun n => by rw [qbe, qc9, qan, eRs, e']⟩
  have hi : rz H h.length (.int .i64 c) = .int .i64 c := by simp only [rz]
  refine ⟨hT, _, rfl, ?_, _, rfl, ?_, ?_⟩
  · simp only [rzL, qa9 _ (zc8 s), hi, yam, zal, qak _ (zc8 s), f3.1, Bool.and_self]
  · simp only [rzL, qa9 _ (zc8 s), hi]
    exact ⟨yb9 s, f3.2.1, by rw [ycr, sh_3]; rfl, trivial⟩
  · simp only [rzL, qa9 _ (zc8 s), hi, wks, qch, f3.2.2, ybq]
theorem c_each (s : Spc) (e : Ent) (h : List Entry) : FSpec prog 96 [eS s, eE e] h fun r h' => r = .fn 133 [.ref (h.length + 1) [0] 49, .ref h.length [0] 29] ∧ h' = h ++ [⟨29, [eS s], .own⟩, ⟨49, [eE e], .own⟩] := by
  refine frun_96 rfl ?_
  repeat' (first
    | simp (implicitDefEqProofs := false) only [push_cast, reduceIte, reduceCtorEq, Nat.reduceAdd, Nat.reduceSub, Nat.reduceEqDiff, Nat.reduceLT, Nat.reduceLeDiff, Nat.reduceBEq, Nat.reduceMul, Int.reduceLT, Int.reduceLE, Int.reduceEq, Int.reduceToNat, Int.reduceMul, Int.reduceNeg, Go.Proofs.Try.f96, yb9, ycp, qch, eE_ty, eE_pl, eE_wk, zad, zae, qac, yad, yab, qad, sst, zac, qaa, yaa, List.replicate_succ, List.drop_zero]
    | refine Sp2.f ?_ ?_
    | refine Spl.f ?_ ?_ <;> intro hb
    | refine yac rfl (fun b hb => ?_))
theorem zcy (e : Ent) (s : Spc) (hs : s.Small) (he : e.Small) : ∀ i, i ≤ e.List.length → (doN e s i).1.Small ∧ (∀ x ∈ (doN e s i).2, x.T.length ≤ 4294967296) ∧ (doN e s i).2.length ≤ 131 * i
  | 0, _ => ⟨hs, by simp [doN], by simp [doN]⟩
  | i + 1, hi => by
    obtain ⟨a, b, c⟩ := zcy e s hs he i (by omega)
    have hx : (e.List.getD i zQ).Small := by
      rw [List.getD_eq_getElem?_getD, List.getElem?_eq_getElem (by omega)]
      exact he.q _ (List.getElem_mem _)
    have := do_small (now := e.Now) a hx
    have hl := do_few9 (now := e.Now) a hx
    refine ⟨this.1, fun x hx => ?_, by simp only [doN, List.length_append]; omega⟩
    rcases List.mem_append.1 hx with hx | hx
    · exact b x hx
    · exact this.2.2 x hx
theorem c_each1 (s : Spc) (e : Ent) (hs : s.Small) (he : e.Small) {g : FuncId} {caps : List AV} (hY : isY caps = true) {ks ke : Nat} (I : Nat → List Entry → Prop)
    (hc : ∀ i H, I i H → H[ks]? = some ⟨29, [eS (doN e s i).1], .own⟩ ∧ H[ke]? = some ⟨49, [eE e], .own⟩) (ha : ∀ i H l, I i H → I i (H ++ l))
    (hy : ∀ i H, i < e.List.length → I i H → YSpec prog g caps [eS (doN e s (i + 1)).1, eRs (doS (doN e s i).1 e.Now (e.List.getD i zQ)).2] (H.set ks ⟨29, [eS (doN e s (i + 1)).1], .own⟩) fun x h' => x = .bool true ∧ I (i + 1) h')
    {H : List Entry} (h0 : I 0 H) : FSpec prog 133 [.fn g caps, .ref ke [0] 49, .ref ks [0] 29] H fun _ h' => I e.List.length h' := by
  refine frun_133 rfl ?_
  obtain ⟨c1, c2⟩ := hc _ _ h0
  have g0 : zb1 (eE e) [0] = some (.int .i64 e.Now) := rfl
  have g1 : zb1 (eE e) [1] = some (.list 60 (e.List.map eQ)) := rfl
  repeat' (first
    | simp (implicitDefEqProofs := false) only [push_cast, reduceIte, reduceCtorEq, Nat.reduceAdd, Nat.reduceSub, Nat.reduceEqDiff, Nat.reduceLT, Nat.reduceLeDiff, Nat.reduceBEq, Nat.reduceMul, Int.reduceLT, Int.reduceLE, Int.reduceEq, Int.reduceToNat, Int.reduceMul, Int.reduceNeg, Go.Proofs.Try.f133, c1, c2, g0, g1, List.length_map, zad, zae, qac, yad, yab, qad, sst, zac, qaa, yaa, List.replicate_succ, List.drop_zero]
    | refine Sp2.f ?_ ?_
    | refine Spl.f ?_ ?_ <;> intro hb
    | refine yac rfl (fun b hb => ?_))
  refine qa6 (fun i env' H => i ≤ e.List.length ∧ I i H ∧ env' = (fun a : Nat → AV => [(0, .fn g caps), (1, .ref ke [0] 49), (2, .ref ks [0] 29), (5, a 5), (6, a 6), (8, .list 60 (e.List.map eQ)), (9, .int .i64 e.List.length), (10, .int .i64 (i : Int)), (11, a 11), (26, a 26)]) (lk env')) e.List.length ⟨Nat.zero_le _, h0, rfl⟩ ?_
  clear c1 c2 h0 H
  rintro i env H ⟨hi, h0, henv⟩
  refine ⟨hi, ?_⟩
  rw [henv]
  generalize lk env = a
  clear henv env
  have hln := he.n
  by_cases hlt : i < e.List.length
  · have hi9 : i < 9223372036854775807 := by omega
    have hx : e.List[i]? = some (e.List.getD i zQ) := by rw [List.getD_eq_getElem?_getD, List.getElem?_eq_getElem hlt]; rfl
    have gx := zar eQ hx
    have hxs := he.q _ (List.mem_of_getElem? hx)
    have d1 := c_Do (doN e s i).1 e.Now (e.List.getD i zQ) (zcy e s hs he i hi).1 hxs
    obtain ⟨c1, c2⟩ := hc _ _ (ha i H [⟨60, [eQ (e.List.getD i zQ)], .own⟩] h0)
    have l1 := qab c1
    have hyy := hy i _ hlt (ha i H [⟨60, [eQ (e.List.getD i zQ)], .own⟩] h0)
    have hc3 : ∀ E : Entry, ((H ++ [(⟨60, [eQ (e.List.getD i zQ)], .own⟩ : Entry)]).set ks E)[ks]? = some E := fun E => List.getElem?_set_self l1
    repeat' (first
    | simp (implicitDefEqProofs := false) only [push_cast, reduceIte, reduceCtorEq, Nat.reduceAdd, Nat.reduceSub, Nat.reduceEqDiff, Nat.reduceLT, Nat.reduceLeDiff, Nat.reduceBEq, Nat.reduceMul, Int.reduceLT, Int.reduceLE, Int.reduceEq, Int.reduceToNat, Int.reduceMul, Int.reduceNeg, Go.Proofs.Try.f133, yaz hlt, yas hlt, gx, qdl, zdu, qdt, yb9, ycp, qch, eRs_ty, eRs_pl, eRs_wk, c1, c2, g0, g1, l1, hc3, List.length_map, Int.toNat_natCast, yag hi9, zad, zae, qac, yad, yab, qad, sst, zac, qaa, yaa, List.replicate_succ, List.drop_zero]
    | refine Sp2.f ?_ ?_
    | refine Spl.f ?_ ?_ <;> intro hb
    | refine yac rfl (fun b hb => ?_)
    | refine qaz d1 ?_)
    refine rf_y hY ?_ rfl (YSpec.mono hyy fun x h' hx => ?_)
    · simp only [zdo, yb9, eRs_ty, Bool.true_or, and_self]
    obtain ⟨rfl, hI⟩ := hx
    repeat' (first
    | simp (implicitDefEqProofs := false) only [push_cast, reduceIte, reduceCtorEq, Nat.reduceAdd, Nat.reduceSub, Nat.reduceEqDiff, Nat.reduceLT, Nat.reduceLeDiff, Nat.reduceBEq, Nat.reduceMul, Int.reduceLT, Int.reduceLE, Int.reduceEq, Int.reduceToNat, Int.reduceMul, Int.reduceNeg, Go.Proofs.Try.f133, yag hi9, zad, zae, qac, yad, yab, qad, sst, zac, qaa, yaa, List.replicate_succ, List.drop_zero]
    | refine Sp2.f ?_ ?_
    | refine Spl.f ?_ ?_ <;> intro hb
    | refine yac rfl (fun b hb => ?_))
    exact ⟨hlt, hI⟩
  · have hie : i = e.List.length := by omega
    rw [hie] at h0
    repeat' (first
    | simp (implicitDefEqProofs := false) only [push_cast, reduceIte, reduceCtorEq, Nat.reduceAdd, Nat.reduceSub, Nat.reduceEqDiff, Nat.reduceLT, Nat.reduceLeDiff, Nat.reduceBEq, Nat.reduceMul, Int.reduceLT, Int.reduceLE, Int.reduceEq, Int.reduceToNat, Int.reduceMul, Int.reduceNeg, Go.Proofs.Try.f133, ya3 hlt, zad, zae, qac, yad, yab, qad, sst, zac, qaa, yaa, List.replicate_succ, List.drop_zero]
    | refine Sp2.f ?_ ?_
    | refine Spl.f ?_ ?_ <;> intro hb
    | refine yac rfl (fun b hb => ?_))
    exact h0
def AP (h : List Entry) (s : Spc) (e : Ent) (i : Nat) (H : List Entry) : Prop :=
  H.take h.length = h ∧ H[h.length]? = some ⟨29, [eS (doN e s i).1], .own⟩ ∧ H[h.length + 1]? = some ⟨49, [eE e], .own⟩ ∧ (∃ z, H[h.length + 2]? = some ⟨29, [z], .own⟩) ∧
  (∃ v, H[h.length + 3]? = some ⟨63, [v], .own⟩ ∧ View (fun j => h.length + 6 ≤ j) H 26 v ((doN e s i).2.map eR)) ∧ H[h.length + 4]? = some ⟨29, [eS (doN e s i).1], .own⟩ ∧ H[h.length + 5]? = some ⟨49, [eE e], .own⟩
theorem AP.app {h : List Entry} {s : Spc} {e : Ent} {i : Nat} {H : List Entry} (p : AP h s e i H) (l : List Entry) : AP h s e i (H ++ l) := by
  obtain ⟨a0, a1, a2, ⟨z, a3⟩, ⟨v, a4, a5⟩, a6, a7⟩ := p
  have := qab a7
  have g : ∀ {j : Nat} {x : Entry}, H[j]? = some x → (H ++ l)[j]? = some x := fun hj => by rw [List.getElem?_append_left (qab hj)]; exact hj
  exact ⟨by rw [List.take_append_of_le_length (by omega)]; exact a0, g a1, g a2, ⟨z, g a3⟩, ⟨v, g a4, a5.app l⟩, g a6, g a7⟩
theorem yc4 (s : Spc) (e : Ent) (hs : s.Small) (he : e.Small) : Fn prog 34 [eS s, eE e] (.tup [eS (za6 s e).1, eRs (za6 s e).2.1, .int .i64 (za6 s e).2.2]) := by
  refine ybg (R := fun r => ∃ l, r = .tup l ∧ zcf prog [29, 63, 3] l ∧ wks prog [29, 63, 3] l = [eS (za6 s e).1, eRs (za6 s e).2.1, .int .i64 (za6 s e).2.2]) [29, 63, 3] (fn_tup wfp fun h => ?_) fun r h => h
  refine frun_34 rfl ?_
  have m1 := c_sMay s hs
  have hx : ∀ l : List Entry, (h ++ l).take h.length = h := fun l => by simp
  have m2 := c_eMay e he
  have g0 : zb1 (eE e) [0] = some (.int .i64 e.Now) := rfl
  have g1 : zb1 (eS s) [0] = some (.int .i64 s.Now) := rfl
  cases hm1 : qdi s with
  | false =>
    rw [hm1] at m1
    rw [show za6 s e = (s, [], 1) by simp [za6, hm1]]
    repeat' (first
    | simp (implicitDefEqProofs := false) only [push_cast, reduceIte, reduceCtorEq, Nat.reduceAdd, Nat.reduceSub, Nat.reduceEqDiff, Nat.reduceLT, Nat.reduceLeDiff, Nat.reduceBEq, Nat.reduceMul, Int.reduceLT, Int.reduceLE, Int.reduceEq, Int.reduceToNat, Int.reduceMul, Int.reduceNeg, Go.Proofs.Try.f34, fk_ctt, yb9, ycp, qch, eE_ty, eE_pl, eE_wk, g0, g1, zad, zae, qac, yad, yab, qad, sst, zac, qaa, yaa, List.replicate_succ, List.drop_zero]
    | refine Sp2.f ?_ ?_
    | refine Spl.f ?_ ?_ <;> intro hb
    | refine yac rfl (fun b hb => ?_)
    | refine zaa (U := [[], [], [], [0], [], []]) (H := [⟨0, [], .hole⟩]) yae (by kernel_rfl) (by decide +kernel) (by kernel_rfl) ?_
    | refine zaa (U := [[], [], [1], [], []]) (H := []) yae (by kernel_rfl) (by decide +kernel) (by kernel_rfl) ?_
    | refine qaz m1 ?_
    | refine qaz m2 ?_)
    exact (qc2 (L := []) (X := fun j => h.length ≤ j) (hx _) .nil fun j hj => hj).2
  | true =>
    rw [hm1] at m1
    cases hm2 : zc2 e with
    | false =>
      rw [hm2] at m2
      rw [show za6 s e = (s, [], 1) by simp [za6, hm2]]
      repeat' (first
    | simp (implicitDefEqProofs := false) only [push_cast, reduceIte, reduceCtorEq, Nat.reduceAdd, Nat.reduceSub, Nat.reduceEqDiff, Nat.reduceLT, Nat.reduceLeDiff, Nat.reduceBEq, Nat.reduceMul, Int.reduceLT, Int.reduceLE, Int.reduceEq, Int.reduceToNat, Int.reduceMul, Int.reduceNeg, Go.Proofs.Try.f34, fk_ctt, yb9, ycp, qch, eE_ty, eE_pl, eE_wk, g0, g1, zad, zae, qac, yad, yab, qad, sst, zac, qaa, yaa, List.replicate_succ, List.drop_zero]
    | refine Sp2.f ?_ ?_
    | refine Spl.f ?_ ?_ <;> intro hb
    | refine yac rfl (fun b hb => ?_)
    | refine zaa (U := [[], [], [], [0], [], []]) (H := [⟨0, [], .hole⟩]) yae (by kernel_rfl) (by decide +kernel) (by kernel_rfl) ?_
    | refine zaa (U := [[], [], [1], [], []]) (H := []) yae (by kernel_rfl) (by decide +kernel) (by kernel_rfl) ?_
    | refine qaz m1 ?_
    | refine qaz m2 ?_)
      exact (qc2 (L := []) (X := fun j => h.length ≤ j) (hx _) .nil fun j hj => hj).2
    | true =>
      rw [hm2] at m2
      by_cases hn : e.Now < s.Now
      · rw [show za6 s e = (s, [], 7) by simp [za6, hm1, hm2, hn]]
        have dn : decide (e.Now < s.Now) = true := by simpa using hn
        repeat' (first
    | simp (implicitDefEqProofs := false) only [push_cast, reduceIte, reduceCtorEq, Nat.reduceAdd, Nat.reduceSub, Nat.reduceEqDiff, Nat.reduceLT, Nat.reduceLeDiff, Nat.reduceBEq, Nat.reduceMul, Int.reduceLT, Int.reduceLE, Int.reduceEq, Int.reduceToNat, Int.reduceMul, Int.reduceNeg, Go.Proofs.Try.f34, fk_ctt, dn, yb9, ycp, qch, eE_ty, eE_pl, eE_wk, g0, g1, zad, zae, qac, yad, yab, qad, sst, zac, qaa, yaa, List.replicate_succ, List.drop_zero]
    | refine Sp2.f ?_ ?_
    | refine Spl.f ?_ ?_ <;> intro hb
    | refine yac rfl (fun b hb => ?_)
    | refine zaa (U := [[], [], [], [0], [], []]) (H := [⟨0, [], .hole⟩]) yae (by kernel_rfl) (by decide +kernel) (by kernel_rfl) ?_
    | refine zaa (U := [[], [], [1], [], []]) (H := []) yae (by kernel_rfl) (by decide +kernel) (by kernel_rfl) ?_
    | refine qaz m1 ?_
    | refine qaz m2 ?_)
        exact (qc2 (L := []) (X := fun j => h.length ≤ j) (hx _) .nil fun j hj => hj).2
      · rw [show za6 s e = ((doN e s e.List.length).1, (doN e s e.List.length).2, 0) by simp [za6, hm1, hm2, hn]]
        have dn : decide (e.Now < s.Now) = false := by simpa using hn
        have hl8 : e.List.length ≤ 8 := by simp only [zc2, headE, Bool.and_eq_true, decide_eq_true_eq] at hm2; exact hm2.1.2.2.2
        repeat' (first
    | simp (implicitDefEqProofs := false) only [push_cast, reduceIte, reduceCtorEq, Nat.reduceAdd, Nat.reduceSub, Nat.reduceEqDiff, Nat.reduceLT, Nat.reduceLeDiff, Nat.reduceBEq, Nat.reduceMul, Int.reduceLT, Int.reduceLE, Int.reduceEq, Int.reduceToNat, Int.reduceMul, Int.reduceNeg, Go.Proofs.Try.f34, dn, yb9, ycp, qch, eE_ty, eE_pl, eE_wk, g0, g1, zad, zae, qac, yad, yab, qad, sst, zac, qaa, yaa, List.replicate_succ, List.drop_zero]
    | refine Sp2.f ?_ ?_
    | refine Spl.f ?_ ?_ <;> intro hb
    | refine yac rfl (fun b hb => ?_)
    | refine zaa (U := [[], [], [], [0], [], []]) (H := [⟨0, [], .hole⟩]) yae (by kernel_rfl) (by decide +kernel) (by kernel_rfl) ?_
    | refine zaa (U := [[], [], [1], [], []]) (H := []) yae (by kernel_rfl) (by decide +kernel) (by kernel_rfl) ?_
    | refine qaz m1 ?_
    | refine qaz m2 ?_)
        refine yav (c_each s e _) fun v H hP => ?_
        obtain ⟨rfl, hH⟩ := hP
        simp only [List.length_append, List.length_cons, List.length_nil, List.append_assoc, List.cons_append, List.nil_append, Nat.zero_add] at hH ⊢
        repeat' (first
    | simp (implicitDefEqProofs := false) only [push_cast, reduceIte, reduceCtorEq, Nat.reduceAdd, Nat.reduceSub, Nat.reduceEqDiff, Nat.reduceLT, Nat.reduceLeDiff, Nat.reduceBEq, Nat.reduceMul, Int.reduceLT, Int.reduceLE, Int.reduceEq, Int.reduceToNat, Int.reduceMul, Int.reduceNeg, Go.Proofs.Try.f34, zad, zae, qac, yad, yab, qad, sst, zac, qaa, yaa, List.replicate_succ, List.drop_zero]
    | refine Sp2.f ?_ ?_
    | refine Spl.f ?_ ?_ <;> intro hb
    | refine yac rfl (fun b hb => ?_)
    | refine zaa (U := [[], [], [], [0], [], []]) (H := [⟨0, [], .hole⟩]) yae (by kernel_rfl) (by decide +kernel) (by kernel_rfl) ?_
    | refine zaa (U := [[], [], [1], [], []]) (H := []) yae (by kernel_rfl) (by decide +kernel) (by kernel_rfl) ?_)
        refine r_range 34 rfl (by rfl) (by rfl) fun m hok => ?_
        generalize henv : ([(0, eS s), (1, eE e), (2, AV.ref h.length [0] 29), _, _, _, _, _, _, _, _, _, _] : List (Nat × AV)) = env
        have hm31 : 31 < m := hok.ps 31 (by simp)
        have fs := c_each1 s e hs he (slots_isY m env) (g := 34) (ks := h.length + 4) (ke := h.length + 5) (AP h s e) (fun i H p => ⟨p.2.2.2.2.2.1, p.2.2.2.2.2.2⟩) (fun i H l p => p.app l) (fun i H hi p => ?_) (H := H) ?_
        · refine fs.mono fun _ h' hI => ?_
          obtain ⟨a0, a1, a2, ⟨z, a3⟩, ⟨v, a4, a5⟩, a6, a7⟩ := hI
          have l1 := qab a1
          have l3 := qab a3
          have l4 := qab a4
          have ty5 := a5.ty (P := prog) (U := 63) qc9
          have pl5 := a5.pl
          rw [← henv]
          repeat' (first
    | simp (implicitDefEqProofs := false) only [push_cast, reduceIte, reduceCtorEq, Nat.reduceAdd, Nat.reduceSub, Nat.reduceEqDiff, Nat.reduceLT, Nat.reduceLeDiff, Nat.reduceBEq, Nat.reduceMul, Int.reduceLT, Int.reduceLE, Int.reduceEq, Int.reduceToNat, Int.reduceMul, Int.reduceNeg, Go.Proofs.Try.f34, fk_ctt, a1, a3, a4, l1, l3, l4, ty5, pl5, yb9, ycp, qch, zad, zae, qac, yad, yab, qad, sst, zac, qaa, yaa, List.replicate_succ, List.drop_zero]
    | refine Sp2.f ?_ ?_
    | refine Spl.f ?_ ?_ <;> intro hb
    | refine yac rfl (fun b hb => ?_)
    | refine zaa (U := [[], [], [], [0], [], []]) (H := [⟨0, [], .hole⟩]) yae (by kernel_rfl) (by decide +kernel) (by kernel_rfl) ?_
    | refine zaa (U := [[], [], [1], [], []]) (H := []) yae (by kernel_rfl) (by decide +kernel) (by kernel_rfl) ?_)
          exact qc2 (X := fun j => h.length + 6 ≤ j) (by rw [List.take_set_of_le (by omega)]; exact a0) (a5.set a3 (show 29 ≠ 26 by decide) _) fun j hj => by omega
        · generalize hs1 : (doN e s (i + 1)).1 = s1
          have p2 := p
          obtain ⟨a0, a1, a2, ⟨z, a3⟩, ⟨v, a4, a5⟩, a6, a7⟩ := p2
          have gs : ∀ {j : Nat} {x : Entry}, H[j]? = some x → h.length + 4 ≠ j → (H.set (h.length + 4) (⟨29, [eS s1], .own⟩ : Entry))[j]? = some x := fun hj hne => (List.getElem?_set_ne hne).trans hj
          have b0 : (H.set (h.length + 4) (⟨29, [eS s1], .own⟩ : Entry)).take h.length = h := by rw [List.take_set_of_le (by omega)]; exact a0
          have b1 := gs a1 (by omega)
          have b2 := gs a2 (by omega)
          have b3 := gs a3 (by omega)
          have b4 := gs a4 (by omega)
          have b5 := a5.set a6 (show 29 ≠ 26 by decide) (⟨29, [eS s1], .own⟩ : Entry)
          have b6 : (H.set (h.length + 4) (⟨29, [eS s1], .own⟩ : Entry))[h.length + 4]? = some ⟨29, [eS s1], .own⟩ := List.getElem?_set_self (qab a6)
          have b7 := gs a7 (by omega)
          generalize H.set (h.length + 4) (⟨29, [eS s1], .own⟩ : Entry) = K at b0 b1 b2 b3 b4 b5 b6 b7 ⊢
          clear gs a0 a1 a2 a3 a4 a5 a6 a7
          refine y_run wfp (by rfl) rfl (slots_len ..) hok rfl ([(2, .ref h.length [0] 29), (7, .ref (h.length + 3) [0] 63), (8, .junk), (9, .junk), (30, eS s1), (31, eRs (doS (doN e s i).1 e.Now (e.List.getD i zQ)).2)] : List (Nat × AV)) (fun t => ?_) ?_
          · have h15 : ∀ t, t < 30 → qag (lk env t) = true → lk (yck (slots m env) [30, 31] [eS s1, eRs (doS (doN e s i).1 e.Now (e.List.getD i zQ)).2]) t = lk env t := fun t ht hp =>
              lk_round (by omega) (by simp; omega) hp
            by_cases t2 : 2 = t
            · subst t2; exact .inr ((by rw [← henv]; rfl : lk env 2 = .ref h.length [0] 29) ▸ (h15 2 (by omega) (by rw [← henv]; rfl)).symm ▸ rfl)
            · by_cases t7 : 7 = t
              · subst t7; exact .inr (by show AV.ref (h.length + 3) [0] 63 = _; rw [h15 7 (by omega) (by rw [← henv]; rfl), ← henv]; rfl)
              · by_cases t30 : 30 = t
                · subst t30; exact .inr (by simp [yck, qcu]; rfl)
                · by_cases t31 : 31 = t
                  · subst t31; exact .inr (by simp [yck, qcu]; rfl)
                  · refine .inl ?_
                    by_cases t8 : 8 = t
                    · subst t8; rfl
                    · by_cases t9 : 9 = t
                      · subst t9; rfl
                      · simp [lk, t2, t7, t8, t9, t30, t31, Ne.symm t2, Ne.symm t7, Ne.symm t8, Ne.symm t9, Ne.symm t30, Ne.symm t31]
          · repeat' (first
    | simp (implicitDefEqProofs := false) only [push_cast, reduceIte, reduceCtorEq, Nat.reduceAdd, Nat.reduceSub, Nat.reduceEqDiff, Nat.reduceLT, Nat.reduceLeDiff, Nat.reduceBEq, Nat.reduceMul, Int.reduceLT, Int.reduceLE, Int.reduceEq, Int.reduceToNat, Int.reduceMul, Int.reduceNeg, Go.Proofs.Try.f34, yb9, ycp, qch, zad, zae, qac, yad, yab, qad, sst, zac, qaa, yaa, List.replicate_succ, List.drop_zero]
    | refine Sp2.f ?_ ?_
    | refine Spl.f ?_ ?_ <;> intro hb
    | refine yac rfl (fun b hb => ?_)
    | refine zaa (U := [[], [], [], [0], [], []]) (H := [⟨0, [], .hole⟩]) yae (by kernel_rfl) (by decide +kernel) (by kernel_rfl) ?_
    | refine zaa (U := [[], [], [1], [], []]) (H := []) yae (by kernel_rfl) (by decide +kernel) (by kernel_rfl) ?_)
            refine ⟨([(2, .ref h.length [0] 29), (7, .ref (h.length + 3) [0] 63), (8, .ref K.length [0] 29), (9, eRs (doS (doN e s i).1 e.Now (e.List.getD i zQ)).2)] : List (Nat × AV)), fun t => ?_, ?_⟩
            · by_cases t2 : 2 = t
              · subst t2; exact .inr ⟨rfl, rfl⟩
              · by_cases t7 : 7 = t
                · subst t7; exact .inr ⟨rfl, rfl⟩
                · by_cases t8 : 8 = t
                  · subst t8; exact .inr ⟨rfl, rfl⟩
                  · by_cases t9 : 9 = t
                    · subst t9; exact .inr ⟨rfl, rfl⟩
                    · refine .inl ?_
                      simp [lk, t2, t7, t8, t9, Ne.symm t2, Ne.symm t7, Ne.symm t8, Ne.symm t9]
            · have bl0 := qab b1
              have bl3 := qab b4
              have ty3 := b5.ty (P := prog) (U := 63) qc9
              have pl3 := b5.pl
              have z1 : ∀ l : List Entry, (K ++ l)[h.length]? = _ := fun l => (List.getElem?_append_left bl0).trans b1
              have z4 : ∀ l : List Entry, (K ++ l)[h.length + 3]? = _ := fun l => (List.getElem?_append_left bl3).trans b4
              have la : lenAV v = (doN e s i).2.length := by rw [b5.lenAV]; simp
              have hdl := (zcy e s hs he i (by omega)).2.2
              have hol : (doS (doN e s i).1 e.Now (e.List.getD i zQ)).2.length ≤ 131 := do_few9 (zcy e s hs he i (by omega)).1 (by
                rw [List.getD_eq_getElem?_getD, List.getElem?_eq_getElem hi]
                exact he.q _ (List.getElem_mem _))
              have hdn : (doN e s (i + 1)).2 = (doN e s i).2 ++ (doS (doN e s i).1 e.Now (e.List.getD i zQ)).2 := rfl
              generalize (doS (doN e s i).1 e.Now (e.List.getD i zQ)).2 = out at hol hdn ⊢
              have e7 : (doN e s i).2.length + out.length ≤ 4294967296 := by omega
              have bN := b5.app [(⟨29, [eS s1], .own⟩ : Entry), ⟨0, [], .hole⟩]
              obtain ⟨vA, wr, rd, p1, q2, q3, q4, hds⟩ := ds_apps (n := K.length + 1) (eh := ⟨0, [], .hole⟩) (out.map eR) (za0 K _ 1) rfl bN
              have hvt : tyB prog vA 63 = true := p1.ty qc9
              have hvp := p1.pl
              have hmb : memB K.length (List.map (fun x => x.fst) wr) = false := by
                refine memB_no fun hm => ?_
                rcases q4 _ hm with e1 | ⟨es, e1⟩
                · omega
                · rw [zao] at e1; cases e1
              generalize hHA : za1 _ wr = HA at p1 q2 q3
              have hne : 29 ≠ 26 ∧ 63 ≠ 26 ∧ 49 ≠ 26 := by decide
              have old : ∀ {j : Nat} {x : Entry}, K[j]? = some x → (j < h.length + 6 ∨ x.T ≠ 26) → HA[j]? = some x := fun {j x} hj hc => q3 _ _ (by rw [List.getElem?_append_left (qab hj)]; exact hj) (by have := qab hj; omega) (hc.imp (fun h1 h2 => by omega) id)
              have d1 := old b1 (.inl (by omega))
              have d4 := old b4 (.inl (by omega))
              have dl1 := qab d1
              have dl4 := qab d4
              repeat' (first
    | simp (implicitDefEqProofs := false) only [push_cast, reduceIte, reduceCtorEq, Nat.reduceAdd, Nat.reduceSub, Nat.reduceEqDiff, Nat.reduceLT, Nat.reduceLeDiff, Nat.reduceBEq, Nat.reduceMul, Int.reduceLT, Int.reduceLE, Int.reduceEq, Int.reduceToNat, Int.reduceMul, Int.reduceNeg, Go.Proofs.Try.f34, z1, z4, b1, b4, bl0, bl3, ty3, pl3, la, e7, hmb, hHA, hvt, hvp, d1, d4, dl1, dl4, yb9, ycp, qch, eRs, List.length_map, yai bl0, qaf bl0, zax bl0, qai bl0, yai bl3, qaf bl3, zax bl3, qai bl3, zad, zae, qac, yad, yab, qad, sst, zac, qaa, yaa, List.replicate_succ, List.drop_zero]
    | refine Sp2.f ?_ ?_
    | refine Spl.f ?_ ?_ <;> intro hb
    | refine yac rfl (fun b hb => ?_)
    | refine zaa (U := [[], [], [], [0], [], []]) (H := [⟨0, [], .hole⟩]) yae (by kernel_rfl) (by decide +kernel) (by kernel_rfl) ?_
    | refine zaa (U := [[], [], [1], [], []]) (H := []) yae (by kernel_rfl) (by decide +kernel) (by kernel_rfl) ?_
    | refine hds _ _ _ _ _ ?_)
              have d2 := old b2 (.inl (by omega))
              have d3 := old b3 (.inl (by omega))
              have d6 := old b6 (.inl (by omega))
              have d7 := old b7 (.inl (by omega))
              have dT : HA.take h.length = h := by
                conv => rhs; rw [← b0]
                apply List.ext_getElem?
                intro j
                rw [List.getElem?_take, List.getElem?_take]
                split
                · rename_i hj
                  rw [List.getElem?_eq_getElem (show j < K.length by omega)]
                  exact old (List.getElem?_eq_getElem _) (.inl (by omega))
                · rfl
              have ss : ∀ {j : Nat} {x E1 E2 : Entry}, HA[j]? = some x → h.length ≠ j → h.length + 3 ≠ j → ((HA.set h.length E1).set (h.length + 3) E2)[j]? = some x := fun hj h1 h2 => by
                rw [List.getElem?_set_ne h2, List.getElem?_set_ne h1]; exact hj
              refine ⟨?_, ?_, ss d2 (by omega) (by omega), ⟨z, ss d3 (by omega) (by omega)⟩, ⟨vA, List.getElem?_set_self (by simpa using dl4), ?_⟩, ?_, ss d7 (by omega) (by omega)⟩
              · rw [List.take_set_of_le (by omega), List.take_set_of_le (by omega)]; exact dT
              · rw [hs1, List.getElem?_set_ne (by omega), List.getElem?_set_self dl1]
              · rw [hdn, List.map_append]
                exact ((p1.up (Y := fun j => h.length + 6 ≤ j) fun j hj => hj.elim id fun hj => by have := qab b7; omega).set d1 hne.1 _).set ((List.getElem?_set_ne (by omega)).trans d4) hne.2.1 _
              · rw [hs1]; exact ss d6 (by omega) (by omega)
        · rw [hH]
          exact ⟨hx _, zao .., za0 h _ 1, ⟨_, za0 h _ 2⟩, ⟨_, za0 h _ 3, .nil⟩, za0 h _ 4, za0 h _ 5⟩
end Go.Abs
