/- Et: a part of the proofs about the tuple space and its bytes. -/
import Derived.Test.YtilfbkhbjkjicaaEg
import Derived.Test.YtilfbkhbjkjicaaP2
import Derived.Test.YtilfbkhbjkjicaaMq
import Derived.Test.YtilfbkhbjkjicaaEa
import Derived.Test.YtilfbkhbjkjicaaGw
import Derived.Test.YtilfbkhbjkjicaaN6
set_option linter.all false
set_option maxRecDepth 100000
set_option maxHeartbeats 0
namespace Go.Abs
open Go
open Go.Proofs.Try (prog)
structure Req.In (x : Req) : Prop where
  P : ∀ f ∈ x.P, f.In
  T : ∀ f ∈ x.T, f.In
def Ent.In (e : Ent) : Prop := ∀ x ∈ e.List, x.In
theorem parseQ_put {x : Req} (h : qcp x = true) (hn : x.In) (t : List UInt8) : ydh ⟨yc7 x ++ t, false⟩ = (x, ⟨t, false⟩) := by
  simp only [qcp, Bool.and_eq_true, decide_eq_true_eq] at h
  obtain ⟨⟨h1, h2, h3, h4, h5, h6⟩, h7, h8⟩ := h
  have hT : (0 ≤ x.Lease ∧ x.Lease ≤ 1099511627776) ∧ (mayP x.T = true ∨ x.T = []) := by
    split at h7
    · simp only [Bool.and_eq_true, decide_eq_true_eq] at h7; exact ⟨h7.2, .inl (mayT_mayP h7.1)⟩
    · simp only [Bool.and_eq_true, decide_eq_true_eq] at h7; exact ⟨by omega, .inr h7.1⟩
  have hP : mayP x.P = true ∨ x.P = [] := by
    split at h8
    · exact .inl h8
    · exact .inr (by simpa using h8)
  have a := num_nb (n := 1) h1 (by show x.Client < 256; omega) (by omega) (nb x.Seq 4 ++ (nb x.Kind 1 ++ (nb x.Lease 8 ++ (zbb (zas x.P) ++ (zbb (zas x.T) ++ t)))))
  have b := num_nb (n := 4) (v := x.Seq) (by omega) (by show x.Seq < 4294967296; omega) (by omega) (nb x.Kind 1 ++ (nb x.Lease 8 ++ (zbb (zas x.P) ++ (zbb (zas x.T) ++ t))))
  have c := num_nb (n := 1) (v := x.Kind) (by omega) (by show x.Kind < 256; omega) (by omega) (nb x.Lease 8 ++ (zbb (zas x.P) ++ (zbb (zas x.T) ++ t)))
  have d := num_nb (n := 8) hT.1.1 (by show x.Lease < 18446744073709551616; omega) (by omega) (zbb (zas x.P) ++ (zbb (zas x.T) ++ t))
  have e := rowR_put hP hn.P (zbb (zas x.T) ++ t)
  have f := rowR_put hT.2 hn.T t
  simp only [ydh, yc7, List.append_assoc, a, b, c, d, e, f, zbh h1 (by omega), zbh (show 0 ≤ x.Seq by omega) (by omega), zbh (show 0 ≤ x.Kind by omega) (by omega), zbh hT.1.1 (by omega)]
theorem getQ_put {x : Req} (h : qcp x = true) (hn : x.In) : getQ (yc7 x) = some x := by
  have a := parseQ_put h hn []
  rw [List.append_nil] at a
  rw [getQ, a]
  exact if_pos ⟨rfl, h, rfl⟩
theorem rowQ_put {x : Req} (h : qcp x = true) (hn : x.In) (t : List UInt8) : rowQ ⟨zbb (yc7 x) ++ t, false⟩ = (some x, ⟨t, false⟩) := by
  have hl := putQ_len x
  have a := RS.text_put (yc7 x) t 2000 (by omega) (by omega)
  simp only [rowQ, a, getQ_put h hn]
theorem parseE_put {e : Ent} (h : zc2 e = true) (hn : e.In) (t : List UInt8) : qdx ⟨putE e ++ t, false⟩ = (e, true, ⟨t, false⟩) := by
  simp only [zc2, headE, Bool.and_eq_true, decide_eq_true_eq, List.all_eq_true] at h
  obtain ⟨⟨h1, h2, h3, h4⟩, hq⟩ := h
  have a := num_nb (n := 8) h1 (by show e.Now < 18446744073709551616; omega) (by omega) (beN e.List.length 1 ++ ((e.List.flatMap fun x => zbb (yc7 x)) ++ t))
  have b := RS.num_be (e.List.length : Int) (by omega) 1 (by show (e.List.length : Int) < 256; omega) ((e.List.flatMap fun x => zbb (yc7 x)) ++ t)
  have c := getMany_put (f := rowQ) (g := fun o => zbb (yc7 (o.getD zQ))) (e.List.map some) t (fun o ho t => by
    obtain ⟨x, hx, rfl⟩ := List.mem_map.1 ho
    exact rowQ_put (hq x hx) (hn x hx) t)
  have hf : (e.List.map some).flatMap (fun o : Option Req => zbb (yc7 (o.getD zQ))) = e.List.flatMap fun x => zbb (yc7 x) := by rw [List.flatMap_map]; rfl
  rw [hf, List.length_map] at c
  have hm : (min (e.List.length : Int) 9).toNat = e.List.length := by omega
  have hi : (e.List.map some).map (fun o : Option Req => o.getD zQ) = e.List := by rw [List.map_map]; exact List.map_id _
  have ha : (e.List.map some).all Option.isSome = true := by simp
  simp only [qdx, putE, List.append_assoc, a, b, hm, c, hi, ha, zbh h1 (by omega)]
theorem getEn_put {e : Ent} (h : zc2 e = true) (hn : e.In) : getEn (putE e) = some e := by
  have a := parseE_put h hn []
  rw [List.append_nil] at a
  rw [getEn, a]
  exact if_pos ⟨rfl, rfl, h⟩
structure RdOn {α : Type} (f : RS → α × RS) : Prop where
  stuck : ∀ l, (f ⟨l, true⟩).2.w = true
  more : ∀ l c, (f ⟨l, false⟩).2.w = false → f ⟨l ++ c, false⟩ = ((f ⟨l, false⟩).1, ⟨(f ⟨l, false⟩).2.l ++ c, false⟩)
theorem RdOn.w {α : Type} {f : RS → α × RS} (r : RdOn f) {s : RS} (h : (f s).2.w = false) : s.w = false := by
  obtain ⟨l, w⟩ := s
  cases w with
  | false => rfl
  | true => rw [r.stuck] at h; cases h
end Go.Abs
set_option linter.all false
set_option maxRecDepth 100000
set_option maxHeartbeats 0
namespace Go.Abs
open Go
open Go.Proofs.Try (prog)
end Go.Abs
set_option linter.all false
set_option maxRecDepth 100000
set_option maxHeartbeats 0
namespace Go.Abs
open Go
open Go.Proofs.Try (prog)
def R11 : Req := ⟨0, 1, 8, [], [], 0⟩
def E11 : Ent := ⟨5, [R11]⟩
def S11 : Spc := (za6 (qb2 15 15) E11).1
theorem t11a : za6 (qb2 15 15) E11 = (S11, [⟨0, 1, 1, [], false⟩], 0) := by kernel_rfl
theorem t11b : S11.Now = 5 := by kernel_rfl
theorem t11c : (za6 S11 ⟨4, [R11]⟩).2.2 = 7 := by kernel_rfl
theorem t11d : (za6 (qb2 15 15) zE).2.2 = 1 := by kernel_rfl
theorem t11e : zc2 E11 = true := by kernel_rfl
theorem t11f : zc2 zE = false := by kernel_rfl
theorem R11_small : R11.Small := ⟨by simp [R11], by simp [R11]⟩
theorem ydo : E11.Small := ⟨by simp [E11], fun x hx => by rw [List.mem_singleton.1 hx]; exact R11_small⟩
theorem E4_small : (⟨4, [R11]⟩ : Ent).Small := ⟨by simp, fun x hx => by rw [List.mem_singleton.1 hx]; exact R11_small⟩
theorem zE_small : zE.Small := ⟨by simp [zE], fun x hx => by simp [zE] at hx⟩
theorem E11_in : E11.In := fun x hx => by rw [List.mem_singleton.1 hx]; exact ⟨by simp [R11], by simp [R11]⟩
theorem zba (r w : Int) : (qb2 r w).Small := ⟨⟨by simp [qb2], by simp [qb2]⟩, ⟨by simp [qb2], by simp [qb2]⟩, ⟨by simp [qb2], by simp [qb2]⟩, rfl⟩
theorem S11_small : S11.Small := by
  have e : S11 = (doN E11 (qb2 15 15) 1).1 := by rw [S11, za6, if_pos ⟨(by kernel_rfl : qdi (qb2 15 15) = true), t11e⟩, if_neg (by decide)]; rfl
  rw [e]
  exact (zcy E11 (qb2 15 15) (zba ..) ydo 1 (Nat.le_refl _)).1
def rq11 : AV := .agg 60 [.int .i64 0, .int .i64 1, .int .i64 8, .nils, .nils, .int .i64 0]
theorem wkd_0 (T : TypeId) (a : AV) : wkd prog 0 T a = a := rfl
theorem w11 {g : FuncId} {r : AV} {H : List Entry} {k : Nat} (hk : H[k]? = some ⟨60, [rq11], .fz⟩) (n : Int) (hp : Fn prog g [eE ⟨n, [R11]⟩] r) : FSpec prog g [.agg 49 [.int .i64 n, .win k [] 60 0 1 1]] H fun r' h' => r' = r ∧ h' = H := by
  refine FSpec.readw wfp 3 [(6, 49)] (args1 := [.agg 49 [.int .i64 n, .list 60 [rq11]]]) ?_ ?_ ?_ hp
  · simp [Go.Abs.bzd, bzdWin, hk, qam, rq11]
  · exact ⟨by simp [tyB], trivial⟩
  · simp only [wkds, wkd_aggE, zb4, wkd_int, wkd_list, wkd_nils, qan, rq11, sh_49, fl_49, sh_60, fl_60, sh_24, List.zipWith_cons_cons, List.zipWith_nil_left, if_true, List.map_cons, List.map_nil]
    rfl
theorem w11s {g : FuncId} {r : AV} {H : List Entry} {k : Nat} (hk : H[k]? = some ⟨60, [rq11], .fz⟩) (s : Spc) (n : Int) (hp : Fn prog g [eS s, eE ⟨n, [R11]⟩] r) : FSpec prog g [eS s, .agg 49 [.int .i64 n, .win k [] 60 0 1 1]] H fun r' h' => r' = r ∧ h' = H := by
  refine FSpec.readw wfp 3 [(0, 29), (6, 49)] (args1 := [eS s, .agg 49 [.int .i64 n, .list 60 [rq11]]]) ?_ ?_ ?_ hp
  · rw [List.map_cons, qdn 3 _ (zc8 s)]
    simp [Go.Abs.bzd, bzdWin, hk, qam, rq11]
  · exact ⟨yb9 s, by simp [tyB], trivial⟩
  · simp only [wkds, wkd_0, wkd_aggE, zb4, wkd_int, wkd_list, wkd_nils, qan, rq11, sh_49, fl_49, sh_60, fl_60, sh_24, List.zipWith_cons_cons, List.zipWith_nil_left, if_true, List.map_cons, List.map_nil]
    rfl
theorem k_frz11 {g : FuncId} {args raw : List AV} {d : Option Tmp} {s : List Ctl} {env : Env} {h : List Entry} {Q : zap} {k : Nat} {T : TypeId} {es : List AV} (hk : h[k]? = some ⟨T, es, .own⟩) (hne : es ≠ []) (hr : Rk prog g args raw d s env (h.set k ⟨T, es, .fz⟩) Q) : Rk prog g args raw d s env h Q :=
  hr.imp (FSpec.freeze wfp hk rfl hne) (FSpec.freeze wfp hk rfl hne)
theorem c_told11 : Fn prog 27 [] (.bool true) := by
  refine run_27 rfl fun h => ?_
  repeat' (first
    | simp (implicitDefEqProofs := false) only [push_cast, reduceIte, reduceCtorEq, Nat.reduceAdd, Nat.reduceSub, Nat.reduceEqDiff, Nat.reduceLT, Nat.reduceLeDiff, Nat.reduceBEq, Nat.reduceMul, Int.reduceLT, Int.reduceLE, Int.reduceEq, Int.reduceToNat, Int.reduceMul, Int.reduceNeg, Go.Proofs.Try.f27, zad, zae, qac, yad, yab, qad, sst, zac, qaa, yaa, List.replicate_succ, List.drop_zero]
    | refine Sp2.f ?_ ?_
    | refine Spl.f ?_ ?_ <;> intro hb
    | refine yac rfl (fun b hb => ?_))
  refine k_frz11 (k := h.length) (T := 60) (es := [rq11]) (zao ..) (by simp) ?_
  have hs0 : (h ++ [(⟨60, [rq11], .own⟩ : Entry), ⟨49, [.agg 49 [.int .i64 5, .win h.length [] 60 0 1 1]], .own⟩]).set h.length ⟨60, [rq11], .fz⟩ = h ++ [(⟨60, [rq11], .fz⟩ : Entry), ⟨49, [.agg 49 [.int .i64 5, .win h.length [] 60 0 1 1]], .own⟩] := by
    rw [zda]; rfl
  have hs1 : (h ++ [(⟨60, [.agg 60 [.int .i64 0, .int .i64 1, .int .i64 8, .nils, .nils, .int .i64 0]], .own⟩ : Entry), ⟨49, [.agg 49 [.int .i64 5, .win h.length [] 60 0 1 1]], .own⟩]).set h.length ⟨60, [rq11], .fz⟩ = h ++ [(⟨60, [rq11], .fz⟩ : Entry), ⟨49, [.agg 49 [.int .i64 5, .win h.length [] 60 0 1 1]], .own⟩] := hs0
  rw [hs1]
  have p1 := c_ePut E11 ydo
  rw [t11e] at p1
  have hk : ∀ l : List Entry, (h ++ (⟨60, [rq11], .fz⟩ : Entry) :: l)[h.length]? = some ⟨60, [rq11], .fz⟩ := fun l => zao ..
  have e00 : ((0 : Int) == 0) = true := rfl
  have hgB : (putE E11).length ≤ 900000 := by
    have := fm_len (fun x => zbb (yc7 x)) 604 textQ_len E11.List
    simp only [putE, nb, List.length_append, qax]
    have : E11.List.length = 1 := rfl
    omega
  have g1 := c_eGet (putE E11) hgB
  rw [getEn_put t11e E11_in] at g1
  refine qar (w11 (hk _) 5 p1) ?_
  generalize putE E11 = B at g1
  have n1 := c_New6 15 15
  have a1 := yc4 (qb2 15 15) E11 (zba ..) ydo
  rw [t11a] at a1
  have a2 := yc4 S11 ⟨4, [R11]⟩ S11_small E4_small
  rw [t11c] at a2
  have a3 := yc4 (qb2 15 15) zE (zba ..) zE_small
  rw [t11d] at a3
  have hN := t11b
  have gN : zb1 (eS S11) [0] = some (.int .i64 S11.Now) := rfl
  rw [hN] at gN
  generalize za6 S11 ⟨4, [R11]⟩ = A2 at a2
  generalize za6 (qb2 15 15) zE = A3 at a3
  generalize qb2 15 15 = S0 at n1 a1 a3
  generalize S11 = S1 at a1 a2 gN
  have m1 := c_eMay E11 ydo
  rw [t11e] at m1
  have m2 := c_eMay zE zE_small
  rw [t11f] at m2
  have gE0 : zb1 (eE E11) [0] = some (.int .i64 5) := rfl
  have gE1 : zb1 (eE E11) [1] = some (.list 60 [eQ R11]) := rfl
  have e11 : ((1 : Int) == 1) = true := rfl
  have e55 : ((5 : Int) == 5) = true := rfl
  have e77 : ((7 : Int) == 7) = true := rfl
  have hEL : eRs [⟨0, 1, 1, [], false⟩] = .list 26 [eR ⟨0, 1, 1, [], false⟩] := rfl
  have gR2 : zb1 (eR ⟨0, 1, 1, [], false⟩) [2] = some (.int .i64 1) := rfl
  have hER : eR ⟨0, 1, 1, [], false⟩ = .agg 26 [.int .i64 0, .int .i64 1, .int .i64 1, eFs [], .bool false] := rfl
  rw [hEL] at a1
  rw [hER] at a1
  have e01 : ((0 : Int) + 1 == 1) = true := rfl
  have h01 : ((0 : Int) < 0 + 1) = True := by simp
  repeat' (first
    | simp (implicitDefEqProofs := false) only [push_cast, reduceIte, reduceCtorEq, Nat.reduceAdd, Nat.reduceSub, Nat.reduceEqDiff, Nat.reduceLT, Nat.reduceLeDiff, Nat.reduceBEq, Nat.reduceMul, Int.reduceLT, Int.reduceLE, Int.reduceEq, Int.reduceToNat, Int.reduceMul, Int.reduceNeg, Go.Proofs.Try.f27, e00, e11, e55, e77, gE0, gE1, gN, e01, h01, List.getD_cons_zero, eE_ty, eE_pl, eE_wk, yb9, ycp, qch, qa5, ya4, za7, eRs_ty, eRs_pl, eRs_wk, zad, zae, qac, yad, yab, qad, sst, zac, qaa, yaa, List.replicate_succ, List.drop_zero]
    | refine Sp2.f ?_ ?_
    | refine Spl.f ?_ ?_ <;> intro hb
    | refine yac rfl (fun b hb => ?_)
    | refine qaz g1 ?_
    | refine qaz n1 ?_
    | refine qar (w11s (hk _) S0 5 a1) ?_
    | refine qar (w11s (hk _) S1 4 a2) ?_
    | refine qaz a3 ?_
    | refine qar (w11 (hk _) 5 m1) ?_
    | refine qaz m2 ?_)
end Go.Abs
