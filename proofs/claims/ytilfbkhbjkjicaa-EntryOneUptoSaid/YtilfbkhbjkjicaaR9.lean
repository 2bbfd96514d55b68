/- R9: a part of the proofs about the tuple space and its bytes. -/
import Derived.Test.YtilfbkhbjkjicaaR7
set_option linter.all false
set_option maxRecDepth 100000
set_option maxHeartbeats 0
namespace Go.Abs
open Go
open Go.Proofs.Try (prog)
theorem gv_wkbw {X : Nat → Prop} {h : List Entry} {T U : TypeId} {v : AV} {l : List AV} (hv : GV X h T v l) (hd : zc4 l = true) (hU : yab prog U = .slice T) (n m : Nat) : bw h (n + 1) (wk prog (m + 1) U v) = .list T l := by
  cases hv with
  | flat => rw [zbc]; exact qcd _ _ (by rw [qcj]; exact hd)
  | view hv => exact zcv hv hd hU n m
theorem c_OwnG {X Y : Nat → Prop} {s : Spc} {h : List Entry} {vi vw : AV} (c : Int) (hI : s.Items.length ≤ 4294967296) (h1 : View X h 87 vi (s.Items.map eI)) (h2 : GV Y h 89 vw (s.Waiters.map eW)) :
    FSpec prog 49 [.agg 29 [.int .i64 s.Now, wk prog 5 22 vi, wk prog 5 23 vw, .int .i64 s.Read, .int .i64 s.Write, eL s.Last], .int .i64 c] h fun r' h'' => r' = .int .i64 (cnt s.Items c) ∧ h'' = h := by
  have e : [.agg 29 [.int .i64 s.Now, wk prog 5 22 vi, wk prog 5 23 vw, .int .i64 s.Read, .int .i64 s.Write, eL s.Last], .int .i64 c].map (bw h 8) = [eS s, .int .i64 c] := by
    simp only [List.map_cons, List.map_nil, bw_aggE, zcv h1 (zal eI ycd _) zbr 6 4, gv_wkbw h2 (zal eW eW_dat _) ybs 6 4, qcd _ _ (ydc _), eS, eIs, eWs]
    rfl
  refine (FSpec.borrow wfp (R := fun r' => r' = .int .i64 (cnt s.Items c)) ?_ ?_ (by rintro r' rfl; rfl)).mono fun r' h' ⟨e1, e2⟩ => ⟨e2, e1⟩
  · rw [e]; exact c_Own s c hI
  · rw [e]; simp only [List.all_cons, List.all_nil, Bool.and_true, zap (n := 0) _ (zcj s), qam]
theorem c_FindG {X Y : Nat → Prop} {s : Spc} {p : List Fld} {h : List Entry} {vi vw : AV} (hI : smallI s.Items) (hP : p.length ≤ 4294967296) (h1 : View X h 87 vi (s.Items.map eI)) (h2 : GV Y h 89 vw (s.Waiters.map eW)) :
    FSpec prog 94 [.agg 29 [.int .i64 s.Now, wk prog 5 22 vi, wk prog 5 23 vw, .int .i64 s.Read, .int .i64 s.Write, eL s.Last], eFs p] h fun r' h'' => r' = .int .i64 (za6 s p) ∧ h'' = h := by
  have e : [.agg 29 [.int .i64 s.Now, wk prog 5 22 vi, wk prog 5 23 vw, .int .i64 s.Read, .int .i64 s.Write, eL s.Last], eFs p].map (bw h 8) = [eS s, eFs p] := by
    simp only [List.map_cons, List.map_nil, bw_aggE, zcv h1 (zal eI ycd _) zbr 6 4, gv_wkbw h2 (zal eW eW_dat _) ybs 6 4, qcd _ _ (ydc _), qcd _ _ (ycj _), eS, eIs, eWs]
    rfl
  refine (FSpec.borrow wfp (R := fun r' => r' = .int .i64 (za6 s p)) ?_ ?_ (by rintro r' rfl; rfl)).mono fun r' h' ⟨e1, e2⟩ => ⟨e2, e1⟩
  · rw [e]; exact c_Find6 s p hI hP
  · rw [e]; simp only [List.all_cons, List.all_nil, Bool.and_true, zap (n := 0) _ (zcj s), zap (n := 0) _ (ycj p), Bool.and_self]
theorem c_without {h : List Entry} {kw lo i : Nat} {l z : List AV} (hk : h[kw]? = some ⟨87, l ++ z, .own⟩) (hi : i < l.length) (hl : l.length ≤ 1000) :
    FSpec prog 131 [.win kw [] 87 0 l.length lo, .int .i64 i] h fun r h' => Keeps (fun _ => False) h h' ∧ View (zbf (fun _ => False) h h') h' 87 r (l.eraseIdx i) := by
  have hkl := yac hk
  have hi9 : i < 9223372036854775807 := by omega
  have htk : (l ++ z).take i = l.take i := by rw [List.take_append_of_le_length (by omega)]
  have hdr : ((l ++ z).drop (i + 1)).take (l.length - (i + 1)) = l.drop (i + 1) := by
    rw [List.drop_append_of_le_length (by omega), List.take_append_of_le_length (by simp), List.take_of_length_le (by simp)]
  have hlt : (l.take i).length = i := by simp; omega
  have hld : (l.drop (i + 1)).length = l.length - (i + 1) := by simp
  have hi1 : (i ≤ (l ++ z).length) = True := eq_true (by simp; omega)
  have hi2 : (i + (1 + (l.length - (i + 1))) ≤ (l ++ z).length) = True := eq_true (by simp; omega)
  have tn1 : ((i : Int) + 1).toNat = i + 1 := by omega
  have her : l.eraseIdx i = l.take i ++ l.drop (i + 1) := List.eraseIdx_eq_take_drop_succ ..
  rw [her]
  generalize hm : l.length - (i + 1) = m at hdr hld hi2
  have htt : (l.take i).take i = l.take i := by rw [List.take_take, Nat.min_self]
  have htd : (l.take i).drop (i + m) = [] := List.drop_of_length_le (by omega)
  refine frun_131 rfl ?_
  have hi3 : (i ≤ (l.take i).length) = True := eq_true (by omega)
  by_cases hz : i = 0
  · have hc1 : (i ≤ 0) = True := eq_true (by omega)
    by_cases hy : m = 0
    · have hc2 : (i + m ≤ 0) = True := eq_true (by omega)
      have hc3 : (i + m ≤ i) = True := eq_true (by omega)
      repeat' (first
    | simp (implicitDefEqProofs := false) only [push_cast, reduceIte, reduceCtorEq, Nat.reduceAdd, Nat.reduceSub, Nat.reduceEqDiff, Nat.reduceLT, Nat.reduceLeDiff, Nat.reduceBEq, Nat.reduceMul, Int.reduceLT, Int.reduceLE, Int.reduceEq, Int.reduceToNat, Int.reduceMul, Int.reduceNeg, Go.Proofs.Try.f131, htt, htd, hm, hk, hkl, htk, hdr, hlt, hld, hi1, hi2, hi3, hc1, hc2, hc3, tn1, Nat.sub_zero, Nat.zero_le, Nat.le_refl, List.take_length, List.take_zero, List.drop_zero, Int.toNat_natCast, qaf hi9, zad, yae, qad, zae, zab, qae, sst, qab, qaa, yaa, zac, qaq, List.replicate_succ, List.drop_zero, zaf hkl, yad hkl, qak hkl, yaf hkl]
    | refine Sp2.f ?_ ?_
    | refine Spl.f ?_ ?_ <;> intro hb
    | refine qac rfl (fun b hb => ?_)
    | refine zaa (U := [[], [], [], [0], [], [], [], [], [0, 3, 4], [], []]) (H := [⟨0, [], .hole⟩, ⟨0, [], .hole⟩, ⟨0, [], .hole⟩]) zag (by kernel_rfl) (by decide +kernel) (by kernel_rfl) ?_)
      all_goals first
        | omega
        | (refine ⟨by omega, ?_⟩; omega)
        | (refine ⟨by omega, by omega, ?_⟩; omega)
        | skip
      exact ⟨Keeps.app _ _ _, View.mk' (es := l.take i ++ l.drop (i + 1)) [] (.inr ⟨by omega, by simp⟩) (yas h _) (by simp) (by rw [List.length_append, hlt, hld])⟩
    · have hc2 : (i + m ≤ 0) = False := eq_false (by omega)
      have hc3 : (i + m ≤ i) = False := eq_false (by omega)
      repeat' (first
    | simp (implicitDefEqProofs := false) only [push_cast, reduceIte, reduceCtorEq, Nat.reduceAdd, Nat.reduceSub, Nat.reduceEqDiff, Nat.reduceLT, Nat.reduceLeDiff, Nat.reduceBEq, Nat.reduceMul, Int.reduceLT, Int.reduceLE, Int.reduceEq, Int.reduceToNat, Int.reduceMul, Int.reduceNeg, Go.Proofs.Try.f131, htt, htd, hm, hk, hkl, htk, hdr, hlt, hld, hi1, hi2, hi3, hc1, hc2, hc3, tn1, Nat.sub_zero, Nat.zero_le, Nat.le_refl, List.take_length, List.take_zero, List.drop_zero, Int.toNat_natCast, qaf hi9, zad, yae, qad, zae, zab, qae, sst, qab, qaa, yaa, zac, qaq, List.replicate_succ, List.drop_zero, zaf hkl, yad hkl, qak hkl, yaf hkl]
    | refine Sp2.f ?_ ?_
    | refine Spl.f ?_ ?_ <;> intro hb
    | refine qac rfl (fun b hb => ?_)
    | refine zaa (U := [[], [], [], [0], [], [], [], [], [0, 3, 4], [], []]) (H := [⟨0, [], .hole⟩, ⟨0, [], .hole⟩, ⟨0, [], .hole⟩]) zag (by kernel_rfl) (by decide +kernel) (by kernel_rfl) ?_)
      all_goals first
        | omega
        | (refine ⟨by omega, ?_⟩; omega)
        | (refine ⟨by omega, by omega, ?_⟩; omega)
        | skip
      exact ⟨Keeps.app _ _ _, View.mk' (es := l.take i ++ l.drop (i + 1)) [] (.inr ⟨by omega, by simp⟩) (za8 h _ 2) (by simp) (by rw [List.length_append, hlt, hld])⟩
  · have hc1 : (i ≤ 0) = False := eq_false (by omega)
    by_cases hy : m = 0
    · have hc2 : (i + m ≤ 0) = False := eq_false (by omega)
      have hc3 : (i + m ≤ i) = True := eq_true (by omega)
      repeat' (first
    | simp (implicitDefEqProofs := false) only [push_cast, reduceIte, reduceCtorEq, Nat.reduceAdd, Nat.reduceSub, Nat.reduceEqDiff, Nat.reduceLT, Nat.reduceLeDiff, Nat.reduceBEq, Nat.reduceMul, Int.reduceLT, Int.reduceLE, Int.reduceEq, Int.reduceToNat, Int.reduceMul, Int.reduceNeg, Go.Proofs.Try.f131, htt, htd, hm, hk, hkl, htk, hdr, hlt, hld, hi1, hi2, hi3, hc1, hc2, hc3, tn1, Nat.sub_zero, Nat.zero_le, Nat.le_refl, List.take_length, List.take_zero, List.drop_zero, Int.toNat_natCast, qaf hi9, zad, yae, qad, zae, zab, qae, sst, qab, qaa, yaa, zac, qaq, List.replicate_succ, List.drop_zero, zaf hkl, yad hkl, qak hkl, yaf hkl]
    | refine Sp2.f ?_ ?_
    | refine Spl.f ?_ ?_ <;> intro hb
    | refine qac rfl (fun b hb => ?_)
    | refine zaa (U := [[], [], [], [0], [], [], [], [], [0, 3, 4], [], []]) (H := [⟨0, [], .hole⟩, ⟨0, [], .hole⟩, ⟨0, [], .hole⟩]) zag (by kernel_rfl) (by decide +kernel) (by kernel_rfl) ?_)
      all_goals first
        | omega
        | (refine ⟨by omega, ?_⟩; omega)
        | (refine ⟨by omega, by omega, ?_⟩; omega)
        | skip
      exact ⟨Keeps.app _ _ _, View.mk' (es := l.take i ++ l.drop (i + 1)) [] (.inr ⟨by omega, by simp⟩) (za8 h _ 1) (by simp) (by rw [List.length_append, hlt, hld])⟩
    · have hc2 : (i + m ≤ 0) = False := eq_false (by omega)
      have hc3 : (i + m ≤ i) = False := eq_false (by omega)
      repeat' (first
    | simp (implicitDefEqProofs := false) only [push_cast, reduceIte, reduceCtorEq, Nat.reduceAdd, Nat.reduceSub, Nat.reduceEqDiff, Nat.reduceLT, Nat.reduceLeDiff, Nat.reduceBEq, Nat.reduceMul, Int.reduceLT, Int.reduceLE, Int.reduceEq, Int.reduceToNat, Int.reduceMul, Int.reduceNeg, Go.Proofs.Try.f131, htt, htd, hm, hk, hkl, htk, hdr, hlt, hld, hi1, hi2, hi3, hc1, hc2, hc3, tn1, Nat.sub_zero, Nat.zero_le, Nat.le_refl, List.take_length, List.take_zero, List.drop_zero, Int.toNat_natCast, qaf hi9, zad, yae, qad, zae, zab, qae, sst, qab, qaa, yaa, zac, qaq, List.replicate_succ, List.drop_zero, zaf hkl, yad hkl, qak hkl, yaf hkl]
    | refine Sp2.f ?_ ?_
    | refine Spl.f ?_ ?_ <;> intro hb
    | refine qac rfl (fun b hb => ?_)
    | refine zaa (U := [[], [], [], [0], [], [], [], [], [0, 3, 4], [], []]) (H := [⟨0, [], .hole⟩, ⟨0, [], .hole⟩, ⟨0, [], .hole⟩]) zag (by kernel_rfl) (by decide +kernel) (by kernel_rfl) ?_)
      all_goals first
        | omega
        | (refine ⟨by omega, ?_⟩; omega)
        | (refine ⟨by omega, by omega, ?_⟩; omega)
        | skip
      exact ⟨Keeps.app _ _ _, View.mk' (es := l.take i ++ l.drop (i + 1)) [] (.inr ⟨by omega, by simp⟩) (za8 h _ 2) (by simp) (by rw [List.length_append, hlt, hld])⟩
end Go.Abs
set_option linter.all false
set_option maxRecDepth 100000
set_option maxHeartbeats 0
namespace Go.Abs
open Go
open Go.Proofs.Try (prog)
def Gtn (f : FuncId) (args : List AV) (X : Nat → Prop) (k : Nat) (h : List Entry) (s' : Spc) (out' : List Rpl) : Prop :=
  FSpec prog f (.ref k [0] 132 :: args) h fun r' h' => r' = .tup [] ∧ GS (zbf X h h') k s' out' h' ∧ Keeps X h h'
theorem Gth.n {f : FuncId} {args : List AV} {X : Nat → Prop} {k : Nat} {h : List Entry} {s' : Spc} {out' : List Rpl} (m : Gth f args X k h s' out') : Gtn f args X k h s' out' := by
  obtain ⟨h', w1, w2, w3⟩ := m
  exact w3.mono fun r' h'' ⟨e1, e2⟩ => by subst e2; exact ⟨e1, w1, w2⟩
theorem qbj {f : FuncId} {args : List AV} {X : Nat → Prop} {k : Nat} {h : List Entry} {s' : Spc} {out' : List Rpl} {raw : List AV} {d : Option Tmp} {st : List Ctl} {env : Env} {Q : zau} (m : Gtn f args X k h s' out')
    (hk : ∀ h', GS (zbf X h h') k s' out' h' → Keeps X h h' → Rn prog st .normal (zbh env d (.tup [])) h' Q) : Rk prog f (.ref k [0] 132 :: args) raw d st env h Q :=
  zax m fun r' h' ⟨e, w1, w2⟩ => by rw [e]; exact hk h' w1 w2
theorem GS.up {X Y : Nat → Prop} {k : Nat} {s : Spc} {out : List Rpl} {h : List Entry} (hw : GS X k s out h) (hX : ∀ j, X j → Y j) (hb : ∀ j, Y j → j < h.length) : GS Y k s out h := by
  obtain ⟨b, o, vi, vw, vo, h1, h2, h3, h4⟩ := hw
  exact ⟨hb, hX _ o, vi, vw, vo, h1, h2.up hX, h3.up hX, h4.up hX⟩
theorem GS.app {X : Nat → Prop} {k : Nat} {s : Spc} {out : List Rpl} {h : List Entry} (hw : GS X k s out h) (l : List Entry) : GS X k s out (h ++ l) := by
  obtain ⟨b, o, vi, vw, vo, h1, h2, h3, h4⟩ := hw
  exact ⟨fun j hj => by have := b j hj; simp; omega, o, vi, vw, vo, by rw [List.getElem?_append_left (yac h1)]; exact h1, h2.app l, h3.app l, h4.app l⟩
theorem GS.seq {X : Nat → Prop} {h h1 h2 : List Entry} {k : Nat} {s : Spc} {out : List Rpl} (w : GS (zbf (zbf X h h1) h1 h2) k s out h2) (a : Keeps X h h1) (b : Keeps (zbf X h h1) h1 h2) : GS (zbf X h h2) k s out h2 := by
  rw [grow_grow a.len b.len] at w; exact w
theorem GS.unbox {X : Nat → Prop} {h l h' : List Entry} {k : Nat} {s : Spc} {out : List Rpl} (w : GS (zbf X (h ++ l) h') k s out h') (b : ∀ j, X j → j < h.length) (a : Keeps X (h ++ l) h') : GS (zbf X h h') k s out h' ∧ Keeps X h h' := by
  have hl := a.len
  simp only [List.length_append] at hl
  refine ⟨w.up (fun j hj => hj.elim .inl fun a => .inr ⟨by have := a.1; simp at this; omega, a.2⟩) (ya2 b (by omega)), ⟨by omega, fun j hj hx => ?_⟩⟩
  rw [a.old j (by simp; omega) hx, zad hj]
theorem GS.back {X X1 : Nat → Prop} {h HS h' : List Entry} {k : Nat} {s : Spc} {out : List Rpl} (w : GS (zbf X1 HS h') k s out h') (b : ∀ j, X j → j < h.length) (hX : ∀ j, X1 j → X j ∨ (h.length ≤ j ∧ j < HS.length)) (a : Keeps X1 HS h') (c : Keeps X h HS) : GS (zbf X h h') k s out h' ∧ Keeps X h h' := by
  have h1 := a.len
  have h2 := c.len
  refine ⟨w.up (fun j hj => hj.elim (fun hj => (hX j hj).elim .inl fun a => .inr ⟨a.1, by omega⟩) fun a => .inr ⟨by omega, a.2⟩) (ya2 b (by omega)), ⟨by omega, fun j hj hx => ?_⟩⟩
  rw [a.old j (by omega) (fun h1 => (hX j h1).elim hx fun a => by omega)]
  exact c.old j hj hx
theorem qat {X : Nat → Prop} {k : Nat} {s : Spc} {r : Req} {out : List Rpl} {h : List Entry} (kd : Int) (t : List Fld) (ht : t.length ≤ 4294967296) (hr : Rdy s r out) (hw : GS X k s out h) :
    Gth 91 [eQ r, .int .i64 kd, eFs t] X k h (ya1 s r kd t) (out ++ [rep r kd t]) := by
  obtain ⟨c, hc, hc4⟩ := qbn hr.rc
  have := c_Gtell0 kd t c hc hc4 hr.l4 ht (by have := hr.ol; omega) hw
  have e : r.Client.toNat = c := by rw [hc]; rfl
  rw [ya1, e]
  exact this
theorem c_Gout {X : Nat → Prop} {k : Nat} {s : Spc} {r : Req} {out : List Rpl} {h : List Entry} (ho : out.length < 1000) (hr : Rdy s r out) (hw : GS X k s out h) :
    Gtn 92 [eQ r] X k h (qa9 s r out).1 (qa9 s r out).2 := by
  have w0 := hw
  obtain ⟨b, o, vi, vw, vo, hk, h1, h2, h3⟩ := hw
  have hkl := yac hk
  have hcn := c_OwnG (c := r.Client) (by have := hr.il; omega) (h1.app [⟨60, [eQ r], .own⟩]) (h2.app [⟨60, [eQ r], .own⟩])
  have hlI : zcw prog 22 vi = .ret (.int .i64 s.Items.length) [] := by have := (GV.view h1).len (U := 22) zbr; simpa using this
  have gq0 : za7 (eQ r) [0] = some (.int .i64 r.Client) := rfl
  have w1 := w0.app [⟨60, [eQ r], .own⟩]
  refine frun_92 rfl ?_
  by_cases hI : 64 ≤ s.Items.length
  · have f1 : decide ((64 : Int) ≤ (s.Items.length : Int)) = true := by simp; omega
    have e : qa9 s r out = (ya1 s r 5 [], out ++ [rep r 5 []]) := by
      rw [qa9, if_pos]; simp only [qcs, del_all, Bool.or_eq_true]; exact .inl (decide_eq_true hI)
    rw [e]
    repeat' (first
    | simp (implicitDefEqProofs := false) only [push_cast, reduceIte, reduceCtorEq, Nat.reduceAdd, Nat.reduceSub, Nat.reduceEqDiff, Nat.reduceLT, Nat.reduceLeDiff, Nat.reduceBEq, Nat.reduceMul, Int.reduceLT, Int.reduceLE, Int.reduceEq, Int.reduceToNat, Int.reduceMul, Int.reduceNeg, Go.Proofs.Try.f92, hk, gE, hkl, gq0, hlI, f1, zay, zaz, yaz, yaq, zad, yae, qad, zae, zab, qae, sst, qab, qaa, yaa, zac, qaq, List.replicate_succ, List.drop_zero, zaf hkl, yad hkl, qak hkl, yaf hkl]
    | refine Sp2.f ?_ ?_
    | refine Spl.f ?_ ?_ <;> intro hb
    | refine qac rfl (fun b hb => ?_)
    | refine zaa (U := [[], [], [], [], [], [], [], [], [], [], [], [], [], [], [], [], []]) (H := []) zag (by kernel_rfl) (by decide +kernel) (by kernel_rfl) ?_
    | refine qbj (qat 5 [] (by simp) hr w1).n fun h1 w1 p1 => ?_)
    exact w1.unbox b p1
  · have f1 : decide ((64 : Int) ≤ (s.Items.length : Int)) = false := by simp; omega
    by_cases hc : 24 ≤ cnt s.Items r.Client
    · have f2 : decide ((24 : Int) ≤ (cnt s.Items r.Client : Int)) = true := by simp; omega
      have e : qa9 s r out = (ya1 s r 5 [], out ++ [rep r 5 []]) := by
        rw [qa9, if_pos]; simp only [qcs, del_all, Bool.or_eq_true]; exact .inr (decide_eq_true hc)
      rw [e]
      repeat' (first
    | simp (implicitDefEqProofs := false) only [push_cast, reduceIte, reduceCtorEq, Nat.reduceAdd, Nat.reduceSub, Nat.reduceEqDiff, Nat.reduceLT, Nat.reduceLeDiff, Nat.reduceBEq, Nat.reduceMul, Int.reduceLT, Int.reduceLE, Int.reduceEq, Int.reduceToNat, Int.reduceMul, Int.reduceNeg, Go.Proofs.Try.f92, hk, gE, hkl, gq0, hlI, f1, f2, zay, zaz, yaz, yaq, zad, yae, qad, zae, zab, qae, sst, qab, qaa, yaa, zac, qaq, List.replicate_succ, List.drop_zero, zaf hkl, yad hkl, qak hkl, yaf hkl]
    | refine Sp2.f ?_ ?_
    | refine Spl.f ?_ ?_ <;> intro hb
    | refine qac rfl (fun b hb => ?_)
    | refine zaa (U := [[], [], [], [], [], [], [], [], [], [], [], [], [], [], [], [], []]) (H := []) zag (by kernel_rfl) (by decide +kernel) (by kernel_rfl) ?_
    | refine yar hcn ?_
    | refine qbj (qat 5 [] (by simp) hr w1).n fun h1 w1 p1 => ?_)
      exact w1.unbox b p1
    · have f2 : decide ((24 : Int) ≤ (cnt s.Items r.Client : Int)) = false := by simp; omega
      have e : qa9 s r out = qa3 r [] s.Waiters (ya1 s r 1 []) (out ++ [rep r 1 []]) := by
        rw [qa9, if_neg]; simp only [qcs, del_all, Bool.not_eq_true, Bool.or_eq_false_iff]; exact ⟨decide_eq_false hI, decide_eq_false hc⟩
      rw [e]
      have hr1 := hr.tell 1 [] (out ++ [rep r 1 []]) (by simp; omega)
      obtain ⟨h2', w2, p2, sp2⟩ := qat 1 [] (by simp) hr w1
      have bx : h2'[h.length]? = some ⟨60, [eQ r], .own⟩ := p2.get (yas h _) (fun hx => by have := b _ hx; omega)
      have hbx := yac bx
      repeat' (first
    | simp (implicitDefEqProofs := false) only [push_cast, reduceIte, reduceCtorEq, Nat.reduceAdd, Nat.reduceSub, Nat.reduceEqDiff, Nat.reduceLT, Nat.reduceLeDiff, Nat.reduceBEq, Nat.reduceMul, Int.reduceLT, Int.reduceLE, Int.reduceEq, Int.reduceToNat, Int.reduceMul, Int.reduceNeg, Go.Proofs.Try.f92, hk, gE, hkl, gq0, hlI, f1, f2, bx, hbx, zay, zaz, yaz, yaq, zad, yae, qad, zae, zab, qae, sst, qab, qaa, yaa, zac, qaq, List.replicate_succ, List.drop_zero, zaf hkl, yad hkl, qak hkl, yaf hkl, zaf hbx, yad hbx, qak hbx, yaf hbx]
    | refine Sp2.f ?_ ?_
    | refine Spl.f ?_ ?_ <;> intro hb
    | refine qac rfl (fun b hb => ?_)
    | refine zaa (U := [[], [], [], [], [], [], [], [], [], [], [], [], [], [], [], [], []]) (H := []) zag (by kernel_rfl) (by decide +kernel) (by kernel_rfl) ?_
    | refine yar hcn ?_
    | refine qa1 sp2 ?_
    | refine qbj (c_Gput hr1 w2) fun h1 w3 p3 => ?_)
      exact (w3.seq p2 p3).unbox b (p2.trans p3)
theorem c_Greplace {X : Nat → Prop} {k : Nat} {s : Spc} {r : Req} {out : List Rpl} {h : List Entry} (ho : out.length < 1000) (h64 : s.Items.length ≤ 64) (hr : Rdy s r out) (hw : GS X k s out h) :
    Gtn 93 [eQ r] X k h (ybz s r out).1 (ybz s r out).2 := by
  have w0 := hw
  obtain ⟨b, o, vi, vw, vo, hk, h1, h2, h3⟩ := hw
  have hkl := yac hk
  have hfo := c_FindG (p := r.P) hr.small hr.rP (h1.app [⟨60, [eQ r], .own⟩]) (h2.app [⟨60, [eQ r], .own⟩])
  have gq0 : za7 (eQ r) [0] = some (.int .i64 r.Client) := rfl
  have gq3 : za7 (eQ r) [3] = some (eFs r.P) := rfl
  have w1 := w0.app [⟨60, [eQ r], .own⟩]
  refine frun_93 rfl ?_
  by_cases hat : za6 s r.P < 0
  · have e : ybz s r out = (ya1 s r 3 [], out ++ [rep r 3 []]) := by rw [ybz, if_pos hat]
    rw [e]
    have f1 : decide (za6 s r.P < 0) = true := by simpa using hat
    repeat' (first
    | simp (implicitDefEqProofs := false) only [push_cast, reduceIte, reduceCtorEq, Nat.reduceAdd, Nat.reduceSub, Nat.reduceEqDiff, Nat.reduceLT, Nat.reduceLeDiff, Nat.reduceBEq, Nat.reduceMul, Int.reduceLT, Int.reduceLE, Int.reduceEq, Int.reduceToNat, Int.reduceMul, Int.reduceNeg, Go.Proofs.Try.f93, hk, gE, hkl, gq0, gq3, f1, yak, qal, zak, zay, zaz, yaz, yaq, zad, yae, qad, zae, zab, qae, sst, qab, qaa, yaa, zac, qaq, List.replicate_succ, List.drop_zero, zaf hkl, yad hkl, qak hkl, yaf hkl]
    | refine Sp2.f ?_ ?_
    | refine Spl.f ?_ ?_ <;> intro hb
    | refine qac rfl (fun b hb => ?_)
    | refine zaa (U := [[], [], [], [], [], [], [], []]) (H := []) zag (by kernel_rfl) (by decide +kernel) (by kernel_rfl) ?_
    | refine yar hfo ?_
    | refine qbj (qat 3 [] (by simp) hr w1).n fun h1 w1 p1 => ?_)
    exact w1.unbox b p1
  · obtain ⟨i, x, hi, hx, hlt, _⟩ := qcq (p := fun y : Itm => ya6 r.P y.T) (l := s.Items) (by unfold za6 at hat; omega)
    change za6 s r.P = i at hi
    rw [hi] at hfo hat
    have f1 : decide ((i : Int) < 0) = false := by simp
    have hxT := hr.it x (List.mem_of_getElem? hx)
    have hgx : ∀ z, (s.Items.map eI ++ z)[i]? = some (eI x) := fun z => by rw [List.getElem?_append_left (by simpa using hlt), List.getElem?_map, hx]; rfl
    have gx2 : za7 (eI x) [2] = some (eFs x.T) := rfl
    have hme : (s.Items.eraseIdx i).map eI = (s.Items.map eI).eraseIdx i := (ydm eI s.Items i).symm
    have hll : (s.Items.map eI).length = s.Items.length := by simp
    have hvi := h1
    generalize hl0 : s.Items.map eI = l at hvi hgx hll hme
    cases hvi with
    | nil => simp at hll; omega
    | @win kw lo _ z hxw hkw =>
      have hkwl := yac hkw
      have hlt' : i < l.length := by omega
      have hne : kw ≠ k := by rintro rfl; rw [hk] at hkw; cases hkw
      repeat' (first
    | simp (implicitDefEqProofs := false) only [push_cast, reduceIte, reduceCtorEq, Nat.reduceAdd, Nat.reduceSub, Nat.reduceEqDiff, Nat.reduceLT, Nat.reduceLeDiff, Nat.reduceBEq, Nat.reduceMul, Int.reduceLT, Int.reduceLE, Int.reduceEq, Int.reduceToNat, Int.reduceMul, Int.reduceNeg, Go.Proofs.Try.f93, hk, hkw, hkwl, gE, hkl, gq0, gq3, gx2, f1, hgx, qaj hlt', Int.toNat_natCast, Nat.zero_add, yak, qal, zak, zay, zaz, yaz, yaq, zad, yae, qad, zae, zab, qae, sst, qab, qaa, yaa, zac, qaq, List.replicate_succ, List.drop_zero, zaf hkl, yad hkl, qak hkl, yaf hkl, zaf hkwl, yad hkwl, qak hkwl, yaf hkwl]
    | refine Sp2.f ?_ ?_
    | refine Spl.f ?_ ?_ <;> intro hb
    | refine qac rfl (fun b hb => ?_)
    | refine zaa (U := [[], [], [], [], [], [], [], []]) (H := []) zag (by kernel_rfl) (by decide +kernel) (by kernel_rfl) ?_
    | refine yar hfo ?_)
      have hH0 : (h ++ [(⟨60, [eQ r], .own⟩ : Entry), ⟨29, [.agg 29 [.int .i64 s.Now, .win kw [] 87 0 l.length lo, vw, .int .i64 s.Read, .int .i64 s.Write, eL s.Last]], .own⟩])[kw]? = some ⟨87, l ++ z, .own⟩ := by rw [zad hkwl]; exact hkw
      refine zax (c_without hH0 hlt' (by have := hr.il; omega)) fun v1 h1 ⟨kp1, vw1⟩ => ?_
      have a0 := kp1.get (e := gE s (.win kw [] 87 0 l.length lo) vw vo) (by rw [zad hkl]; exact hk) id
      have ab := kp1.get (yas h _) id
      have at6 := kp1.get (za8 h _ 1) id
      have hk1 := yac a0
      have hb1 := yac ab
      have ht1 := yac at6
      have v1t : tyB prog v1 22 = true := vw1.ty zbr
      have v1p := vw1.pl
      have iS : 29 ≠ 87 := by decide
      have wS : 29 ≠ 89 := by decide
      have rS : 29 ≠ 26 := by decide
      have iG : 132 ≠ 87 := by decide
      have wG : 132 ≠ 89 := by decide
      have rG : 132 ≠ 26 := by decide
      have hlen1 := kp1.len
      simp only [List.length_append, List.length_cons, List.length_nil] at hlen1
      have vwh : GV X h1 89 vw (s.Waiters.map eW) := h2.mono fun j es hx hj => kp1.get (by rw [zad (yac hj)]; exact hj) id
      have voh : View X h1 26 vo (out.map eR) := h3.mono (fun _ h => h) fun j es hx hj => kp1.get (by rw [zad (yac hj)]; exact hj) id
      have vih : View X h1 87 (.win kw [] 87 0 l.length lo) l := View.mk' z hxw (kp1.get hH0 id) rfl rfl
      rw [← hme] at vw1
      have hcn := fun E : Entry => c_OwnG (s := { s with Items := s.Items.eraseIdx i }) (c := r.Client) (h := h1.set (h.length + 1) E) (by have := hr.il; have := List.length_eraseIdx_le s.Items i; show (s.Items.eraseIdx i).length ≤ _; omega) (vw1.set at6 iS E) (vwh.set at6 wS E)
      have gb : ∀ E : Entry, (h1.set (h.length + 1) E)[h.length]? = some ⟨60, [eQ r], .own⟩ := fun E => by rw [qad (by omega)]; exact ab
      have gk : ∀ E : Entry, (h1.set (h.length + 1) E)[k]? = some (gE s (.win kw [] 87 0 l.length lo) vw vo) := fun E => by rw [qad (by omega)]; exact a0
      have g6 : ∀ E : Entry, (h1.set (h.length + 1) E)[h.length + 1]? = some E := fun E => zae ht1
      have kpE : ∀ E : Entry, Keeps X h (h1.set (h.length + 1) E) := fun E => ⟨by rw [zab]; omega, fun j hj hx => by rw [qad (by omega)]; exact (kp1.old j (by simp; omega) id).trans (zad hj)⟩
      have hdl : del s.Items (i : Int) = s.Items.eraseIdx i := del_at _ _
      by_cases hc : 24 ≤ cnt (s.Items.eraseIdx i) r.Client
      · have f2 : decide ((24 : Int) ≤ (cnt (s.Items.eraseIdx i) r.Client : Int)) = true := by simp; omega
        have e : ybz s r out = (ya1 s r 5 [], out ++ [rep r 5 []]) := by
          rw [ybz, hi, if_neg (by omega), if_pos]
          simp only [qcs, hdl, Bool.or_eq_true]; exact .inr (decide_eq_true hc)
        rw [e]
        have wT : ∀ E : Entry, GS X k s out (h1.set (h.length + 1) E) := fun E => ⟨fun j hj => by have := b j hj; rw [zab]; omega, o, _, vw, vo, gk E, by rw [hl0]; exact vih.set at6 iS E, vwh.set at6 wS E, voh.set at6 rS E⟩
        repeat' (first
    | simp (implicitDefEqProofs := false) only [push_cast, reduceIte, reduceCtorEq, Nat.reduceAdd, Nat.reduceSub, Nat.reduceEqDiff, Nat.reduceLT, Nat.reduceLeDiff, Nat.reduceBEq, Nat.reduceMul, Int.reduceLT, Int.reduceLE, Int.reduceEq, Int.reduceToNat, Int.reduceMul, Int.reduceNeg, Go.Proofs.Try.f93, a0, ab, at6, hk1, hb1, ht1, v1t, v1p, gb, gk, g6, f2, gE, gq0, gq3, gx2, yak, qal, zak, zay, zaz, yaz, yaq, Int.toNat_natCast, zad, yae, qad, zae, zab, qae, sst, qab, qaa, yaa, zac, qaq, List.replicate_succ, List.drop_zero]
    | refine Sp2.f ?_ ?_
    | refine Spl.f ?_ ?_ <;> intro hb
    | refine qac rfl (fun b hb => ?_)
    | refine zaa (U := [[], [], [], [], [], [], [], []]) (H := []) zag (by kernel_rfl) (by decide +kernel) (by kernel_rfl) ?_
    | refine qa1 (hcn _) ?_
    | refine qbj (qat 5 [] (by simp) hr (wT _)).n fun h2 w2 p2 => ?_)
        exact w2.back b (fun j hj => .inl hj) p2 (kpE _)
      · have f2 : decide ((24 : Int) ≤ (cnt (s.Items.eraseIdx i) r.Client : Int)) = false := by simp; omega
        have hd64 : ¬ 64 ≤ (s.Items.eraseIdx i).length := by rw [List.length_eraseIdx, if_pos hlt]; omega
        have e : ybz s r out = qa3 r [] s.Waiters (ya1 { s with Items := s.Items.eraseIdx i } r 2 x.T) (out ++ [rep r 2 x.T]) := by
          rw [ybz, hi, if_neg (by omega), if_neg, Int.toNat_natCast, getD_some hx]
          · rfl
          · simp only [qcs, hdl, Bool.not_eq_true, Bool.or_eq_false_iff]; exact ⟨decide_eq_false hd64, decide_eq_false hc⟩
        rw [e]
        have kk : ∀ E E' : Entry, ((h1.set (h.length + 1) E).set k E')[k]? = some E' := fun E E' => zae (by rw [zab]; exact hk1)
        have kb : ∀ E E' : Entry, ((h1.set (h.length + 1) E).set k E')[h.length]? = some ⟨60, [eQ r], .own⟩ := fun E E' => by rw [qad (by omega)]; exact gb E
        have kpE2 : ∀ E E' : Entry, Keeps X h ((h1.set (h.length + 1) E).set k E') := fun E E' => ⟨by rw [zab]; exact (kpE E).len, fun j hj hx => by rw [qad (by rintro rfl; exact hx o)]; exact (kpE E).old j hj hx⟩
        have hrS : Rdy { s with Items := s.Items.eraseIdx i } r out := hr.take i
        have wT : ∀ E : Entry, GS (fun j => X j ∨ (h.length + 2 ≤ j ∧ j < h1.length)) k { s with Items := s.Items.eraseIdx i } out ((h1.set (h.length + 1) E).set k (gE { s with Items := s.Items.eraseIdx i } v1 vw vo)) := fun E =>
          ⟨fun j hj => by rw [zab, zab]; exact hj.elim (fun hx => by have := b j hx; omega) And.right, .inl o, v1, vw, vo, kk _ _,
            ((vw1.set at6 iS E).set (gk E) iG _).up (fun j hj => hj.elim False.elim fun a => .inr ⟨by have := a.1; simp at this; omega, a.2⟩),
            ((vwh.set at6 wS E).set (gk E) wG _).up (fun j hj => .inl hj), ((voh.set at6 rS E).set (gk E) rG _).up (fun j hj => .inl hj)⟩
        obtain ⟨h2', w2, p2, sp2⟩ := qat 2 x.T hxT hrS (wT ⟨29, [.agg 29 [.int .i64 s.Now, v1, vw, .int .i64 s.Read, .int .i64 s.Write, eL s.Last]], .own⟩)
        have bx2 : h2'[h.length]? = some ⟨60, [eQ r], .own⟩ := p2.get (kb _ _) (fun hx => hx.elim (fun hx => by have := b _ hx; omega) fun a => by omega)
        have hbx2 := yac bx2
        have hr1 := hrS.tell 2 x.T (out ++ [rep r 2 x.T]) (by simp; omega)
        repeat' (first
    | simp (implicitDefEqProofs := false) only [push_cast, reduceIte, reduceCtorEq, Nat.reduceAdd, Nat.reduceSub, Nat.reduceEqDiff, Nat.reduceLT, Nat.reduceLeDiff, Nat.reduceBEq, Nat.reduceMul, Int.reduceLT, Int.reduceLE, Int.reduceEq, Int.reduceToNat, Int.reduceMul, Int.reduceNeg, Go.Proofs.Try.f93, a0, ab, at6, hk1, hb1, ht1, v1t, v1p, gb, gk, g6, kk, kb, f2, bx2, hbx2, gE, gq0, gq3, gx2, yak, qal, zak, zay, zaz, yaz, yaq, Int.toNat_natCast, zad, yae, qad, zae, zab, qae, sst, qab, qaa, yaa, zac, qaq, List.replicate_succ, List.drop_zero]
    | refine Sp2.f ?_ ?_
    | refine Spl.f ?_ ?_ <;> intro hb
    | refine qac rfl (fun b hb => ?_)
    | refine zaa (U := [[], [], [], [], [], [], [], []]) (H := []) zag (by kernel_rfl) (by decide +kernel) (by kernel_rfl) ?_
    | refine qa1 (hcn _) ?_
    | refine qa1 sp2 ?_
    | refine qbj (c_Gput hr1 w2) fun h3 w3 p3 => ?_)
        exact (w3.seq p2 p3).back b (fun j hj => hj.elim .inl fun a => .inr ⟨by omega, by rw [zab, zab]; exact a.2⟩) (p2.trans p3) (kpE2 _ _)
theorem c_Glook {X : Nat → Prop} {k : Nat} {s : Spc} {r : Req} {out : List Rpl} {h : List Entry} (hkd : r.Kind = 2 ∨ r.Kind = 3 ∨ r.Kind = 4 ∨ r.Kind = 5) (ho : out.length < 1000) (h16 : s.Waiters.length ≤ 16) (hr : Rdy s r out) (hw : GS X k s out h) :
    Gtn 95 [eQ r] X k h (qa8 s r out (r.Kind == 3 || r.Kind == 5) (r.Kind == 4 || r.Kind == 5)).1 (qa8 s r out (r.Kind == 3 || r.Kind == 5) (r.Kind == 4 || r.Kind == 5)).2 := by
  have w0 := hw
  obtain ⟨b, o, vi, vw, vo, hk, h1, h2, h3⟩ := hw
  have hkl := yac hk
  have hfo := c_FindG (p := r.P) hr.small hr.rP (h1.app [⟨60, [eQ r], .own⟩]) (h2.app [⟨60, [eQ r], .own⟩])
  have gq0 : za7 (eQ r) [0] = some (.int .i64 r.Client) := rfl
  have gq1 : za7 (eQ r) [1] = some (.int .i64 r.Seq) := rfl
  have gq2 : za7 (eQ r) [2] = some (.int .i64 r.Kind) := rfl
  have gq3 : za7 (eQ r) [3] = some (eFs r.P) := rfl
  have w1 := w0.app [⟨60, [eQ r], .own⟩]
  have iG : 132 ≠ 87 := by decide
  have wG : 132 ≠ 89 := by decide
  have rG : 132 ≠ 26 := by decide
  obtain ⟨takes, htk⟩ : ∃ t, t = (r.Kind == 3 || r.Kind == 5) := ⟨_, rfl⟩
  obtain ⟨waits, hwt⟩ : ∃ t, t = (r.Kind == 4 || r.Kind == 5) := ⟨_, rfl⟩
  rw [← htk, ← hwt]
  refine frun_95 rfl ?_
  by_cases hat : 0 ≤ za6 s r.P
  · obtain ⟨i, x, hi, hx, hlt, _⟩ := qcq hat
    change za6 s r.P = i at hi
    rw [hi] at hfo
    have f1 : decide ((0 : Int) ≤ (i : Int)) = true := by simp
    have hxT := hr.it x (List.mem_of_getElem? hx)
    have e : qa8 s r out takes waits = (if takes = true then { ya1 s r 2 x.T with Items := s.Items.eraseIdx i } else ya1 s r 2 x.T, out ++ [rep r 2 x.T]) := by
      rw [qa8, if_pos hat, hi, Int.toNat_natCast, getD_some hx]
    rw [e]
    have hgx : ∀ z, (s.Items.map eI ++ z)[i]? = some (eI x) := fun z => by rw [List.getElem?_append_left (by simpa using hlt), List.getElem?_map, hx]; rfl
    have gx2 : za7 (eI x) [2] = some (eFs x.T) := rfl
    have hme : (s.Items.eraseIdx i).map eI = (s.Items.map eI).eraseIdx i := (ydm eI s.Items i).symm
    have hll : (s.Items.map eI).length = s.Items.length := by simp
    have hvi := h1
    generalize hl0 : s.Items.map eI = l at hvi hgx hll hme
    cases hvi with
    | nil => simp at hll; omega
    | @win kw lo _ z hxw hkw =>
      have hkwl := yac hkw
      have hlt' : i < l.length := by omega
      have hne : kw ≠ k := by rintro rfl; rw [hk] at hkw; cases hkw
      rcases hkd with hkd | hkd | hkd | hkd
      · have f2 : (r.Kind == 2) = true := by simp [hkd]
        have f3 : (r.Kind == 3) = false := by simp [hkd]
        have f5 : (r.Kind == 5) = false := by simp [hkd]
        have ht : takes = false := by rw [htk, f3, f5]; rfl
        rw [ht, if_neg (by decide)]
        repeat' (first
    | simp (implicitDefEqProofs := false) only [push_cast, reduceIte, reduceCtorEq, Nat.reduceAdd, Nat.reduceSub, Nat.reduceEqDiff, Nat.reduceLT, Nat.reduceLeDiff, Nat.reduceBEq, Nat.reduceMul, Int.reduceLT, Int.reduceLE, Int.reduceEq, Int.reduceToNat, Int.reduceMul, Int.reduceNeg, Go.Proofs.Try.f95, hkw, hkwl, gx2, f1, hgx, qaj hlt', hk, gE, hkl, gq0, gq1, gq2, gq3, f2, f3, f5, yak, qal, zak, zay, zaz, yaz, yaq, Int.toNat_natCast, Nat.zero_add, zad, yae, qad, zae, zab, qae, sst, qab, qaa, yaa, zac, qaq, List.replicate_succ, List.drop_zero, zaf hkl, yad hkl, qak hkl, yaf hkl, zaf hkwl, yad hkwl, qak hkwl, yaf hkwl]
    | refine Sp2.f ?_ ?_
    | refine Spl.f ?_ ?_ <;> intro hb
    | refine qac rfl (fun b hb => ?_)
    | refine zaa (U := [[], [], [], [], [], [], [], []]) (H := []) zag (by kernel_rfl) (by decide +kernel) (by kernel_rfl) ?_
    | refine zaa (U := [[], [], [], [], [], [], [1], [], [], [1, 7], [], [1, 7], [], [1, 7], [], [], [1, 7], [], [1, 6, 7], [], [], [], [], []]) (H := [⟨0, [], .hole⟩, ⟨0, [], .hole⟩, ⟨0, [], .hole⟩, ⟨0, [], .hole⟩]) zag (by kernel_rfl) (by decide +kernel) (by kernel_rfl) ?_
    | refine yar hfo ?_
    | refine qbj (qat 2 x.T hxT hr w1).n fun h1 w1 p1 => ?_)
        exact w1.unbox b p1
      · have f2 : (r.Kind == 2) = false := by simp [hkd]
        have f3 : (r.Kind == 3) = true := by simp [hkd]
        have f5 : (r.Kind == 5) = false := by simp [hkd]
        have ht : takes = true := by rw [htk, f3]; rfl
        rw [ht, if_pos rfl]
        have hH0 : (h ++ [(⟨60, [eQ r], .own⟩ : Entry)])[kw]? = some ⟨87, l ++ z, .own⟩ := by rw [zad hkwl]; exact hkw
        repeat' (first
    | simp (implicitDefEqProofs := false) only [push_cast, reduceIte, reduceCtorEq, Nat.reduceAdd, Nat.reduceSub, Nat.reduceEqDiff, Nat.reduceLT, Nat.reduceLeDiff, Nat.reduceBEq, Nat.reduceMul, Int.reduceLT, Int.reduceLE, Int.reduceEq, Int.reduceToNat, Int.reduceMul, Int.reduceNeg, Go.Proofs.Try.f95, hkw, hkwl, gx2, f1, hgx, qaj hlt', hk, gE, hkl, gq0, gq1, gq2, gq3, f2, f3, f5, yak, qal, zak, zay, zaz, yaz, yaq, Int.toNat_natCast, Nat.zero_add, zad, yae, qad, zae, zab, qae, sst, qab, qaa, yaa, zac, qaq, List.replicate_succ, List.drop_zero, zaf hkl, yad hkl, qak hkl, yaf hkl, zaf hkwl, yad hkwl, qak hkwl, yaf hkwl]
    | refine Sp2.f ?_ ?_
    | refine Spl.f ?_ ?_ <;> intro hb
    | refine qac rfl (fun b hb => ?_)
    | refine zaa (U := [[], [], [], [], [], [], [], []]) (H := []) zag (by kernel_rfl) (by decide +kernel) (by kernel_rfl) ?_
    | refine zaa (U := [[], [], [], [], [], [], [1], [], [], [1, 7], [], [1, 7], [], [1, 7], [], [], [1, 7], [], [1, 6, 7], [], [], [], [], []]) (H := [⟨0, [], .hole⟩, ⟨0, [], .hole⟩, ⟨0, [], .hole⟩, ⟨0, [], .hole⟩]) zag (by kernel_rfl) (by decide +kernel) (by kernel_rfl) ?_
    | refine yar hfo ?_)
        refine zax (c_without hH0 hlt' (by have := hr.il; omega)) fun v1 h1 ⟨kp1, vw1⟩ => ?_
        have a0 := kp1.get (e := gE s (.win kw [] 87 0 l.length lo) vw vo) (by rw [zad hkl]; exact hk) id
        have ab := kp1.get (yas h _) id
        have hk1 := yac a0
        have hb1 := yac ab
        have v1t : tyB prog v1 22 = true := vw1.ty zbr
        have v1p := vw1.pl
        have hlen1 := kp1.len
        simp only [List.length_append, List.length_cons, List.length_nil] at hlen1
        have vwh : GV X h1 89 vw (s.Waiters.map eW) := h2.mono fun j es hx hj => kp1.get (by rw [zad (yac hj)]; exact hj) id
        have voh : View X h1 26 vo (out.map eR) := h3.mono (fun _ h => h) fun j es hx hj => kp1.get (by rw [zad (yac hj)]; exact hj) id
        rw [← hme] at vw1
        have kk : ∀ E : Entry, (h1.set k E)[k]? = some E := fun E => zae hk1
        have kb : ∀ E : Entry, (h1.set k E)[h.length]? = some ⟨60, [eQ r], .own⟩ := fun E => by rw [qad (by omega)]; exact ab
        have kpE : ∀ E : Entry, Keeps X h (h1.set k E) := fun E => ⟨by rw [zab]; omega, fun j hj hx => by rw [qad (by rintro rfl; exact hx o)]; exact (kp1.old j (by simp; omega) id).trans (zad hj)⟩
        have hrS : Rdy { s with Items := s.Items.eraseIdx i } r out := hr.take i
        have wT : GS (fun j => X j ∨ (h.length + 1 ≤ j ∧ j < h1.length)) k { s with Items := s.Items.eraseIdx i } out (h1.set k (gE { s with Items := s.Items.eraseIdx i } v1 vw vo)) :=
          ⟨fun j hj => by rw [zab]; exact hj.elim (fun hx => by have := b j hx; omega) And.right, .inl o, v1, vw, vo, kk _,
            (vw1.set a0 iG _).up (fun j hj => hj.elim False.elim fun a => .inr ⟨by have := a.1; simp at this; omega, a.2⟩),
            (vwh.set a0 wG _).up (fun j hj => .inl hj), (voh.set a0 rG _).up (fun j hj => .inl hj)⟩
        repeat' (first
    | simp (implicitDefEqProofs := false) only [push_cast, reduceIte, reduceCtorEq, Nat.reduceAdd, Nat.reduceSub, Nat.reduceEqDiff, Nat.reduceLT, Nat.reduceLeDiff, Nat.reduceBEq, Nat.reduceMul, Int.reduceLT, Int.reduceLE, Int.reduceEq, Int.reduceToNat, Int.reduceMul, Int.reduceNeg, Go.Proofs.Try.f95, a0, ab, hk1, hb1, v1t, v1p, kk, kb, gE, gq0, gq1, gq2, gq3, f2, f3, f5, yak, qal, zak, zay, zaz, yaz, yaq, zad, yae, qad, zae, zab, qae, sst, qab, qaa, yaa, zac, qaq, List.replicate_succ, List.drop_zero]
    | refine Sp2.f ?_ ?_
    | refine Spl.f ?_ ?_ <;> intro hb
    | refine qac rfl (fun b hb => ?_)
    | refine zaa (U := [[], [], [], [], [], [], [], []]) (H := []) zag (by kernel_rfl) (by decide +kernel) (by kernel_rfl) ?_
    | refine zaa (U := [[], [], [], [], [], [], [1], [], [], [1, 7], [], [1, 7], [], [1, 7], [], [], [1, 7], [], [1, 6, 7], [], [], [], [], []]) (H := [⟨0, [], .hole⟩, ⟨0, [], .hole⟩, ⟨0, [], .hole⟩, ⟨0, [], .hole⟩]) zag (by kernel_rfl) (by decide +kernel) (by kernel_rfl) ?_
    | refine qbj (qat 2 x.T hxT hrS wT).n fun h2 w2 p2 => ?_)
        exact w2.back b (fun j hj => hj.elim .inl fun a => .inr ⟨by omega, by rw [zab]; exact a.2⟩) p2 (kpE _)
      · have f2 : (r.Kind == 2) = false := by simp [hkd]
        have f3 : (r.Kind == 3) = false := by simp [hkd]
        have f5 : (r.Kind == 5) = false := by simp [hkd]
        have ht : takes = false := by rw [htk, f3, f5]; rfl
        rw [ht, if_neg (by decide)]
        repeat' (first
    | simp (implicitDefEqProofs := false) only [push_cast, reduceIte, reduceCtorEq, Nat.reduceAdd, Nat.reduceSub, Nat.reduceEqDiff, Nat.reduceLT, Nat.reduceLeDiff, Nat.reduceBEq, Nat.reduceMul, Int.reduceLT, Int.reduceLE, Int.reduceEq, Int.reduceToNat, Int.reduceMul, Int.reduceNeg, Go.Proofs.Try.f95, hkw, hkwl, gx2, f1, hgx, qaj hlt', hk, gE, hkl, gq0, gq1, gq2, gq3, f2, f3, f5, yak, qal, zak, zay, zaz, yaz, yaq, Int.toNat_natCast, Nat.zero_add, zad, yae, qad, zae, zab, qae, sst, qab, qaa, yaa, zac, qaq, List.replicate_succ, List.drop_zero, zaf hkl, yad hkl, qak hkl, yaf hkl, zaf hkwl, yad hkwl, qak hkwl, yaf hkwl]
    | refine Sp2.f ?_ ?_
    | refine Spl.f ?_ ?_ <;> intro hb
    | refine qac rfl (fun b hb => ?_)
    | refine zaa (U := [[], [], [], [], [], [], [], []]) (H := []) zag (by kernel_rfl) (by decide +kernel) (by kernel_rfl) ?_
    | refine zaa (U := [[], [], [], [], [], [], [1], [], [], [1, 7], [], [1, 7], [], [1, 7], [], [], [1, 7], [], [1, 6, 7], [], [], [], [], []]) (H := [⟨0, [], .hole⟩, ⟨0, [], .hole⟩, ⟨0, [], .hole⟩, ⟨0, [], .hole⟩]) zag (by kernel_rfl) (by decide +kernel) (by kernel_rfl) ?_
    | refine yar hfo ?_
    | refine qbj (qat 2 x.T hxT hr w1).n fun h1 w1 p1 => ?_)
        exact w1.unbox b p1
      · have f2 : (r.Kind == 2) = false := by simp [hkd]
        have f3 : (r.Kind == 3) = false := by simp [hkd]
        have f5 : (r.Kind == 5) = true := by simp [hkd]
        have ht : takes = true := by rw [htk, f3, f5]; rfl
        rw [ht, if_pos rfl]
        have hH0 : (h ++ [(⟨60, [eQ r], .own⟩ : Entry)])[kw]? = some ⟨87, l ++ z, .own⟩ := by rw [zad hkwl]; exact hkw
        repeat' (first
    | simp (implicitDefEqProofs := false) only [push_cast, reduceIte, reduceCtorEq, Nat.reduceAdd, Nat.reduceSub, Nat.reduceEqDiff, Nat.reduceLT, Nat.reduceLeDiff, Nat.reduceBEq, Nat.reduceMul, Int.reduceLT, Int.reduceLE, Int.reduceEq, Int.reduceToNat, Int.reduceMul, Int.reduceNeg, Go.Proofs.Try.f95, hkw, hkwl, gx2, f1, hgx, qaj hlt', hk, gE, hkl, gq0, gq1, gq2, gq3, f2, f3, f5, yak, qal, zak, zay, zaz, yaz, yaq, Int.toNat_natCast, Nat.zero_add, zad, yae, qad, zae, zab, qae, sst, qab, qaa, yaa, zac, qaq, List.replicate_succ, List.drop_zero, zaf hkl, yad hkl, qak hkl, yaf hkl, zaf hkwl, yad hkwl, qak hkwl, yaf hkwl]
    | refine Sp2.f ?_ ?_
    | refine Spl.f ?_ ?_ <;> intro hb
    | refine qac rfl (fun b hb => ?_)
    | refine zaa (U := [[], [], [], [], [], [], [], []]) (H := []) zag (by kernel_rfl) (by decide +kernel) (by kernel_rfl) ?_
    | refine zaa (U := [[], [], [], [], [], [], [1], [], [], [1, 7], [], [1, 7], [], [1, 7], [], [], [1, 7], [], [1, 6, 7], [], [], [], [], []]) (H := [⟨0, [], .hole⟩, ⟨0, [], .hole⟩, ⟨0, [], .hole⟩, ⟨0, [], .hole⟩]) zag (by kernel_rfl) (by decide +kernel) (by kernel_rfl) ?_
    | refine yar hfo ?_)
        refine zax (c_without hH0 hlt' (by have := hr.il; omega)) fun v1 h1 ⟨kp1, vw1⟩ => ?_
        have a0 := kp1.get (e := gE s (.win kw [] 87 0 l.length lo) vw vo) (by rw [zad hkl]; exact hk) id
        have ab := kp1.get (yas h _) id
        have hk1 := yac a0
        have hb1 := yac ab
        have v1t : tyB prog v1 22 = true := vw1.ty zbr
        have v1p := vw1.pl
        have hlen1 := kp1.len
        simp only [List.length_append, List.length_cons, List.length_nil] at hlen1
        have vwh : GV X h1 89 vw (s.Waiters.map eW) := h2.mono fun j es hx hj => kp1.get (by rw [zad (yac hj)]; exact hj) id
        have voh : View X h1 26 vo (out.map eR) := h3.mono (fun _ h => h) fun j es hx hj => kp1.get (by rw [zad (yac hj)]; exact hj) id
        rw [← hme] at vw1
        have kk : ∀ E : Entry, (h1.set k E)[k]? = some E := fun E => zae hk1
        have kb : ∀ E : Entry, (h1.set k E)[h.length]? = some ⟨60, [eQ r], .own⟩ := fun E => by rw [qad (by omega)]; exact ab
        have kpE : ∀ E : Entry, Keeps X h (h1.set k E) := fun E => ⟨by rw [zab]; omega, fun j hj hx => by rw [qad (by rintro rfl; exact hx o)]; exact (kp1.old j (by simp; omega) id).trans (zad hj)⟩
        have hrS : Rdy { s with Items := s.Items.eraseIdx i } r out := hr.take i
        have wT : GS (fun j => X j ∨ (h.length + 1 ≤ j ∧ j < h1.length)) k { s with Items := s.Items.eraseIdx i } out (h1.set k (gE { s with Items := s.Items.eraseIdx i } v1 vw vo)) :=
          ⟨fun j hj => by rw [zab]; exact hj.elim (fun hx => by have := b j hx; omega) And.right, .inl o, v1, vw, vo, kk _,
            (vw1.set a0 iG _).up (fun j hj => hj.elim False.elim fun a => .inr ⟨by have := a.1; simp at this; omega, a.2⟩),
            (vwh.set a0 wG _).up (fun j hj => .inl hj), (voh.set a0 rG _).up (fun j hj => .inl hj)⟩
        repeat' (first
    | simp (implicitDefEqProofs := false) only [push_cast, reduceIte, reduceCtorEq, Nat.reduceAdd, Nat.reduceSub, Nat.reduceEqDiff, Nat.reduceLT, Nat.reduceLeDiff, Nat.reduceBEq, Nat.reduceMul, Int.reduceLT, Int.reduceLE, Int.reduceEq, Int.reduceToNat, Int.reduceMul, Int.reduceNeg, Go.Proofs.Try.f95, a0, ab, hk1, hb1, v1t, v1p, kk, kb, gE, gq0, gq1, gq2, gq3, f2, f3, f5, yak, qal, zak, zay, zaz, yaz, yaq, zad, yae, qad, zae, zab, qae, sst, qab, qaa, yaa, zac, qaq, List.replicate_succ, List.drop_zero]
    | refine Sp2.f ?_ ?_
    | refine Spl.f ?_ ?_ <;> intro hb
    | refine qac rfl (fun b hb => ?_)
    | refine zaa (U := [[], [], [], [], [], [], [], []]) (H := []) zag (by kernel_rfl) (by decide +kernel) (by kernel_rfl) ?_
    | refine zaa (U := [[], [], [], [], [], [], [1], [], [], [1, 7], [], [1, 7], [], [1, 7], [], [], [1, 7], [], [1, 6, 7], [], [], [], [], []]) (H := [⟨0, [], .hole⟩, ⟨0, [], .hole⟩, ⟨0, [], .hole⟩, ⟨0, [], .hole⟩]) zag (by kernel_rfl) (by decide +kernel) (by kernel_rfl) ?_
    | refine qbj (qat 2 x.T hxT hrS wT).n fun h2 w2 p2 => ?_)
        exact w2.back b (fun j hj => hj.elim .inl fun a => .inr ⟨by omega, by rw [zab]; exact a.2⟩) p2 (kpE _)
  · have f1 : decide ((0 : Int) ≤ za6 s r.P) = false := by simpa using hat
    have hlW : zcw prog 23 vw = .ret (.int .i64 s.Waiters.length) [] := by have := h2.len (U := 23) ybs; simpa using this
    rcases hkd with hkd | hkd | hkd | hkd
    · have f2 : (r.Kind == 2) = true := by simp [hkd]
      have f3 : (r.Kind == 3) = false := by simp [hkd]
      have f5 : (r.Kind == 5) = false := by simp [hkd]
      have hw0 : waits = false := by rw [hwt, f5, hkd]; rfl
      have e : qa8 s r out takes waits = (ya1 s r 3 [], out ++ [rep r 3 []]) := by rw [hw0, qa8, if_neg hat, if_pos rfl]
      rw [e]
      repeat' (first
    | simp (implicitDefEqProofs := false) only [push_cast, reduceIte, reduceCtorEq, Nat.reduceAdd, Nat.reduceSub, Nat.reduceEqDiff, Nat.reduceLT, Nat.reduceLeDiff, Nat.reduceBEq, Nat.reduceMul, Int.reduceLT, Int.reduceLE, Int.reduceEq, Int.reduceToNat, Int.reduceMul, Int.reduceNeg, Go.Proofs.Try.f95, f1, hk, gE, hkl, gq0, gq1, gq2, gq3, f2, f3, f5, yak, qal, zak, zay, zaz, yaz, yaq, Int.toNat_natCast, Nat.zero_add, zad, yae, qad, zae, zab, qae, sst, qab, qaa, yaa, zac, qaq, List.replicate_succ, List.drop_zero, zaf hkl, yad hkl, qak hkl, yaf hkl]
    | refine Sp2.f ?_ ?_
    | refine Spl.f ?_ ?_ <;> intro hb
    | refine qac rfl (fun b hb => ?_)
    | refine zaa (U := [[], [], [], [], [], [], [], []]) (H := []) zag (by kernel_rfl) (by decide +kernel) (by kernel_rfl) ?_
    | refine zaa (U := [[], [], [], [], [], [], [1], [], [], [1, 7], [], [1, 7], [], [1, 7], [], [], [1, 7], [], [1, 6, 7], [], [], [], [], []]) (H := [⟨0, [], .hole⟩, ⟨0, [], .hole⟩, ⟨0, [], .hole⟩, ⟨0, [], .hole⟩]) zag (by kernel_rfl) (by decide +kernel) (by kernel_rfl) ?_
    | refine yar hfo ?_
    | refine qbj (qat 3 [] (by simp) hr w1).n fun h1 w1 p1 => ?_)
      exact w1.unbox b p1
    · have f2 : (r.Kind == 2) = false := by simp [hkd]
      have f3 : (r.Kind == 3) = true := by simp [hkd]
      have f5 : (r.Kind == 5) = false := by simp [hkd]
      have hw0 : waits = false := by rw [hwt, f5, hkd]; rfl
      have e : qa8 s r out takes waits = (ya1 s r 3 [], out ++ [rep r 3 []]) := by rw [hw0, qa8, if_neg hat, if_pos rfl]
      rw [e]
      repeat' (first
    | simp (implicitDefEqProofs := false) only [push_cast, reduceIte, reduceCtorEq, Nat.reduceAdd, Nat.reduceSub, Nat.reduceEqDiff, Nat.reduceLT, Nat.reduceLeDiff, Nat.reduceBEq, Nat.reduceMul, Int.reduceLT, Int.reduceLE, Int.reduceEq, Int.reduceToNat, Int.reduceMul, Int.reduceNeg, Go.Proofs.Try.f95, f1, hk, gE, hkl, gq0, gq1, gq2, gq3, f2, f3, f5, yak, qal, zak, zay, zaz, yaz, yaq, Int.toNat_natCast, Nat.zero_add, zad, yae, qad, zae, zab, qae, sst, qab, qaa, yaa, zac, qaq, List.replicate_succ, List.drop_zero, zaf hkl, yad hkl, qak hkl, yaf hkl]
    | refine Sp2.f ?_ ?_
    | refine Spl.f ?_ ?_ <;> intro hb
    | refine qac rfl (fun b hb => ?_)
    | refine zaa (U := [[], [], [], [], [], [], [], []]) (H := []) zag (by kernel_rfl) (by decide +kernel) (by kernel_rfl) ?_
    | refine zaa (U := [[], [], [], [], [], [], [1], [], [], [1, 7], [], [1, 7], [], [1, 7], [], [], [1, 7], [], [1, 6, 7], [], [], [], [], []]) (H := [⟨0, [], .hole⟩, ⟨0, [], .hole⟩, ⟨0, [], .hole⟩, ⟨0, [], .hole⟩]) zag (by kernel_rfl) (by decide +kernel) (by kernel_rfl) ?_
    | refine yar hfo ?_
    | refine qbj (qat 3 [] (by simp) hr w1).n fun h1 w1 p1 => ?_)
      exact w1.unbox b p1
    · have f2 : (r.Kind == 2) = false := by simp [hkd]
      have f3 : (r.Kind == 3) = false := by simp [hkd]
      have f5 : (r.Kind == 5) = false := by simp [hkd]
      have hw0 : waits = true := by rw [hwt, f5, hkd]; rfl
      have ht : takes = false := by rw [htk, f3, f5]; rfl
      rw [hw0, ht]
      by_cases h16 : 16 ≤ s.Waiters.length
      · have f16 : decide ((16 : Int) ≤ (s.Waiters.length : Int)) = true := by simp; omega
        have e : qa8 s r out false true = (ya1 s r 5 [], out ++ [rep r 5 []]) := by rw [qa8, if_neg hat, if_neg (by decide), if_pos h16]
        rw [e]
        repeat' (first
    | simp (implicitDefEqProofs := false) only [push_cast, reduceIte, reduceCtorEq, Nat.reduceAdd, Nat.reduceSub, Nat.reduceEqDiff, Nat.reduceLT, Nat.reduceLeDiff, Nat.reduceBEq, Nat.reduceMul, Int.reduceLT, Int.reduceLE, Int.reduceEq, Int.reduceToNat, Int.reduceMul, Int.reduceNeg, Go.Proofs.Try.f95, f1, f16, hlW, hk, gE, hkl, gq0, gq1, gq2, gq3, f2, f3, f5, yak, qal, zak, zay, zaz, yaz, yaq, Int.toNat_natCast, Nat.zero_add, zad, yae, qad, zae, zab, qae, sst, qab, qaa, yaa, zac, qaq, List.replicate_succ, List.drop_zero, zaf hkl, yad hkl, qak hkl, yaf hkl]
    | refine Sp2.f ?_ ?_
    | refine Spl.f ?_ ?_ <;> intro hb
    | refine qac rfl (fun b hb => ?_)
    | refine zaa (U := [[], [], [], [], [], [], [], []]) (H := []) zag (by kernel_rfl) (by decide +kernel) (by kernel_rfl) ?_
    | refine zaa (U := [[], [], [], [], [], [], [1], [], [], [1, 7], [], [1, 7], [], [1, 7], [], [], [1, 7], [], [1, 6, 7], [], [], [], [], []]) (H := [⟨0, [], .hole⟩, ⟨0, [], .hole⟩, ⟨0, [], .hole⟩, ⟨0, [], .hole⟩]) zag (by kernel_rfl) (by decide +kernel) (by kernel_rfl) ?_
    | refine yar hfo ?_
    | refine qbj (qat 5 [] (by simp) hr w1).n fun h1 w1 p1 => ?_)
        exact w1.unbox b p1
      · have f16 : decide ((16 : Int) ≤ (s.Waiters.length : Int)) = false := by simp; omega
        have e : qa8 s r out false true = (ya1 { s with Waiters := s.Waiters ++ [(⟨r.Client, r.Seq, false, r.P⟩ : Wtr)] } r 4 [], out ++ [rep r 4 []]) := by rw [qa8, if_neg hat, if_neg (by decide), if_neg h16]
        rw [e]
        have hrW : Rdy { s with Waiters := s.Waiters ++ [(⟨r.Client, r.Seq, false, r.P⟩ : Wtr)] } r out := ⟨hr.l4, by simp; omega, hr.il, hr.ol, fun y hy => by
          rcases List.mem_append.1 hy with hy | hy
          · exact hr.cl y hy
          · simp only [List.mem_singleton] at hy; subst hy; exact ⟨hr.rc, hr.rP⟩, hr.it, hr.now, hr.rc, hr.rT, hr.rP, hr.ls⟩
        have hmw : (s.Waiters ++ [(⟨r.Client, r.Seq, false, r.P⟩ : Wtr)]).map eW = s.Waiters.map eW ++ [.agg 89 [.int .i64 r.Client, .int .i64 r.Seq, .bool false, eFs r.P]] := by simp [eW]
        have hsm : (s.Waiters.map eW).length ≤ 16 := by simp; omega
        have wT : ∀ (v : AV) (L : List Entry), View (fun j => h.length ≤ j ∧ j < h.length + L.length) (h.set k (gE { s with Waiters := s.Waiters ++ [(⟨r.Client, r.Seq, false, r.P⟩ : Wtr)] } vi v vo) ++ L) 89 v ((s.Waiters ++ [(⟨r.Client, r.Seq, false, r.P⟩ : Wtr)]).map eW) →
            GS (zbf X h (h.set k (gE { s with Waiters := s.Waiters ++ [(⟨r.Client, r.Seq, false, r.P⟩ : Wtr)] } vi v vo) ++ L)) k { s with Waiters := s.Waiters ++ [(⟨r.Client, r.Seq, false, r.P⟩ : Wtr)] } out (h.set k (gE { s with Waiters := s.Waiters ++ [(⟨r.Client, r.Seq, false, r.P⟩ : Wtr)] } vi v vo) ++ L) := fun v L hv =>
          ⟨ya2 b (by simp), .inl o, vi, v, vo, by rw [zad (by simpa using hkl)]; exact zae hkl, ((h1.set hk iG _).app _).up za4, .view (hv.up fun j hj => .inr ⟨hj.1, by simp; omega⟩), ((h3.set hk rG _).app _).up za4⟩
        rw [hmw] at wT
        have h2' := h2
        generalize hlw : s.Waiters.map eW = lw at h2' hmw hsm wT
        have hwl : lw.length = s.Waiters.length := by rw [← hlw]; simp
        cases h2' with
        | flat =>
          by_cases hz : lw = []
          · subst hz
            repeat' (first
    | simp (implicitDefEqProofs := false) only [push_cast, reduceIte, reduceCtorEq, Nat.reduceAdd, Nat.reduceSub, Nat.reduceEqDiff, Nat.reduceLT, Nat.reduceLeDiff, Nat.reduceBEq, Nat.reduceMul, Int.reduceLT, Int.reduceLE, Int.reduceEq, Int.reduceToNat, Int.reduceMul, Int.reduceNeg, Go.Proofs.Try.f95, zda, Nat.zero_le, f1, f16, hlW, hk, gE, hkl, gq0, gq1, gq2, gq3, f2, f3, f5, yak, qal, zak, zay, zaz, yaz, yaq, Int.toNat_natCast, Nat.zero_add, zad, yae, qad, zae, zab, qae, sst, qab, qaa, yaa, zac, qaq, List.replicate_succ, List.drop_zero, zaf hkl, yad hkl, qak hkl, yaf hkl]
    | refine Sp2.f ?_ ?_
    | refine Spl.f ?_ ?_ <;> intro hb
    | refine qac rfl (fun b hb => ?_)
    | refine zaa (U := [[], [], [], [], [], [], [], []]) (H := []) zag (by kernel_rfl) (by decide +kernel) (by kernel_rfl) ?_
    | refine zaa (U := [[], [], [], [], [], [], [1], [], [], [1, 7], [], [1, 7], [], [1, 7], [], [], [1, 7], [], [1, 6, 7], [], [], [], [], []]) (H := [⟨0, [], .hole⟩, ⟨0, [], .hole⟩, ⟨0, [], .hole⟩, ⟨0, [], .hole⟩]) zag (by kernel_rfl) (by decide +kernel) (by kernel_rfl) ?_
    | refine yar hfo ?_
    | refine qbj (qat 4 [] (by simp) hrW (wT _ _ (View.mk' (es := [.agg 89 [.int .i64 r.Client, .int .i64 r.Seq, .bool false, eFs r.P]]) [] ⟨by omega, by simp⟩ qab (by simp) (by simp)))).n fun h2 w2 p2 => ?_)
            exact ⟨w2.seq (Keeps.sets o _ _) p2, (Keeps.sets o _ _).trans p2⟩
          · have hz1 : (lw.length ≤ 0) = False := by simp; exact hz
            have hz2 : (lw.length + 1 ≤ lw.length) = False := by simp
            repeat' (first
    | simp (implicitDefEqProofs := false) only [push_cast, reduceIte, reduceCtorEq, Nat.reduceAdd, Nat.reduceSub, Nat.reduceEqDiff, Nat.reduceLT, Nat.reduceLeDiff, Nat.reduceBEq, Nat.reduceMul, Int.reduceLT, Int.reduceLE, Int.reduceEq, Int.reduceToNat, Int.reduceMul, Int.reduceNeg, Go.Proofs.Try.f95, zda, List.take_length, hz1, hz2, f1, f16, hlW, hk, gE, hkl, gq0, gq1, gq2, gq3, f2, f3, f5, yak, qal, zak, zay, zaz, yaz, yaq, Int.toNat_natCast, Nat.zero_add, zad, yae, qad, zae, zab, qae, sst, qab, qaa, yaa, zac, qaq, List.replicate_succ, List.drop_zero, zaf hkl, yad hkl, qak hkl, yaf hkl]
    | refine Sp2.f ?_ ?_
    | refine Spl.f ?_ ?_ <;> intro hb
    | refine qac rfl (fun b hb => ?_)
    | refine zaa (U := [[], [], [], [], [], [], [], []]) (H := []) zag (by kernel_rfl) (by decide +kernel) (by kernel_rfl) ?_
    | refine zaa (U := [[], [], [], [], [], [], [1], [], [], [1, 7], [], [1, 7], [], [1, 7], [], [], [1, 7], [], [1, 6, 7], [], [], [], [], []]) (H := [⟨0, [], .hole⟩, ⟨0, [], .hole⟩, ⟨0, [], .hole⟩, ⟨0, [], .hole⟩]) zag (by kernel_rfl) (by decide +kernel) (by kernel_rfl) ?_
    | refine yar hfo ?_
    | refine qbj (qat 4 [] (by simp) hrW (wT _ _ (View.mk' (es := lw ++ [.agg 89 [.int .i64 r.Client, .int .i64 r.Seq, .bool false, eFs r.P]]) [] ⟨by omega, by simp⟩ qab (by simp) (by simp)))).n fun h2 w2 p2 => ?_)
            all_goals first
              | omega
              | skip
            exact ⟨w2.seq (Keeps.sets o _ _) p2, (Keeps.sets o _ _).trans p2⟩
        | view hv =>
          cases hv with
          | nil =>
            repeat' (first
    | simp (implicitDefEqProofs := false) only [push_cast, reduceIte, reduceCtorEq, Nat.reduceAdd, Nat.reduceSub, Nat.reduceEqDiff, Nat.reduceLT, Nat.reduceLeDiff, Nat.reduceBEq, Nat.reduceMul, Int.reduceLT, Int.reduceLE, Int.reduceEq, Int.reduceToNat, Int.reduceMul, Int.reduceNeg, Go.Proofs.Try.f95, zda, Nat.zero_le, f1, f16, hlW, hk, gE, hkl, gq0, gq1, gq2, gq3, f2, f3, f5, yak, qal, zak, zay, zaz, yaz, yaq, Int.toNat_natCast, Nat.zero_add, zad, yae, qad, zae, zab, qae, sst, qab, qaa, yaa, zac, qaq, List.replicate_succ, List.drop_zero, zaf hkl, yad hkl, qak hkl, yaf hkl]
    | refine Sp2.f ?_ ?_
    | refine Spl.f ?_ ?_ <;> intro hb
    | refine qac rfl (fun b hb => ?_)
    | refine zaa (U := [[], [], [], [], [], [], [], []]) (H := []) zag (by kernel_rfl) (by decide +kernel) (by kernel_rfl) ?_
    | refine zaa (U := [[], [], [], [], [], [], [1], [], [], [1, 7], [], [1, 7], [], [1, 7], [], [], [1, 7], [], [1, 6, 7], [], [], [], [], []]) (H := [⟨0, [], .hole⟩, ⟨0, [], .hole⟩, ⟨0, [], .hole⟩, ⟨0, [], .hole⟩]) zag (by kernel_rfl) (by decide +kernel) (by kernel_rfl) ?_
    | refine yar hfo ?_
    | refine qbj (qat 4 [] (by simp) hrW (wT _ _ (View.mk' (es := [.agg 89 [.int .i64 r.Client, .int .i64 r.Seq, .bool false, eFs r.P]]) [] ⟨by omega, by simp⟩ qab (by simp) (by simp)))).n fun h2 w2 p2 => ?_)
            exact ⟨w2.seq (Keeps.sets o _ _) p2, (Keeps.sets o _ _).trans p2⟩
          | @win kw lo _ z hxw hkw =>
            have hkwl := yac hkw
            have hne : kw ≠ k := by rintro rfl; rw [hk] at hkw; cases hkw
            have htkw : (lw ++ z).take lw.length = lw := by simp
            have hle2 : lw.length ≤ (lw ++ z).length := by simp
            by_cases hz : lw = []
            · subst hz
              repeat' (first
    | simp (implicitDefEqProofs := false) only [push_cast, reduceIte, reduceCtorEq, Nat.reduceAdd, Nat.reduceSub, Nat.reduceEqDiff, Nat.reduceLT, Nat.reduceLeDiff, Nat.reduceBEq, Nat.reduceMul, Int.reduceLT, Int.reduceLE, Int.reduceEq, Int.reduceToNat, Int.reduceMul, Int.reduceNeg, Go.Proofs.Try.f95, zda, Nat.zero_le, hkw, hkwl, hle2, qds hne, qds (Ne.symm hne), f1, f16, hlW, hk, gE, hkl, gq0, gq1, gq2, gq3, f2, f3, f5, yak, qal, zak, zay, zaz, yaz, yaq, Int.toNat_natCast, Nat.zero_add, zad, yae, qad, zae, zab, qae, sst, qab, qaa, yaa, zac, qaq, List.replicate_succ, List.drop_zero, zaf hkl, yad hkl, qak hkl, yaf hkl, zaf hkwl, yad hkwl, qak hkwl, yaf hkwl]
    | refine Sp2.f ?_ ?_
    | refine Spl.f ?_ ?_ <;> intro hb
    | refine qac rfl (fun b hb => ?_)
    | refine zaa (U := [[], [], [], [], [], [], [], []]) (H := []) zag (by kernel_rfl) (by decide +kernel) (by kernel_rfl) ?_
    | refine zaa (U := [[], [], [], [], [], [], [1], [], [], [1, 7], [], [1, 7], [], [1, 7], [], [], [1, 7], [], [1, 6, 7], [], [], [], [], []]) (H := [⟨0, [], .hole⟩, ⟨0, [], .hole⟩, ⟨0, [], .hole⟩, ⟨0, [], .hole⟩]) zag (by kernel_rfl) (by decide +kernel) (by kernel_rfl) ?_
    | refine yar hfo ?_
    | refine qbj (qat 4 [] (by simp) hrW (wT _ _ (View.mk' (es := [.agg 89 [.int .i64 r.Client, .int .i64 r.Seq, .bool false, eFs r.P]]) [] ⟨by omega, by simp⟩ qab (by simp) (by simp)))).n fun h2 w2 p2 => ?_)
              exact ⟨w2.seq (Keeps.sets o _ _) p2, (Keeps.sets o _ _).trans p2⟩
            · have hz1 : (lw.length ≤ 0) = False := by simp; exact hz
              have hz2 : (lw.length + 1 ≤ lw.length) = False := by simp
              repeat' (first
    | simp (implicitDefEqProofs := false) only [push_cast, reduceIte, reduceCtorEq, Nat.reduceAdd, Nat.reduceSub, Nat.reduceEqDiff, Nat.reduceLT, Nat.reduceLeDiff, Nat.reduceBEq, Nat.reduceMul, Int.reduceLT, Int.reduceLE, Int.reduceEq, Int.reduceToNat, Int.reduceMul, Int.reduceNeg, Go.Proofs.Try.f95, zda, List.take_length, hkw, hkwl, htkw, hle2, hz1, hz2, qds hne, qds (Ne.symm hne), f1, f16, hlW, hk, gE, hkl, gq0, gq1, gq2, gq3, f2, f3, f5, yak, qal, zak, zay, zaz, yaz, yaq, Int.toNat_natCast, Nat.zero_add, zad, yae, qad, zae, zab, qae, sst, qab, qaa, yaa, zac, qaq, List.replicate_succ, List.drop_zero, zaf hkl, yad hkl, qak hkl, yaf hkl, zaf hkwl, yad hkwl, qak hkwl, yaf hkwl]
    | refine Sp2.f ?_ ?_
    | refine Spl.f ?_ ?_ <;> intro hb
    | refine qac rfl (fun b hb => ?_)
    | refine zaa (U := [[], [], [], [], [], [], [], []]) (H := []) zag (by kernel_rfl) (by decide +kernel) (by kernel_rfl) ?_
    | refine zaa (U := [[], [], [], [], [], [], [1], [], [], [1, 7], [], [1, 7], [], [1, 7], [], [], [1, 7], [], [1, 6, 7], [], [], [], [], []]) (H := [⟨0, [], .hole⟩, ⟨0, [], .hole⟩, ⟨0, [], .hole⟩, ⟨0, [], .hole⟩]) zag (by kernel_rfl) (by decide +kernel) (by kernel_rfl) ?_
    | refine yar hfo ?_
    | refine qbj (qat 4 [] (by simp) hrW (wT _ _ (View.mk' (es := lw ++ [.agg 89 [.int .i64 r.Client, .int .i64 r.Seq, .bool false, eFs r.P]]) [] ⟨by omega, by simp⟩ qab (by simp) (by simp)))).n fun h2 w2 p2 => ?_)
              all_goals first
                | omega
                | skip
              exact ⟨w2.seq (Keeps.sets o _ _) p2, (Keeps.sets o _ _).trans p2⟩
    · have f2 : (r.Kind == 2) = false := by simp [hkd]
      have f3 : (r.Kind == 3) = false := by simp [hkd]
      have f5 : (r.Kind == 5) = true := by simp [hkd]
      have hw0 : waits = true := by rw [hwt, f5, hkd]; rfl
      have ht : takes = true := by rw [htk, f3, f5]; rfl
      rw [hw0, ht]
      by_cases h16 : 16 ≤ s.Waiters.length
      · have f16 : decide ((16 : Int) ≤ (s.Waiters.length : Int)) = true := by simp; omega
        have e : qa8 s r out true true = (ya1 s r 5 [], out ++ [rep r 5 []]) := by rw [qa8, if_neg hat, if_neg (by decide), if_pos h16]
        rw [e]
        repeat' (first
    | simp (implicitDefEqProofs := false) only [push_cast, reduceIte, reduceCtorEq, Nat.reduceAdd, Nat.reduceSub, Nat.reduceEqDiff, Nat.reduceLT, Nat.reduceLeDiff, Nat.reduceBEq, Nat.reduceMul, Int.reduceLT, Int.reduceLE, Int.reduceEq, Int.reduceToNat, Int.reduceMul, Int.reduceNeg, Go.Proofs.Try.f95, f1, f16, hlW, hk, gE, hkl, gq0, gq1, gq2, gq3, f2, f3, f5, yak, qal, zak, zay, zaz, yaz, yaq, Int.toNat_natCast, Nat.zero_add, zad, yae, qad, zae, zab, qae, sst, qab, qaa, yaa, zac, qaq, List.replicate_succ, List.drop_zero, zaf hkl, yad hkl, qak hkl, yaf hkl]
    | refine Sp2.f ?_ ?_
    | refine Spl.f ?_ ?_ <;> intro hb
    | refine qac rfl (fun b hb => ?_)
    | refine zaa (U := [[], [], [], [], [], [], [], []]) (H := []) zag (by kernel_rfl) (by decide +kernel) (by kernel_rfl) ?_
    | refine zaa (U := [[], [], [], [], [], [], [1], [], [], [1, 7], [], [1, 7], [], [1, 7], [], [], [1, 7], [], [1, 6, 7], [], [], [], [], []]) (H := [⟨0, [], .hole⟩, ⟨0, [], .hole⟩, ⟨0, [], .hole⟩, ⟨0, [], .hole⟩]) zag (by kernel_rfl) (by decide +kernel) (by kernel_rfl) ?_
    | refine yar hfo ?_
    | refine qbj (qat 5 [] (by simp) hr w1).n fun h1 w1 p1 => ?_)
        exact w1.unbox b p1
      · have f16 : decide ((16 : Int) ≤ (s.Waiters.length : Int)) = false := by simp; omega
        have e : qa8 s r out true true = (ya1 { s with Waiters := s.Waiters ++ [(⟨r.Client, r.Seq, true, r.P⟩ : Wtr)] } r 4 [], out ++ [rep r 4 []]) := by rw [qa8, if_neg hat, if_neg (by decide), if_neg h16]
        rw [e]
        have hrW : Rdy { s with Waiters := s.Waiters ++ [(⟨r.Client, r.Seq, true, r.P⟩ : Wtr)] } r out := ⟨hr.l4, by simp; omega, hr.il, hr.ol, fun y hy => by
          rcases List.mem_append.1 hy with hy | hy
          · exact hr.cl y hy
          · simp only [List.mem_singleton] at hy; subst hy; exact ⟨hr.rc, hr.rP⟩, hr.it, hr.now, hr.rc, hr.rT, hr.rP, hr.ls⟩
        have hmw : (s.Waiters ++ [(⟨r.Client, r.Seq, true, r.P⟩ : Wtr)]).map eW = s.Waiters.map eW ++ [.agg 89 [.int .i64 r.Client, .int .i64 r.Seq, .bool true, eFs r.P]] := by simp [eW]
        have hsm : (s.Waiters.map eW).length ≤ 16 := by simp; omega
        have wT : ∀ (v : AV) (L : List Entry), View (fun j => h.length ≤ j ∧ j < h.length + L.length) (h.set k (gE { s with Waiters := s.Waiters ++ [(⟨r.Client, r.Seq, true, r.P⟩ : Wtr)] } vi v vo) ++ L) 89 v ((s.Waiters ++ [(⟨r.Client, r.Seq, true, r.P⟩ : Wtr)]).map eW) →
            GS (zbf X h (h.set k (gE { s with Waiters := s.Waiters ++ [(⟨r.Client, r.Seq, true, r.P⟩ : Wtr)] } vi v vo) ++ L)) k { s with Waiters := s.Waiters ++ [(⟨r.Client, r.Seq, true, r.P⟩ : Wtr)] } out (h.set k (gE { s with Waiters := s.Waiters ++ [(⟨r.Client, r.Seq, true, r.P⟩ : Wtr)] } vi v vo) ++ L) := fun v L hv =>
          ⟨ya2 b (by simp), .inl o, vi, v, vo, by rw [zad (by simpa using hkl)]; exact zae hkl, ((h1.set hk iG _).app _).up za4, .view (hv.up fun j hj => .inr ⟨hj.1, by simp; omega⟩), ((h3.set hk rG _).app _).up za4⟩
        rw [hmw] at wT
        have h2' := h2
        generalize hlw : s.Waiters.map eW = lw at h2' hmw hsm wT
        have hwl : lw.length = s.Waiters.length := by rw [← hlw]; simp
        cases h2' with
        | flat =>
          by_cases hz : lw = []
          · subst hz
            repeat' (first
    | simp (implicitDefEqProofs := false) only [push_cast, reduceIte, reduceCtorEq, Nat.reduceAdd, Nat.reduceSub, Nat.reduceEqDiff, Nat.reduceLT, Nat.reduceLeDiff, Nat.reduceBEq, Nat.reduceMul, Int.reduceLT, Int.reduceLE, Int.reduceEq, Int.reduceToNat, Int.reduceMul, Int.reduceNeg, Go.Proofs.Try.f95, zda, Nat.zero_le, f1, f16, hlW, hk, gE, hkl, gq0, gq1, gq2, gq3, f2, f3, f5, yak, qal, zak, zay, zaz, yaz, yaq, Int.toNat_natCast, Nat.zero_add, zad, yae, qad, zae, zab, qae, sst, qab, qaa, yaa, zac, qaq, List.replicate_succ, List.drop_zero, zaf hkl, yad hkl, qak hkl, yaf hkl]
    | refine Sp2.f ?_ ?_
    | refine Spl.f ?_ ?_ <;> intro hb
    | refine qac rfl (fun b hb => ?_)
    | refine zaa (U := [[], [], [], [], [], [], [], []]) (H := []) zag (by kernel_rfl) (by decide +kernel) (by kernel_rfl) ?_
    | refine zaa (U := [[], [], [], [], [], [], [1], [], [], [1, 7], [], [1, 7], [], [1, 7], [], [], [1, 7], [], [1, 6, 7], [], [], [], [], []]) (H := [⟨0, [], .hole⟩, ⟨0, [], .hole⟩, ⟨0, [], .hole⟩, ⟨0, [], .hole⟩]) zag (by kernel_rfl) (by decide +kernel) (by kernel_rfl) ?_
    | refine yar hfo ?_
    | refine qbj (qat 4 [] (by simp) hrW (wT _ _ (View.mk' (es := [.agg 89 [.int .i64 r.Client, .int .i64 r.Seq, .bool true, eFs r.P]]) [] ⟨by omega, by simp⟩ qab (by simp) (by simp)))).n fun h2 w2 p2 => ?_)
            exact ⟨w2.seq (Keeps.sets o _ _) p2, (Keeps.sets o _ _).trans p2⟩
          · have hz1 : (lw.length ≤ 0) = False := by simp; exact hz
            have hz2 : (lw.length + 1 ≤ lw.length) = False := by simp
            repeat' (first
    | simp (implicitDefEqProofs := false) only [push_cast, reduceIte, reduceCtorEq, Nat.reduceAdd, Nat.reduceSub, Nat.reduceEqDiff, Nat.reduceLT, Nat.reduceLeDiff, Nat.reduceBEq, Nat.reduceMul, Int.reduceLT, Int.reduceLE, Int.reduceEq, Int.reduceToNat, Int.reduceMul, Int.reduceNeg, Go.Proofs.Try.f95, zda, List.take_length, hz1, hz2, f1, f16, hlW, hk, gE, hkl, gq0, gq1, gq2, gq3, f2, f3, f5, yak, qal, zak, zay, zaz, yaz, yaq, Int.toNat_natCast, Nat.zero_add, zad, yae, qad, zae, zab, qae, sst, qab, qaa, yaa, zac, qaq, List.replicate_succ, List.drop_zero, zaf hkl, yad hkl, qak hkl, yaf hkl]
    | refine Sp2.f ?_ ?_
    | refine Spl.f ?_ ?_ <;> intro hb
    | refine qac rfl (fun b hb => ?_)
    | refine zaa (U := [[], [], [], [], [], [], [], []]) (H := []) zag (by kernel_rfl) (by decide +kernel) (by kernel_rfl) ?_
    | refine zaa (U := [[], [], [], [], [], [], [1], [], [], [1, 7], [], [1, 7], [], [1, 7], [], [], [1, 7], [], [1, 6, 7], [], [], [], [], []]) (H := [⟨0, [], .hole⟩, ⟨0, [], .hole⟩, ⟨0, [], .hole⟩, ⟨0, [], .hole⟩]) zag (by kernel_rfl) (by decide +kernel) (by kernel_rfl) ?_
    | refine yar hfo ?_
    | refine qbj (qat 4 [] (by simp) hrW (wT _ _ (View.mk' (es := lw ++ [.agg 89 [.int .i64 r.Client, .int .i64 r.Seq, .bool true, eFs r.P]]) [] ⟨by omega, by simp⟩ qab (by simp) (by simp)))).n fun h2 w2 p2 => ?_)
            all_goals first
              | omega
              | skip
            exact ⟨w2.seq (Keeps.sets o _ _) p2, (Keeps.sets o _ _).trans p2⟩
        | view hv =>
          cases hv with
          | nil =>
            repeat' (first
    | simp (implicitDefEqProofs := false) only [push_cast, reduceIte, reduceCtorEq, Nat.reduceAdd, Nat.reduceSub, Nat.reduceEqDiff, Nat.reduceLT, Nat.reduceLeDiff, Nat.reduceBEq, Nat.reduceMul, Int.reduceLT, Int.reduceLE, Int.reduceEq, Int.reduceToNat, Int.reduceMul, Int.reduceNeg, Go.Proofs.Try.f95, zda, Nat.zero_le, f1, f16, hlW, hk, gE, hkl, gq0, gq1, gq2, gq3, f2, f3, f5, yak, qal, zak, zay, zaz, yaz, yaq, Int.toNat_natCast, Nat.zero_add, zad, yae, qad, zae, zab, qae, sst, qab, qaa, yaa, zac, qaq, List.replicate_succ, List.drop_zero, zaf hkl, yad hkl, qak hkl, yaf hkl]
    | refine Sp2.f ?_ ?_
    | refine Spl.f ?_ ?_ <;> intro hb
    | refine qac rfl (fun b hb => ?_)
    | refine zaa (U := [[], [], [], [], [], [], [], []]) (H := []) zag (by kernel_rfl) (by decide +kernel) (by kernel_rfl) ?_
    | refine zaa (U := [[], [], [], [], [], [], [1], [], [], [1, 7], [], [1, 7], [], [1, 7], [], [], [1, 7], [], [1, 6, 7], [], [], [], [], []]) (H := [⟨0, [], .hole⟩, ⟨0, [], .hole⟩, ⟨0, [], .hole⟩, ⟨0, [], .hole⟩]) zag (by kernel_rfl) (by decide +kernel) (by kernel_rfl) ?_
    | refine yar hfo ?_
    | refine qbj (qat 4 [] (by simp) hrW (wT _ _ (View.mk' (es := [.agg 89 [.int .i64 r.Client, .int .i64 r.Seq, .bool true, eFs r.P]]) [] ⟨by omega, by simp⟩ qab (by simp) (by simp)))).n fun h2 w2 p2 => ?_)
            exact ⟨w2.seq (Keeps.sets o _ _) p2, (Keeps.sets o _ _).trans p2⟩
          | @win kw lo _ z hxw hkw =>
            have hkwl := yac hkw
            have hne : kw ≠ k := by rintro rfl; rw [hk] at hkw; cases hkw
            have htkw : (lw ++ z).take lw.length = lw := by simp
            have hle2 : lw.length ≤ (lw ++ z).length := by simp
            by_cases hz : lw = []
            · subst hz
              repeat' (first
    | simp (implicitDefEqProofs := false) only [push_cast, reduceIte, reduceCtorEq, Nat.reduceAdd, Nat.reduceSub, Nat.reduceEqDiff, Nat.reduceLT, Nat.reduceLeDiff, Nat.reduceBEq, Nat.reduceMul, Int.reduceLT, Int.reduceLE, Int.reduceEq, Int.reduceToNat, Int.reduceMul, Int.reduceNeg, Go.Proofs.Try.f95, zda, Nat.zero_le, hkw, hkwl, hle2, qds hne, qds (Ne.symm hne), f1, f16, hlW, hk, gE, hkl, gq0, gq1, gq2, gq3, f2, f3, f5, yak, qal, zak, zay, zaz, yaz, yaq, Int.toNat_natCast, Nat.zero_add, zad, yae, qad, zae, zab, qae, sst, qab, qaa, yaa, zac, qaq, List.replicate_succ, List.drop_zero, zaf hkl, yad hkl, qak hkl, yaf hkl, zaf hkwl, yad hkwl, qak hkwl, yaf hkwl]
    | refine Sp2.f ?_ ?_
    | refine Spl.f ?_ ?_ <;> intro hb
    | refine qac rfl (fun b hb => ?_)
    | refine zaa (U := [[], [], [], [], [], [], [], []]) (H := []) zag (by kernel_rfl) (by decide +kernel) (by kernel_rfl) ?_
    | refine zaa (U := [[], [], [], [], [], [], [1], [], [], [1, 7], [], [1, 7], [], [1, 7], [], [], [1, 7], [], [1, 6, 7], [], [], [], [], []]) (H := [⟨0, [], .hole⟩, ⟨0, [], .hole⟩, ⟨0, [], .hole⟩, ⟨0, [], .hole⟩]) zag (by kernel_rfl) (by decide +kernel) (by kernel_rfl) ?_
    | refine yar hfo ?_
    | refine qbj (qat 4 [] (by simp) hrW (wT _ _ (View.mk' (es := [.agg 89 [.int .i64 r.Client, .int .i64 r.Seq, .bool true, eFs r.P]]) [] ⟨by omega, by simp⟩ qab (by simp) (by simp)))).n fun h2 w2 p2 => ?_)
              exact ⟨w2.seq (Keeps.sets o _ _) p2, (Keeps.sets o _ _).trans p2⟩
            · have hz1 : (lw.length ≤ 0) = False := by simp; exact hz
              have hz2 : (lw.length + 1 ≤ lw.length) = False := by simp
              repeat' (first
    | simp (implicitDefEqProofs := false) only [push_cast, reduceIte, reduceCtorEq, Nat.reduceAdd, Nat.reduceSub, Nat.reduceEqDiff, Nat.reduceLT, Nat.reduceLeDiff, Nat.reduceBEq, Nat.reduceMul, Int.reduceLT, Int.reduceLE, Int.reduceEq, Int.reduceToNat, Int.reduceMul, Int.reduceNeg, Go.Proofs.Try.f95, zda, List.take_length, hkw, hkwl, htkw, hle2, hz1, hz2, qds hne, qds (Ne.symm hne), f1, f16, hlW, hk, gE, hkl, gq0, gq1, gq2, gq3, f2, f3, f5, yak, qal, zak, zay, zaz, yaz, yaq, Int.toNat_natCast, Nat.zero_add, zad, yae, qad, zae, zab, qae, sst, qab, qaa, yaa, zac, qaq, List.replicate_succ, List.drop_zero, zaf hkl, yad hkl, qak hkl, yaf hkl, zaf hkwl, yad hkwl, qak hkwl, yaf hkwl]
    | refine Sp2.f ?_ ?_
    | refine Spl.f ?_ ?_ <;> intro hb
    | refine qac rfl (fun b hb => ?_)
    | refine zaa (U := [[], [], [], [], [], [], [], []]) (H := []) zag (by kernel_rfl) (by decide +kernel) (by kernel_rfl) ?_
    | refine zaa (U := [[], [], [], [], [], [], [1], [], [], [1, 7], [], [1, 7], [], [1, 7], [], [], [1, 7], [], [1, 6, 7], [], [], [], [], []]) (H := [⟨0, [], .hole⟩, ⟨0, [], .hole⟩, ⟨0, [], .hole⟩, ⟨0, [], .hole⟩]) zag (by kernel_rfl) (by decide +kernel) (by kernel_rfl) ?_
    | refine yar hfo ?_
    | refine qbj (qat 4 [] (by simp) hrW (wT _ _ (View.mk' (es := lw ++ [.agg 89 [.int .i64 r.Client, .int .i64 r.Seq, .bool true, eFs r.P]]) [] ⟨by omega, by simp⟩ qab (by simp) (by simp)))).n fun h2 w2 p2 => ?_)
              all_goals first
                | omega
                | skip
              exact ⟨w2.seq (Keeps.sets o _ _) p2, (Keeps.sets o _ _).trans p2⟩
end Go.Abs
