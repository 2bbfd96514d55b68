/- Wk6: a part of the proofs about the tuple space and its bytes. -/
import Derived.Test.YtilfbkhbjkjicaaWk5
set_option linter.all false
set_option maxRecDepth 100000
set_option maxHeartbeats 0
namespace Go.Abs
open Go
open Go.Proofs.Try (prog)
theorem r_mid {P : Program} {x : Code} {s : List Ctl} {env : Env} {h : List Entry} {Q : zau} (M : AEx → Env → List Entry → Prop) (h1 : Rn P [.code x] .normal env h M) (h2 : ∀ e env' h', M e env' h' → Rn P s e env' h' Q) : Rn P (.code x :: s) .normal env h Q :=
  yb8 x env h (fun e env' h' hm => h2 e env' h' hm) h1
def ybz (s : Spc) (r : Req) (out : List Rpl) : Spc × List Rpl :=
  if za6 s r.P < 0 then (ya1 s r 3 [], out ++ [rep r 3 []])
  else if qcs s r (za6 s r.P) = true then (ya1 s r 5 [], out ++ [rep r 5 []])
  else qa3 r [] s.Waiters { ya1 s r 2 (s.Items.getD (za6 s r.P).toNat ⟨0, 0, []⟩).T with Items := s.Items.eraseIdx (za6 s r.P).toNat } (out ++ [rep r 2 (s.Items.getD (za6 s r.P).toNat ⟨0, 0, []⟩).T])
theorem c_turn {X : Nat → Prop} {k : Nat} {s : Spc} {r : Req} {out : List Rpl} {h : List Entry} (ho : out.length < 1000) (hr : Rdy s r out) (hw : WS X k s r out h) :
    Mtn 147 [] X k r h (ybz s r out).1 (ybz s r out).2 := by
  have w0 := hw
  obtain ⟨b, o, vi, vw, vo, hk, h1, h2, h3⟩ := hw
  have hkl := yac hk
  have hfo := c_FindO (k := k) (out := out) (r := r) (vo := vo) hr.small hr.rP h1 h2
  refine frun_147 rfl ?_
  by_cases hat : za6 s r.P < 0
  · have e : ybz s r out = (ya1 s r 3 [], out ++ [rep r 3 []]) := by rw [ybz, if_pos hat]
    rw [e]
    have hlt0 : decide (za6 s r.P < 0) = true := by simpa using hat
    repeat' (first
    | simp (implicitDefEqProofs := false) only [push_cast, reduceIte, reduceCtorEq, Nat.reduceAdd, Nat.reduceSub, Nat.reduceEqDiff, Nat.reduceLT, Nat.reduceLeDiff, Nat.reduceBEq, Nat.reduceMul, Int.reduceLT, Int.reduceLE, Int.reduceEq, Int.reduceToNat, Int.reduceMul, Int.reduceNeg, Go.Proofs.Try.f147, hk, wkE, hkl, hlt0, eQ, eFs, yaq, zad, yae, qad, zae, zab, qae, sst, qab, qaa, yaa, zac, qaq, List.replicate_succ, List.drop_zero, zaf hkl, yad hkl, qak hkl, yaf hkl]
    | refine Sp2.f ?_ ?_
    | refine Spl.f ?_ ?_ <;> intro hb
    | refine qac rfl (fun b hb => ?_)
    | refine zaa (U := [[], [], [], [], [], [], [], [], [], [], []]) (H := []) zag (by kernel_rfl) (by decide +kernel) (by kernel_rfl) ?_
    | refine yar hfo ?_
    | refine qc0 (zb6 3 [] (by simp) hr w0).n fun h1 w1 p1 => ?_)
    exact ⟨w1, p1⟩
  · obtain ⟨i, x, hi, hx, hlt, _⟩ := qcq (p := fun x : Itm => ya6 r.P x.T) (l := s.Items) (by unfold za6 at hat; omega)
    change za6 s r.P = i at hi
    rw [hi] at hfo
    have hfu := c_fullO (i : Int) (by have := hr.il; omega) w0
    have hlt0 : decide ((i : Int) < 0) = false := by simp
    by_cases hful : qcs s r (i : Int) = true
    · have e : ybz s r out = (ya1 s r 5 [], out ++ [rep r 5 []]) := by rw [ybz, if_neg hat, hi, if_pos hful]
      rw [e]
      repeat' (first
    | simp (implicitDefEqProofs := false) only [push_cast, reduceIte, reduceCtorEq, Nat.reduceAdd, Nat.reduceSub, Nat.reduceEqDiff, Nat.reduceLT, Nat.reduceLeDiff, Nat.reduceBEq, Nat.reduceMul, Int.reduceLT, Int.reduceLE, Int.reduceEq, Int.reduceToNat, Int.reduceMul, Int.reduceNeg, Go.Proofs.Try.f147, hk, wkE, hkl, hlt0, hful, eQ, eFs, yaq, zad, yae, qad, zae, zab, qae, sst, qab, qaa, yaa, zac, qaq, List.replicate_succ, List.drop_zero, zaf hkl, yad hkl, qak hkl, yaf hkl]
    | refine Sp2.f ?_ ?_
    | refine Spl.f ?_ ?_ <;> intro hb
    | refine qac rfl (fun b hb => ?_)
    | refine zaa (U := [[], [], [], [], [], [], [], [], [], [], []]) (H := []) zag (by kernel_rfl) (by decide +kernel) (by kernel_rfl) ?_
    | refine yar hfo ?_
    | refine qa1 hfu ?_
    | refine qc0 (zb6 5 [] (by simp) hr w0).n fun h1 w1 p1 => ?_)
      exact ⟨w1, p1⟩
    · have e : ybz s r out = qa3 r [] s.Waiters { ya1 s r 2 x.T with Items := s.Items.eraseIdx i } (out ++ [rep r 2 x.T]) := by
        rw [ybz, if_neg hat, hi, if_neg hful, Int.toNat_natCast, getD_some hx]
      have hful : qcs s r (i : Int) = false := by simpa using hful
      rw [e]
      have hxT := hr.it x (List.mem_of_getElem? hx)
      have hr1 := hr.tell 2 x.T (out ++ [rep r 2 x.T]) (by simp; omega)
      have hr2 := hr1.take i
      have hgx : ∀ z, (s.Items.map eI ++ z)[i]? = some (eI x) := fun z => by rw [List.getElem?_append_left (by simpa using hlt), List.getElem?_map, hx]; rfl
      have hll : (s.Items.map eI).length = s.Items.length := by simp
      generalize s.Items.map eI = l at h1 hgx hll
      cases h1 with
      | nil => simp at hll; omega
      | @win ki lo _ z hxi hki =>
        have hlt' : i < l.length := by omega
        repeat' (first
    | simp (implicitDefEqProofs := false) only [push_cast, reduceIte, reduceCtorEq, Nat.reduceAdd, Nat.reduceSub, Nat.reduceEqDiff, Nat.reduceLT, Nat.reduceLeDiff, Nat.reduceBEq, Nat.reduceMul, Int.reduceLT, Int.reduceLE, Int.reduceEq, Int.reduceToNat, Int.reduceMul, Int.reduceNeg, Go.Proofs.Try.f147, hk, hki, wkE, hkl, hlt0, hful, eQ, eI, eFs, yaq, hgx, qaj hlt', Int.toNat_natCast, zad, yae, qad, zae, zab, qae, sst, qab, qaa, yaa, zac, qaq, List.replicate_succ, List.drop_zero, zaf hkl, yad hkl, qak hkl, yaf hkl]
    | refine Sp2.f ?_ ?_
    | refine Spl.f ?_ ?_ <;> intro hb
    | refine qac rfl (fun b hb => ?_)
    | refine zaa (U := [[], [], [], [], [], [], [], [], [], [], []]) (H := []) zag (by kernel_rfl) (by decide +kernel) (by kernel_rfl) ?_
    | refine yar hfo ?_
    | refine qa1 hfu ?_
    | refine qc0 (zb6 2 x.T hxT hr w0).n fun h1 w1 p1 => ?_
    | refine qc0 (c_take (s := ya1 s r 2 x.T) i hlt (by have := hr.il; show s.Items.length ≤ _; omega) w1).n fun h2 w2 p2 => ?_
    | refine qc0 (args := []) (c_put w2 hr2.pi hr2.rT (by have := hr2.il; omega) hr2.now hr2.ls) fun h3 w3 p3 => ?_)
        exact ⟨(w3.seq p2 p3).seq p1 (p2.trans p3), p1.trans (p2.trans p3)⟩
def bitOf (v c : Int) : Bool := bits .and .i64 (v.fdiv (2 ^ (min (IntKind.wrap .u64 c).toNat IntKind.i64.bits))) 1 == 0
def qdy (s : Spc) (r : Req) : Bool := (qb2 r.Kind && bitOf s.Read r.Client) || (zbv r.Kind && bitOf s.Write r.Client)
def doW (s : Spc) (r : Req) (out : List Rpl) : Spc × List Rpl :=
  if qdy s r = true then (ya1 s r 6 [], out ++ [rep r 6 []])
  else if r.Kind = 1 then qa9 s r out
  else if r.Kind = 2 then qa8 s r out false false
  else if r.Kind = 3 then qa8 s r out true false
  else if r.Kind = 4 then qa8 s r out false true
  else if r.Kind = 5 then qa8 s r out true true
  else if r.Kind = 6 then (if 0 ≤ za6 s r.P then (ya1 s r 3 [], out ++ [rep r 3 []]) else qa9 s r out)
  else if r.Kind = 7 then ybz s r out
  else (ya1 s r 1 [], out ++ [rep r 1 []])
theorem c_do {X : Nat → Prop} {k : Nat} {s : Spc} {r : Req} {out : List Rpl} {h : List Entry} (ho : out.length < 1000) (hw2 : s.Waiters.length < 1000) (hr : Rdy s r out) (hw : WS X k s r out h) :
    Mtn 112 [] X k r h (doW s r out).1 (doW s r out).2 := by
  have w0 := hw
  obtain ⟨b, o, vi, vw, vo, hk, h1, h2, h3⟩ := hw
  have hkl := yac hk
  have hfo := c_FindO (k := k) (out := out) (r := r) (vo := vo) hr.small hr.rP h1 h2
  have hu : ¬ IntKind.wrap .u64 r.Client < 0 := by
    have := hr.rc
    simp only [qar, Bool.and_eq_true, decide_eq_true_eq] at this
    rw [IntWalk.u64_in _ (by omega)]
    omega
  refine frun_112 rfl ?_
  simp (implicitDefEqProofs := false) only [yai, Option.getD_some, Go.Proofs.Try.f112, r_seq]
  refine r_mid (fun e env' h' => e = .normal ∧ h' = h ∧ env' = [(0, .ref k [0] 148), (2, .int .u64 (IntKind.wrap .u64 r.Client)), (44, .junk), (51, .junk), (54, .junk), (58, .junk), (93, .junk), (105, .junk), (110, .junk)]) ?_ ?_
  · repeat' (first
    | simp (implicitDefEqProofs := false) only [push_cast, reduceIte, reduceCtorEq, Nat.reduceAdd, Nat.reduceSub, Nat.reduceEqDiff, Nat.reduceLT, Nat.reduceLeDiff, Nat.reduceBEq, Nat.reduceMul, Int.reduceLT, Int.reduceLE, Int.reduceEq, Int.reduceToNat, Int.reduceMul, Int.reduceNeg, Go.Proofs.Try.f112, hk, wkE, hkl, eQ, eFs, yaq, zad, yae, qad, zae, zab, qae, sst, qab, qaa, yaa, zac, qaq, List.replicate_succ, List.drop_zero, zaf hkl, yad hkl, qak hkl, yaf hkl]
    | refine Sp2.f ?_ ?_
    | refine Spl.f ?_ ?_ <;> intro hb
    | refine qac rfl (fun b hb => ?_)
    | refine zaa (U := [[], [], [], [], [], [], [], [], [], [], [], [], [], [], [], [], [], [], [], [], [], [], [], [], [], [], [], [], [], []]) (H := []) zag (by kernel_rfl) (by decide +kernel) (by kernel_rfl) ?_
    | refine zaa (U := [[], [], [], [], [], [], [], [], [], [], []]) (H := []) zag (by kernel_rfl) (by decide +kernel) (by kernel_rfl) ?_)
  rintro _ _ _ ⟨he, hh, henv⟩
  subst he
  rw [hh, henv]
  clear hh henv
  simp (implicitDefEqProofs := false) only [r_seq]
  refine r_mid (fun e env' h' => e = .normal ∧ h' = h ∧ env' = [(0, .ref k [0] 148), (2, .int .u64 (IntKind.wrap .u64 r.Client)), (44, .bool (qdy s r)), (51, .junk), (54, .junk), (58, .junk), (93, .junk), (105, .junk), (110, .junk)]) ?_ ?_
  · repeat' (first
    | simp (implicitDefEqProofs := false) only [push_cast, reduceIte, reduceCtorEq, Nat.reduceAdd, Nat.reduceSub, Nat.reduceEqDiff, Nat.reduceLT, Nat.reduceLeDiff, Nat.reduceBEq, Nat.reduceMul, Int.reduceLT, Int.reduceLE, Int.reduceEq, Int.reduceToNat, Int.reduceMul, Int.reduceNeg, Go.Proofs.Try.f112, hk, wkE, hkl, eQ, eFs, yaq, zad, yae, qad, zae, zab, qae, sst, qab, qaa, yaa, zac, qaq, List.replicate_succ, List.drop_zero, zaf hkl, yad hkl, qak hkl, yaf hkl]
    | refine Sp2.f ?_ ?_
    | refine Spl.f ?_ ?_ <;> intro hb
    | refine qac rfl (fun b hb => ?_)
    | refine zaa (U := [[], [], [], [], [], [], [], [], [], [], [], [], [], [], [], [], [], [], [], [], [], [], [], [], [], [], [], [], [], []]) (H := []) zag (by kernel_rfl) (by decide +kernel) (by kernel_rfl) ?_
    | refine zaa (U := [[], [], [], [], [], [], [], [], [], [], []]) (H := []) zag (by kernel_rfl) (by decide +kernel) (by kernel_rfl) ?_
    | refine zat (c_Reads _) ?_
    | refine zat (c_Writes _) ?_
    | refine yda hu ?_)
    all_goals first
      | exact hu
      | (simp only [qdy, bitOf, *, Bool.true_and, Bool.false_and, Bool.true_or, Bool.false_or, Bool.or_false, Bool.or_true]; done)
  rintro _ _ _ ⟨he, hh, henv⟩
  subst he
  rw [hh, henv]
  clear hh henv
  by_cases hd : qdy s r = true
  · have e : doW s r out = (ya1 s r 6 [], out ++ [rep r 6 []]) := by rw [doW, if_pos hd]
    rw [e]
    repeat' (first
    | simp (implicitDefEqProofs := false) only [push_cast, reduceIte, reduceCtorEq, Nat.reduceAdd, Nat.reduceSub, Nat.reduceEqDiff, Nat.reduceLT, Nat.reduceLeDiff, Nat.reduceBEq, Nat.reduceMul, Int.reduceLT, Int.reduceLE, Int.reduceEq, Int.reduceToNat, Int.reduceMul, Int.reduceNeg, Go.Proofs.Try.f112, hd]
    | refine Sp2.f ?_ ?_
    | refine Spl.f ?_ ?_ <;> intro hb
    | refine qac rfl (fun b hb => ?_)
    | refine zaa (U := [[], [], [], [], [], [], [], [], [], [], [], [], [], [], [], [], [], [], [], [], [], [], [], [], [], [], [], [], [], []]) (H := []) zag (by kernel_rfl) (by decide +kernel) (by kernel_rfl) ?_
    | refine zaa (U := [[], [], [], [], [], [], [], [], [], [], []]) (H := []) zag (by kernel_rfl) (by decide +kernel) (by kernel_rfl) ?_
    | refine qc0 (zb6 6 [] (by simp) hr w0).n fun h1 w1 p1 => ?_)
    exact ⟨w1, p1⟩
  have e0 : doW s r out = if r.Kind = 1 then qa9 s r out
    else if r.Kind = 2 then qa8 s r out false false
    else if r.Kind = 3 then qa8 s r out true false
    else if r.Kind = 4 then qa8 s r out false true
    else if r.Kind = 5 then qa8 s r out true true
    else if r.Kind = 6 then (if 0 ≤ za6 s r.P then (ya1 s r 3 [], out ++ [rep r 3 []]) else qa9 s r out)
    else if r.Kind = 7 then ybz s r out
    else (ya1 s r 1 [], out ++ [rep r 1 []]) := by rw [doW, if_neg hd]
  have hd : qdy s r = false := by simpa using hd
  rw [e0]
  clear e0
  by_cases k1 : r.Kind = 1
  · simp only [k1, Int.reduceEq, reduceIte]
    repeat' (first
    | simp (implicitDefEqProofs := false) only [push_cast, reduceIte, reduceCtorEq, Nat.reduceAdd, Nat.reduceSub, Nat.reduceEqDiff, Nat.reduceLT, Nat.reduceLeDiff, Nat.reduceBEq, Nat.reduceMul, Int.reduceLT, Int.reduceLE, Int.reduceEq, Int.reduceToNat, Int.reduceMul, Int.reduceNeg, Go.Proofs.Try.f112, hd, hk, wkE, hkl, eQ, eFs, yaq, Int.reduceBEq, k1, zad, yae, qad, zae, zab, qae, sst, qab, qaa, yaa, zac, qaq, List.replicate_succ, List.drop_zero, zaf hkl, yad hkl, qak hkl, yaf hkl]
    | refine Sp2.f ?_ ?_
    | refine Spl.f ?_ ?_ <;> intro hb
    | refine qac rfl (fun b hb => ?_)
    | refine zaa (U := [[], [], [], [], [], [], [], [], [], [], [], [], [], [], [], [], [], [], [], [], [], [], [], [], [], [], [], [], [], []]) (H := []) zag (by kernel_rfl) (by decide +kernel) (by kernel_rfl) ?_
    | refine zaa (U := [[], [], [], [], [], [], [], [], [], [], []]) (H := []) zag (by kernel_rfl) (by decide +kernel) (by kernel_rfl) ?_
    | refine qc0 (args := []) (c_bring ho hr w0) fun h1 w1 p1 => ?_)
    exact ⟨w1, p1⟩
  by_cases k2 : r.Kind = 2
  · simp only [k2, Int.reduceEq, reduceIte]
    obtain ⟨h', w1, p1, sp1⟩ := c_find false false ho hw2 hr w0
    repeat' (first
    | simp (implicitDefEqProofs := false) only [push_cast, reduceIte, reduceCtorEq, Nat.reduceAdd, Nat.reduceSub, Nat.reduceEqDiff, Nat.reduceLT, Nat.reduceLeDiff, Nat.reduceBEq, Nat.reduceMul, Int.reduceLT, Int.reduceLE, Int.reduceEq, Int.reduceToNat, Int.reduceMul, Int.reduceNeg, Go.Proofs.Try.f112, hd, hk, wkE, hkl, eQ, eFs, yaq, Int.reduceBEq, k2, zad, yae, qad, zae, zab, qae, sst, qab, qaa, yaa, zac, qaq, List.replicate_succ, List.drop_zero, zaf hkl, yad hkl, qak hkl, yaf hkl]
    | refine Sp2.f ?_ ?_
    | refine Spl.f ?_ ?_ <;> intro hb
    | refine qac rfl (fun b hb => ?_)
    | refine zaa (U := [[], [], [], [], [], [], [], [], [], [], [], [], [], [], [], [], [], [], [], [], [], [], [], [], [], [], [], [], [], []]) (H := []) zag (by kernel_rfl) (by decide +kernel) (by kernel_rfl) ?_
    | refine zaa (U := [[], [], [], [], [], [], [], [], [], [], []]) (H := []) zag (by kernel_rfl) (by decide +kernel) (by kernel_rfl) ?_
    | refine yar sp1 ?_)
    exact ⟨w1, p1⟩
  by_cases k3 : r.Kind = 3
  · simp only [k3, Int.reduceEq, reduceIte]
    obtain ⟨h', w1, p1, sp1⟩ := c_find true false ho hw2 hr w0
    repeat' (first
    | simp (implicitDefEqProofs := false) only [push_cast, reduceIte, reduceCtorEq, Nat.reduceAdd, Nat.reduceSub, Nat.reduceEqDiff, Nat.reduceLT, Nat.reduceLeDiff, Nat.reduceBEq, Nat.reduceMul, Int.reduceLT, Int.reduceLE, Int.reduceEq, Int.reduceToNat, Int.reduceMul, Int.reduceNeg, Go.Proofs.Try.f112, hd, hk, wkE, hkl, eQ, eFs, yaq, Int.reduceBEq, k3, zad, yae, qad, zae, zab, qae, sst, qab, qaa, yaa, zac, qaq, List.replicate_succ, List.drop_zero, zaf hkl, yad hkl, qak hkl, yaf hkl]
    | refine Sp2.f ?_ ?_
    | refine Spl.f ?_ ?_ <;> intro hb
    | refine qac rfl (fun b hb => ?_)
    | refine zaa (U := [[], [], [], [], [], [], [], [], [], [], [], [], [], [], [], [], [], [], [], [], [], [], [], [], [], [], [], [], [], []]) (H := []) zag (by kernel_rfl) (by decide +kernel) (by kernel_rfl) ?_
    | refine zaa (U := [[], [], [], [], [], [], [], [], [], [], []]) (H := []) zag (by kernel_rfl) (by decide +kernel) (by kernel_rfl) ?_
    | refine yar sp1 ?_)
    exact ⟨w1, p1⟩
  by_cases k4 : r.Kind = 4
  · simp only [k4, Int.reduceEq, reduceIte]
    obtain ⟨h', w1, p1, sp1⟩ := c_find false true ho hw2 hr w0
    repeat' (first
    | simp (implicitDefEqProofs := false) only [push_cast, reduceIte, reduceCtorEq, Nat.reduceAdd, Nat.reduceSub, Nat.reduceEqDiff, Nat.reduceLT, Nat.reduceLeDiff, Nat.reduceBEq, Nat.reduceMul, Int.reduceLT, Int.reduceLE, Int.reduceEq, Int.reduceToNat, Int.reduceMul, Int.reduceNeg, Go.Proofs.Try.f112, hd, hk, wkE, hkl, eQ, eFs, yaq, Int.reduceBEq, k4, zad, yae, qad, zae, zab, qae, sst, qab, qaa, yaa, zac, qaq, List.replicate_succ, List.drop_zero, zaf hkl, yad hkl, qak hkl, yaf hkl]
    | refine Sp2.f ?_ ?_
    | refine Spl.f ?_ ?_ <;> intro hb
    | refine qac rfl (fun b hb => ?_)
    | refine zaa (U := [[], [], [], [], [], [], [], [], [], [], [], [], [], [], [], [], [], [], [], [], [], [], [], [], [], [], [], [], [], []]) (H := []) zag (by kernel_rfl) (by decide +kernel) (by kernel_rfl) ?_
    | refine zaa (U := [[], [], [], [], [], [], [], [], [], [], []]) (H := []) zag (by kernel_rfl) (by decide +kernel) (by kernel_rfl) ?_
    | refine yar sp1 ?_)
    exact ⟨w1, p1⟩
  by_cases k5 : r.Kind = 5
  · simp only [k5, Int.reduceEq, reduceIte]
    obtain ⟨h', w1, p1, sp1⟩ := c_find true true ho hw2 hr w0
    repeat' (first
    | simp (implicitDefEqProofs := false) only [push_cast, reduceIte, reduceCtorEq, Nat.reduceAdd, Nat.reduceSub, Nat.reduceEqDiff, Nat.reduceLT, Nat.reduceLeDiff, Nat.reduceBEq, Nat.reduceMul, Int.reduceLT, Int.reduceLE, Int.reduceEq, Int.reduceToNat, Int.reduceMul, Int.reduceNeg, Go.Proofs.Try.f112, hd, hk, wkE, hkl, eQ, eFs, yaq, Int.reduceBEq, k5, zad, yae, qad, zae, zab, qae, sst, qab, qaa, yaa, zac, qaq, List.replicate_succ, List.drop_zero, zaf hkl, yad hkl, qak hkl, yaf hkl]
    | refine Sp2.f ?_ ?_
    | refine Spl.f ?_ ?_ <;> intro hb
    | refine qac rfl (fun b hb => ?_)
    | refine zaa (U := [[], [], [], [], [], [], [], [], [], [], [], [], [], [], [], [], [], [], [], [], [], [], [], [], [], [], [], [], [], []]) (H := []) zag (by kernel_rfl) (by decide +kernel) (by kernel_rfl) ?_
    | refine zaa (U := [[], [], [], [], [], [], [], [], [], [], []]) (H := []) zag (by kernel_rfl) (by decide +kernel) (by kernel_rfl) ?_
    | refine yar sp1 ?_)
    exact ⟨w1, p1⟩
  by_cases k6 : r.Kind = 6
  · simp only [k6, Int.reduceEq, reduceIte]
    by_cases hat : 0 ≤ za6 s r.P
    · have hge : decide ((0 : Int) ≤ za6 s r.P) = true := by simpa using hat
      simp only [if_pos hat]
      repeat' (first
    | simp (implicitDefEqProofs := false) only [push_cast, reduceIte, reduceCtorEq, Nat.reduceAdd, Nat.reduceSub, Nat.reduceEqDiff, Nat.reduceLT, Nat.reduceLeDiff, Nat.reduceBEq, Nat.reduceMul, Int.reduceLT, Int.reduceLE, Int.reduceEq, Int.reduceToNat, Int.reduceMul, Int.reduceNeg, Go.Proofs.Try.f112, hd, hge, hk, wkE, hkl, eQ, eFs, yaq, Int.reduceBEq, k6, zad, yae, qad, zae, zab, qae, sst, qab, qaa, yaa, zac, qaq, List.replicate_succ, List.drop_zero, zaf hkl, yad hkl, qak hkl, yaf hkl]
    | refine Sp2.f ?_ ?_
    | refine Spl.f ?_ ?_ <;> intro hb
    | refine qac rfl (fun b hb => ?_)
    | refine zaa (U := [[], [], [], [], [], [], [], [], [], [], [], [], [], [], [], [], [], [], [], [], [], [], [], [], [], [], [], [], [], []]) (H := []) zag (by kernel_rfl) (by decide +kernel) (by kernel_rfl) ?_
    | refine zaa (U := [[], [], [], [], [], [], [], [], [], [], []]) (H := []) zag (by kernel_rfl) (by decide +kernel) (by kernel_rfl) ?_
    | refine yar hfo ?_
    | refine qc0 (zb6 3 [] (by simp) hr w0).n fun h1 w1 p1 => ?_)
      exact ⟨w1, p1⟩
    · have hge : decide ((0 : Int) ≤ za6 s r.P) = false := by simpa using hat
      simp only [if_neg hat]
      repeat' (first
    | simp (implicitDefEqProofs := false) only [push_cast, reduceIte, reduceCtorEq, Nat.reduceAdd, Nat.reduceSub, Nat.reduceEqDiff, Nat.reduceLT, Nat.reduceLeDiff, Nat.reduceBEq, Nat.reduceMul, Int.reduceLT, Int.reduceLE, Int.reduceEq, Int.reduceToNat, Int.reduceMul, Int.reduceNeg, Go.Proofs.Try.f112, hd, hge, hk, wkE, hkl, eQ, eFs, yaq, Int.reduceBEq, k6, zad, yae, qad, zae, zab, qae, sst, qab, qaa, yaa, zac, qaq, List.replicate_succ, List.drop_zero, zaf hkl, yad hkl, qak hkl, yaf hkl]
    | refine Sp2.f ?_ ?_
    | refine Spl.f ?_ ?_ <;> intro hb
    | refine qac rfl (fun b hb => ?_)
    | refine zaa (U := [[], [], [], [], [], [], [], [], [], [], [], [], [], [], [], [], [], [], [], [], [], [], [], [], [], [], [], [], [], []]) (H := []) zag (by kernel_rfl) (by decide +kernel) (by kernel_rfl) ?_
    | refine zaa (U := [[], [], [], [], [], [], [], [], [], [], []]) (H := []) zag (by kernel_rfl) (by decide +kernel) (by kernel_rfl) ?_
    | refine yar hfo ?_
    | refine qc0 (args := []) (c_bring ho hr w0) fun h1 w1 p1 => ?_)
      exact ⟨w1, p1⟩
  by_cases k7 : r.Kind = 7
  · simp only [k7, Int.reduceEq, reduceIte]
    repeat' (first
    | simp (implicitDefEqProofs := false) only [push_cast, reduceIte, reduceCtorEq, Nat.reduceAdd, Nat.reduceSub, Nat.reduceEqDiff, Nat.reduceLT, Nat.reduceLeDiff, Nat.reduceBEq, Nat.reduceMul, Int.reduceLT, Int.reduceLE, Int.reduceEq, Int.reduceToNat, Int.reduceMul, Int.reduceNeg, Go.Proofs.Try.f112, hd, hk, wkE, hkl, eQ, eFs, yaq, Int.reduceBEq, k7, zad, yae, qad, zae, zab, qae, sst, qab, qaa, yaa, zac, qaq, List.replicate_succ, List.drop_zero, zaf hkl, yad hkl, qak hkl, yaf hkl]
    | refine Sp2.f ?_ ?_
    | refine Spl.f ?_ ?_ <;> intro hb
    | refine qac rfl (fun b hb => ?_)
    | refine zaa (U := [[], [], [], [], [], [], [], [], [], [], [], [], [], [], [], [], [], [], [], [], [], [], [], [], [], [], [], [], [], []]) (H := []) zag (by kernel_rfl) (by decide +kernel) (by kernel_rfl) ?_
    | refine zaa (U := [[], [], [], [], [], [], [], [], [], [], []]) (H := []) zag (by kernel_rfl) (by decide +kernel) (by kernel_rfl) ?_
    | refine qc0 (args := []) (c_turn ho hr w0) fun h1 w1 p1 => ?_)
    exact ⟨w1, p1⟩
  · simp only [k1, k2, k3, k4, k5, k6, k7, if_false]
    have f1 : (r.Kind == 1) = false := by simpa using k1
    have f2 : (r.Kind == 2) = false := by simpa using k2
    have f3 : (r.Kind == 3) = false := by simpa using k3
    have f4 : (r.Kind == 4) = false := by simpa using k4
    have f5 : (r.Kind == 5) = false := by simpa using k5
    have f6 : (r.Kind == 6) = false := by simpa using k6
    have f7 : (r.Kind == 7) = false := by simpa using k7
    repeat' (first
    | simp (implicitDefEqProofs := false) only [push_cast, reduceIte, reduceCtorEq, Nat.reduceAdd, Nat.reduceSub, Nat.reduceEqDiff, Nat.reduceLT, Nat.reduceLeDiff, Nat.reduceBEq, Nat.reduceMul, Int.reduceLT, Int.reduceLE, Int.reduceEq, Int.reduceToNat, Int.reduceMul, Int.reduceNeg, Go.Proofs.Try.f112, hd, hk, wkE, hkl, eQ, eFs, yaq, f1, f2, f3, f4, f5, f6, f7, zad, yae, qad, zae, zab, qae, sst, qab, qaa, yaa, zac, qaq, List.replicate_succ, List.drop_zero, zaf hkl, yad hkl, qak hkl, yaf hkl]
    | refine Sp2.f ?_ ?_
    | refine Spl.f ?_ ?_ <;> intro hb
    | refine qac rfl (fun b hb => ?_)
    | refine zaa (U := [[], [], [], [], [], [], [], [], [], [], [], [], [], [], [], [], [], [], [], [], [], [], [], [], [], [], [], [], [], []]) (H := []) zag (by kernel_rfl) (by decide +kernel) (by kernel_rfl) ?_
    | refine zaa (U := [[], [], [], [], [], [], [], [], [], [], []]) (H := []) zag (by kernel_rfl) (by decide +kernel) (by kernel_rfl) ?_
    | refine qc0 (zb6 1 [] (by simp) hr w0).n fun h1 w1 p1 => ?_)
    exact ⟨w1, p1⟩
end Go.Abs
