/- Dz: a part of the proofs about the tuple space and its bytes. -/
import Derived.Test.YtilfbkhbjkjicaaWk6
set_option linter.all false
set_option maxRecDepth 100000
set_option maxHeartbeats 0
namespace Go.Abs
open Go
open Go.Proofs.Try (prog)
def expd (now : Int) (x : Itm) : Bool := x.Until != 0 && decide (x.Until ≤ now)
theorem c_Do1 (x : Itm) (now : Int) : Fn prog 109 [eI x, .eref 3 (.int .i64 now)] (.bool (expd now x)) := by
  refine run_109 rfl fun h => ?_
  repeat' (first
    | simp (implicitDefEqProofs := false) only [push_cast, reduceIte, reduceCtorEq, Nat.reduceAdd, Nat.reduceSub, Nat.reduceEqDiff, Nat.reduceLT, Nat.reduceLeDiff, Nat.reduceBEq, Nat.reduceMul, Int.reduceLT, Int.reduceLE, Int.reduceEq, Int.reduceToNat, Int.reduceMul, Int.reduceNeg, Go.Proofs.Try.f109, eI]
    | refine Sp2.f ?_ ?_
    | refine Spl.f ?_ ?_ <;> intro hb
    | refine yac rfl (fun b hb => ?_))
  all_goals grind [expd]
def zdj (now : Int) (l : List Itm) : List Itm := l.filter fun x => !expd now x
theorem live_step {now : Int} {l : List Itm} {i : Nat} {x : Itm} (hx : l[i]? = some x) : zdj now (l.take (i + 1)) = zdj now (l.take i) ++ if expd now x = true then [] else [x] := by
  rw [zdj, List.take_add_one, hx, Option.toList_some, List.filter_append]
  cases h : expd now x <;> simp [zdj, h]
theorem fidx_none' {α : Type} {p : α → Bool} {l : List α} (h : fidx p l = -1) : ∀ x ∈ l, p x = false := by
  unfold fidx at h
  cases hf : l.findIdx? p with
  | none => rw [List.findIdx?_eq_none_iff] at hf; intro x hx; simpa using hf x hx
  | some j => rw [hf] at h; simp at h
theorem fidx_at {α : Type} {p : α → Bool} {l : List α} {i : Nat} (h : fidx p l = (i : Int)) : ∃ x, l[i]? = some x ∧ p x = true ∧ ∀ y ∈ l.take i, p y = false := by
  unfold fidx at h
  cases hf : l.findIdx? p with
  | none => rw [hf] at h; simp at h
  | some j =>
    rw [hf] at h
    have hij : j = i := by simp at h; omega
    subst hij
    rw [List.findIdx?_eq_some_iff_getElem] at hf
    obtain ⟨hj, hp, hb⟩ := hf
    refine ⟨l[j], List.getElem?_eq_getElem hj, hp, fun y hy => ?_⟩
    obtain ⟨k, hk, rfl⟩ := List.getElem_of_mem hy
    simp only [List.length_take] at hk
    simp only [List.getElem_take]
    simpa using hb k (by omega)
theorem fidx_cases {α : Type} (p : α → Bool) (l : List α) : fidx p l = -1 ∨ ∃ i : Nat, fidx p l = i ∧ i < l.length := by
  by_cases h : 0 ≤ fidx p l
  · obtain ⟨i, x, hi, _, hl, _⟩ := zdl h
    exact .inr ⟨i, hi, hl⟩
  · left
    unfold fidx at h ⊢
    cases hf : l.findIdx? p with
    | none => rfl
    | some j => rw [hf] at h; simp at h
theorem set_same {h : List Entry} {k : Nat} {e : Entry} (hk : h[k]? = some e) : h.set k e = h := by
  apply List.ext_getElem?
  intro j
  by_cases hj : k = j
  · subst hj; rw [List.getElem?_set_self (qab hk), hk]
  · rw [List.getElem?_set_ne hj]
theorem bw_cap {h : List Entry} {kn : Nat} {now : Int} (hn : h[kn]? = some ⟨3, [.int .i64 now], .own⟩) (n : Nat) : bw h (n + 3) (.fn 109 [.ref kn [0] 3]) = .fn 109 [.eref 3 (.int .i64 now)] := by
  simp only [bw_fnE, List.map_cons, List.map_nil, bw_refE, hn, qcz, getE, List.getElem?_cons_zero, zb1, zca]; rfl
theorem bw_cap1 {h : List Entry} {kn : Nat} {now : Int} (hn : h[kn]? = some ⟨3, [.int .i64 now], .own⟩) (n : Nat) : bw h (n + 2) (.ref kn [0] 3) = .eref 3 (.int .i64 now) := by
  simp only [bw_refE, hn, qcz, getE, List.getElem?_cons_zero, zb1, zca]; rfl
theorem bw_row {h : List Entry} {ki lo : Nat} {l z : List AV} (hk : h[ki]? = some ⟨87, l ++ z, .own⟩) (hd : qcy l = true) (n : Nat) : bw h (n + 1) (.win ki [] 87 0 l.length lo) = .list 87 l := by
  rw [bw_winE, hk, ycz]
  have : qam (l ++ z) [] 0 l.length = some l := by simp [qam]
  rw [this, qcm, ycm l n hd]
def DI (h : List Entry) (ki : Nat) (now : Int) (l : List Itm) (z : List AV) (E : Nat → Nat → (Nat → AV) → Env) (j0 j : Nat) (env : Env) (hh : List Entry) : Prop :=
  ∃ b B g, hh = h.set ki ⟨87, (zdj now (l.take (j0 + j))).map eI ++ (b :: (B ++ ((l.drop (j0 + j)).map eI ++ z))), .own⟩ ++ g ∧ (zdj now (l.take (j0 + j))).length + (B.length + 1) = j0 + j ∧ j0 + j ≤ l.length ∧ env = E (zdj now (l.take (j0 + j))).length (j0 + j) (lk env)
theorem di_mk {h : List Entry} {ki : Nat} {now : Int} {l : List Itm} {z : List AV} {E : Nat → Nat → (Nat → AV) → Env} {j0 j : Nat} {env : Env} {hh : List Entry} (b : AV) (B : List AV) (g : List Entry)
    (h1 : hh = h.set ki ⟨87, (zdj now (l.take (j0 + j))).map eI ++ (b :: (B ++ ((l.drop (j0 + j)).map eI ++ z))), .own⟩ ++ g) (h2 : (zdj now (l.take (j0 + j))).length + (B.length + 1) = j0 + j) (h3 : j0 + j ≤ l.length)
    (h4 : env = E (zdj now (l.take (j0 + j))).length (j0 + j) (lk env)) : DI h ki now l z E j0 j env hh := ⟨b, B, g, h1, h2, h3, h4⟩
theorem c_DeleteFunc {X : Nat → Prop} {h : List Entry} {v : AV} {l : List Itm} {kn : Nat} {now : Int} (hl : l.length ≤ 4294967296) (hv : View X h 87 v (l.map eI)) (hb : ∀ j, X j → j < h.length) (hn : h[kn]? = some ⟨3, [.int .i64 now], .own⟩) (hx : ¬ X kn) :
    FSpec prog 107 [v, .fn 109 [.ref kn [0] 3]] h fun r h' => Keeps X h h' ∧ View (ybh X h h') h' 87 r ((zdj now l).map eI) := by
  have hif := zcp eI l (g := 109) (caps := [.eref 3 (.int .i64 now)]) (expd now) hl eI_ty eI_pl eI_wk fun x _ => c_Do1 x now
  refine frun_107 rfl ?_
  have hnl := qab hn
  rcases fidx_cases (expd now) l with hm1 | ⟨i, hi, hil⟩
  · have hall := fidx_none' hm1
    have hlive : zdj now l = l := by rw [zdj, List.filter_eq_self]; intro x hx; simp [hall x hx]
    have hq : ((-1 : Int) == -1) = true := rfl
    rw [hm1] at hif
    rw [hlive]
    have hdl := qal eI qco l
    have hbel : yam 0 (l.map eI) = true := qat _ hdl
    generalize hlm : l.map eI = lm at hv hif hdl hbel
    cases hv with
    | nil =>
      repeat' (first
    | simp (implicitDefEqProofs := false) only [push_cast, reduceIte, reduceCtorEq, Nat.reduceAdd, Nat.reduceSub, Nat.reduceEqDiff, Nat.reduceLT, Nat.reduceLeDiff, Nat.reduceBEq, Nat.reduceMul, Int.reduceLT, Int.reduceLE, Int.reduceEq, Int.reduceToNat, Int.reduceMul, Int.reduceNeg, Go.Proofs.Try.f107, hq]
    | refine Sp2.f ?_ ?_
    | refine Spl.f ?_ ?_ <;> intro hb
    | refine yac rfl (fun b hb => ?_)
    | refine zcd wfp (args' := [.list 87 [], .fn 109 [.eref 3 (.int .i64 now)]]) ?_ hif ?_ rfl ?_)
      · simp only [bw_cap hn 5]; rfl
      · rfl
      · exact ⟨.refl _ _, .nil⟩
    | @win ki lo _ z hxi hki =>
      repeat' (first
    | simp (implicitDefEqProofs := false) only [push_cast, reduceIte, reduceCtorEq, Nat.reduceAdd, Nat.reduceSub, Nat.reduceEqDiff, Nat.reduceLT, Nat.reduceLeDiff, Nat.reduceBEq, Nat.reduceMul, Int.reduceLT, Int.reduceLE, Int.reduceEq, Int.reduceToNat, Int.reduceMul, Int.reduceNeg, Go.Proofs.Try.f107, hq]
    | refine Sp2.f ?_ ?_
    | refine Spl.f ?_ ?_ <;> intro hb
    | refine yac rfl (fun b hb => ?_)
    | refine zcd wfp (args' := [.list 87 lm, .fn 109 [.eref 3 (.int .i64 now)]]) ?_ hif ?_ rfl ?_)
      · simp only [bw_cap hn 5, bw_row hki hdl 7]
      · simp [zal, yam, hbel]
      · exact ⟨.refl _ _, by rw [qcv]; exact .win hxi hki⟩
  · obtain ⟨x0, hx0, hp0, hbef⟩ := fidx_at hi
    have hdl := qal eI qco l
    have hbel : yam 0 (l.map eI) = true := qat _ hdl
    have hll : (l.map eI).length = l.length := by simp
    have hq : ((i : Int) == -1) = false := by simp
    have hi9 : i < 9223372036854775807 := by omega
    rw [hi] at hif
    have hlv : zdj now (l.take (i + 1)) = l.take i := by
      rw [live_step hx0, if_pos hp0, List.append_nil, zdj, List.filter_eq_self]
      intro y hy; simp [hbef y hy]
    have hsplit : ∀ z, l.map eI ++ z = (zdj now (l.take (i + 1))).map eI ++ (eI x0 :: ([] ++ ((l.drop (i + 1)).map eI ++ z))) := by
      intro z
      rw [hlv]
      conv => lhs; rw [← List.take_append_drop i l, List.drop_eq_getElem_cons hil]
      have : l[i] = x0 := by rw [List.getElem?_eq_getElem hil] at hx0; exact Option.some.inj hx0
      simp [this]
    generalize hlm : l.map eI = lm at hv hif hdl hbel hll hsplit
    cases hv with
    | nil => simp at hll; omega
    | @win ki lo _ z hxi hki =>
      have hkil := qab hki
      have hne : ki ≠ kn := by rintro rfl; exact hx hxi
      have hes := hsplit z
      repeat' (first
    | simp (implicitDefEqProofs := false) only [push_cast, reduceIte, reduceCtorEq, Nat.reduceAdd, Nat.reduceSub, Nat.reduceEqDiff, Nat.reduceLT, Nat.reduceLeDiff, Nat.reduceBEq, Nat.reduceMul, Int.reduceLT, Int.reduceLE, Int.reduceEq, Int.reduceToNat, Int.reduceMul, Int.reduceNeg, Go.Proofs.Try.f107, hq, yag hi9]
    | refine Sp2.f ?_ ?_
    | refine Spl.f ?_ ?_ <;> intro hb
    | refine yac rfl (fun b hb => ?_)
    | refine zcd wfp (args' := [.list 87 lm, .fn 109 [.eref 3 (.int .i64 now)]]) ?_ hif ?_ rfl ?_)
      · simp only [bw_cap hn 5, bw_row hki hdl 7]
      · simp [zal, yam, hbel]
      refine qa6 (DI h ki now l z (fun n m a => [(0, .win ki [] 87 0 lm.length lo), (1, .fn 109 [.ref kn [0] 3]), (4, .nils), (5, .int .i64 n), (6, .int .i64 m), (7, a 7), (12, a 12), (19, a 19), (29, a 29)]) (i + 1)) (l.length - (i + 1)) (di_mk (eI x0) [] [] (by rw [Nat.add_zero, ← hes, List.append_nil, set_same hki]) (by rw [Nat.add_zero, hlv]; simp; omega) (by omega) (by rw [Nat.add_zero, hlv]; simp only [List.length_take]; rw [Nat.min_eq_left (by omega)]; rfl)) ?_
      rintro j env hh ⟨b, B, g, rfl, hlen, hjl, henv⟩
      refine ⟨by omega, ?_⟩
      rw [henv]
      generalize lk env = a
      clear henv env
      generalize hm : i + 1 + j = m at hlen hjl ⊢
      generalize hA : (zdj now (l.take (m))).map eI = A
      have hAl : A.length = (zdj now (l.take (m))).length := by rw [← hA]; simp
      rw [← hAl] at hlen ⊢
      by_cases hlt : m < l.length
      · obtain ⟨x, hx⟩ : ∃ x, l[m]? = some x := ⟨_, List.getElem?_eq_getElem hlt⟩
        have hdr : l.drop (m) = x :: l.drop (m + 1) := by
          rw [List.drop_eq_getElem_cons hlt]
          rw [List.getElem?_eq_getElem hlt] at hx
          rw [Option.some.inj hx]
        simp only [hdr, List.map_cons, List.cons_append]
        have hgx : (A ++ (b :: (B ++ (eI x :: ((l.drop (m + 1)).map eI ++ z)))))[m]? = some (eI x) := by
          rw [← hlen, List.getElem?_append_right (by omega), show A.length + (B.length + 1) - A.length = B.length + 1 by omega, List.getElem?_cons_succ, List.getElem?_append_right (Nat.le_refl _), Nat.sub_self]; rfl
        have hcl : decide (((m : Nat) : Int) < (lm.length : Int)) = true := yaz (by omega)
        have hir : (0 ≤ ((m : Nat) : Int) ∧ ((m : Nat) : Int) < (lm.length : Int)) = True := yas (by omega)
        have hia : (0 ≤ ((A.length : Nat) : Int) ∧ ((A.length : Nat) : Int) < (lm.length : Int)) = True := yas (by omega)
        have hj9 : m < 9223372036854775807 := by omega
        have hA9 : A.length < 9223372036854775807 := by omega
        have hnn : ∀ E g, (h.set ki E ++ g)[kn]? = some ⟨3, [.int .i64 now], .own⟩ := fun E g => by rw [zad (by simpa using hnl), qac hne, hn]
        generalize hD : (l.drop (m + 1)).map eI ++ z = D at hgx
        have hga : (A ++ (b :: (B ++ (eI x :: D))))[A.length]? = some b := by rw [List.getElem?_append_right (Nat.le_refl _), Nat.sub_self]; rfl
        have hsa : (A ++ (b :: (B ++ (eI x :: D)))).set A.length (eI x) = A ++ (eI x :: (B ++ (eI x :: D))) := by rw [List.set_append_right _ _ (Nat.le_refl _), Nat.sub_self]; rfl
        have hst := live_step (now := now) hx
        by_cases hp : expd now x = true
        · rw [if_pos hp, List.append_nil] at hst
          repeat' (first
    | simp (implicitDefEqProofs := false) only [push_cast, reduceIte, reduceCtorEq, Nat.reduceAdd, Nat.reduceSub, Nat.reduceEqDiff, Nat.reduceLT, Nat.reduceLeDiff, Nat.reduceBEq, Nat.reduceMul, Int.reduceLT, Int.reduceLE, Int.reduceEq, Int.reduceToNat, Int.reduceMul, Int.reduceNeg, Go.Proofs.Try.f107, eI_ty, eI_wk, eI_pl, hgx, hcl, hir, hp, hkil, yag hj9, Int.toNat_natCast, zad, zae, qac, yad, yab, qad, sst, zac, qaa, yaa, zag, ybk, List.replicate_succ, List.drop_zero, yai hkil, qaf hkil, zax hkil, qai hkil]
    | refine Sp2.f ?_ ?_
    | refine Spl.f ?_ ?_ <;> intro hb
    | refine yac rfl (fun b hb => ?_)
    | refine zcd wfp (args' := [eI x, .eref 3 (.int .i64 now)]) ?_ (c_Do1 x now) ?_ rfl ?_)
          · exact congr (congrArg List.cons (ycy (eI x) 8 (qco x))) (congr (congrArg List.cons (bw_cap1 (hnn _ _) 6)) rfl)
          · simp only [qak (n := 0) _ (qco x)]; rfl
          refine di_mk b (B ++ [eI x]) _ (by rw [show i + 1 + (j + 1) = m + 1 by omega, hst, hA, hD, List.append_assoc]; rfl) (by rw [show i + 1 + (j + 1) = m + 1 by omega, hst, ← hAl]; simp; omega) (by omega) (by rw [show i + 1 + (j + 1) = m + 1 by omega, hst, ← hAl]; rfl)
        · rw [if_neg hp] at hst
          have hp : expd now x = false := by simpa using hp
          have hA2 : (zdj now (l.take (m + 1))).map eI = A ++ [eI x] := by rw [hst, List.map_append, hA]; rfl
          have hAl2 : (zdj now (l.take (m + 1))).length = A.length + 1 := by rw [hst, List.length_append, ← hAl]; rfl
          repeat' (first
    | simp (implicitDefEqProofs := false) only [push_cast, reduceIte, reduceCtorEq, Nat.reduceAdd, Nat.reduceSub, Nat.reduceEqDiff, Nat.reduceLT, Nat.reduceLeDiff, Nat.reduceBEq, Nat.reduceMul, Int.reduceLT, Int.reduceLE, Int.reduceEq, Int.reduceToNat, Int.reduceMul, Int.reduceNeg, Go.Proofs.Try.f107, eI_ty, eI_wk, eI_pl, hgx, hcl, hir, hia, hga, hsa, hp, hkil, yag hj9, yag hA9, Int.toNat_natCast, zad, zae, qac, yad, yab, qad, sst, zac, qaa, yaa, zag, ybk, List.replicate_succ, List.drop_zero, yai hkil, qaf hkil, zax hkil, qai hkil]
    | refine Sp2.f ?_ ?_
    | refine Spl.f ?_ ?_ <;> intro hb
    | refine yac rfl (fun b hb => ?_)
    | refine zcd wfp (args' := [eI x, .eref 3 (.int .i64 now)]) ?_ (c_Do1 x now) ?_ rfl ?_)
          · exact congr (congrArg List.cons (ycy (eI x) 8 (qco x))) (congr (congrArg List.cons (bw_cap1 (hnn _ _) 6)) rfl)
          · simp only [qak (n := 0) _ (qco x)]; rfl
          have hBB : ∃ b' B', B ++ (eI x :: D) = b' :: (B' ++ D) ∧ B'.length = B.length := by
            cases B with
            | nil => exact ⟨eI x, [], rfl, rfl⟩
            | cons b1 B1 => exact ⟨b1, B1 ++ [eI x], by simp, by simp⟩
          obtain ⟨b', B', hB1, hB2⟩ := hBB
          refine di_mk b' B' _ (by rw [show i + 1 + (j + 1) = m + 1 by omega, hA2, hD, ← hB1, List.append_assoc]; rfl) (by rw [show i + 1 + (j + 1) = m + 1 by omega, hAl2]; omega) (by omega) (by rw [show i + 1 + (j + 1) = m + 1 by omega, hAl2]; rfl)
      · have hjn : m = l.length := by omega
        have hcl : decide (((m : Nat) : Int) < (lm.length : Int)) = false := ya3 (by omega)
        have hdr : l.drop (m) = [] := List.drop_eq_nil_of_le (by omega)
        have htl : l.take (m) = l := List.take_of_length_le (by omega)
        rw [htl] at hA
        simp only [hdr, List.map_nil, List.nil_append]
        have htk : (A ++ (b :: (B ++ z))).take A.length = A := by simp
        have hdz : (A ++ (b :: (B ++ z))).drop (A.length + (lm.length - A.length)) = z := by
          rw [show A.length + (lm.length - A.length) = A.length + (B.length + 1) by omega, List.drop_append, List.drop_eq_nil_of_le (by omega), List.nil_append, show A.length + (B.length + 1) - A.length = B.length + 1 by omega, List.drop_succ_cons, List.drop_append]
          simp
        repeat' (first
    | simp (implicitDefEqProofs := false) only [push_cast, reduceIte, reduceCtorEq, Nat.reduceAdd, Nat.reduceSub, Nat.reduceEqDiff, Nat.reduceLT, Nat.reduceLeDiff, Nat.reduceBEq, Nat.reduceMul, Int.reduceLT, Int.reduceLE, Int.reduceEq, Int.reduceToNat, Int.reduceMul, Int.reduceNeg, Go.Proofs.Try.f107, hcl, htk, hdz, hkil, Int.toNat_natCast, Nat.sub_zero, zad, zae, qac, yad, yab, qad, sst, zac, qaa, yaa, zag, ybk, List.replicate_succ, List.drop_zero, yai hkil, qaf hkil, zax hkil, qai hkil]
    | refine Sp2.f ?_ ?_
    | refine Spl.f ?_ ?_ <;> intro hb
    | refine yac rfl (fun b hb => ?_))
        all_goals first
          | omega
          | (simp; omega)
          | skip
        refine ⟨Keeps.sets hxi _ _, ?_⟩
        rw [hA]
        exact View.win' _ (.inl hxi) (by rw [zad (by simpa using hkil), yad hkil]) rfl rfl
end Go.Abs
set_option linter.all false
set_option maxRecDepth 100000
set_option maxHeartbeats 0
namespace Go.Abs
open Go
open Go.Proofs.Try (prog)
def doOK (s : Spc) (now : Int) (r : Req) : Bool := qdi s && qcp r && decide (s.Now ≤ now) && decide (now ≤ 1099511627776)
def aged (s : Spc) (now : Int) : Spc := { s with Now := now, Items := zdj now s.Items }
def doS (s : Spc) (now : Int) (r : Req) : Spc × List Rpl :=
  if doOK s now r = true then
    (if r.Seq < (yau s r.Client.toNat).Seq then (aged s now, [⟨r.Client, r.Seq, 7, [], false⟩])
     else if r.Seq = (yau s r.Client.toNat).Seq then (aged s now, [yau s r.Client.toNat])
     else doW (aged s now) r [])
  else (s, [])
def ResDo (s : Spc) (l : List Rpl) (r : AV) : Prop := ∃ v, r = .tup v ∧ zcf prog [29, 63] v ∧ wks prog [29, 63] v = [eS s, eRs l]
theorem zb6 {H h1 : List Entry} {j : Nat} (hj : ybh (fun _ => False) H h1 j) : H.length ≤ j := hj.elim False.elim And.left
theorem up1 {H h1 h2 : List Entry} {n m : Nat} (hH : n ≤ H.length) (h12 : h1.length ≤ h2.length) (hm : h2.length ≤ m) (hH1 : H.length ≤ h1.length) : ∀ j, ybh (ybh (fun _ => False) H h1) h1 h2 j → n ≤ j ∧ j < m := by
  rintro j ((h | ⟨a, b⟩) | ⟨a, b⟩)
  · exact h.elim
  · omega
  · omega
theorem up2 {H h3 : List Entry} {n m : Nat} (hH : n ≤ H.length) (hm : h3.length ≤ m) : ∀ j, ybh (fun _ => False) H h3 j → n ≤ j ∧ j < m := by
  rintro j (h | ⟨a, b⟩)
  · exact h.elim
  · omega
theorem do_fin {X : Nat → Prop} {h h5 : List Entry} {s' : Spc} {out' : List Rpl} {vi vw vo : AV} {e : Entry} (v1 : View X h5 87 vi (s'.Items.map eI)) (v2 : View X h5 89 vw (s'.Waiters.map eW)) (v3 : View X h5 26 vo (out'.map eR))
    (hX : ∀ j, X j → h.length ≤ j) (k : Nat) (hk : h.length ≤ k) (e3 : h5[k]? = some e) (he : e.T = 29) (hh : h5.take h.length = h) (E : Entry) :
    (h5.set k E).take h.length = h ∧ ∃ l, AV.tup [.agg 29 [.int .i64 s'.Now, vi, vw, .int .i64 s'.Read, .int .i64 s'.Write, eL s'.Last], vo] = .tup l ∧ yam h.length (rzL (h5.set k E) h.length l) = true ∧ ResDo s' out' (.tup (rzL (h5.set k E) h.length l)) := by
  have sI : e.T ≠ 87 := by rw [he]; decide
  have sW : e.T ≠ 89 := by rw [he]; decide
  have sR : e.T ≠ 26 := by rw [he]; decide
  have dI := qal eI qco s'.Items
  have dW := qal eW eW_dat s'.Waiters
  have dR := qal eR eR_dat out'
  refine ⟨by rw [List.take_set_of_le hk]; exact hh, _, rfl, ?_⟩
  have t1 := (v1.set e3 sI E).rz hX dI
  have t2 := (v2.set e3 sW E).rz hX dW
  have t3 := (v3.set e3 sR E).rz hX dR
  simp only [rzL, rz, qa9 _ (eL_dat _)]
  have bI := qat (n := h.length) _ dI
  have bW := qat (n := h.length) _ dW
  have bR := qat (n := h.length) _ dR
  have f1 : zal h.length (rz (h5.set k E) h.length vi) = true ∧ tyB prog (rz (h5.set k E) h.length vi) 22 = true ∧ ∀ n, wk prog (n + 1) 22 (rz (h5.set k E) h.length vi) = eIs s'.Items := by
    rcases t1 with t | ⟨e', t⟩ <;> rw [t]
    · exact ⟨by simp only [zal]; exact bI, by rw [qdp, sh_22]; simp, fun n => by rw [zbl]; rfl⟩
    · exact ⟨rfl, by rw [yb0, sh_22]; rfl, fun n => by rw [qbe, sh_22, qan, eIs, e']⟩
  have f2 : zal h.length (rz (h5.set k E) h.length vw) = true ∧ tyB prog (rz (h5.set k E) h.length vw) 23 = true ∧ ∀ n, wk prog (n + 1) 23 (rz (h5.set k E) h.length vw) = eWs s'.Waiters := by
    rcases t2 with t | ⟨e', t⟩ <;> rw [t]
    · exact ⟨by simp only [zal]; exact bW, by rw [qdp, sh_23]; simp, fun n => by rw [zbl]; rfl⟩
    · exact ⟨rfl, by rw [yb0, sh_23]; rfl, fun n => by rw [qbe, sh_23, qan, eWs, e']⟩
  have f3 : zal h.length (rz (h5.set k E) h.length vo) = true ∧ tyB prog (rz (h5.set k E) h.length vo) 63 = true ∧ ∀ n, wk prog (n + 1) 63 (rz (h5.set k E) h.length vo) = eRs out' := by
    rcases t3 with t | ⟨e', t⟩ <;> rw [t]
    · exact ⟨by simp only [zal]; exact bR, by rw [qdp, qc9]; simp, fun n => by rw [zbl]; rfl⟩
    · exact ⟨rfl, by rw [yb0, qc9]; rfl, fun n => by rw [qbe, qc9, qan, eRs, e']⟩
  refine ⟨by simp only [yam, zal, f1.1, f2.1, f3.1, qak _ (eL_dat _), Bool.and_self], _, rfl, ⟨by rw [ty_agg]; rfl, f3.2.1, trivial⟩, ?_⟩
  simp only [wks, ybu, qaw, ybq, sh_29, fl_29, List.zipWith_cons_cons, List.zipWith_nil_left, if_true, f1.2.2, f2.2.2, f3.2.2, qbt]
  rfl
theorem sst0 {h l : List Entry} {k : Nat} {e e' : Entry} : (h.set k e ++ l).set h.length e' = h.set k e ++ l.set 0 e' := by
  have := zda (h.set k e) l e'
  simpa using this
theorem mayS_parts {s : Spc} (h : qdi s = true) : mayH s = true ∧ (∀ x ∈ s.Items, mayI x s.Now = true) ∧ (∀ x ∈ s.Waiters, mayW x = true) ∧ ycf mayL s.Last [0, 1, 2, 3] = true := by
  simp only [qdi, Bool.and_eq_true, List.all_eq_true] at h
  exact ⟨h.1.1.1.1, h.1.1.1.2, h.1.2, h.2⟩
theorem mayS_rdy {s : Spc} {now : Int} {r : Req} (hs : s.Small) (hr : r.Small) (h : doOK s now r = true) : Rdy (aged s now) r [] := by
  simp only [doOK, Bool.and_eq_true, decide_eq_true_eq] at h
  obtain ⟨⟨⟨h1, h2⟩, h3⟩, h4⟩ := h
  obtain ⟨g1, g2, g3, g4⟩ := mayS_parts h1
  simp only [mayH, Bool.and_eq_true, decide_eq_true_eq] at g1
  have hq : zay r.Client = true ∧ r.Lease ≤ 1099511627776 := by
    simp only [qcp, Bool.and_eq_true, decide_eq_true_eq] at h2
    obtain ⟨k1, k2, _⟩ := h2
    refine ⟨by simp only [zay, Bool.and_eq_true, decide_eq_true_eq]; omega, ?_⟩
    split at k2
    · simp only [Bool.and_eq_true, decide_eq_true_eq] at k2; omega
    · simp only [Bool.and_eq_true, decide_eq_true_eq] at k2; omega
  refine ⟨hs.four, ?_, ?_, by simp, ?_, ?_, ⟨by show 0 ≤ now; omega, h4⟩, hq.1, hr.T, hr.P, hq.2⟩
  · show s.Waiters.length ≤ 1000; omega
  · show (zdj now s.Items).length ≤ 1000
    have := List.length_filter_le (fun x => !expd now x) s.Items
    unfold zdj; omega
  · intro x hx
    have := g3 x hx
    simp only [mayW, Bool.and_eq_true] at this
    exact ⟨this.1.1.1, hs.waiters.2 x hx⟩
  · intro x hx
    exact hs.items.2 x ((List.mem_filter.1 hx).1)
theorem c_Do (s : Spc) (now : Int) (r : Req) (hs : s.Small) (hr : r.Small) : Fn prog 46 [eS s, .int .i64 now, eQ r] (.tup [eS (doS s now r).1, eRs (doS s now r).2]) := by
  refine ybg (R := ResDo (doS s now r).1 (doS s now r).2) [29, 63] (fn_tup wfp fun h => ?_) fun r' hr' => hr'
  refine frun_46 rfl ?_
  by_cases hok : doOK s now r = true
  · have hrdy := mayS_rdy hs hr hok
    have hparts := hok
    simp only [doOK, Bool.and_eq_true, decide_eq_true_eq] at hparts
    obtain ⟨⟨⟨m1, m2⟩, m3⟩, m4⟩ := hparts
    have m3 : decide (now < s.Now) = false := by simpa using m3
    have m4 : decide (1099511627776 < now) = false := by simpa using m4
    obtain ⟨c, hc, hc4⟩ := ych hrdy.rc
    have hct : r.Client.toNat = c := by rw [hc]; rfl
    have hil : (s.Items.map eI).length ≤ 4294967296 := by simpa using hs.items.1
    have hwl : (s.Waiters.map eW).length ≤ 4294967296 := by simpa using hs.waiters.1
    have tI : 148 ≠ 87 := by decide
    have tW : 148 ≠ 89 := by decide
    have tR : 148 ≠ 26 := by decide
    have sI : 29 ≠ 87 := by decide
    have sW : 29 ≠ 89 := by decide
    have sR : 29 ≠ 26 := by decide
    repeat' (first
    | simp (implicitDefEqProofs := false) only [push_cast, reduceIte, reduceCtorEq, Nat.reduceAdd, Nat.reduceSub, Nat.reduceEqDiff, Nat.reduceLT, Nat.reduceLeDiff, Nat.reduceBEq, Nat.reduceMul, Int.reduceLT, Int.reduceLE, Int.reduceEq, Int.reduceToNat, Int.reduceMul, Int.reduceNeg, Go.Proofs.Try.f46, m1, m2, m3, m4, eS, eIs, eWs, eQ, eFs, qbt, zad, zae, qac, yad, yab, qad, sst, zac, qaa, yaa, zag, ybk, List.replicate_succ, List.drop_zero]
    | refine Sp2.f ?_ ?_
    | refine Spl.f ?_ ?_ <;> intro hb
    | refine yac rfl (fun b hb => ?_)
    | refine zaa (U := [[], [], [], [], [], [], [], [], [2, 7], []]) (H := [⟨0, [], .hole⟩]) yae (by kernel_rfl) (by decide +kernel) (by kernel_rfl) ?_
    | refine zaa (U := [[], [], [], [], [], [], [], [], [7], []]) (H := []) yae (by kernel_rfl) (by decide +kernel) (by kernel_rfl) ?_
    | refine qaz (c_sMay s hs) ?_
    | refine qaz (zdn r hr) ?_)
    refine yav (c_CloneO_Item _ _ hil) fun v1 h1 ⟨kp1, vw1⟩ => ?_
    have a0 := kp1.get (zao h _) id
    have a1 := kp1.get (za0 h _ 1) id
    have a2 := kp1.get (za0 h _ 2) id
    have a3 := kp1.get (za0 h _ 3) id
    have a4 := kp1.get (za0 h _ 4) id
    have at1 := vw1.ty sh_22
    have ap1 := vw1.pl
    have l1 : h.length + 4 < h1.length := qab a4
    repeat' (first
    | simp (implicitDefEqProofs := false) only [push_cast, reduceIte, reduceCtorEq, Nat.reduceAdd, Nat.reduceSub, Nat.reduceEqDiff, Nat.reduceLT, Nat.reduceLeDiff, Nat.reduceBEq, Nat.reduceMul, Int.reduceLT, Int.reduceLE, Int.reduceEq, Int.reduceToNat, Int.reduceMul, Int.reduceNeg, Go.Proofs.Try.f46, a0, a1, a2, a3, a4, at1, ap1, zad, zae, qac, yad, yab, qad, sst, zac, qaa, yaa, zag, ybk, List.replicate_succ, List.drop_zero]
    | refine Sp2.f ?_ ?_
    | refine Spl.f ?_ ?_ <;> intro hb
    | refine yac rfl (fun b hb => ?_)
    | refine zaa (U := [[], [], [], [], [], [], [], [], [2, 7], []]) (H := [⟨0, [], .hole⟩]) yae (by kernel_rfl) (by decide +kernel) (by kernel_rfl) ?_
    | refine zaa (U := [[], [], [], [], [], [], [], [], [7], []]) (H := []) yae (by kernel_rfl) (by decide +kernel) (by kernel_rfl) ?_)
    refine k_raw (c_DeleteFunc (kn := h.length + 1) (now := now) hs.items.1 vw1 (ya9 (fun j hj => hj.elim) kp1.len) a1 (fun hj => by have := zb6 hj; simp only [List.length_append, List.length_cons, List.length_nil] at this; omega)) fun v2 h2 ⟨kp2, vw2⟩ => ?_
    have c0 := kp2.get a0 (fun hj => by have := zb6 hj; simp only [List.length_append, List.length_cons, List.length_nil] at this; omega)
    have c2 := kp2.get a2 (fun hj => by have := zb6 hj; simp only [List.length_append, List.length_cons, List.length_nil] at this; omega)
    have c3 := kp2.get a3 (fun hj => by have := zb6 hj; simp only [List.length_append, List.length_cons, List.length_nil] at this; omega)
    have c4 := kp2.get a4 (fun hj => by have := zb6 hj; simp only [List.length_append, List.length_cons, List.length_nil] at this; omega)
    have l2 : h.length + 4 < h2.length := qab c4
    have at2 := vw2.ty sh_22
    have ap2 := vw2.pl
    repeat' (first
    | simp (implicitDefEqProofs := false) only [push_cast, reduceIte, reduceCtorEq, Nat.reduceAdd, Nat.reduceSub, Nat.reduceEqDiff, Nat.reduceLT, Nat.reduceLeDiff, Nat.reduceBEq, Nat.reduceMul, Int.reduceLT, Int.reduceLE, Int.reduceEq, Int.reduceToNat, Int.reduceMul, Int.reduceNeg, Go.Proofs.Try.f46, c0, c2, c3, c4, l2, at2, ap2, zad, zae, qac, yad, yab, qad, sst, zac, qaa, yaa, zag, ybk, List.replicate_succ, List.drop_zero]
    | refine Sp2.f ?_ ?_
    | refine Spl.f ?_ ?_ <;> intro hb
    | refine yac rfl (fun b hb => ?_)
    | refine zaa (U := [[], [], [], [], [], [], [], [], [2, 7], []]) (H := [⟨0, [], .hole⟩]) yae (by kernel_rfl) (by decide +kernel) (by kernel_rfl) ?_
    | refine zaa (U := [[], [], [], [], [], [], [], [], [7], []]) (H := []) yae (by kernel_rfl) (by decide +kernel) (by kernel_rfl) ?_)
    refine yav (c_CloneO_Waiter _ _ hwl) fun v3 h3 ⟨kp3, vw3⟩ => ?_
    have l3' := kp3.len
    simp only [yab] at l3'
    have gg : ∀ {j : Nat} {e : Entry}, j ≠ h.length + 4 → h2[j]? = some e → h3[j]? = some e := fun hj he => kp3.get ((qac (Ne.symm hj)).trans he) id
    have d0 := gg (by omega) c0
    have d2 := gg (by omega) c2
    have d3 := gg (by omega) c3
    have d4 := kp3.get (yad l2) id
    have l3 : h.length + 4 < h3.length := qab d4
    have at3 := vw3.ty sh_23
    have ap3 := vw3.pl
    have vi3 : View (ybh (ybh (fun _ => False) _ h1) h1 h2) h3 87 v2 ((zdj now s.Items).map eI) := vw2.mono (fun _ h => h) fun j es _ hj => gg (by rintro rfl; rw [c4] at hj; cases hj) hj
    have hy : s.Last[c]? = some (yau s c) := by
      have : c < s.Last.length := by rw [hs.four]; exact hc4
      simp [yau, List.getD_eq_getElem?_getD, List.getElem?_eq_getElem this]
    have hgy : (s.Last.map eR)[c]? = some (eR (yau s c)) := by rw [List.getElem?_map, hy]; rfl
    have hr4 : (0 ≤ (c : Int) ∧ (c : Int) < ((4 : Nat) : Int)) = True := by simp; omega
    have hr5 : (0 ≤ (c : Int) ∧ (c : Int) < 4) = True := by simp; omega
    have hH0 := kp1.len
    simp only [List.length_append, List.length_cons, List.length_nil] at hH0
    have kl2 := kp2.len
    have ws5 : WS (fun j => h.length + 4 ≤ j ∧ j < h3.length) (h.length + 4) (aged s now) r [] (h3.set (h.length + 4) (wkE (aged s now) r v2 v3 .nils) ++ [⟨26, [eR (yau s c)], .own⟩]) :=
      ⟨fun j hj => by have := hj.2; simp; omega, ⟨Nat.le_refl _, l3⟩, v2, v3, .nils, by rw [zad (by simpa using l3), yad l3], ((vi3.up (up1 (by simp only [List.length_append, List.length_cons, List.length_nil]; omega) kl2 l3' kp1.len)).set d4 tI _).app _, ((vw3.up (up2 (by simp only [yab]; omega) (Nat.le_refl _))).set d4 tW _).app _, .nil⟩
    have t1 : h1.take h.length = h := (kp1.take (by simp) (fun j hj => hj.elim)).trans (by simp)
    have t2 : h2.take h.length = h := (kp2.take (by omega) (fun j hj => by have := zb6 hj; simp only [List.length_append, List.length_cons, List.length_nil] at this; omega)).trans t1
    have t3 : h3.take h.length = h := (kp3.take (by rw [yab]; omega) (fun j hj => hj.elim)).trans (by rw [List.take_set_of_le (by omega)]; exact t2)
    have hgL : zb1 (eL s.Last) [r.Client.toNat] = some (eR (yau s c)) := by rw [hct]; simp only [eL, zb1, hgy]
    have hr6 : (0 ≤ r.Client ∧ r.Client < ((4 : Nat) : Int)) = True := by rw [hc]; exact hr4
    have hr7 : (0 ≤ r.Client ∧ r.Client < 4) = True := by rw [hc]; exact hr5
    have n2 : h.length + 2 < h3.length := by omega
    have n3 : h.length + 3 < h3.length := by omega
    have n0 : h.length < h3.length := by omega
    have E3 : (h3.set (h.length + 4) (wkE (aged s now) r v2 v3 .nils) ++ [⟨26, [eR (yau s c)], .own⟩])[h.length + 3]? = some ⟨29, [zai prog 29], .own⟩ := by rw [zad (by simpa using n3), qac (by omega), za_29]; exact d3
    have hw16 : (aged s now).Waiters.length < 1000 := by have := (mayS_parts m1).1; simp only [mayH, Bool.and_eq_true, decide_eq_true_eq] at this; show s.Waiters.length < 1000; omega
    have hyT : (yau s c).T.length ≤ 4294967296 := hs.last.2 _ (List.mem_of_getElem? hy)
    clear kp1 kp2 kp3 vw1 vw2 vw3 a0 a1 a2 a3 a4 c0 c2 c3 c4
    rcases Int.lt_trichotomy r.Seq (yau s c).Seq with hA | hA | hA
    · have f1 : decide (r.Seq < (yau s c).Seq) = true := by simpa using hA
      have e : doS s now r = (aged s now, [⟨r.Client, r.Seq, 7, [], false⟩]) := by rw [doS, if_pos hok, hct, if_pos hA]
      rw [e]
      repeat' (first
    | simp (implicitDefEqProofs := false) only [push_cast, reduceIte, reduceCtorEq, Nat.reduceAdd, Nat.reduceSub, Nat.reduceEqDiff, Nat.reduceLT, Nat.reduceLeDiff, Nat.reduceBEq, Nat.reduceMul, Int.reduceLT, Int.reduceLE, Int.reduceEq, Int.reduceToNat, Int.reduceMul, Int.reduceNeg, Go.Proofs.Try.f46, d0, d2, d3, d4, l3, n2, n3, n0, at2, ap2, at3, ap3, hgL, sst0, yai l3, qaf l3, zax l3, qai l3, yai n2, qaf n2, zax n2, qai n2, yai n3, qaf n3, zax n3, qai n3, yai n0, qaf n0, zax n0, qai n0, hr6, hr7, ydm, Int.toNat_natCast, eR, eFs, eS, eQ, f1, zad, zae, qac, yad, yab, qad, sst, zac, qaa, yaa, zag, ybk, List.replicate_succ, List.drop_zero]
    | refine Sp2.f ?_ ?_
    | refine Spl.f ?_ ?_ <;> intro hb
    | refine yac rfl (fun b hb => ?_)
    | refine zaa (U := [[], [], [], [], [], [], [], [], [2, 7], []]) (H := [⟨0, [], .hole⟩]) yae (by kernel_rfl) (by decide +kernel) (by kernel_rfl) ?_
    | refine zaa (U := [[], [], [], [], [], [], [], [], [7], []]) (H := []) yae (by kernel_rfl) (by decide +kernel) (by kernel_rfl) ?_
    | refine ycv ((c_say ⟨r.Client, r.Seq, 7, [], false⟩ (by simp) (by simp) ws5).n) fun h5 w5 p5 => ?_)
      obtain ⟨bd5, ow5, v4, v5, v6, hk5, q1, q2, q3⟩ := w5
      have e3 := p5.get E3 (fun hj => by have := hj.1; omega)
      have l5 := qab hk5
      have l53 := qab e3
      repeat' (first
    | simp (implicitDefEqProofs := false) only [push_cast, reduceIte, reduceCtorEq, Nat.reduceAdd, Nat.reduceSub, Nat.reduceEqDiff, Nat.reduceLT, Nat.reduceLeDiff, Nat.reduceBEq, Nat.reduceMul, Int.reduceLT, Int.reduceLE, Int.reduceEq, Int.reduceToNat, Int.reduceMul, Int.reduceNeg, Go.Proofs.Try.f46, e3, hk5, l5, l53, wkE, q1.ty sh_22, q2.ty sh_23, q3.ty qc9, q1.pl, q2.pl, q3.pl, qbt, zad, zae, qac, yad, yab, qad, sst, zac, qaa, yaa, zag, ybk, List.replicate_succ, List.drop_zero]
    | refine Sp2.f ?_ ?_
    | refine Spl.f ?_ ?_ <;> intro hb
    | refine yac rfl (fun b hb => ?_)
    | refine zaa (U := [[], [], [], [], [], [], [], [], [2, 7], []]) (H := [⟨0, [], .hole⟩]) yae (by kernel_rfl) (by decide +kernel) (by kernel_rfl) ?_
    | refine zaa (U := [[], [], [], [], [], [], [], [], [7], []]) (H := []) yae (by kernel_rfl) (by decide +kernel) (by kernel_rfl) ?_)
      exact do_fin q1 q2 q3 (fun j hj => hj.elim (fun a => by have := a.1; omega) fun a => by have := a.1; simp only [List.length_append, yab] at this; omega) (h.length + 3) (by omega) e3 rfl ((p5.take (by simp only [List.length_append, yab]; omega) (fun j hj => by have := hj.1; omega)).trans (by rw [List.take_append_of_le_length (by simp only [yab]; omega), List.take_set_of_le (by omega)]; exact t3)) _
    · have f1 : decide (r.Seq < (yau s c).Seq) = false := by simp; omega
      have f2 : (r.Seq == (yau s c).Seq) = true := by simpa using hA
      have e : doS s now r = (aged s now, [yau s c]) := by rw [doS, if_pos hok, hct, if_neg (by omega), if_pos hA]
      rw [e]
      repeat' (first
    | simp (implicitDefEqProofs := false) only [push_cast, reduceIte, reduceCtorEq, Nat.reduceAdd, Nat.reduceSub, Nat.reduceEqDiff, Nat.reduceLT, Nat.reduceLeDiff, Nat.reduceBEq, Nat.reduceMul, Int.reduceLT, Int.reduceLE, Int.reduceEq, Int.reduceToNat, Int.reduceMul, Int.reduceNeg, Go.Proofs.Try.f46, d0, d2, d3, d4, l3, n2, n3, n0, at2, ap2, at3, ap3, hgL, sst0, yai l3, qaf l3, zax l3, qai l3, yai n2, qaf n2, zax n2, qai n2, yai n3, qaf n3, zax n3, qai n3, yai n0, qaf n0, zax n0, qai n0, hr6, hr7, ydm, Int.toNat_natCast, eR, eFs, eS, eQ, f1, f2, zad, zae, qac, yad, yab, qad, sst, zac, qaa, yaa, zag, ybk, List.replicate_succ, List.drop_zero]
    | refine Sp2.f ?_ ?_
    | refine Spl.f ?_ ?_ <;> intro hb
    | refine yac rfl (fun b hb => ?_)
    | refine zaa (U := [[], [], [], [], [], [], [], [], [2, 7], []]) (H := [⟨0, [], .hole⟩]) yae (by kernel_rfl) (by decide +kernel) (by kernel_rfl) ?_
    | refine zaa (U := [[], [], [], [], [], [], [], [], [7], []]) (H := []) yae (by kernel_rfl) (by decide +kernel) (by kernel_rfl) ?_
    | refine ycv ((c_say (yau s c) hyT (by simp) ws5).n) fun h5 w5 p5 => ?_)
      obtain ⟨bd5, ow5, v4, v5, v6, hk5, q1, q2, q3⟩ := w5
      have e3 := p5.get E3 (fun hj => by have := hj.1; omega)
      have l5 := qab hk5
      have l53 := qab e3
      repeat' (first
    | simp (implicitDefEqProofs := false) only [push_cast, reduceIte, reduceCtorEq, Nat.reduceAdd, Nat.reduceSub, Nat.reduceEqDiff, Nat.reduceLT, Nat.reduceLeDiff, Nat.reduceBEq, Nat.reduceMul, Int.reduceLT, Int.reduceLE, Int.reduceEq, Int.reduceToNat, Int.reduceMul, Int.reduceNeg, Go.Proofs.Try.f46, e3, hk5, l5, l53, wkE, q1.ty sh_22, q2.ty sh_23, q3.ty qc9, q1.pl, q2.pl, q3.pl, qbt, zad, zae, qac, yad, yab, qad, sst, zac, qaa, yaa, zag, ybk, List.replicate_succ, List.drop_zero]
    | refine Sp2.f ?_ ?_
    | refine Spl.f ?_ ?_ <;> intro hb
    | refine yac rfl (fun b hb => ?_)
    | refine zaa (U := [[], [], [], [], [], [], [], [], [2, 7], []]) (H := [⟨0, [], .hole⟩]) yae (by kernel_rfl) (by decide +kernel) (by kernel_rfl) ?_
    | refine zaa (U := [[], [], [], [], [], [], [], [], [7], []]) (H := []) yae (by kernel_rfl) (by decide +kernel) (by kernel_rfl) ?_)
      exact do_fin q1 q2 q3 (fun j hj => hj.elim (fun a => by have := a.1; omega) fun a => by have := a.1; simp only [List.length_append, yab] at this; omega) (h.length + 3) (by omega) e3 rfl ((p5.take (by simp only [List.length_append, yab]; omega) (fun j hj => by have := hj.1; omega)).trans (by rw [List.take_append_of_le_length (by simp only [yab]; omega), List.take_set_of_le (by omega)]; exact t3)) _
    · have f1 : decide (r.Seq < (yau s c).Seq) = false := by simp; omega
      have f2 : (r.Seq == (yau s c).Seq) = false := by simp; omega
      have e : doS s now r = doW (aged s now) r [] := by rw [doS, if_pos hok, hct, if_neg (by omega), if_neg (by omega)]
      rw [e]
      repeat' (first
    | simp (implicitDefEqProofs := false) only [push_cast, reduceIte, reduceCtorEq, Nat.reduceAdd, Nat.reduceSub, Nat.reduceEqDiff, Nat.reduceLT, Nat.reduceLeDiff, Nat.reduceBEq, Nat.reduceMul, Int.reduceLT, Int.reduceLE, Int.reduceEq, Int.reduceToNat, Int.reduceMul, Int.reduceNeg, Go.Proofs.Try.f46, d0, d2, d3, d4, l3, n2, n3, n0, at2, ap2, at3, ap3, hgL, sst0, yai l3, qaf l3, zax l3, qai l3, yai n2, qaf n2, zax n2, qai n2, yai n3, qaf n3, zax n3, qai n3, yai n0, qaf n0, zax n0, qai n0, hr6, hr7, ydm, Int.toNat_natCast, eR, eFs, eS, eQ, f1, f2, zad, zae, qac, yad, yab, qad, sst, zac, qaa, yaa, zag, ybk, List.replicate_succ, List.drop_zero]
    | refine Sp2.f ?_ ?_
    | refine Spl.f ?_ ?_ <;> intro hb
    | refine yac rfl (fun b hb => ?_)
    | refine zaa (U := [[], [], [], [], [], [], [], [], [2, 7], []]) (H := [⟨0, [], .hole⟩]) yae (by kernel_rfl) (by decide +kernel) (by kernel_rfl) ?_
    | refine zaa (U := [[], [], [], [], [], [], [], [], [7], []]) (H := []) yae (by kernel_rfl) (by decide +kernel) (by kernel_rfl) ?_
    | refine ycv (args := []) (c_do (by simp) hw16 hrdy ws5) fun h5 w5 p5 => ?_)
      obtain ⟨bd5, ow5, v4, v5, v6, hk5, q1, q2, q3⟩ := w5
      have e3 := p5.get E3 (fun hj => by have := hj.1; omega)
      have l5 := qab hk5
      have l53 := qab e3
      repeat' (first
    | simp (implicitDefEqProofs := false) only [push_cast, reduceIte, reduceCtorEq, Nat.reduceAdd, Nat.reduceSub, Nat.reduceEqDiff, Nat.reduceLT, Nat.reduceLeDiff, Nat.reduceBEq, Nat.reduceMul, Int.reduceLT, Int.reduceLE, Int.reduceEq, Int.reduceToNat, Int.reduceMul, Int.reduceNeg, Go.Proofs.Try.f46, e3, hk5, l5, l53, wkE, q1.ty sh_22, q2.ty sh_23, q3.ty qc9, q1.pl, q2.pl, q3.pl, qbt, zad, zae, qac, yad, yab, qad, sst, zac, qaa, yaa, zag, ybk, List.replicate_succ, List.drop_zero]
    | refine Sp2.f ?_ ?_
    | refine Spl.f ?_ ?_ <;> intro hb
    | refine yac rfl (fun b hb => ?_)
    | refine zaa (U := [[], [], [], [], [], [], [], [], [2, 7], []]) (H := [⟨0, [], .hole⟩]) yae (by kernel_rfl) (by decide +kernel) (by kernel_rfl) ?_
    | refine zaa (U := [[], [], [], [], [], [], [], [], [7], []]) (H := []) yae (by kernel_rfl) (by decide +kernel) (by kernel_rfl) ?_)
      exact do_fin q1 q2 q3 (fun j hj => hj.elim (fun a => by have := a.1; omega) fun a => by have := a.1; simp only [List.length_append, yab] at this; omega) (h.length + 3) (by omega) e3 rfl ((p5.take (by simp only [List.length_append, yab]; omega) (fun j hj => by have := hj.1; omega)).trans (by rw [List.take_append_of_le_length (by simp only [yab]; omega), List.take_set_of_le (by omega)]; exact t3)) _
  · have e : doS s now r = (s, []) := by rw [doS, if_neg hok]
    rw [e]
    have hok : doOK s now r = false := by simpa using hok
    have hcs : qdi s = false ∨ (qdi s = true ∧ qcp r = false) ∨ (qdi s = true ∧ qcp r = true ∧ decide (now < s.Now) = true) ∨ (qdi s = true ∧ qcp r = true ∧ decide (now < s.Now) = false ∧ decide (1099511627776 < now) = true) := by
      simp only [doOK] at hok
      cases h1 : qdi s <;> cases h2 : qcp r <;> simp_all
      omega
    rcases hcs with m1 | ⟨m1, m2⟩ | ⟨m1, m2, m3⟩ | ⟨m1, m2, m3, m4⟩
    all_goals
      have hp1 := m1
      repeat' (first
    | simp (implicitDefEqProofs := false) only [push_cast, reduceIte, reduceCtorEq, Nat.reduceAdd, Nat.reduceSub, Nat.reduceEqDiff, Nat.reduceLT, Nat.reduceLeDiff, Nat.reduceBEq, Nat.reduceMul, Int.reduceLT, Int.reduceLE, Int.reduceEq, Int.reduceToNat, Int.reduceMul, Int.reduceNeg, Go.Proofs.Try.f46, *, eS, eIs, eWs, eQ, eFs, qbt]
    | refine Sp2.f ?_ ?_
    | refine Spl.f ?_ ?_ <;> intro hb
    | refine yac rfl (fun b hb => ?_)
    | refine zaa (U := [[], [], [], [], [], [], [], [], [2, 7], []]) (H := [⟨0, [], .hole⟩]) yae (by kernel_rfl) (by decide +kernel) (by kernel_rfl) ?_
    | refine zaa (U := [[], [], [], [], [], [], [], [], [7], []]) (H := []) yae (by kernel_rfl) (by decide +kernel) (by kernel_rfl) ?_
    | refine qaz (c_sMay s hs) ?_
    | refine qaz (zdn r hr) ?_)
      refine ⟨[eS s, .nils], rfl, ?_, ?_⟩
      · simp only [rzL, qa9 _ (zc8 s), rz, yam, qak _ (zc8 s), zal, Bool.and_self]
      · simp only [rzL, qa9 _ (zc8 s), rz]
        exact ⟨_, rfl, ⟨yb9 s, by rw [yb0, qc9]; rfl, trivial⟩, by simp only [wks, qch, qbe, qc9, qan]; rfl⟩
end Go.Abs
