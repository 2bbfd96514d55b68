/- Eo: a part of the proofs about the tuple space and its bytes. -/
import Derived.Test.YtilfbkhbjkjicaaEt
import Derived.Test.YtilfbkhbjkjicaaRb
import Derived.Test.YtilfbkhbjkjicaaPz
set_option linter.all false
set_option maxRecDepth 100000
set_option maxHeartbeats 0
namespace Go.Abs
open Go
open Go.Proofs.Try (prog)
theorem doS_now9 {s : Spc} {now : Int} {r : Req} (h : MS s) (hn : s.Now ≤ now) : (doS s now r).1.Now ≤ now := by
  unfold doS
  split
  · rename_i hok
    simp only [doOK, Bool.and_eq_true, decide_eq_true_eq] at hok
    split
    · exact Int.le_refl _
    · split
      · exact Int.le_refl _
      · have := (dn_do (s := aged s now) (r := r) (out := []) (h.aged hok.1.2 hok.2).len4 (may_mq hok.1.1.2).cl).now
        rw [this]; exact Int.le_refl _
  · exact hn
theorem doN_MS {e : Ent} {s : Spc} (h : MS s) (hn : s.Now ≤ e.Now) : ∀ i, MS (doN e s i).1 ∧ (doN e s i).1.Now ≤ e.Now
  | 0 => ⟨h, hn⟩
  | i + 1 => by
    obtain ⟨a, b⟩ := doN_MS h hn i
    exact ⟨a.do, doS_now9 a b⟩
theorem mayE_one {e : Ent} {x : Req} (h : zc8 e = true) (hx : x ∈ e.List) : zc8 ⟨e.Now, [x]⟩ = true := by
  simp only [zc8, qdx, Bool.and_eq_true, decide_eq_true_eq, List.all_eq_true] at h ⊢
  exact ⟨⟨h.1.1, h.1.2.1, by simp, by simp⟩, fun y hy => by rw [List.mem_singleton.1 hy]; exact h.2 x hx⟩
theorem apply_one {e : Ent} {s : Spc} {x : Req} (hs : MS s) (hn : s.Now ≤ e.Now) (h : zc8 e = true) (hx : x ∈ e.List) : ybe s ⟨e.Now, [x]⟩ = ((doS s e.Now x).1, (doS s e.Now x).2, 0) := by
  rw [ybe, if_pos ⟨ms_may hs, mayE_one h hx⟩, if_neg (by show ¬ e.Now < s.Now; omega)]
  simp [doN]
theorem doN_snoc (e : Ent) (s : Spc) (i : Nat) : doN e s (i + 1) = ((doS (doN e s i).1 e.Now (e.List.getD i zQ)).1, (doN e s i).2 ++ (doS (doN e s i).1 e.Now (e.List.getD i zQ)).2) := rfl
theorem doN_pre (e : Ent) (s : Spc) (i : Nat) : ∀ k, ∃ t, (doN e s (i + k)).2 = (doN e s i).2 ++ t
  | 0 => ⟨[], by simp⟩
  | k + 1 => by
    obtain ⟨t, ht⟩ := doN_pre e s i k
    exact ⟨t ++ (doS (doN e s (i + k)).1 e.Now (e.List.getD (i + k) zQ)).2, by rw [← Nat.add_assoc, doN_snoc]; simp only [ht, List.append_assoc]⟩
def M11 (l : List Asked) (b : Nat) (h : List Entry) (E0 : Entry) (E : Nat → Int → (Nat → AV) → Env) (i : Nat) (env : Env) (hh : List Entry) : Prop :=
  ∃ s n, MS s ∧ i ≤ l.length ∧ i ≤ b ∧ hh = h ++ [E0, ⟨29, [eS s], .own⟩] ∧ env = E i n (lk env)
theorem m11_mk {l : List Asked} {b : Nat} {h : List Entry} {E0 : Entry} {E : Nat → Int → (Nat → AV) → Env} {i : Nat} {env : Env} {hh : List Entry} (s : Spc) (n : Int) (h1 : MS s) (h2 : i ≤ l.length) (h3 : i ≤ b) (h4 : hh = h ++ [E0, ⟨29, [eS s], .own⟩]) (h5 : env = E i n (lk env)) : M11 l b h E0 E i env hh := ⟨s, n, h1, h2, h3, h4, h5⟩
theorem c_EntryOne (e : Ent) (l : List Asked) (he : e.Small) (hl : l.length ≤ 4294967296) (hR : ∀ x ∈ l, x.R.Small) : Fn prog 6 [eE e, .list 62 (l.map eA)] (.bool true) := by
  refine run_6 rfl fun h => ?_
  have m1 := c_MayEntry6 e he
  have f1 := c_Few11 e he
  cases hm1 : zc8 e with
  | false =>
    rw [hm1] at m1
    repeat' (first
    | simp (implicitDefEqProofs := false) only [push_cast, reduceIte, reduceCtorEq, Nat.reduceAdd, Nat.reduceSub, Nat.reduceEqDiff, Nat.reduceLT, Nat.reduceLeDiff, Nat.reduceBEq, Nat.reduceMul, Int.reduceLT, Int.reduceLE, Int.reduceEq, Int.reduceToNat, Int.reduceMul, Int.reduceNeg, Go.Proofs.Try.f6, yb5, qb5, zb5, zad, yae, qad, zae, zab, qae, sst, qab, qaa, yaa, zac, qaq, List.replicate_succ, List.drop_zero]
    | refine Sp2.f ?_ ?_
    | refine Spl.f ?_ ?_ <;> intro hb
    | refine qac rfl (fun b hb => ?_)
    | refine zaa (U := [[], [], [], [], [], [], [], [], [], [], [], []]) (H := []) zag (by kernel_rfl) (by decide +kernel) (by kernel_rfl) ?_
    | refine zaa (U := [[], [], [], [], [], [], [], [], [0, 2], [], [], [], [], [], [], [0, 2, 4, 8, 10], [], [], []]) (H := [⟨0, [], .hole⟩]) zag (by kernel_rfl) (by decide +kernel) (by kernel_rfl) ?_
    | refine zat m1 ?_
    | refine zat f1 ?_
    | refine zat c_told11 ?_)
  | true =>
  rw [hm1] at m1
  cases hf1 : fewE e with
  | false =>
    rw [hf1] at f1
    repeat' (first
    | simp (implicitDefEqProofs := false) only [push_cast, reduceIte, reduceCtorEq, Nat.reduceAdd, Nat.reduceSub, Nat.reduceEqDiff, Nat.reduceLT, Nat.reduceLeDiff, Nat.reduceBEq, Nat.reduceMul, Int.reduceLT, Int.reduceLE, Int.reduceEq, Int.reduceToNat, Int.reduceMul, Int.reduceNeg, Go.Proofs.Try.f6, yb5, qb5, zb5, zad, yae, qad, zae, zab, qae, sst, qab, qaa, yaa, zac, qaq, List.replicate_succ, List.drop_zero]
    | refine Sp2.f ?_ ?_
    | refine Spl.f ?_ ?_ <;> intro hb
    | refine qac rfl (fun b hb => ?_)
    | refine zaa (U := [[], [], [], [], [], [], [], [], [], [], [], []]) (H := []) zag (by kernel_rfl) (by decide +kernel) (by kernel_rfl) ?_
    | refine zaa (U := [[], [], [], [], [], [], [], [], [0, 2], [], [], [], [], [], [], [0, 2, 4, 8, 10], [], [], []]) (H := [⟨0, [], .hole⟩]) zag (by kernel_rfl) (by decide +kernel) (by kernel_rfl) ?_
    | refine zat m1 ?_
    | refine zat f1 ?_
    | refine zat c_told11 ?_)
  | true =>
  rw [hf1] at f1
  repeat' (first
    | simp (implicitDefEqProofs := false) only [push_cast, reduceIte, reduceCtorEq, Nat.reduceAdd, Nat.reduceSub, Nat.reduceEqDiff, Nat.reduceLT, Nat.reduceLeDiff, Nat.reduceBEq, Nat.reduceMul, Int.reduceLT, Int.reduceLE, Int.reduceEq, Int.reduceToNat, Int.reduceMul, Int.reduceNeg, Go.Proofs.Try.f6, yb5, qb5, zb5, qbx, zcd, yb3, List.length_map, zad, yae, qad, zae, zab, qae, sst, qab, qaa, yaa, zac, qaq, List.replicate_succ, List.drop_zero]
    | refine Sp2.f ?_ ?_
    | refine Spl.f ?_ ?_ <;> intro hb
    | refine qac rfl (fun b hb => ?_)
    | refine zaa (U := [[], [], [], [], [], [], [], [], [], [], [], []]) (H := []) zag (by kernel_rfl) (by decide +kernel) (by kernel_rfl) ?_
    | refine zaa (U := [[], [], [], [], [], [], [], [], [0, 2], [], [], [], [], [], [], [0, 2, 4, 8, 10], [], [], []]) (H := [⟨0, [], .hole⟩]) zag (by kernel_rfl) (by decide +kernel) (by kernel_rfl) ?_
    | refine zat m1 ?_
    | refine zat f1 ?_
    | refine zat (c_New6 15 15) ?_)
  refine zbl (M11 l 20 h ⟨49, [eE e], .own⟩ (fun i n a => [(0, eE e), (1, .list 62 (l.map eA)), (2, .ref h.length [0] 49), (4, .bool false), (5, .ref (h.length + 1) [0] 29), (6, .int .i64 n), (7, .int .i64 i), (8, a 8), (9, a 9), (10, a 10), (11, a 11), (12, a 12), (13, a 13), (14, a 14), (15, a 15), (16, a 16), (17, a 17), (25, a 25), (35, a 35), (70, a 70), (92, a 92), (132, a 132)])) l.length (m11_mk (newS 15 15) 0 MS.new (Nat.zero_le _) (by omega) rfl rfl) ?_
  rintro i env hh ⟨s, n, hs, hi, hi20, rfl, henv⟩
  refine ⟨hi, ?_⟩
  rw [henv]
  generalize lk env = a
  clear henv env
  have hdo : i < l.length ∧ i < 20 ∨ (¬ i < l.length ∨ ¬ i < 20) := by omega
  rcases hdo with ⟨hlt, h20⟩ | hend
  · obtain ⟨x, hx⟩ : ∃ x, l[i]? = some x := ⟨_, List.getElem?_eq_getElem hlt⟩
    have hxR := hR x (List.mem_of_getElem? hx)
    have hi9 : i < 9223372036854775807 := by omega
    have f20 : decide ((i : Int) < 20) = true := by simp; omega
    generalize hn' : IntKind.wrap .i64 (n + IntKind.wrap .i64 ((IntKind.wrap .u64 x.D).tmod 20)) = n'
    have d1 := c_Do6 s n' x.R hs.small hxR
    have hs' : MS (doS s n' x.R).1 := hs.do
    generalize doS s n' x.R = out at d1 hs'
    obtain ⟨s', rs⟩ := out
    simp only at d1 hs'
    repeat' (first
    | simp (implicitDefEqProofs := false) only [push_cast, reduceIte, reduceCtorEq, Nat.reduceAdd, Nat.reduceSub, Nat.reduceEqDiff, Nat.reduceLT, Nat.reduceLeDiff, Nat.reduceBEq, Nat.reduceMul, Int.reduceLT, Int.reduceLE, Int.reduceEq, Int.reduceToNat, Int.reduceMul, Int.reduceNeg, Go.Proofs.Try.f6, eRs, qbx, zcd, yb3, eA, zay, zaz, yaz, hn', f20, List.length_map, yaj hlt, qaj hlt, zai eA hx, Int.toNat_natCast, qaf hi9, zad, yae, qad, zae, zab, qae, sst, qab, qaa, yaa, zac, qaq, List.replicate_succ, List.drop_zero]
    | refine Sp2.f ?_ ?_
    | refine Spl.f ?_ ?_ <;> intro hb
    | refine qac rfl (fun b hb => ?_)
    | refine zaa (U := [[], [], [], [], [], [], [], [], [], [], [], []]) (H := []) zag (by kernel_rfl) (by decide +kernel) (by kernel_rfl) ?_
    | refine zaa (U := [[], [], [], [], [], [], [], [], [0, 2], [], [], [], [], [], [], [0, 2, 4, 8, 10], [], [], []]) (H := [⟨0, [], .hole⟩]) zag (by kernel_rfl) (by decide +kernel) (by kernel_rfl) ?_
    | refine zbe d1 ?_)
    exact m11_mk s' n' hs' hlt (by omega) rfl rfl
  · have cend : ((decide ((i : Int) < (l.length : Int)) = false ∧ True) ∨ (decide ((i : Int) < (l.length : Int)) = true ∧ decide ((i : Int) < 20) = false)) := by
      by_cases hh : i < l.length
      · exact .inr ⟨yaj hh, by simp; omega⟩
      · exact .inl ⟨yal hh, trivial⟩
    have a1 := qdq s e hs.small he
    have g0 : za7 (eE e) [0] = some (.int .i64 e.Now) := rfl
    have g1 : za7 (eE e) [1] = some (.list 60 (e.List.map eQ)) := rfl
    have gS : ∀ s : Spc, za7 (eS s) [0] = some (.int .i64 s.Now) := fun _ => rfl
    clear hend hi hi20
    have e00 : ((0 : Int) == 0) = true := rfl
    have e77 : ((7 : Int) == 7) = true := rfl
    have b00 : ((0 : Int) != 0) = false := rfl
    have hE0 : eRs [] = .list 26 [] := rfl
    by_cases hnow : e.Now < s.Now
    · have ha : ybe s e = (s, [], 7) := by rw [ybe, if_pos ⟨ms_may hs, hm1⟩, if_pos hnow]
      rw [ha, hE0] at a1
      have dn : decide (e.Now < s.Now) = true := by simpa using hnow
      have s6 := c_SameSpace6 s s hs.small hs.small
      rw [sameS_rfl] at s6
      rcases cend with ⟨ce, ce2⟩ | ⟨ce, ce2⟩
      all_goals repeat' (first
    | simp (implicitDefEqProofs := false) only [push_cast, reduceIte, reduceCtorEq, Nat.reduceAdd, Nat.reduceSub, Nat.reduceEqDiff, Nat.reduceLT, Nat.reduceLeDiff, Nat.reduceBEq, Nat.reduceMul, Int.reduceLT, Int.reduceLE, Int.reduceEq, Int.reduceToNat, Int.reduceMul, Int.reduceNeg, Go.Proofs.Try.f6, yb5, qb5, zb5, qbx, zcd, yb3, g0, gS, dn, ce, ce2, e00, e77, List.length_map, List.length_nil, zad, yae, qad, zae, zab, qae, sst, qab, qaa, yaa, zac, qaq, List.replicate_succ, List.drop_zero]
    | refine Sp2.f ?_ ?_
    | refine Spl.f ?_ ?_ <;> intro hb
    | refine qac rfl (fun b hb => ?_)
    | refine zaa (U := [[], [], [], [], [], [], [], [], [], [], [], []]) (H := []) zag (by kernel_rfl) (by decide +kernel) (by kernel_rfl) ?_
    | refine zaa (U := [[], [], [], [], [], [], [], [], [0, 2], [], [], [], [], [], [], [0, 2, 4, 8, 10], [], [], []]) (H := [⟨0, [], .hole⟩]) zag (by kernel_rfl) (by decide +kernel) (by kernel_rfl) ?_
    | refine zat a1 ?_
    | refine zat c_told11 ?_
    | refine zat s6 ?_)
    · have ha : ybe s e = ((doN e s e.List.length).1, (doN e s e.List.length).2, 0) := by rw [ybe, if_pos ⟨ms_may hs, hm1⟩, if_neg hnow]
      rw [ha] at a1
      have dn : decide (e.Now < s.Now) = false := by simpa using hnow
      rcases cend with ⟨ce, ce2⟩ | ⟨ce, ce2⟩
      all_goals repeat' (first
    | simp (implicitDefEqProofs := false) only [push_cast, reduceIte, reduceCtorEq, Nat.reduceAdd, Nat.reduceSub, Nat.reduceEqDiff, Nat.reduceLT, Nat.reduceLeDiff, Nat.reduceBEq, Nat.reduceMul, Int.reduceLT, Int.reduceLE, Int.reduceEq, Int.reduceToNat, Int.reduceMul, Int.reduceNeg, Go.Proofs.Try.f6, yb5, qb5, zb5, qbx, zcd, yb3, eRs_ty, eRs_pl, eRs_wk, g0, gS, dn, ce, ce2, List.length_map, List.length_nil, zad, yae, qad, zae, zab, qae, sst, qab, qaa, yaa, zac, qaq, List.replicate_succ, List.drop_zero]
    | refine Sp2.f ?_ ?_
    | refine Spl.f ?_ ?_ <;> intro hb
    | refine qac rfl (fun b hb => ?_)
    | refine zaa (U := [[], [], [], [], [], [], [], [], [], [], [], []]) (H := []) zag (by kernel_rfl) (by decide +kernel) (by kernel_rfl) ?_
    | refine zaa (U := [[], [], [], [], [], [], [], [], [0, 2], [], [], [], [], [], [], [0, 2, 4, 8, 10], [], [], []]) (H := [⟨0, [], .hole⟩]) zag (by kernel_rfl) (by decide +kernel) (by kernel_rfl) ?_
    | refine zat a1 ?_)
      all_goals
        refine zbl (fun j env' H => j ≤ e.List.length ∧ (∃ g, H = h ++ ⟨49, [eE e], .own⟩ :: ⟨29, [eS s], .own⟩ :: ⟨29, [eS (doN e s e.List.length).1], .own⟩ :: ⟨29, [eS (doN e s j).1], .own⟩ :: g) ∧
          env' = (fun a : Nat → AV => [(0, eE e), (1, .list 62 (l.map eA)), (2, .ref h.length [0] 49), (4, .bool false), (5, .ref (h.length + 1) [0] 29), (6, a 6), (7, a 7), (8, .ref (h.length + 2) [0] 29), (9, eRs (doN e s e.List.length).2), (10, .int .i64 0), (11, .ref (h.length + 3) [0] 29), (12, .int .i64 (doN e s j).2.length), (13, .int .i64 0), (14, .int .i64 j), (15, a 15), (16, a 16), (17, a 17), (25, a 25), (35, a 35), (70, a 70), (92, a 92), (132, a 132)]) (lk env')) e.List.length ⟨Nat.zero_le _, ⟨[], rfl⟩, rfl⟩ ?_
        clear a
        rintro j env H ⟨hj, ⟨g, rfl⟩, henv⟩
        refine ⟨hj, ?_⟩
        rw [henv]
        generalize lk env = a
        clear henv env
        have hla : (doN e s e.List.length).2.length ≤ 131 * e.List.length := (qb3 e s hs.small he _ (Nat.le_refl _)).2.2
        have hl8 : e.List.length ≤ 8 := by simp only [zc8, qdx, Bool.and_eq_true, decide_eq_true_eq] at hm1; exact hm1.1.2.2.2
        by_cases hlt : j < e.List.length
        · obtain ⟨x, hx⟩ : ∃ x, e.List[j]? = some x := ⟨_, List.getElem?_eq_getElem hlt⟩
          have hxd : e.List.getD j zQ = x := by rw [List.getD_eq_getElem?_getD, hx]; rfl
          have hxm := List.mem_of_getElem? hx
          obtain ⟨hMS, hNow⟩ := doN_MS (e := e) hs (by omega) j
          have hsm1 : (⟨e.Now, [x]⟩ : Ent).Small := ⟨by simp, fun y hy => by rw [List.mem_singleton.1 hy]; exact he.q x hxm⟩
          have a2 := qdq (doN e s j).1 ⟨e.Now, [x]⟩ hMS.small hsm1
          rw [apply_one hMS hNow hm1 hxm] at a2
          have hsn : doN e s (j + 1) = ((doS (doN e s j).1 e.Now x).1, (doN e s j).2 ++ (doS (doN e s j).1 e.Now x).2) := by rw [doN_snoc, hxd]
          obtain ⟨t, ht⟩ := doN_pre e s (j + 1) (e.List.length - (j + 1))
          rw [show j + 1 + (e.List.length - (j + 1)) = e.List.length by omega, hsn] at ht
          have hom := do_small (now := e.Now) hMS.small (he.q x hxm)
          have hr6 := c_SameReplies6 (doS (doN e s j).1 e.Now x).2 (doS (doN e s j).1 e.Now x).2 hom.2 hom.2
          rw [sm6s_rfl] at hr6
          have hen : eE ⟨e.Now, [x]⟩ = .agg 49 [.int .i64 e.Now, .list 60 [eQ x]] := rfl
          rw [hen] at a2
          generalize hO : (doS (doN e s j).1 e.Now x).2 = O at *
          generalize hP : (doN e s j).2 = P at *
          generalize (doN e s e.List.length).2 = A at *
          generalize hS1 : (doS (doN e s j).1 e.Now x).1 = S1 at *
          generalize (doN e s j).1 = S0 at *
          have hj9 : j < 9223372036854775807 := by omega
          have hsl : List.drop j (List.take ((j : Int) + 1).toNat (List.map eQ e.List)) = [eQ x] := by
            rw [show ((j : Int) + 1).toNat = j + 1 by omega, List.take_add_one, List.getElem?_map, hx, List.drop_append_of_le_length (by simp; omega), List.drop_of_length_le (by simp; omega)]; rfl
          have hAl : A.length = P.length + O.length + t.length := by rw [ht]; simp only [List.length_append]
          have hw : IntKind.wrap .i64 ((P.length : Int) + (O.length : Int)) = (P.length : Int) + (O.length : Int) := zb3 (by omega) (by omega)
          have hgt : decide ((A.length : Int) < (P.length : Int) + (O.length : Int)) = false := by simp; omega
          have hinA : (0 ≤ (P.length : Int) ∧ (P.length : Int) ≤ (P.length : Int) + (O.length : Int) ∧ (P.length : Int) + (O.length : Int) ≤ (A.length : Int)) = True := by apply eq_true; omega
          have hslA : List.drop P.length (List.take ((P.length : Int) + (O.length : Int)).toNat (List.map eR A)) = List.map eR O := by
            rw [show ((P.length : Int) + (O.length : Int)).toNat = P.length + O.length by omega, ht, List.map_append, List.take_append_of_le_length (by simp), List.take_of_length_le (by simp), List.map_append, List.drop_append_of_le_length (by simp), List.drop_of_length_le (by simp)]; rfl
          simp only [eRs] at hr6
          have hin : (0 ≤ (j : Int) ∧ (j : Int) ≤ (j : Int) + 1 ∧ (j : Int) + 1 ≤ (e.List.length : Int)) = True := by apply eq_true; omega
          repeat' (first
    | simp (implicitDefEqProofs := false) only [push_cast, reduceIte, reduceCtorEq, Nat.reduceAdd, Nat.reduceSub, Nat.reduceEqDiff, Nat.reduceLT, Nat.reduceLeDiff, Nat.reduceBEq, Nat.reduceMul, Int.reduceLT, Int.reduceLE, Int.reduceEq, Int.reduceToNat, Int.reduceMul, Int.reduceNeg, Go.Proofs.Try.f6, yb5, qb5, zb5, qbx, zcd, yb3, g0, g1, eRs, b00, hw, hgt, hinA, hslA, hsl, hin, yaj hlt, qaf hj9, List.length_map, Int.toNat_natCast, zad, yae, qad, zae, zab, qae, sst, qab, qaa, yaa, zac, qaq, List.replicate_succ, List.drop_zero]
    | refine Sp2.f ?_ ?_
    | refine Spl.f ?_ ?_ <;> intro hb
    | refine qac rfl (fun b hb => ?_)
    | refine zaa (U := [[], [], [], [], [], [], [], [], [], [], [], []]) (H := []) zag (by kernel_rfl) (by decide +kernel) (by kernel_rfl) ?_
    | refine zaa (U := [[], [], [], [], [], [], [], [], [0, 2], [], [], [], [], [], [], [0, 2, 4, 8, 10], [], [], []]) (H := [⟨0, [], .hole⟩]) zag (by kernel_rfl) (by decide +kernel) (by kernel_rfl) ?_
    | refine zbe a2 ?_
    | refine zat hr6 ?_)
          refine ⟨hlt, ⟨_, by rw [hsn]⟩, ?_⟩
          rw [hsn]
          simp only [List.length_append, Int.natCast_add]
        · have hje : j = e.List.length := by omega
          have s6 := c_SameSpace6 (doN e s e.List.length).1 (doN e s e.List.length).1 (qb3 e s hs.small he _ (Nat.le_refl _)).1 (qb3 e s hs.small he _ (Nat.le_refl _)).1
          rw [sameS_rfl] at s6
          have cg := yal hlt
          rw [hje] at cg ⊢
          generalize (doN e s e.List.length).2 = A at *
          have eAA : ((A.length : Int) == (A.length : Int)) = true := by simp
          repeat' (first
    | simp (implicitDefEqProofs := false) only [push_cast, reduceIte, reduceCtorEq, Nat.reduceAdd, Nat.reduceSub, Nat.reduceEqDiff, Nat.reduceLT, Nat.reduceLeDiff, Nat.reduceBEq, Nat.reduceMul, Int.reduceLT, Int.reduceLE, Int.reduceEq, Int.reduceToNat, Int.reduceMul, Int.reduceNeg, Go.Proofs.Try.f6, yb5, qb5, zb5, qbx, zcd, yb3, eRs, g0, g1, e00, eAA, cg, List.length_map, zad, yae, qad, zae, zab, qae, sst, qab, qaa, yaa, zac, qaq, List.replicate_succ, List.drop_zero]
    | refine Sp2.f ?_ ?_
    | refine Spl.f ?_ ?_ <;> intro hb
    | refine qac rfl (fun b hb => ?_)
    | refine zaa (U := [[], [], [], [], [], [], [], [], [], [], [], []]) (H := []) zag (by kernel_rfl) (by decide +kernel) (by kernel_rfl) ?_
    | refine zaa (U := [[], [], [], [], [], [], [], [], [0, 2], [], [], [], [], [], [], [0, 2, 4, 8, 10], [], [], []]) (H := [⟨0, [], .hole⟩]) zag (by kernel_rfl) (by decide +kernel) (by kernel_rfl) ?_
    | refine zat c_told11 ?_
    | refine zat s6 ?_)
end Go.Abs
