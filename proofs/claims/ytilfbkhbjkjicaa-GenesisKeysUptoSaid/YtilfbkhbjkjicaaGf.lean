/- Gf: a part of the proofs about the tuple space and its bytes. -/
import Derived.Test.YtilfbkhbjkjicaaGq
import Derived.Test.YtilfbkhbjkjicaaGe
set_option linter.all false
set_option maxRecDepth 100000
set_option maxHeartbeats 0
namespace Go.Abs
open Go
open Go.Proofs.Try (prog)
/-! ### chirographlaw10.Fake -/
def fakeK (i : Nat) : List UInt8 := (((List.replicate 56 (0 : UInt8)).set 3 5).set 7 (UInt8.ofNat (1 + i % 4))).set 20 (UInt8.ofNat i)
def fakeG (f : Nat) (r w : Int) : Gen := ⟨f, r, w, (List.range (min (3 * f + 1) 10)).map fakeK, []⟩
/-- a row of rows of bytes of one's own -/
def OwnRows (X : Nat → Prop) (h : List Entry) (v : AV) (ls : List (List UInt8)) : Prop :=
  ∃ ws : List AV, View X h 30 v ws ∧ ws.length = ls.length ∧ ∀ (i : Nat) (w : AV) (l : List UInt8), ws[i]? = some w → ls[i]? = some l → View X h 5 w (l.map eB) ∧ l ≠ []
theorem OwnRows.none {X : Nat → Prop} {h : List Entry} : OwnRows X h .nils [] := ⟨[], .nil, rfl, fun i w l hw => by simp at hw⟩
theorem OwnRows.mono {X X' : Nat → Prop} {h h' : List Entry} {v : AV} {ls : List (List UInt8)} (o : OwnRows X h v ls) (hX : ∀ j, X j → X' j) (hg : ∀ j T es, X j → T = 30 ∨ T = 5 → h[j]? = some ⟨T, es, .own⟩ → h'[j]? = some ⟨T, es, .own⟩) : OwnRows X' h' v ls := by
  obtain ⟨ws, a, b, c⟩ := o
  exact ⟨ws, a.mono hX fun j es hx hj => hg j _ es hx (.inl rfl) hj, b, fun i w l hw hl => ⟨(c i w l hw hl).1.mono hX fun j es hx hj => hg j _ es hx (.inr rfl) hj, (c i w l hw hl).2⟩⟩
/-- one more row behind them -/
theorem OwnRows.snoc {X : Nat → Prop} {h : List Entry} {v w : AV} {ws : List AV} {ls : List (List UInt8)} {l : List UInt8} (hv : View X h 30 v (ws ++ [w])) (hn : ws.length = ls.length) (hi : ∀ (i : Nat) (w : AV) (l : List UInt8), ws[i]? = some w → ls[i]? = some l → View X h 5 w (l.map eB) ∧ l ≠ []) (hw : View X h 5 w (l.map eB)) (hl : l ≠ []) : OwnRows X h v (ls ++ [l]) := by
  refine ⟨ws ++ [w], hv, by simp [hn], fun i w' l' hw' hl' => ?_⟩
  by_cases e : i < ws.length
  · rw [List.getElem?_append_left e] at hw'
    rw [List.getElem?_append_left (by omega)] at hl'
    exact hi i w' l' hw' hl'
  · have e2 : i = ws.length := by
      have := (List.getElem?_eq_some_iff.1 hw').1
      simp at this; omega
    subst e2
    rw [List.getElem?_append_right (Nat.le_refl _)] at hw'
    rw [hn, List.getElem?_append_right (Nat.le_refl _)] at hl'
    simp at hw' hl'
    subst hw'; subst hl'
    exact ⟨hw, hl⟩
theorem bits3 (i : Nat) (hi : i < 10) : bits .and .i64 (i : Int) 3 = ((i % 4 : Nat) : Int) := by
  rcases (by omega : i = 0 ∨ i = 1 ∨ i = 2 ∨ i = 3 ∨ i = 4 ∨ i = 5 ∨ i = 6 ∨ i = 7 ∨ i = 8 ∨ i = 9) with rfl | rfl | rfl | rfl | rfl | rfl | rfl | rfl | rfl | rfl <;> decide +kernel
theorem c_Fake (f : Nat) (r w : Int) (hf : f ≤ 3) (h : List Entry) : FSpec prog 36 [.int .i64 f, .int .i64 r, .int .i64 w] h fun r' h' => h'.take h.length = h ∧ ∃ v, r' = .agg 72 [.int .i64 f, .int .i64 r, .int .i64 w, v, .nils] ∧ OwnRows (fun j => h.length ≤ j) h' v (fakeG f r w).Keys := by
  have v3 : IntKind.wrap .i64 (3 * (f : Int)) = 3 * (f : Int) := i64_small (by omega) (by omega)
  have v4 : IntKind.wrap .i64 (3 * (f : Int) + 1) = 3 * (f : Int) + 1 := i64_small (by omega) (by omega)
  refine frun_36 rfl ?_
  repeat' (first
    | simp (implicitDefEqProofs := false) only [push_cast, reduceIte, reduceCtorEq, Nat.reduceAdd, Nat.reduceSub, Nat.reduceEqDiff, Nat.reduceLT, Nat.reduceLeDiff, Nat.reduceBEq, Nat.reduceMul, Int.reduceLT, Int.reduceLE, Int.reduceEq, Int.reduceToNat, Int.reduceMul, Int.reduceNeg, Go.Proofs.Try.f36, ap_lo, st_lo, st_ne, st_eq, len_st, st_st, sst, at_set, at_set0, at_set2, List.replicate_succ, List.drop_zero]
    | refine Sp2.f ?_ ?_
    | refine Spl.f ?_ ?_ <;> intro hb
    | refine rq_mk rfl (fun b hb => ?_))
  refine rl_gen (fun i env' H => i ≤ 3 * f + 1 ∧ i ≤ 10 ∧ H.take h.length = h ∧ h.length + 2 ≤ H.length ∧ H[h.length]? = some (⟨72, [.agg 72 [.int .i64 0, .int .i64 0, .int .i64 0, .nils, .nils]], .own⟩ : Entry) ∧ (∃ v, H[h.length + 1]? = some (⟨72, [.agg 72 [.int .i64 f, .int .i64 r, .int .i64 w, v, .nils]], .own⟩ : Entry) ∧ OwnRows (fun j => h.length + 2 ≤ j) H v ((List.range i).map fakeK)) ∧
    env' = (fun a : Nat → AV => [(0, .int .i64 f), (1, .int .i64 r), (2, .int .i64 w), (6, .ref h.length [0] 72), (7, .ref (h.length + 1) [0] 72), (8, .int .i64 (i : Int)), (9, a 9), (22, a 22)]) (lk env')) 10 ⟨by omega, by omega, by simp, by simp, get_at0 .., ⟨.nils, get_at .., .none⟩, rfl⟩ ?_
  rintro i env H ⟨hi3, hi, hT, hHl, hz, ⟨v, hc, ho⟩, henv⟩
  refine ⟨hi, ?_⟩
  rw [henv]
  generalize lk env = a
  clear henv env
  have hcl := lt_some hc
  by_cases hlt : i < 3 * f + 1 ∧ i < 10
  · have c1 : decide ((i : Int) < 3 * (f : Int) + 1) = true := by simp; omega
    have c2 : decide ((i : Int) < 10) = true := by simp; omega
    obtain ⟨ws, hv, hwl, hws⟩ := ho
    obtain ⟨m, hm⟩ : ∃ m : Nat, m = i % 4 := ⟨_, rfl⟩
    have hb3 := bits3 i (by omega)
    rw [← hm] at hb3
    have w1 : IntKind.wrap .i64 (1 + (m : Int)) = 1 + (m : Int) := i64_small (by omega) (by omega)
    have w2 : IntKind.wrap .u8 (1 + (m : Int)) = ((UInt8.ofNat (1 + m)).toNat : Int) := by rw [wrap_u8, UInt8.toNat_ofNat']; omega
    have w3 : IntKind.wrap .u8 (i : Int) = ((UInt8.ofNat i).toNat : Int) := by rw [wrap_u8, UInt8.toNat_ofNat']; omega
    have c56N : ((56 : Nat) : Int) = 56 := rfl
    have hby : (((prog.bytesOf 5 : Nat) : Int) * 56 ≤ 140737488355328) = True := by apply eq_true; decide +kernel
    have hla := hv.lenAV
    have hwl2 : ws.length = i := by rw [hwl]; simp
    have e7 : decide (ws.length + 1 ≤ 4294967296) = true := by simp; omega
    have e7' : (ws.length ≤ 4294967295) = True := by apply eq_true; omega
    repeat' (first
    | simp (implicitDefEqProofs := false) only [push_cast, reduceIte, reduceCtorEq, Nat.reduceAdd, Nat.reduceSub, Nat.reduceEqDiff, Nat.reduceLT, Nat.reduceLeDiff, Nat.reduceBEq, Nat.reduceMul, Int.reduceLT, Int.reduceLE, Int.reduceEq, Int.reduceToNat, Int.reduceMul, Int.reduceNeg, Go.Proofs.Try.f36, v3, v4, c1, c2, hc, hcl, hb3, w1, w2, w3, c56N, hby, hla, e7, e7', Int.toNat_natCast, wrap_succ (show i < 9223372036854775807 by omega), ap_lo, st_lo, st_ne, st_eq, len_st, st_st, sst, at_set, at_set0, at_set2, List.replicate_succ, List.drop_zero]
    | refine Sp2.f ?_ ?_
    | refine Spl.f ?_ ?_ <;> intro hb
    | refine rq_mk rfl (fun b hb => ?_))
    obtain ⟨v6, H6, hv6, hl6, hk6, hgo⟩ := rh_app (P := prog) (.win H.length [] 5 0 56 56) ((hv.app [(⟨5, (fakeK i).map eB, .own⟩ : Entry)]).app [(⟨30, [.win H.length [] 5 0 56 56], .own⟩ : Entry)])
    have hlen : ((H ++ [(⟨5, (fakeK i).map eB, .own⟩ : Entry)]) ++ [(⟨30, [.win H.length [] 5 0 56 56], .own⟩ : Entry)]).length = H.length + 2 := by simp
    rw [hlen] at hgo hl6
    rw [List.append_assoc, List.cons_append, List.nil_append] at hgo hk6
    have hc6 := hk6 (h.length + 1) _ (by rw [List.getElem?_append_left hcl]; exact hc) (.inl (by omega))
    have hz6 := hk6 h.length _ (by rw [List.getElem?_append_left (by omega)]; exact hz) (.inl (by omega))
    have hb6 := hk6 H.length _ (get_at0 H _) (.inr (by show 5 ≠ 30; decide))
    have hc6l := lt_some hc6
    subst hm
    refine hgo _ _ _ _ ?_
    have hty6 := hv6.ty (U := 70) sh_70
    have hpl6 := hv6.pl
    repeat' (first
    | simp (implicitDefEqProofs := false) only [push_cast, reduceIte, reduceCtorEq, Nat.reduceAdd, Nat.reduceSub, Nat.reduceEqDiff, Nat.reduceLT, Nat.reduceLeDiff, Nat.reduceBEq, Nat.reduceMul, Int.reduceLT, Int.reduceLE, Int.reduceEq, Int.reduceToNat, Int.reduceMul, Int.reduceNeg, Go.Proofs.Try.f36, hc6, hc6l, hty6, hpl6, wrap_succ (show i < 9223372036854775807 by omega), ap_lo, st_lo, st_ne, st_eq, len_st, st_st, sst, at_set, at_set0, at_set2, List.replicate_succ, List.drop_zero]
    | refine Sp2.f ?_ ?_
    | refine Spl.f ?_ ?_ <;> intro hb
    | refine rq_mk rfl (fun b hb => ?_))
    have dG1 : 72 ≠ 30 := by decide
    have dG2 : 72 ≠ 5 := by decide
    have hrow : ∀ E : Entry, OwnRows (fun j => h.length + 2 ≤ j) (H6.set (h.length + 1) E) v6 ((List.range (i + 1)).map fakeK) := fun E => by
      rw [List.range_succ, List.map_append, List.map_cons, List.map_nil]
      refine OwnRows.snoc (w := .win H.length [] 5 0 56 56) ((hv6.set hc6 dG1 E).up fun j hj => hj.elim id fun a => by have := a.1; simp at this; omega) hwl (fun j w' l' hw' hl' => ?_) ?_ ?_
      · obtain ⟨a1, a2⟩ := hws j w' l' hw' hl'
        refine ⟨(View.mono (X' := fun j => h.length + 2 ≤ j) (h' := H6) a1 (fun _ hj => hj) fun j' es _ hj => hk6 j' _ (by rw [List.getElem?_append_left (lt_some hj)]; exact hj) (.inr (by show 5 ≠ 30; decide))).set hc6 dG2 E, a2⟩
      · exact View.set (View.mk' (l := (fakeK i).map eB) [] (show h.length + 2 ≤ H.length by omega) hb6 (by rw [List.append_nil]) (by simp [fakeK])) hc6 dG2 E
      · intro e
        have := congrArg List.length e
        simp [fakeK] at this
    refine ⟨by omega, by omega, ?_, by omega, hz6, v6, rfl, hrow _⟩
    rw [List.take_set_of_le (by omega)]
    exact tk_of hT (by omega) fun j e he hc => hk6 j e he (hc.imp (fun h => by omega) id)
  · have hmin : i = min (3 * f + 1) 10 := by omega
    have hKs : (fakeG f r w).Keys = (List.range i).map fakeK := by rw [hmin]; rfl
    have dG1 : 72 ≠ 30 := by decide
    have dG2 : 72 ≠ 5 := by decide
    have hzl := lt_some hz
    have fin : ∀ E : Entry, (H.set h.length E).take h.length = h ∧ OwnRows (fun j => h.length ≤ j) (H.set h.length E) v (fakeG f r w).Keys := fun E => by
      refine ⟨by rw [List.take_set_of_le (Nat.le_refl _)]; exact hT, ?_⟩
      rw [hKs]
      refine ho.mono (fun j hj => by omega) fun j T es hj hT' hj' => ?_
      rw [List.getElem?_set_ne (by omega)]
      exact hj'
    have hty : tyB prog v 70 = true := by obtain ⟨ws, a, _⟩ := ho; exact a.ty sh_70
    have hpl : plainAV v = true := by obtain ⟨ws, a, _⟩ := ho; exact a.pl
    by_cases hl1 : i < 3 * f + 1
    · have c1 : decide ((i : Int) < 3 * (f : Int) + 1) = true := by simp; omega
      have c2 : decide ((i : Int) < 10) = false := by simp; omega
      repeat' (first
    | simp (implicitDefEqProofs := false) only [push_cast, reduceIte, reduceCtorEq, Nat.reduceAdd, Nat.reduceSub, Nat.reduceEqDiff, Nat.reduceLT, Nat.reduceLeDiff, Nat.reduceBEq, Nat.reduceMul, Int.reduceLT, Int.reduceLE, Int.reduceEq, Int.reduceToNat, Int.reduceMul, Int.reduceNeg, Go.Proofs.Try.f36, v3, v4, c1, c2, hc, hcl, hz, hzl, hty, hpl, fk_cell, ap_lo, st_lo, st_ne, st_eq, len_st, st_st, sst, at_set, at_set0, at_set2, List.replicate_succ, List.drop_zero]
    | refine Sp2.f ?_ ?_
    | refine Spl.f ?_ ?_ <;> intro hb
    | refine rq_mk rfl (fun b hb => ?_))
      exact ⟨(fin _).1, v, rfl, (fin _).2⟩
    · have c1 : decide ((i : Int) < 3 * (f : Int) + 1) = false := by simp; omega
      repeat' (first
    | simp (implicitDefEqProofs := false) only [push_cast, reduceIte, reduceCtorEq, Nat.reduceAdd, Nat.reduceSub, Nat.reduceEqDiff, Nat.reduceLT, Nat.reduceLeDiff, Nat.reduceBEq, Nat.reduceMul, Int.reduceLT, Int.reduceLE, Int.reduceEq, Int.reduceToNat, Int.reduceMul, Int.reduceNeg, Go.Proofs.Try.f36, v3, v4, c1, hc, hcl, hz, hzl, hty, hpl, fk_cell, ap_lo, st_lo, st_ne, st_eq, len_st, st_st, sst, at_set, at_set0, at_set2, List.replicate_succ, List.drop_zero]
    | refine Sp2.f ?_ ?_
    | refine Spl.f ?_ ?_ <;> intro hb
    | refine rq_mk rfl (fun b hb => ?_))
      exact ⟨(fin _).1, v, rfl, (fin _).2⟩

end Go.Abs
