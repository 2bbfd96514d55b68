/- Wk2: a part of the proofs about the tuple space and its bytes. -/
import Derived.Test.YtilfbkhbjkjicaaSl
import Derived.Test.YtilfbkhbjkjicaaSp3
set_option linter.all false
set_option maxRecDepth 100000
set_option maxHeartbeats 0
namespace Go.Abs
open Go
open Go.Proofs.Try (prog)
def wkE (s : Spc) (r : Req) (vi vw vo : AV) : Entry := ⟨148, [.agg 148 [.agg 29 [.int .i64 s.Now, vi, vw, .int .i64 s.Read, .int .i64 s.Write, eL s.Last], eQ r, vo]], .own⟩
structure WS (X : Nat → Prop) (k : Nat) (s : Spc) (r : Req) (out : List Rpl) (h : List Entry) : Prop where
  bd : ∀ j, X j → j < h.length
  own : X k
  ex : ∃ vi vw vo, h[k]? = some (wkE s r vi vw vo) ∧ View X h 87 vi (s.Items.map eI) ∧ View X h 89 vw (s.Waiters.map eW) ∧ View X h 26 vo (out.map eR)
theorem WS.up {X Y : Nat → Prop} {k : Nat} {s : Spc} {r : Req} {out : List Rpl} {h : List Entry} (hw : WS X k s r out h) (hX : ∀ j, X j → Y j) (hb : ∀ j, Y j → j < h.length) : WS Y k s r out h := by
  obtain ⟨b, o, vi, vw, vo, h1, h2, h3, h4⟩ := hw
  exact ⟨hb, hX _ o, vi, vw, vo, h1, h2.up hX, h3.up hX, h4.up hX⟩
theorem WS.app {X : Nat → Prop} {k : Nat} {s : Spc} {r : Req} {out : List Rpl} {h : List Entry} (hw : WS X k s r out h) (l : List Entry) : WS X k s r out (h ++ l) := by
  obtain ⟨b, o, vi, vw, vo, h1, h2, h3, h4⟩ := hw
  exact ⟨fun j hj => by have := b j hj; simp; omega, o, vi, vw, vo, by rw [List.getElem?_append_left (qab h1)]; exact h1, h2.app l, h3.app l, h4.app l⟩
theorem View.win' {X : Nat → Prop} {h : List Entry} {T : TypeId} {k n lo : Nat} {es l : List AV} (z : List AV) (hx : X k) (hk : h[k]? = some ⟨T, es, .own⟩) (hes : es = l ++ z) (hn : n = l.length) : View X h T (.win k [] T 0 n lo) l := by
  subst hes; subst hn; exact .win hx hk
theorem zag {h l : List Entry} {k k' : Nat} {e e' : Entry} : ((h.set k e).set k' e' ++ l)[h.length]? = l[0]? := by
  have := zao ((h.set k e).set k' e') l
  simpa using this
theorem ybk {h l : List Entry} {k k' i : Nat} {e e' x : Entry} : ((h.set k e).set k' e' ++ l).set (h.length + i) x = (h.set k e).set k' e' ++ l.set i x := by
  have := set_at ((h.set k e).set k' e') l i x
  simpa using this
theorem Keeps.also {X : Nat → Prop} {h h1 h' : List Entry} (a : Keeps X h h1) (b : Keeps X h1 h') : Keeps X h h' :=
  ⟨Nat.le_trans a.len b.len, fun j hj hx => (b.old j (Nat.lt_of_lt_of_le hj a.len) hx).trans (a.old j hj hx)⟩
theorem WS.lift {X : Nat → Prop} {h h1 h' : List Entry} {k : Nat} {s : Spc} {r : Req} {out : List Rpl} (w : WS (ybh X h1 h') k s r out h') (hl : h.length ≤ h1.length) (b : ∀ j, X j → j < h.length) (hl2 : h1.length ≤ h'.length) : WS (ybh X h h') k s r out h' :=
  w.up (fun j hj => hj.elim .inl fun a => .inr ⟨by omega, a.2⟩) (ya9 b (by omega))
def Mth (f : FuncId) (args : List AV) (X : Nat → Prop) (k : Nat) (r : Req) (h : List Entry) (s' : Spc) (out' : List Rpl) : Prop :=
  ∃ h', WS (ybh X h h') k s' r out' h' ∧ Keeps X h h' ∧ FSpec prog f (.ref k [0] 148 :: args) h fun r' h'' => r' = .tup [] ∧ h'' = h'
theorem c_say {X : Nat → Prop} {k : Nat} {s : Spc} {r : Req} {out : List Rpl} {h : List Entry} (x : Rpl) (hx : x.T.length ≤ 4294967296) (ho : out.length < 4294967296) (hw : WS X k s r out h) :
    Mth 111 [eR x] X k r h s (out ++ [x]) := by
  obtain ⟨b, o, vi, vw, vo, hk, h1, h2, h3⟩ := hw
  have hkl := qab hk
  generalize hl : out.map eR = l at h3
  have hlen : l.length < 4294967296 := by rw [← hl]; simpa using ho
  have hlr : (out ++ [x]).map eR = l ++ [eR x] := by simp [← hl]
  have tI : 148 ≠ 87 := by decide
  have tW : 148 ≠ 89 := by decide
  have tR : 148 ≠ 26 := by decide
  have uI : 26 ≠ 87 := by decide
  have uW : 26 ≠ 89 := by decide
  cases h3 with
  | nil =>
    refine ⟨?hh1, ?ws, ?kp, frun_111 rfl ?wk⟩
    case wk =>
      repeat' (first
    | simp (implicitDefEqProofs := false) only [push_cast, reduceIte, reduceCtorEq, Nat.reduceAdd, Nat.reduceSub, Nat.reduceEqDiff, Nat.reduceLT, Nat.reduceLeDiff, Nat.reduceBEq, Nat.reduceMul, Int.reduceLT, Int.reduceLE, Int.reduceEq, Int.reduceToNat, Int.reduceMul, Int.reduceNeg, Go.Proofs.Try.f111, hk, wkE, hkl, eR, eFs, List.length_map, zad, zae, qac, yad, yab, qad, sst, zac, qaa, yaa, zag, ybk, List.replicate_succ, List.drop_zero, yai hkl, qaf hkl, zax hkl, qai hkl]
    | refine Sp2.f ?_ ?_
    | refine Spl.f ?_ ?_ <;> intro hb
    | refine yac rfl (fun b hb => ?_)
    | refine zaa (U := [[], [], [], [], [], [], [4], [], [], [], []]) (H := [⟨0, [], .hole⟩, ⟨0, [], .hole⟩]) yae (by kernel_rfl) (by decide +kernel) (by kernel_rfl) ?_
    | refine qaz (yar x.T hx) ?_)
      rfl
    case kp => exact Keeps.sets o _ _
    case ws =>
      refine ⟨ya9 b (by simp), .inl o, vi, vw, _, by rw [zad (by simpa using hkl), yad hkl]; rfl, ((h1.set hk tI _).app _).up qbr, ((h2.set hk tW _).app _).up qbr, ?_⟩
      rw [hlr]
      exact View.win' [] (.inr ⟨by omega, by simp⟩) zac rfl rfl
  | @win ko lo _ z hx2 hko =>
    have hkol := qab hko
    have hne : ko ≠ k := by rintro rfl; rw [hk] at hko; cases hko
    have htk : (l ++ z).take l.length = l := by simp
    have hle : l.length ≤ (l ++ z).length := by simp
    have hdr : (l ++ z).drop (l.length + 1) = z.drop 1 := by rw [List.drop_append]; simp
    by_cases hfit : l.length + 1 ≤ lo
    · have hfit := eq_true hfit
      refine ⟨?hh2, ?ws, ?kp, frun_111 rfl ?wk⟩
      case wk =>
        repeat' (first
    | simp (implicitDefEqProofs := false) only [push_cast, reduceIte, reduceCtorEq, Nat.reduceAdd, Nat.reduceSub, Nat.reduceEqDiff, Nat.reduceLT, Nat.reduceLeDiff, Nat.reduceBEq, Nat.reduceMul, Int.reduceLT, Int.reduceLE, Int.reduceEq, Int.reduceToNat, Int.reduceMul, Int.reduceNeg, Go.Proofs.Try.f111, hk, hko, hfit, htk, hdr, hle, wkE, hkl, hkol, hne, Ne.symm hne, ne_f hne, ne_f (Ne.symm hne), eR, eFs, List.length_map, zad, zae, qac, yad, yab, qad, sst, zac, qaa, yaa, zag, ybk, List.replicate_succ, List.drop_zero, yai hkl, qaf hkl, zax hkl, qai hkl, yai hkol, qaf hkol, zax hkol, qai hkol]
    | refine Sp2.f ?_ ?_
    | refine Spl.f ?_ ?_ <;> intro hb
    | refine yac rfl (fun b hb => ?_)
    | refine zaa (U := [[], [], [], [], [], [], [4], [], [], [], []]) (H := [⟨0, [], .hole⟩, ⟨0, [], .hole⟩]) yae (by kernel_rfl) (by decide +kernel) (by kernel_rfl) ?_
    | refine qaz (yar x.T hx) ?_)
        all_goals first
          | omega
          | rfl
      case kp => exact Keeps.sets2 hx2 o _ _ _
      case ws =>
        refine ⟨ya9 b (by simp), .inl o, vi, vw, _, by rw [zad (by simpa using hkl), yad (by simpa using hkl)]; rfl, (((h1.set hko uI _).set ((qac hne).trans hk) tI _).app _).up qbr, (((h2.set hko uW _).set ((qac hne).trans hk) tW _).app _).up qbr, ?_⟩
        rw [hlr]
        exact View.win' (z.drop 1) (.inl hx2) (by rw [zad (by simpa using hkol), qac (Ne.symm hne), yad hkol]) (by simp [eR, eFs]) (by simp)
    · have hfit := eq_false hfit
      refine ⟨?hh3, ?ws, ?kp, frun_111 rfl ?wk⟩
      case wk =>
        repeat' (first
    | simp (implicitDefEqProofs := false) only [push_cast, reduceIte, reduceCtorEq, Nat.reduceAdd, Nat.reduceSub, Nat.reduceEqDiff, Nat.reduceLT, Nat.reduceLeDiff, Nat.reduceBEq, Nat.reduceMul, Int.reduceLT, Int.reduceLE, Int.reduceEq, Int.reduceToNat, Int.reduceMul, Int.reduceNeg, Go.Proofs.Try.f111, hk, hko, hfit, htk, hdr, hle, wkE, hkl, hkol, hne, Ne.symm hne, ne_f hne, ne_f (Ne.symm hne), eR, eFs, List.length_map, zad, zae, qac, yad, yab, qad, sst, zac, qaa, yaa, zag, ybk, List.replicate_succ, List.drop_zero, yai hkl, qaf hkl, zax hkl, qai hkl, yai hkol, qaf hkol, zax hkol, qai hkol]
    | refine Sp2.f ?_ ?_
    | refine Spl.f ?_ ?_ <;> intro hb
    | refine yac rfl (fun b hb => ?_)
    | refine zaa (U := [[], [], [], [], [], [], [4], [], [], [], []]) (H := [⟨0, [], .hole⟩, ⟨0, [], .hole⟩]) yae (by kernel_rfl) (by decide +kernel) (by kernel_rfl) ?_
    | refine qaz (yar x.T hx) ?_)
        all_goals first
          | omega
          | rfl
      case kp => exact Keeps.sets2 hx2 o _ _ _
      case ws =>
        refine ⟨ya9 b (by simp), .inl o, vi, vw, _, by rw [zad (by simpa using hkl), yad (by simpa using hkl)]; rfl, (((h1.set hko uI _).set ((qac hne).trans hk) tI _).app _).up qbr, (((h2.set hko uW _).set ((qac hne).trans hk) tW _).app _).up qbr, ?_⟩
        rw [hlr]
        exact View.win' [] (.inr ⟨by omega, by simp⟩) yaa (by simp [eR, eFs]) (by simp)
theorem c_note {X : Nat → Prop} {k : Nat} {s : Spc} {r : Req} {out : List Rpl} {h : List Entry} (x : Rpl) (c : Nat) (hc : x.Client = c) (hc4 : c < 4) (hL : s.Last.length = 4) (hx : x.T.length ≤ 4294967296) (ho : out.length < 4294967296) (hw : WS X k s r out h) :
    Mth 159 [eR x] X k r h { s with Last := s.Last.set c x } (out ++ [x]) := by
  obtain ⟨b, o, vi, vw, vo, hk, h1, h2, h3⟩ := hw
  have hkl := qab hk
  have tI : 148 ≠ 87 := by decide
  have tW : 148 ≠ 89 := by decide
  have tR : 148 ≠ 26 := by decide
  have hw2 : WS X k { s with Last := s.Last.set c x } r out (h.set k (wkE { s with Last := s.Last.set c x } r vi vw vo) ++ [⟨26, [eR x], .own⟩]) :=
    ⟨fun j hj => by have := b j hj; simp; omega, o, vi, vw, vo, by rw [zad (by simpa using hkl), yad hkl], (h1.set hk tI _).app _, (h2.set hk tW _).app _, (h3.set hk tR _).app _⟩
  obtain ⟨h', w1, w2, w3⟩ := c_say x hx ho hw2
  have hr4 : (0 ≤ (c : Int) ∧ (c : Int) < ((4 : Nat) : Int)) = True := by simp; omega
  have hr5 : (0 ≤ (c : Int) ∧ (c : Int) < 4) = True := by simp; omega
  have hcl : c < (s.Last.map eR).length := by simp [hL]; omega
  have hg : (s.Last.map eR)[c]? = some (s.Last.map eR)[c] := List.getElem?_eq_getElem hcl
  have hset : (s.Last.map eR).set c (eR x) = (s.Last.set c x).map eR := (List.map_set ..).symm
  simp only [eR, eFs] at hset
  obtain ⟨xc, xs, xk, xt, xl⟩ := x
  simp only at hc
  subst hc
  refine ⟨h', ?_, ?_, frun_159 rfl ?wk⟩
  case wk =>
    repeat' (first
    | simp (implicitDefEqProofs := false) only [push_cast, reduceIte, reduceCtorEq, Nat.reduceAdd, Nat.reduceSub, Nat.reduceEqDiff, Nat.reduceLT, Nat.reduceLeDiff, Nat.reduceBEq, Nat.reduceMul, Int.reduceLT, Int.reduceLE, Int.reduceEq, Int.reduceToNat, Int.reduceMul, Int.reduceNeg, Go.Proofs.Try.f159, hk, wkE, hkl, eR, eFs, eL, hg, hset, hr4, hr5, ydm, Int.toNat_natCast, List.length_map, zad, zae, qac, yad, yab, qad, sst, zac, qaa, yaa, zag, ybk, List.replicate_succ, List.drop_zero, yai hkl, qaf hkl, zax hkl, qai hkl]
    | refine Sp2.f ?_ ?_
    | refine Spl.f ?_ ?_ <;> intro hb
    | refine yac rfl (fun b hb => ?_)
    | refine zaa (U := [[], [], [], [], [], [], [], [], []]) (H := []) yae (by kernel_rfl) (by decide +kernel) (by kernel_rfl) ?_
    | refine qaz (yar xt hx) ?_
    | refine qar w3 ?_)
  · exact w1.lift (by simp) b w2.len
  · exact (Keeps.sets o _ _).also w2
theorem c_tell {X : Nat → Prop} {k : Nat} {s : Spc} {r : Req} {out : List Rpl} {h : List Entry} (kd : Int) (t : List Fld) (c : Nat) (hc : r.Client = c) (hc4 : c < 4) (hL : s.Last.length = 4) (ht : t.length ≤ 4294967296) (ho : out.length < 4294967296) (hw : WS X k s r out h) :
    Mth 143 [.int .i64 kd, eFs t] X k r h { s with Last := s.Last.set c ⟨r.Client, r.Seq, kd, t, false⟩ } (out ++ [⟨r.Client, r.Seq, kd, t, false⟩]) := by
  obtain ⟨h', w1, w2, w3⟩ := c_note ⟨r.Client, r.Seq, kd, t, false⟩ c hc hc4 hL ht ho hw
  obtain ⟨b, o, vi, vw, vo, hk, h1, h2, h3⟩ := hw
  have hkl := qab hk
  refine ⟨h', w1, w2, frun_143 rfl ?wk⟩
  case wk =>
    repeat' (first
    | simp (implicitDefEqProofs := false) only [push_cast, reduceIte, reduceCtorEq, Nat.reduceAdd, Nat.reduceSub, Nat.reduceEqDiff, Nat.reduceLT, Nat.reduceLeDiff, Nat.reduceBEq, Nat.reduceMul, Int.reduceLT, Int.reduceLE, Int.reduceEq, Int.reduceToNat, Int.reduceMul, Int.reduceNeg, Go.Proofs.Try.f143, hk, wkE, hkl, eQ, eFs, zad, zae, qac, yad, yab, qad, sst, zac, qaa, yaa, zag, ybk, List.replicate_succ, List.drop_zero, yai hkl, qaf hkl, zax hkl, qai hkl, apartB, disjB]
    | refine Sp2.f ?_ ?_
    | refine Spl.f ?_ ?_ <;> intro hb
    | refine yac rfl (fun b hb => ?_)
    | refine zaa (U := [[], [], [], [], [], [], [], [], [], [], [], [], [], [], []]) (H := []) yae (by kernel_rfl) (by decide +kernel) (by kernel_rfl) ?_
    | refine qbh w3 ?_)
theorem map_erase {α β : Type} (f : α → β) : ∀ (l : List α) (i : Nat), (l.map f).eraseIdx i = (l.eraseIdx i).map f
  | [], i => rfl
  | x :: l, 0 => rfl
  | x :: l, i + 1 => by simp only [List.map_cons, List.eraseIdx_cons_succ, map_erase f l i]
theorem c_take {X : Nat → Prop} {k : Nat} {s : Spc} {r : Req} {out : List Rpl} {h : List Entry} (i : Nat) (hi : i < s.Items.length) (hI : s.Items.length ≤ 4294967296) (hw : WS X k s r out h) :
    Mth 162 [.int .i64 i] X k r h { s with Items := s.Items.eraseIdx i } out := by
  obtain ⟨b, o, vi, vw, vo, hk, h1, h2, h3⟩ := hw
  have hkl := qab hk
  have tI : 148 ≠ 87 := by decide
  have tW : 148 ≠ 89 := by decide
  have tR : 148 ≠ 26 := by decide
  have iW : 87 ≠ 89 := by decide
  have iR : 87 ≠ 26 := by decide
  have hi9 : i < 9223372036854775807 := by omega
  have hme := map_erase eI s.Items i
  have hli : (s.Items.map eI).length = s.Items.length := by simp
  generalize hl : s.Items.map eI = l at h1 hme hli
  cases h1 with
  | nil => simp at hl; simp [hl] at hi
  | @win ki lo _ z hx hki =>
    have hil : i < l.length := by omega
    have hkil := qab hki
    have hne : ki ≠ k := by rintro rfl; rw [hk] at hki; cases hki
    refine ⟨?hh4, ?ws, ?kp, frun_162 rfl ?wk⟩
    case wk =>
      repeat' (first
    | simp (implicitDefEqProofs := false) only [push_cast, reduceIte, reduceCtorEq, Nat.reduceAdd, Nat.reduceSub, Nat.reduceEqDiff, Nat.reduceLT, Nat.reduceLeDiff, Nat.reduceBEq, Nat.reduceMul, Int.reduceLT, Int.reduceLE, Int.reduceEq, Int.reduceToNat, Int.reduceMul, Int.reduceNeg, Go.Proofs.Try.f162, hk, wkE, hkl, hkil, hne, Ne.symm hne, yag hi9, zad, zae, qac, yad, yab, qad, sst, zac, qaa, yaa, zag, ybk, List.replicate_succ, List.drop_zero, yai hkl, qaf hkl, zax hkl, qai hkl]
    | refine Sp2.f ?_ ?_
    | refine Spl.f ?_ ?_ <;> intro hb
    | refine yac rfl (fun b hb => ?_)
    | refine qar (c_Delete_Item hki hil (by omega)) ?_)
      rfl
    case kp => exact Keeps.sets2 hx o _ _ _
    case ws =>
      refine ⟨ya9 b (by simp), .inl o, _, vw, vo, by rw [zad (by simpa using hkl), yad (by simpa using hkl)]; rfl, ?_, (((h2.set hki iW _).set ((qac hne).trans hk) tW _).app _).up qbr, (((h3.set hki iR _).set ((qac hne).trans hk) tR _).app _).up qbr⟩
      rw [← hme]
      exact View.win' (_ :: z) (.inl hx) (by rw [zad (by simpa using hkil), qac (Ne.symm hne), yad hkil]) rfl (by rw [List.length_eraseIdx_of_lt hil])
end Go.Abs
set_option linter.all false
set_option maxRecDepth 100000
set_option maxHeartbeats 0
namespace Go.Abs
open Go
open Go.Proofs.Try (prog)
def del (l : List Itm) (g : Int) : List Itm := if 0 ≤ g then l.eraseIdx g.toNat else l
theorem del_step {l : List Itm} {i : Nat} {x : Itm} (hx : l[i]? = some x) (g : Int) : del (l.take (i + 1)) g = if (i : Int) = g then del (l.take i) g else del (l.take i) g ++ [x] := by
  have hlt : i < l.length := (List.getElem?_eq_some_iff.1 hx).1
  have hl : (l.take i).length = i := by simp; omega
  rw [List.take_add_one, hx, Option.toList_some]
  unfold del
  by_cases hg : 0 ≤ g
  · simp only [if_pos hg]
    obtain ⟨n, rfl⟩ : ∃ n : Nat, g = n := ⟨g.toNat, by omega⟩
    simp only [Int.toNat_natCast]
    rcases Nat.lt_trichotomy n i with h | h | h
    · rw [if_neg (by omega), List.eraseIdx_append_of_lt_length (by omega)]
    · subst h
      rw [if_pos rfl, List.eraseIdx_append_of_length_le (by omega), hl, Nat.sub_self]
      rw [List.eraseIdx_of_length_le (l := l.take n) (by omega)]; exact List.append_nil _
    · rw [if_neg (by omega), List.eraseIdx_of_length_le (by simp; omega), List.eraseIdx_of_length_le (by omega)]
  · rw [if_neg hg, if_neg hg, if_neg (by omega)]
theorem cnt_app (l : List Itm) (x : Itm) (c : Int) : cnt (l ++ [x]) c = cnt l c + if x.Owner = c then 1 else 0 := by
  rw [cnt, List.countP_append, List.countP_singleton]
  simp [cnt]
theorem del_len (l : List Itm) (g : Int) : (del l g).length ≤ l.length := by
  unfold del
  split
  · exact List.length_eraseIdx_le ..
  · exact Nat.le_refl _
def zdt (s : Spc) (r : Req) (g : Int) : Bool := decide (64 ≤ (del s.Items g).length) || decide (24 ≤ cnt (del s.Items g) r.Client)
theorem c_full (s : Spc) (r : Req) (g : Int) {vi vw vo : AV} (hI : s.Items.length ≤ 4294967296) (hv : vi = eIs s.Items ∨ (s.Items = [] ∧ vi = .nils)) :
    Fn prog 160 [.eref 148 (.agg 148 [.agg 29 [.int .i64 s.Now, vi, vw, .int .i64 s.Read, .int .i64 s.Write, eL s.Last], eQ r, vo]), .int .i64 g] (.bool (zdt s r g)) := by
  refine run_160 rfl fun h => ?_
  have z1 : cnt (del (s.Items.take 0) g) r.Client = 0 := by simp [del, cnt]
  have z2 : (del (s.Items.take 0) g).length = 0 := by simp [del]
  have key : ∀ (i : Nat), i ≤ s.Items.length → ¬ i < s.Items.length → ∀ (b : Bool), b = (decide ((64 : Int) ≤ ((del (s.Items.take i) g).length : Nat)) || decide ((24 : Int) ≤ (cnt (del (s.Items.take i) g) r.Client : Nat))) → b = zdt s r g := by
    intro i h1 h2 b hb
    have e : s.Items.take i = s.Items := List.take_of_length_le (by omega)
    rw [e] at hb
    rw [hb, zdt]
    congr 1 <;> (apply decide_eq_decide.2; omega)
  rcases hv with rfl | ⟨he, rfl⟩
  · repeat' (first
    | simp (implicitDefEqProofs := false) only [push_cast, reduceIte, reduceCtorEq, Nat.reduceAdd, Nat.reduceSub, Nat.reduceEqDiff, Nat.reduceLT, Nat.reduceLeDiff, Nat.reduceBEq, Nat.reduceMul, Int.reduceLT, Int.reduceLE, Int.reduceEq, Int.reduceToNat, Int.reduceMul, Int.reduceNeg, Go.Proofs.Try.f160, eIs, List.length_map]
    | refine Sp2.f ?_ ?_
    | refine Spl.f ?_ ?_ <;> intro hb
    | refine yac rfl (fun b hb => ?_)
    | refine zaa (U := [[], [], [], [], [], [], [], []]) (H := []) yae (by kernel_rfl) (by decide +kernel) (by kernel_rfl) ?_)
    refine zaz (fun i a => [(0, .eref 148 (.agg 148 [.agg 29 [.int .i64 s.Now, eIs s.Items, vw, .int .i64 s.Read, .int .i64 s.Write, eL s.Last], eQ r, vo])), (1, .int .i64 g), (4, .bool false), (5, .int .i64 (cnt (del (s.Items.take i) g) r.Client : Nat)), (6, .int .i64 ((del (s.Items.take i) g).length : Nat)), (7, a 7), (8, a 8), (13, eIs s.Items), (14, .int .i64 s.Items.length), (15, .int .i64 i), (16, a 16), (22, a 22), (32, a 32)]) (fun _ gg => h ++ gg) (fun i => i ≤ s.Items.length) s.Items.length (za4 ?_ ⟨[], (List.append_nil h).symm⟩ (Nat.zero_le _)) ?_
    · simp only [z1, z2]; rfl
    rintro i a g' hi
    refine ⟨hi, ?_⟩
    by_cases hlt : i < s.Items.length
    · obtain ⟨x, hx⟩ : ∃ x, s.Items[i]? = some x := ⟨_, List.getElem?_eq_getElem hlt⟩
      have hi9 : i < 9223372036854775807 := by omega
      have hd := del_step hx g
      have hl1 : (del (s.Items.take i) g).length < 9223372036854775807 := by have := del_len (s.Items.take i) g; simp at this; omega
      have hc1 : cnt (del (s.Items.take i) g) r.Client < 9223372036854775807 := by have := cnt_len (del (s.Items.take i) g) r.Client; omega
      by_cases hg : (i : Int) = g
      · have hgb : ((i : Int) != g) = false := by simp [hg]
        rw [if_pos hg] at hd
        repeat' (first
    | simp (implicitDefEqProofs := false) only [push_cast, reduceIte, reduceCtorEq, Nat.reduceAdd, Nat.reduceSub, Nat.reduceEqDiff, Nat.reduceLT, Nat.reduceLeDiff, Nat.reduceBEq, Nat.reduceMul, Int.reduceLT, Int.reduceLE, Int.reduceEq, Int.reduceToNat, Int.reduceMul, Int.reduceNeg, Go.Proofs.Try.f160, eIs, eI, eQ, List.length_map, yaz hlt, yas hlt, zar eI hx, Int.toNat_natCast, hgb, yag hi9]
    | refine Sp2.f ?_ ?_
    | refine Spl.f ?_ ?_ <;> intro hb
    | refine yac rfl (fun b hb => ?_)
    | refine zaa (U := [[], [], [], [], [], [], [], []]) (H := []) yae (by kernel_rfl) (by decide +kernel) (by kernel_rfl) ?_
    | refine za4 (by simp only [hd]; rfl) ⟨_, rfl⟩ ?_)
        exact hlt
      · have hgb : ((i : Int) != g) = true := by simp [hg]
        rw [if_neg hg] at hd
        by_cases ho : x.Owner = r.Client
        · have hob : (x.Owner == r.Client) = true := by simp [ho]
          have hcc : cnt (del (s.Items.take i) g ++ [x]) r.Client = cnt (del (s.Items.take i) g) r.Client + 1 := by rw [cnt_app, if_pos ho]
          have hll : (del (s.Items.take i) g ++ [x]).length = (del (s.Items.take i) g).length + 1 := by simp
          repeat' (first
    | simp (implicitDefEqProofs := false) only [push_cast, reduceIte, reduceCtorEq, Nat.reduceAdd, Nat.reduceSub, Nat.reduceEqDiff, Nat.reduceLT, Nat.reduceLeDiff, Nat.reduceBEq, Nat.reduceMul, Int.reduceLT, Int.reduceLE, Int.reduceEq, Int.reduceToNat, Int.reduceMul, Int.reduceNeg, Go.Proofs.Try.f160, eIs, eI, eQ, List.length_map, yaz hlt, yas hlt, zar eI hx, Int.toNat_natCast, hgb, hob, yag hi9, yag hl1, yag hc1]
    | refine Sp2.f ?_ ?_
    | refine Spl.f ?_ ?_ <;> intro hb
    | refine yac rfl (fun b hb => ?_)
    | refine zaa (U := [[], [], [], [], [], [], [], []]) (H := []) yae (by kernel_rfl) (by decide +kernel) (by kernel_rfl) ?_
    | refine za4 (by simp only [hd, hcc, hll]; rfl) ⟨_, rfl⟩ ?_)
          exact hlt
        · have hob : (x.Owner == r.Client) = false := by simp [ho]
          have hcc : cnt (del (s.Items.take i) g ++ [x]) r.Client = cnt (del (s.Items.take i) g) r.Client := by rw [cnt_app, if_neg ho]; rfl
          have hll : (del (s.Items.take i) g ++ [x]).length = (del (s.Items.take i) g).length + 1 := by simp
          repeat' (first
    | simp (implicitDefEqProofs := false) only [push_cast, reduceIte, reduceCtorEq, Nat.reduceAdd, Nat.reduceSub, Nat.reduceEqDiff, Nat.reduceLT, Nat.reduceLeDiff, Nat.reduceBEq, Nat.reduceMul, Int.reduceLT, Int.reduceLE, Int.reduceEq, Int.reduceToNat, Int.reduceMul, Int.reduceNeg, Go.Proofs.Try.f160, eIs, eI, eQ, List.length_map, yaz hlt, yas hlt, zar eI hx, Int.toNat_natCast, hgb, hob, yag hi9, yag hl1]
    | refine Sp2.f ?_ ?_
    | refine Spl.f ?_ ?_ <;> intro hb
    | refine yac rfl (fun b hb => ?_)
    | refine zaa (U := [[], [], [], [], [], [], [], []]) (H := []) yae (by kernel_rfl) (by decide +kernel) (by kernel_rfl) ?_
    | refine za4 (by simp only [hd, hcc, hll]; rfl) ⟨_, rfl⟩ ?_)
          exact hlt
    · repeat' (first
    | simp (implicitDefEqProofs := false) only [push_cast, reduceIte, reduceCtorEq, Nat.reduceAdd, Nat.reduceSub, Nat.reduceEqDiff, Nat.reduceLT, Nat.reduceLeDiff, Nat.reduceBEq, Nat.reduceMul, Int.reduceLT, Int.reduceLE, Int.reduceEq, Int.reduceToNat, Int.reduceMul, Int.reduceNeg, Go.Proofs.Try.f160, List.length_map, ya3 hlt]
    | refine Sp2.f ?_ ?_
    | refine Spl.f ?_ ?_ <;> intro hb
    | refine yac rfl (fun b hb => ?_)
    | refine zaa (U := [[], [], [], [], [], [], [], []]) (H := []) yae (by kernel_rfl) (by decide +kernel) (by kernel_rfl) ?_)
      all_goals (apply congrArg AV.bool; refine key i hi hlt _ ?_; simp only [*, Bool.true_or, Bool.false_or])
  · have hz : s.Items.length = 0 := by simp [he]
    have hlt0 : decide ((0 : Int) < 0) = false := rfl
    repeat' (first
    | simp (implicitDefEqProofs := false) only [push_cast, reduceIte, reduceCtorEq, Nat.reduceAdd, Nat.reduceSub, Nat.reduceEqDiff, Nat.reduceLT, Nat.reduceLeDiff, Nat.reduceBEq, Nat.reduceMul, Int.reduceLT, Int.reduceLE, Int.reduceEq, Int.reduceToNat, Int.reduceMul, Int.reduceNeg, Go.Proofs.Try.f160, List.length_map]
    | refine Sp2.f ?_ ?_
    | refine Spl.f ?_ ?_ <;> intro hb
    | refine yac rfl (fun b hb => ?_)
    | refine zaa (U := [[], [], [], [], [], [], [], []]) (H := []) yae (by kernel_rfl) (by decide +kernel) (by kernel_rfl) ?_)
    refine zaz (fun i a => [(0, .eref 148 (.agg 148 [.agg 29 [.int .i64 s.Now, .nils, vw, .int .i64 s.Read, .int .i64 s.Write, eL s.Last], eQ r, vo])), (1, .int .i64 g), (4, .bool false), (5, .int .i64 0), (6, .int .i64 0), (7, a 7), (8, a 8), (13, .nils), (14, .int .i64 0), (15, .int .i64 0), (16, a 16), (22, a 22), (32, a 32)]) (fun _ gg => h ++ gg) (fun i => i ≤ 0) 0 (za4 rfl ⟨[], (List.append_nil h).symm⟩ (Nat.zero_le _)) ?_
    rintro i a g' hi
    refine ⟨hi, ?_⟩
    repeat' (first
    | simp (implicitDefEqProofs := false) only [push_cast, reduceIte, reduceCtorEq, Nat.reduceAdd, Nat.reduceSub, Nat.reduceEqDiff, Nat.reduceLT, Nat.reduceLeDiff, Nat.reduceBEq, Nat.reduceMul, Int.reduceLT, Int.reduceLE, Int.reduceEq, Int.reduceToNat, Int.reduceMul, Int.reduceNeg, Go.Proofs.Try.f160, List.length_map, hlt0]
    | refine Sp2.f ?_ ?_
    | refine Spl.f ?_ ?_ <;> intro hb
    | refine yac rfl (fun b hb => ?_)
    | refine zaa (U := [[], [], [], [], [], [], [], []]) (H := []) yae (by kernel_rfl) (by decide +kernel) (by kernel_rfl) ?_)
    all_goals (apply congrArg AV.bool; refine key 0 (by omega) (by omega) _ ?_; rw [z1, z2]; rfl)
end Go.Abs
