/- R7: a part of the proofs about the tuple space (layer 8). -/
import Derived.Test.YtelohjfiojpeeaaR4
import Derived.Test.YtelohjfiojpeeaaWd
set_option linter.all false
set_option maxRecDepth 100000
set_option maxHeartbeats 0
namespace Go.Abs
open Go
open Go.Proofs.Try (prog)
/-! ### the document's G: its methods -/
def gE (s : Spc) (vi vw vo : AV) : Entry := ⟨92, [.agg 92 [.agg 33 [.int .i64 s.Now, vi, vw, .int .i64 s.Read, .int .i64 s.Write, eL s.Last], vo]], .own⟩
/-- a slice that was handed in, or one of one's own -/
inductive GV (X : Nat → Prop) (h : List Entry) (T : TypeId) : AV → List AV → Prop where
  | flat {l : List AV} : GV X h T (.list T l) l
  | view {v : AV} {l : List AV} (hv : View X h T v l) : GV X h T v l
theorem GV.set {X : Nat → Prop} {h : List Entry} {T : TypeId} {v : AV} {l : List AV} (hv : GV X h T v l) {k : Nat} {e0 : Entry} (hk : h[k]? = some e0) (hT : e0.T ≠ T) (E : Entry) : GV X (h.set k E) T v l := by
  cases hv with
  | flat => exact .flat
  | view hv => exact .view (hv.set hk hT E)
theorem GV.app {X : Nat → Prop} {h : List Entry} {T : TypeId} {v : AV} {l : List AV} (hv : GV X h T v l) (r : List Entry) : GV X (h ++ r) T v l := by
  cases hv with
  | flat => exact .flat
  | view hv => exact .view (hv.app r)
theorem GV.up {X Y : Nat → Prop} {h : List Entry} {T : TypeId} {v : AV} {l : List AV} (hv : GV X h T v l) (hX : ∀ j, X j → Y j) : GV Y h T v l := by
  cases hv with
  | flat => exact .flat
  | view hv => exact .view (hv.up hX)
theorem GV.mono {X : Nat → Prop} {h h' : List Entry} {T : TypeId} {v : AV} {l : List AV} (hv : GV X h T v l) (hg : ∀ j es, X j → h[j]? = some ⟨T, es, .own⟩ → h'[j]? = some ⟨T, es, .own⟩) : GV X h' T v l := by
  cases hv with
  | flat => exact .flat
  | view hv => exact .view (hv.mono (fun _ h => h) hg)
theorem GV.len {X : Nat → Prop} {h : List Entry} {T U : TypeId} {v : AV} {l : List AV} (hv : GV X h T v l) (hU : shapeT prog U = .slice T) : stLen prog U v = .ret (.int .i64 l.length) [] := by
  have hs : isSlice (shapeT prog U) = true := by rw [hU]; rfl
  cases hv with
  | flat => rw [stLen_list, if_pos hs]
  | view hv =>
    cases hv with
    | nil => rw [stLen_nils, if_pos hs]; rfl
    | win hx hk => rw [stLen_win, if_pos hs]
/-- an element is looked at -/
theorem GV.at {X : Nat → Prop} {h : List Entry} {T U : TypeId} {v : AV} {l : List AV} {i : Nat} {e : AV} (hv : GV X h T v l) (hi : l[i]? = some e) (hU : shapeT prog U = .slice T) (hok : okT prog T = true) :
    ∃ p, stIndexAddr prog U v (.int .i64 i) = .ret p [] ∧ ∀ (d : Option Tmp) (s : List Ctl) (env : Env) (Q : APost), Rs prog (stLoad T p) d s env h Q = Rn prog s .normal (putD env d e) h Q := by
  have hlt : i < l.length := (List.getElem?_eq_some_iff.1 hi).1
  have hin : 0 ≤ (i : Int) ∧ (i : Int) < (l.length : Int) := by omega
  cases hv with
  | flat =>
    refine ⟨.eref T (l.getD i .junk), ?_, fun d s env Q => ?_⟩
    · rw [stIndexAddr_list, if_pos ⟨hU, hok⟩, if_pos hin, Int.toNat_natCast]
    · rw [stLoad_eref, if_pos rfl, rs_ret, List.getD_eq_getElem?_getD, hi]; rfl
  | view hv =>
    cases hv with
    | nil => simp at hlt
    | @win k lo _ z hx hk =>
      refine ⟨.ref k [i] T, ?_, fun d s env Q => ?_⟩
      · rw [stIndexAddr_win, if_pos ⟨hU, hok⟩, if_pos hin, Int.toNat_natCast, Nat.zero_add]; rfl
      · have hg : (l ++ z)[i]? = some e := by rw [List.getElem?_append_left hlt]; exact hi
        rw [stLoad_ref, if_pos rfl, rs_rd, hk, rd_some]
        simp only [liveB, if_true, getE, hg, getP, rs_ret]
        rfl
structure GS (X : Nat → Prop) (k : Nat) (s : Spc) (out : List Rpl) (h : List Entry) : Prop where
  bd : ∀ j, X j → j < h.length
  own : X k
  ex : ∃ vi vw vo, h[k]? = some (gE s vi vw vo) ∧ View X h 74 vi (s.Items.map eI) ∧ GV X h 50 vw (s.Waiters.map eW) ∧ View X h 30 vo (out.map eR)
def Gth (f : FuncId) (args : List AV) (X : Nat → Prop) (k : Nat) (h : List Entry) (s' : Spc) (out' : List Rpl) : Prop :=
  ∃ h', GS (grow X h h') k s' out' h' ∧ Keeps X h h' ∧ FSpec prog f (.ref k [0] 92 :: args) h fun r' h'' => r' = .tup [] ∧ h'' = h'
theorem c_Gtell0 {X : Nat → Prop} {k : Nat} {s : Spc} {r : Req} {out : List Rpl} {h : List Entry} (kd : Int) (t : List Fld) (c : Nat) (hc : r.Client = c) (hc4 : c < 4) (hL : s.Last.length = 4) (ht : t.length ≤ 4294967296) (ho : out.length < 4294967296) (hw : GS X k s out h) :
    Gth 61 [eQ r, .int .i64 kd, eFs t] X k h { s with Last := s.Last.set c (rep r kd t) } (out ++ [rep r kd t]) := by
  obtain ⟨b, o, vi, vw, vo, hk, h1, h2, h3⟩ := hw
  have hkl := lt_some hk
  generalize hl : out.map eR = l at h3
  have hlen : l.length < 4294967296 := by rw [← hl]; simpa using ho
  have hlr : (out ++ [rep r kd t]).map eR = l ++ [eR (rep r kd t)] := by simp [← hl]
  have tI : 92 ≠ 74 := by decide
  have tW : 92 ≠ 50 := by decide
  have tR : 92 ≠ 30 := by decide
  have uI : 30 ≠ 74 := by decide
  have uW : 30 ≠ 50 := by decide
  have hr4 : (0 ≤ (c : Int) ∧ (c : Int) < ((4 : Nat) : Int)) = True := by simp; omega
  have hr5 : (0 ≤ (c : Int) ∧ (c : Int) < 4) = True := by simp; omega
  have hcl : c < (s.Last.map eR).length := by simp [hL]; omega
  have hg : (s.Last.map eR)[c]? = some (s.Last.map eR)[c] := List.getElem?_eq_getElem hcl
  obtain ⟨rc, rs, rk, rp, rt, rl⟩ := r
  simp only at hc
  subst hc
  have hset : (s.Last.map eR).set c (eR (rep ⟨c, rs, rk, rp, rt, rl⟩ kd t)) = (s.Last.set c (rep ⟨c, rs, rk, rp, rt, rl⟩ kd t)).map eR := (List.map_set ..).symm
  simp only [eR, eFs, rep] at hset
  cases h3 with
  | nil =>
    refine ⟨?hh1, ?ws, ?kp, frun_61 rfl ?wk⟩
    case wk =>
      repeat' (first
    | simp (implicitDefEqProofs := false) only [push_cast, reduceIte, reduceCtorEq, Nat.reduceAdd, Nat.reduceSub, Nat.reduceEqDiff, Nat.reduceLT, Nat.reduceLeDiff, Nat.reduceBEq, Nat.reduceMul, Int.reduceLT, Int.reduceLE, Int.reduceEq, Int.reduceToNat, Int.reduceMul, Int.reduceNeg, Go.Proofs.Try.f61, hk, gE, hkl, eQ, eR, eFs, eL, hg, hset, hr4, hr5, cast4, Int.toNat_natCast, List.length_map, ap_lo, st_lo, st_ne, st_eq, len_st, st_st, sst, at_set, at_set0, at_set2, at_set20, sst2, List.replicate_succ, List.drop_zero, ne_hi hkl, ne_hi' hkl, ne_h hkl, ne_h' hkl]
    | refine Sp2.f ?_ ?_
    | refine Spl.f ?_ ?_ <;> intro hb
    | refine rq_mk rfl (fun b hb => ?_)
    | refine r_draw (U := [[], [], [], [], [], [], [], [], []]) (H := []) hmix (by kernel_rfl) (by decide +kernel) (by kernel_rfl) ?_
    | refine r_draw (U := [[], [], [], [], [], [], [4], [], [], [], []]) (H := [⟨0, [], .hole⟩, ⟨0, [], .hole⟩]) hmix (by kernel_rfl) (by decide +kernel) (by kernel_rfl) ?_)
      rfl
    case kp => exact Keeps.sets o _ _
    case ws =>
      refine ⟨grow_bd b (by simp), .inl o, vi, vw, _, by rw [ap_lo (by simpa using hkl), st_eq hkl]; rfl, ((h1.set hk tI _).app _).up grow_up, ((h2.set hk tW _).app _).up grow_up, ?_⟩
      rw [hlr]
      exact View.win' [] (.inr ⟨by omega, by simp⟩) at_set rfl rfl
  | @win ko lo _ z hx2 hko =>
    have hkol := lt_some hko
    have hne : ko ≠ k := by rintro rfl; rw [hk] at hko; cases hko
    have hst3 : ∀ a b c : Entry, ((h.set k a).set ko b).set k c = (h.set ko b).set k c := fun a b c => by rw [List.set_comm _ _ hne.symm, List.set_set]
    have htk : (l ++ z).take l.length = l := by simp
    have hle : l.length ≤ (l ++ z).length := by simp
    have hdr : (l ++ z).drop (l.length + 1) = z.drop 1 := by rw [List.drop_append]; simp
    by_cases hfit : l.length + 1 ≤ lo
    · have hfit := eq_true hfit
      refine ⟨?hh2, ?ws, ?kp, frun_61 rfl ?wk⟩
      case wk =>
        repeat' (first
    | simp (implicitDefEqProofs := false) only [push_cast, reduceIte, reduceCtorEq, Nat.reduceAdd, Nat.reduceSub, Nat.reduceEqDiff, Nat.reduceLT, Nat.reduceLeDiff, Nat.reduceBEq, Nat.reduceMul, Int.reduceLT, Int.reduceLE, Int.reduceEq, Int.reduceToNat, Int.reduceMul, Int.reduceNeg, Go.Proofs.Try.f61, hk, hko, hst3, hfit, htk, hdr, hle, hkol, hne, Ne.symm hne, ne_f hne, ne_f (Ne.symm hne), ne_hi hkol, ne_hi' hkol, ne_h hkol, ne_h' hkol, gE, hkl, eQ, eR, eFs, eL, hg, hset, hr4, hr5, cast4, Int.toNat_natCast, List.length_map, ap_lo, st_lo, st_ne, st_eq, len_st, st_st, sst, at_set, at_set0, at_set2, at_set20, sst2, List.replicate_succ, List.drop_zero, ne_hi hkl, ne_hi' hkl, ne_h hkl, ne_h' hkl]
    | refine Sp2.f ?_ ?_
    | refine Spl.f ?_ ?_ <;> intro hb
    | refine rq_mk rfl (fun b hb => ?_)
    | refine r_draw (U := [[], [], [], [], [], [], [], [], []]) (H := []) hmix (by kernel_rfl) (by decide +kernel) (by kernel_rfl) ?_
    | refine r_draw (U := [[], [], [], [], [], [], [4], [], [], [], []]) (H := [⟨0, [], .hole⟩, ⟨0, [], .hole⟩]) hmix (by kernel_rfl) (by decide +kernel) (by kernel_rfl) ?_)
        all_goals first
          | omega
          | rfl
      case kp => exact Keeps.sets2 hx2 o _ _ _
      case ws =>
        refine ⟨grow_bd b (by simp), .inl o, vi, vw, _, by rw [ap_lo (by simpa using hkl), st_eq (by simpa using hkl)]; rfl, (((h1.set hko uI _).set ((st_ne hne).trans hk) tI _).app _).up grow_up, (((h2.set hko uW _).set ((st_ne hne).trans hk) tW _).app _).up grow_up, ?_⟩
        rw [hlr]
        exact View.win' (z.drop 1) (.inl hx2) (by rw [ap_lo (by simpa using hkol), st_ne (Ne.symm hne), st_eq hkol]) (by simp [eR, eFs, rep]) (by simp)
    · have hfit := eq_false hfit
      refine ⟨?hh3, ?ws, ?kp, frun_61 rfl ?wk⟩
      case wk =>
        repeat' (first
    | simp (implicitDefEqProofs := false) only [push_cast, reduceIte, reduceCtorEq, Nat.reduceAdd, Nat.reduceSub, Nat.reduceEqDiff, Nat.reduceLT, Nat.reduceLeDiff, Nat.reduceBEq, Nat.reduceMul, Int.reduceLT, Int.reduceLE, Int.reduceEq, Int.reduceToNat, Int.reduceMul, Int.reduceNeg, Go.Proofs.Try.f61, hk, hko, hst3, hfit, htk, hdr, hle, hkol, hne, Ne.symm hne, ne_f hne, ne_f (Ne.symm hne), ne_hi hkol, ne_hi' hkol, ne_h hkol, ne_h' hkol, gE, hkl, eQ, eR, eFs, eL, hg, hset, hr4, hr5, cast4, Int.toNat_natCast, List.length_map, ap_lo, st_lo, st_ne, st_eq, len_st, st_st, sst, at_set, at_set0, at_set2, at_set20, sst2, List.replicate_succ, List.drop_zero, ne_hi hkl, ne_hi' hkl, ne_h hkl, ne_h' hkl]
    | refine Sp2.f ?_ ?_
    | refine Spl.f ?_ ?_ <;> intro hb
    | refine rq_mk rfl (fun b hb => ?_)
    | refine r_draw (U := [[], [], [], [], [], [], [], [], []]) (H := []) hmix (by kernel_rfl) (by decide +kernel) (by kernel_rfl) ?_
    | refine r_draw (U := [[], [], [], [], [], [], [4], [], [], [], []]) (H := [⟨0, [], .hole⟩, ⟨0, [], .hole⟩]) hmix (by kernel_rfl) (by decide +kernel) (by kernel_rfl) ?_)
        all_goals first
          | omega
          | rfl
      case kp => exact Keeps.sets2 hx2 o _ _ _
      case ws =>
        refine ⟨grow_bd b (by simp), .inl o, vi, vw, _, by rw [ap_lo (by simpa using hkl), st_eq (by simpa using hkl)]; rfl, (((h1.set hko uI _).set ((st_ne hne).trans hk) tI _).app _).up grow_up, (((h2.set hko uW _).set ((st_ne hne).trans hk) tW _).app _).up grow_up, ?_⟩
        rw [hlr]
        exact View.win' [] (.inr ⟨by omega, by simp⟩) at_set2 (by simp [eR, eFs, rep]) (by simp)

end Go.Abs

set_option linter.all false
set_option maxRecDepth 100000
set_option maxHeartbeats 0
namespace Go.Abs
open Go
open Go.Proofs.Try (prog)
/-! ### the document's put -/
theorem told1_wts (x : Wtr) (s : Spc) (r : Req) : (told1 x s r).Waiters = s.Waiters := by unfold told1; split <;> rfl
theorem told1_rd (x : Wtr) (s : Spc) (r : Req) : (told1 x s r).Read = s.Read ∧ (told1 x s r).Write = s.Write := by unfold told1; split <;> exact ⟨rfl, rfl⟩
theorem told1_nw (x : Wtr) (s : Spc) (r : Req) : (told1 x s r).Now = s.Now := by unfold told1; split <;> rfl
theorem told1_its (x : Wtr) (s : Spc) (r : Req) : (told1 x s r).Items = s.Items := by unfold told1; split <;> rfl
theorem told1_l4 (x : Wtr) (s : Spc) (r : Req) : (told1 x s r).Last.length = s.Last.length := by unfold told1; split <;> simp
theorem lenAV_view {X : Nat → Prop} {h : List Entry} {T : TypeId} {v : AV} {l : List AV} (hv : View X h T v l) : lenAV v = l.length := by cases hv <;> rfl
structure PG (X : Nat → Prop) (k : Nat) (s : Spc) (r : Req) (out : List Rpl) (h : List Entry) (j : Nat) (left : List Wtr) (s1 : Spc) (out1 : List Rpl) (tk : Bool) (vi vw vo vl : AV) (h1 : List Entry) : Prop where
  go : if tk = true then putGo r [] s.Waiters s out = ({ s1 with Waiters := left ++ s.Waiters.drop j }, out1) else putGo r left (s.Waiters.drop j) s1 out1 = putGo r [] s.Waiters s out
  nw : s1.Now = s.Now
  it : s1.Items = s.Items
  rw : s1.Read = s.Read ∧ s1.Write = s.Write
  l4 : s1.Last.length = 4
  g : h1[k]? = some (gE s1 vi vw vo)
  vi : View X h1 74 vi (s.Items.map eI)
  vw : GV X h1 50 vw (s.Waiters.map eW)
  vo : View (grow X h h1) h1 30 vo (out1.map eR)
  vl : View (fun i => h.length < i ∧ i < h1.length) h1 50 vl (left.map eW)
  bx : h1[h.length]? = some ⟨39, [eQ r], .own⟩
  kp : Keeps X h h1
  ol : out1.length ≤ out.length + j
  ll : left.length ≤ j
def PGv (X : Nat → Prop) (k : Nat) (s : Spc) (r : Req) (out : List Rpl) (h : List Entry) (E : AV → Bool → Nat → (Nat → AV) → Env) (j : Nat) (env : Env) (h1 : List Entry) : Prop :=
  j ≤ s.Waiters.length ∧ ∃ left s1 out1 tk vi vw vo vl, PG X k s r out h j left s1 out1 tk vi vw vo vl h1 ∧ env = E vl tk j (lk env)
/-- one that stays waits on -/
theorem PG.left {X : Nat → Prop} {k : Nat} {s : Spc} {r : Req} {out : List Rpl} {h : List Entry} {j : Nat} {left : List Wtr} {s1 : Spc} {out1 : List Rpl} {tk : Bool} {vi vw vo vl v' : AV} {hh h' l : List Entry} {x : Wtr}
    (pg : PG X k s r out h j left s1 out1 tk vi vw vo vl hh) (b : ∀ j, X j → j < h.length) (o : X k) (q1 : View (grow (fun i => h.length < i ∧ i < hh.length) (hh ++ l) h') h' 50 v' (left.map eW ++ [eW x])) (q2 : (hh ++ l).length ≤ h'.length)
    (q3 : ∀ j e, (hh ++ l)[j]? = some e → (¬ (h.length < j ∧ j < hh.length) ∨ e.T ≠ 50) → h'[j]? = some e)
    (go : if tk = true then putGo r [] s.Waiters s out = ({ s1 with Waiters := (left ++ [x]) ++ s.Waiters.drop (j + 1) }, out1) else putGo r (left ++ [x]) (s.Waiters.drop (j + 1)) s1 out1 = putGo r [] s.Waiters s out) :
    PG X k s r out h (j + 1) (left ++ [x]) s1 out1 tk vi vw vo v' h' := by
  have hl := pg.kp.len
  have hbx := lt_some pg.bx
  have q2' : hh.length ≤ h'.length := by simp at q2; omega
  have kX : ∀ j e, X j → hh[j]? = some e → h'[j]? = some e := fun j e hx he => q3 j e (by rw [ap_lo (lt_some he)]; exact he) (.inl fun hc => by have := b j hx; omega)
  refine ⟨go, pg.nw, pg.it, pg.rw, pg.l4, kX k _ o pg.g, pg.vi.mono (fun _ h => h) fun j es hx he => kX j _ hx he, pg.vw.mono fun j es hx he => kX j _ hx he, ?_, ?_, ?_, ⟨by omega, fun j hj hx => ?_⟩, by have := pg.ol; omega, by have := pg.ll; simp; omega⟩
  · refine pg.vo.mono (fun j hj => hj.elim .inl fun a => .inr ⟨a.1, by omega⟩) fun j es _ he => q3 j _ (by rw [ap_lo (lt_some he)]; exact he) (.inr (by show 30 ≠ 50; decide))
  · rw [List.map_append, List.map_cons, List.map_nil]
    refine q1.up fun j hj => hj.elim (fun a => ⟨a.1, by omega⟩) fun a => ⟨by have := a.1; simp at this; omega, a.2⟩
  · exact q3 _ _ (by rw [ap_lo hbx]; exact pg.bx) (.inl fun hc => Nat.lt_irrefl _ hc.1)
  · have he : h[j]? = some h[j] := List.getElem?_eq_getElem hj
    have he1 := pg.kp.get he hx
    rw [he]
    exact q3 _ _ (by rw [ap_lo (lt_some he1)]; exact he1) (.inl fun hc => by omega)
/-- one that is told -/
theorem PG.told {X : Nat → Prop} {k : Nat} {s : Spc} {r : Req} {out : List Rpl} {h : List Entry} {j : Nat} {left : List Wtr} {s1 s2 : Spc} {out1 : List Rpl} {vi vw vo vl v' : AV} {hh HA l : List Entry} {x : Wtr} {y : Rpl} {n : Nat}
    (pg : PG X k s r out h j left s1 out1 false vi vw vo vl hh) (b : ∀ j, X j → j < h.length) (o : X k) (hn : hh.length ≤ n) (hnl : n < (hh ++ l).length)
    (q1 : View (fun i => grow X h hh i ∨ i = n) HA 30 v' (out1.map eR ++ [eR y])) (q2 : HA.length = (hh ++ l).length)
    (q3 : ∀ j e, (hh ++ l)[j]? = some e → j ≠ n → (¬ grow X h hh j ∨ e.T ≠ 30) → HA[j]? = some e)
    (hs : s2.Now = s1.Now ∧ s2.Items = s1.Items ∧ s2.Read = s1.Read ∧ s2.Write = s1.Write ∧ s2.Last.length = s1.Last.length)
    (go : if x.Take = true then putGo r [] s.Waiters s out = ({ s2 with Waiters := left ++ s.Waiters.drop (j + 1) }, out1 ++ [y]) else putGo r left (s.Waiters.drop (j + 1)) s2 (out1 ++ [y]) = putGo r [] s.Waiters s out) :
    PG X k s r out h (j + 1) left s2 (out1 ++ [y]) x.Take vi vw v' vl (HA.set k (gE s2 vi vw v')) := by
  have hl := pg.kp.len
  have hbx := lt_some pg.bx
  have hkl := lt_some pg.g
  have hk := b k o
  have q2' : HA.length = hh.length + l.length := by rw [q2]; simp
  have tI : 92 ≠ 74 := by decide
  have tW : 92 ≠ 50 := by decide
  have tR : 92 ≠ 30 := by decide
  have old : ∀ (j : Nat) (e : Entry), hh[j]? = some e → e.T ≠ 30 → HA[j]? = some e := fun j e he ht => q3 j e (by rw [ap_lo (lt_some he)]; exact he) (by have := lt_some he; omega) (.inr ht)
  have gk := old k _ pg.g tR
  refine ⟨go, hs.1.trans pg.nw, hs.2.1.trans pg.it, ⟨hs.2.2.1.trans pg.rw.1, hs.2.2.2.1.trans pg.rw.2⟩, hs.2.2.2.2.trans pg.l4, st_eq (by omega), ?_, ?_, ?_, ?_, ?_, ⟨by rw [len_st]; omega, fun j hj hx => ?_⟩, by have := pg.ol; simp; omega, by have := pg.ll; omega⟩
  · exact (pg.vi.mono (fun _ h => h) fun j es hx he => old j _ he (by simp)).set gk tI _
  · exact (pg.vw.mono fun j es hx he => old j _ he (by simp)).set gk tW _
  · rw [List.map_append, List.map_cons, List.map_nil]
    refine (q1.set gk tR _).up fun j hj => hj.elim (fun hj => hj.elim .inl fun a => .inr ⟨a.1, by rw [len_st]; omega⟩) fun a => .inr ⟨by omega, by rw [len_st]; omega⟩
  · refine ((pg.vl.mono (fun _ h => h) fun j es hx he => old j _ he (by simp)).set gk tW _).up fun j hj => ⟨hj.1, by rw [len_st]; omega⟩
  · rw [st_ne (by omega)]
    exact old _ _ pg.bx (by show 39 ≠ 30; decide)
  · have he : h[j]? = some h[j] := List.getElem?_eq_getElem hj
    have he1 := pg.kp.get he hx
    rw [he, st_ne (by rintro rfl; exact hx o)]
    exact q3 _ _ (by rw [ap_lo (lt_some he1)]; exact he1) (by have := lt_some he1; omega) (.inl fun hc => hc.elim hx fun a => by omega)
theorem PG.fin {X : Nat → Prop} {k : Nat} {s : Spc} {r : Req} {out : List Rpl} {h : List Entry} {j : Nat} {left : List Wtr} {s1 s2 : Spc} {out1 : List Rpl} {tk : Bool} {vi vw vo vl v : AV} {hh L : List Entry}
    (pg : PG X k s r out h j left s1 out1 tk vi vw vo vl hh) (b : ∀ j, X j → j < h.length) (o : X k) (hw : s2.Waiters = left)
    (hv : View (fun i => hh.length ≤ i ∧ i < hh.length + L.length) (hh.set k (gE s2 v vl vo) ++ L) 74 v (s2.Items.map eI)) :
    GS (grow X h (hh.set k (gE s2 v vl vo) ++ L)) k s2 out1 (hh.set k (gE s2 v vl vo) ++ L) ∧ Keeps X h (hh.set k (gE s2 v vl vo) ++ L) := by
  have hk1 := lt_some pg.g
  have hl := pg.kp.len
  have tW : 92 ≠ 50 := by decide
  have tR : 92 ≠ 30 := by decide
  refine ⟨⟨grow_bd b (by simp; omega), .inl o, v, vl, vo, by rw [ap_lo (by simpa using hk1)]; exact st_eq hk1, ?_, ?_, ?_⟩, ⟨by simp; omega, fun j hj hx => ?_⟩⟩
  · exact hv.up fun i hi => .inr ⟨by omega, by simp; omega⟩
  · rw [hw]; exact .view (((pg.vl.set pg.g tW _).app _).up fun i hi => .inr ⟨by omega, by simp; omega⟩)
  · exact ((pg.vo.set pg.g tR _).app _).up fun i hi => hi.elim .inl fun a => .inr ⟨a.1, by simp; omega⟩
  · have he : h[j]? = some h[j] := List.getElem?_eq_getElem hj
    have he1 := pg.kp.get he hx
    rw [ap_lo (by simp; omega), st_ne (by rintro rfl; exact hx o), he]
    exact he1
theorem c_Gput {X : Nat → Prop} {k : Nat} {s : Spc} {r : Req} {out : List Rpl} {h : List Entry} (hr : Rdy s r out) (hw : GS X k s out h) :
    FSpec prog 80 [.ref k [0] 92, eQ r] h fun r' h' => r' = .tup [] ∧ GS (grow X h h') k (putGo r [] s.Waiters s out).1 (putGo r [] s.Waiters s out).2 h' ∧ Keeps X h h' := by
  obtain ⟨b, o, vi0, vw0, vo0, hk, h1, h2, h3⟩ := hw
  have hkl := lt_some hk
  refine frun_80 rfl ?_
  repeat' (first
    | simp (implicitDefEqProofs := false) only [push_cast, reduceIte, reduceCtorEq, Nat.reduceAdd, Nat.reduceSub, Nat.reduceEqDiff, Nat.reduceLT, Nat.reduceLeDiff, Nat.reduceBEq, Nat.reduceMul, Int.reduceLT, Int.reduceLE, Int.reduceEq, Int.reduceToNat, Int.reduceMul, Int.reduceNeg, Go.Proofs.Try.f80, hk, gE, hkl, eQ_ty, eQ_pl, ap_lo, st_lo, st_ne, st_eq, len_st, st_st, sst, at_set, at_set0, at_set2, at_set20, sst2, List.replicate_succ, List.drop_zero, ne_hi hkl, ne_hi' hkl, ne_h hkl, ne_h' hkl]
    | refine Sp2.f ?_ ?_
    | refine Spl.f ?_ ?_ <;> intro hb
    | refine rq_mk rfl (fun b hb => ?_)
    | refine r_draw (U := [[], [], [], [], [], [], [4], [], [], [], []]) (H := [⟨0, [], .hole⟩, ⟨0, [], .hole⟩]) hmix (by kernel_rfl) (by decide +kernel) (by kernel_rfl) ?_
    | refine r_draw (U := [[], [], [], [], [], [], [], [], [], [], [], []]) (H := []) hmix (by kernel_rfl) (by decide +kernel) (by kernel_rfl) ?_
    | refine r_draw (U := [[], [], [], [], [], [], [], [], []]) (H := []) hmix (by kernel_rfl) (by decide +kernel) (by kernel_rfl) ?_
    | refine r_draw (U := [[], [], [], [], [], [], [], [], []]) (H := []) hmix (by kernel_rfl) (by decide +kernel) (by kernel_rfl) ?_
    | refine r_draw (U := [[], [], [], [], [], [], [1], [], [], [1, 7], [], [], [1, 7], [], [1, 6, 7], [], [], [], [], []]) (H := [⟨0, [], .hole⟩, ⟨0, [], .hole⟩, ⟨0, [], .hole⟩, ⟨0, [], .hole⟩]) hmix (by kernel_rfl) (by decide +kernel) (by kernel_rfl) ?_)
  refine rl_gen (PGv X k s r out h (fun vl tk j a => [(0, .ref k [0] 92), (1, eQ r), (3, .ref h.length [0] 39), (4, vl), (5, .bool tk), (6, .int .i64 j), (7, a 7), (8, a 8), (9, a 9), (17, a 17), (36, a 36), (69, a 69), (89, a 89), (92, a 92)])) s.Waiters.length ?_ ?_
  · refine ⟨Nat.zero_le _, [], s, out, false, vi0, vw0, vo0, .nils, ⟨?_, rfl, rfl, ⟨rfl, rfl⟩, hr.l4, ?_, h1.app _, h2.app _, (h3.app _).up grow_up, .nil, ?_, Keeps.app _ _ _, Nat.le_refl _, Nat.le_refl _⟩, rfl⟩
    · rw [if_neg (by decide), List.drop_zero]
    · rw [ap_lo hkl]; exact hk
    · rw [get_at0]; rfl
  rintro j env hh ⟨hj, left, s1, out1, tk, vi, vw, vo, vl, pg, henv⟩
  refine ⟨hj, ?_⟩
  rw [henv]
  generalize lk env = a
  clear henv env
  have a0 := pg.g
  have a1 := pg.bx
  have hk1 := lt_some a0
  have hb1 := lt_some a1
  by_cases hlt : j < s.Waiters.length
  · obtain ⟨x, hx⟩ : ∃ x, s.Waiters[j]? = some x := ⟨_, List.getElem?_eq_getElem hlt⟩
    obtain ⟨hcl, hxP⟩ := hr.cl x (List.mem_of_getElem? hx)
    have hm := c_Match6 x.P r.T hxP hr.rT
    have hj9 : j < 9223372036854775807 := by have := hr.wl; omega
    have hdr : s.Waiters.drop j = x :: s.Waiters.drop (j + 1) := by rw [List.drop_eq_getElem?_toList_append, hx]; rfl
    have hgo := pg.go
    have gw0 : getP (eW x) [0] = some (.int .i64 x.Client) := rfl
    have gw1 : getP (eW x) [1] = some (.int .i64 x.Seq) := rfl
    have gw2 : getP (eW x) [2] = some (.bool x.Take) := rfl
    have gw3 : getP (eW x) [3] = some (eFs x.P) := rfl
    have gq0 : getP (eQ r) [0] = some (.int .i64 r.Client) := rfl
    have gq4 : getP (eQ r) [4] = some (eFs r.T) := rfl
    rw [hdr] at hgo
    have hll : lenAV vl = left.length := by have := lenAV_view pg.vl; simpa using this
    have hro : decide (left.length + 1 ≤ 4294967296) = true := by have := pg.ll; have := hr.wl; simp; omega
    obtain ⟨p, hidx, hldx⟩ := pg.vw.at (i := j) (e := eW x) (by rw [List.getElem?_map, hx]; rfl) sh_28 ok_50
    simp (implicitDefEqProofs := false) only [push_cast, reduceIte, reduceCtorEq, Nat.reduceAdd, Nat.reduceSub, Nat.reduceEqDiff, Nat.reduceLT, Nat.reduceLeDiff, Nat.reduceBEq, Nat.reduceMul, Int.reduceLT, Int.reduceLE, Int.reduceEq, Int.reduceToNat, Int.reduceMul, Int.reduceNeg, Go.Proofs.Try.f80] at hldx
    have hlW : stLen prog 28 vw = .ret (.int .i64 s.Waiters.length) [] := by have := pg.vw.len (U := 28) sh_28; simpa using this
    obtain ⟨v', h', q1, q2, q3, happ0⟩ := rh_app (P := prog) (eW x) (pg.vl.app [⟨50, [eW x], .own⟩, ⟨50, [eW x], .own⟩])
    have e2 : (hh ++ [(⟨50, [eW x], .own⟩ : Entry), ⟨50, [eW x], .own⟩]).length = hh.length + 2 := by simp
    have happ : ∀ (d : Option Tmp) (st : List Ctl) (en : Env) (Q : APost), Rn prog st .normal (putD en d v') h' Q → Rh prog (stAppendTo 50 [eW x] (hh.length + 2) vl) d st en (hh ++ [(⟨50, [eW x], .own⟩ : Entry), ⟨50, [eW x], .own⟩]) Q := fun d st en Q hq => by
      have := happ0 d st en Q hq
      rwa [e2] at this
    clear happ0
    cases tk with
    | true =>
      rw [if_pos rfl] at hgo
      repeat' (first
    | simp (implicitDefEqProofs := false) only [push_cast, reduceIte, reduceCtorEq, Nat.reduceAdd, Nat.reduceSub, Nat.reduceEqDiff, Nat.reduceLT, Nat.reduceLeDiff, Nat.reduceBEq, Nat.reduceMul, Int.reduceLT, Int.reduceLE, Int.reduceEq, Int.reduceToNat, Int.reduceMul, Int.reduceNeg, Go.Proofs.Try.f80, hll, hro, gw0, gw1, gw2, gw3, gq0, gq4, hlW, hidx, hldx, a0, a1, gE, hk1, hb1, cast_lt hlt, eW_ty, eW_pl, eW_wk, eFs_ty, eFs_pl, eFs_wk, Int.toNat_natCast, List.length_map, wrap_succ hj9, ap_lo, st_lo, st_ne, st_eq, len_st, st_st, sst, at_set, at_set0, at_set2, at_set20, sst2, List.replicate_succ, List.drop_zero, ne_hi hk1, ne_hi' hk1, ne_h hk1, ne_h' hk1, ne_hi hb1, ne_hi' hb1, ne_h hb1, ne_h' hb1]
    | refine Sp2.f ?_ ?_
    | refine Spl.f ?_ ?_ <;> intro hb
    | refine rq_mk rfl (fun b hb => ?_)
    | refine r_draw (U := [[], [], [], [], [], [], [4], [], [], [], []]) (H := [⟨0, [], .hole⟩, ⟨0, [], .hole⟩]) hmix (by kernel_rfl) (by decide +kernel) (by kernel_rfl) ?_
    | refine r_draw (U := [[], [], [], [], [], [], [], [], [], [], [], []]) (H := []) hmix (by kernel_rfl) (by decide +kernel) (by kernel_rfl) ?_
    | refine r_draw (U := [[], [], [], [], [], [], [], [], []]) (H := []) hmix (by kernel_rfl) (by decide +kernel) (by kernel_rfl) ?_
    | refine r_draw (U := [[], [], [], [], [], [], [], [], []]) (H := []) hmix (by kernel_rfl) (by decide +kernel) (by kernel_rfl) ?_
    | refine r_draw (U := [[], [], [], [], [], [], [1], [], [], [1, 7], [], [], [1, 7], [], [1, 6, 7], [], [], [], [], []]) (H := [⟨0, [], .hole⟩, ⟨0, [], .hole⟩, ⟨0, [], .hole⟩, ⟨0, [], .hole⟩]) hmix (by kernel_rfl) (by decide +kernel) (by kernel_rfl) ?_
    | refine happ _ _ _ _ ?_)
      all_goals first
        | (have := pg.ll; have := pg.ol; have := hr.wl; have := hr.ol; omega)
        | skip
      refine ⟨hlt, left ++ [x], s1, out1, true, vi, vw, vo, v', pg.left b o q1 q2 q3 ?_, rfl⟩
      rw [if_pos rfl, hgo]
      simp
    | false =>
      rw [if_neg (by decide)] at hgo
      cases hmb : matchT x.P r.T with
      | false =>
        rw [hmb] at hm
        repeat' (first
    | simp (implicitDefEqProofs := false) only [push_cast, reduceIte, reduceCtorEq, Nat.reduceAdd, Nat.reduceSub, Nat.reduceEqDiff, Nat.reduceLT, Nat.reduceLeDiff, Nat.reduceBEq, Nat.reduceMul, Int.reduceLT, Int.reduceLE, Int.reduceEq, Int.reduceToNat, Int.reduceMul, Int.reduceNeg, Go.Proofs.Try.f80, hll, hro, gw0, gw1, gw2, gw3, gq0, gq4, hlW, hidx, hldx, a0, a1, gE, hk1, hb1, cast_lt hlt, eW_ty, eW_pl, eW_wk, eFs_ty, eFs_pl, eFs_wk, Int.toNat_natCast, List.length_map, wrap_succ hj9, ap_lo, st_lo, st_ne, st_eq, len_st, st_st, sst, at_set, at_set0, at_set2, at_set20, sst2, List.replicate_succ, List.drop_zero, ne_hi hk1, ne_hi' hk1, ne_h hk1, ne_h' hk1, ne_hi hb1, ne_hi' hb1, ne_h hb1, ne_h' hb1]
    | refine Sp2.f ?_ ?_
    | refine Spl.f ?_ ?_ <;> intro hb
    | refine rq_mk rfl (fun b hb => ?_)
    | refine r_draw (U := [[], [], [], [], [], [], [4], [], [], [], []]) (H := [⟨0, [], .hole⟩, ⟨0, [], .hole⟩]) hmix (by kernel_rfl) (by decide +kernel) (by kernel_rfl) ?_
    | refine r_draw (U := [[], [], [], [], [], [], [], [], [], [], [], []]) (H := []) hmix (by kernel_rfl) (by decide +kernel) (by kernel_rfl) ?_
    | refine r_draw (U := [[], [], [], [], [], [], [], [], []]) (H := []) hmix (by kernel_rfl) (by decide +kernel) (by kernel_rfl) ?_
    | refine r_draw (U := [[], [], [], [], [], [], [], [], []]) (H := []) hmix (by kernel_rfl) (by decide +kernel) (by kernel_rfl) ?_
    | refine r_draw (U := [[], [], [], [], [], [], [1], [], [], [1, 7], [], [], [1, 7], [], [1, 6, 7], [], [], [], [], []]) (H := [⟨0, [], .hole⟩, ⟨0, [], .hole⟩, ⟨0, [], .hole⟩, ⟨0, [], .hole⟩]) hmix (by kernel_rfl) (by decide +kernel) (by kernel_rfl) ?_
    | refine k_fn hm ?_
    | refine happ _ _ _ _ ?_)
        all_goals first
          | (have := pg.ll; have := pg.ol; have := hr.wl; have := hr.ol; omega)
          | skip
        refine ⟨hlt, left ++ [x], s1, out1, false, vi, vw, vo, v', pg.left b o q1 q2 q3 ?_, rfl⟩
        rw [if_neg (by decide), ← hgo]
        simp only [putGo, hmb, Bool.false_eq_true, if_false]
      | true =>
        rw [hmb] at hm
        obtain ⟨c, hc, hc4⟩ := nat_client hcl
        have hct : x.Client.toNat = c := by rw [hc]; rfl
        have hcm : c < s1.Last.length := by rw [pg.l4]; exact hc4
        have hy : s1.Last[c]? = some (lastOf s1 c) := by simp [lastOf, List.getD_eq_getElem?_getD, List.getElem?_eq_getElem hcm]
        have hr4 : (0 ≤ x.Client ∧ x.Client < ((4 : Nat) : Int)) = True := by rw [hc]; simp; omega
        have hr5 : (0 ≤ x.Client ∧ x.Client < 4) = True := by rw [hc]; simp; omega
        have gLs : getP (eL s1.Last) [x.Client.toNat, 1] = some (.int .i64 (lastOf s1 c).Seq) := by
          simp only [eL, getP, hct, List.getElem?_map, hy, Option.map_some, eR, List.getElem?_cons_succ, List.getElem?_cons_zero]
        have sLs : setP (eL s1.Last) [x.Client.toNat] (.agg 30 [.int .i64 x.Client, .int .i64 x.Seq, .int .i64 2, eFs r.T, .bool true]) = some (eL (s1.Last.set c (late x r))) := by
          simp only [eL, setP, hct, List.getElem?_map, hy, Option.map_some, List.map_set]; rfl
        obtain ⟨vA, wr, rd, p1, p2, p3, hds⟩ := ds_app (P := prog) (n := hh.length + 3) (eh := ⟨0, [], .hole⟩) (.agg 30 [.int .i64 x.Client, .int .i64 x.Seq, .int .i64 2, eFs r.T, .bool true]) (get_at hh [⟨50, [eW x], .own⟩, ⟨30, [.agg 30 [.int .i64 x.Client, .int .i64 x.Seq, .int .i64 2, eFs r.T, .bool true]], .own⟩, ⟨30, [.agg 30 [.int .i64 x.Client, .int .i64 x.Seq, .int .i64 2, eFs r.T, .bool true]], .own⟩, ⟨0, [], .hole⟩] 3) rfl (pg.vo.app [⟨50, [eW x], .own⟩, ⟨30, [.agg 30 [.int .i64 x.Client, .int .i64 x.Seq, .int .i64 2, eFs r.T, .bool true]], .own⟩, ⟨30, [.agg 30 [.int .i64 x.Client, .int .i64 x.Seq, .int .i64 2, eFs r.T, .bool true]], .own⟩, ⟨0, [], .hole⟩])
        have hho : lenAV vo = out1.length := by have := lenAV_view pg.vo; simpa using this
        have hro2 : decide (out1.length + 1 ≤ 4294967296) = true := by have := pg.ol; have := hr.wl; have := hr.ol; simp; omega
        have hvt : tyB prog vA 34 = true := p1.ty sh_34
        generalize hHA : wrAll _ wr = HA at p1 p2 p3
        have hXh : ∀ i, grow X h hh i → i < hh.length := fun i hi => hi.elim (fun hx => by have := b i hx; omega) And.right
        have aK : HA[k]? = some (gE s1 vi vw vo) := p3 k _ (by rw [ap_lo hk1]; exact a0) (by omega) (.inr (by show 92 ≠ 30; decide))
        have hkA := lt_some aK
        have g7 : ∀ E : Entry, (HA.set k E)[hh.length]? = some ⟨50, [eW x], .own⟩ := fun E => by
          rw [st_ne (by omega)]
          exact p3 _ _ (by rw [get_at0]; rfl) (by omega) (.inr (by show 50 ≠ 30; decide))
        have g8 : ∀ E : Entry, (HA.set k E)[hh.length + 1]? = some ⟨30, [.agg 30 [.int .i64 x.Client, .int .i64 x.Seq, .int .i64 2, eFs r.T, .bool true]], .own⟩ := fun E => by
          rw [st_ne (by omega)]
          exact p3 _ _ (by rw [get_at]; rfl) (by omega) (.inl fun hg => by have := hXh _ hg; omega)
        have gk : ∀ E : Entry, (HA.set k E)[k]? = some E := fun E => st_eq hkA
        by_cases hq : (lastOf s1 c).Seq = x.Seq
        · have hqb : ((lastOf s1 c).Seq == x.Seq) = true := by simp [hq]
          have ht : told1 x s1 r = { s1 with Last := s1.Last.set c (late x r) } := by unfold told1; rw [hct, if_pos hq]
          repeat' (first
    | simp (implicitDefEqProofs := false) only [push_cast, reduceIte, reduceCtorEq, Nat.reduceAdd, Nat.reduceSub, Nat.reduceEqDiff, Nat.reduceLT, Nat.reduceLeDiff, Nat.reduceBEq, Nat.reduceMul, Int.reduceLT, Int.reduceLE, Int.reduceEq, Int.reduceToNat, Int.reduceMul, Int.reduceNeg, Go.Proofs.Try.f80, gw0, gw1, gw2, gw3, gq0, gq4, hlW, hidx, hldx, a0, a1, gE, hk1, hb1, cast_lt hlt, eW_ty, eW_pl, eW_wk, eFs_ty, eFs_pl, eFs_wk, Int.toNat_natCast, List.length_map, wrap_succ hj9, ap_lo, st_lo, st_ne, st_eq, len_st, st_st, sst, at_set, at_set0, at_set2, at_set20, sst2, List.replicate_succ, List.drop_zero, ne_hi hk1, ne_hi' hk1, ne_h hk1, ne_h' hk1, ne_hi hb1, ne_hi' hb1, ne_h hb1, ne_h' hb1, hr4, hr5, cast4, gLs, sLs, hho, hro2, hvt, hHA, aK, hkA, g7, g8, gk, hqb]
    | refine Sp2.f ?_ ?_
    | refine Spl.f ?_ ?_ <;> intro hb
    | refine rq_mk rfl (fun b hb => ?_)
    | refine r_draw (U := [[], [], [], [], [], [], [4], [], [], [], []]) (H := [⟨0, [], .hole⟩, ⟨0, [], .hole⟩]) hmix (by kernel_rfl) (by decide +kernel) (by kernel_rfl) ?_
    | refine r_draw (U := [[], [], [], [], [], [], [], [], [], [], [], []]) (H := []) hmix (by kernel_rfl) (by decide +kernel) (by kernel_rfl) ?_
    | refine r_draw (U := [[], [], [], [], [], [], [], [], []]) (H := []) hmix (by kernel_rfl) (by decide +kernel) (by kernel_rfl) ?_
    | refine r_draw (U := [[], [], [], [], [], [], [], [], []]) (H := []) hmix (by kernel_rfl) (by decide +kernel) (by kernel_rfl) ?_
    | refine r_draw (U := [[], [], [], [], [], [], [1], [], [], [1, 7], [], [], [1, 7], [], [1, 6, 7], [], [], [], [], []]) (H := [⟨0, [], .hole⟩, ⟨0, [], .hole⟩, ⟨0, [], .hole⟩, ⟨0, [], .hole⟩]) hmix (by kernel_rfl) (by decide +kernel) (by kernel_rfl) ?_
    | refine k_fn hm ?_
    | refine hds _ _ _ _ _ ?_)
          all_goals first
            | (have := pg.ll; have := pg.ol; have := hr.wl; have := hr.ol; omega)
            | skip
          refine ⟨hlt, left, { s1 with Last := s1.Last.set c (late x r) }, out1 ++ [late x r], x.Take, vi, vw, vA, vl, pg.told (n := hh.length + 3) (y := late x r) b o (by omega) (by simp) p1 p2 p3 ⟨rfl, rfl, rfl, rfl, by simp⟩ ?_, rfl⟩
          rw [← hgo]
          simp only [putGo, hmb, if_true, ht]
          cases x.Take <;> rfl
        · have hqb : ((lastOf s1 c).Seq == x.Seq) = false := by simp [hq]
          have ht : told1 x s1 r = s1 := by unfold told1; rw [hct, if_neg hq]
          repeat' (first
    | simp (implicitDefEqProofs := false) only [push_cast, reduceIte, reduceCtorEq, Nat.reduceAdd, Nat.reduceSub, Nat.reduceEqDiff, Nat.reduceLT, Nat.reduceLeDiff, Nat.reduceBEq, Nat.reduceMul, Int.reduceLT, Int.reduceLE, Int.reduceEq, Int.reduceToNat, Int.reduceMul, Int.reduceNeg, Go.Proofs.Try.f80, gw0, gw1, gw2, gw3, gq0, gq4, hlW, hidx, hldx, a0, a1, gE, hk1, hb1, cast_lt hlt, eW_ty, eW_pl, eW_wk, eFs_ty, eFs_pl, eFs_wk, Int.toNat_natCast, List.length_map, wrap_succ hj9, ap_lo, st_lo, st_ne, st_eq, len_st, st_st, sst, at_set, at_set0, at_set2, at_set20, sst2, List.replicate_succ, List.drop_zero, ne_hi hk1, ne_hi' hk1, ne_h hk1, ne_h' hk1, ne_hi hb1, ne_hi' hb1, ne_h hb1, ne_h' hb1, hr4, hr5, cast4, gLs, sLs, hho, hro2, hvt, hHA, aK, hkA, g7, g8, gk, hqb]
    | refine Sp2.f ?_ ?_
    | refine Spl.f ?_ ?_ <;> intro hb
    | refine rq_mk rfl (fun b hb => ?_)
    | refine r_draw (U := [[], [], [], [], [], [], [4], [], [], [], []]) (H := [⟨0, [], .hole⟩, ⟨0, [], .hole⟩]) hmix (by kernel_rfl) (by decide +kernel) (by kernel_rfl) ?_
    | refine r_draw (U := [[], [], [], [], [], [], [], [], [], [], [], []]) (H := []) hmix (by kernel_rfl) (by decide +kernel) (by kernel_rfl) ?_
    | refine r_draw (U := [[], [], [], [], [], [], [], [], []]) (H := []) hmix (by kernel_rfl) (by decide +kernel) (by kernel_rfl) ?_
    | refine r_draw (U := [[], [], [], [], [], [], [], [], []]) (H := []) hmix (by kernel_rfl) (by decide +kernel) (by kernel_rfl) ?_
    | refine r_draw (U := [[], [], [], [], [], [], [1], [], [], [1, 7], [], [], [1, 7], [], [1, 6, 7], [], [], [], [], []]) (H := [⟨0, [], .hole⟩, ⟨0, [], .hole⟩, ⟨0, [], .hole⟩, ⟨0, [], .hole⟩]) hmix (by kernel_rfl) (by decide +kernel) (by kernel_rfl) ?_
    | refine k_fn hm ?_
    | refine hds _ _ _ _ _ ?_)
          all_goals first
            | (have := pg.ll; have := pg.ol; have := hr.wl; have := hr.ol; omega)
            | skip
          refine ⟨hlt, left, s1, out1 ++ [late x r], x.Take, vi, vw, vA, vl, pg.told (n := hh.length + 3) (y := late x r) b o (by omega) (by simp) p1 p2 p3 ⟨rfl, rfl, rfl, rfl, by simp⟩ ?_, rfl⟩
          rw [← hgo]
          simp only [putGo, hmb, if_true, ht]
          cases x.Take <;> rfl
  · have hlW : stLen prog 28 vw = .ret (.int .i64 s.Waiters.length) [] := by have := pg.vw.len (U := 28) sh_28; simpa using this
    have hgo := pg.go
    rw [List.drop_of_length_le (by omega)] at hgo
    have hvlt : tyB prog vl 28 = true := pg.vl.ty sh_28
    have gq0 : getP (eQ r) [0] = some (.int .i64 r.Client) := rfl
    have gq4 : getP (eQ r) [4] = some (eFs r.T) := rfl
    have gq5 : getP (eQ r) [5] = some (.int .i64 r.Lease) := rfl
    have hgk : ∀ E : Entry, (hh.set k E)[k]? = some E := fun E => st_eq hk1
    have hgb : ∀ E : Entry, (hh.set k E)[h.length]? = some ⟨39, [eQ r], .own⟩ := fun E => by rw [st_ne (by have := b k o; omega)]; exact a1
    have tI : 92 ≠ 74 := by decide
    have tW : 92 ≠ 50 := by decide
    have tR : 92 ≠ 30 := by decide
    have hlen := pg.kp.len
    cases tk with
    | true =>
      rw [if_pos rfl, List.append_nil] at hgo
      repeat' (first
    | simp (implicitDefEqProofs := false) only [push_cast, reduceIte, reduceCtorEq, Nat.reduceAdd, Nat.reduceSub, Nat.reduceEqDiff, Nat.reduceLT, Nat.reduceLeDiff, Nat.reduceBEq, Nat.reduceMul, Int.reduceLT, Int.reduceLE, Int.reduceEq, Int.reduceToNat, Int.reduceMul, Int.reduceNeg, Go.Proofs.Try.f80, cast_ge hlt, hlW, a0, a1, gE, hk1, hb1, gq0, gq4, gq5, hvlt, eFs_ty, eFs_pl, eFs_wk, Int.toNat_natCast, List.length_map, hgk, hgb, ap_lo, st_lo, st_ne, st_eq, len_st, st_st, sst, at_set, at_set0, at_set2, at_set20, sst2, List.replicate_succ, List.drop_zero, ne_hi hk1, ne_hi' hk1, ne_h hk1, ne_h' hk1, ne_hi hb1, ne_hi' hb1, ne_h hb1, ne_h' hb1]
    | refine Sp2.f ?_ ?_
    | refine Spl.f ?_ ?_ <;> intro hb
    | refine rq_mk rfl (fun b hb => ?_)
    | refine r_draw (U := [[], [], [], [], [], [], [4], [], [], [], []]) (H := [⟨0, [], .hole⟩, ⟨0, [], .hole⟩]) hmix (by kernel_rfl) (by decide +kernel) (by kernel_rfl) ?_
    | refine r_draw (U := [[], [], [], [], [], [], [], [], [], [], [], []]) (H := []) hmix (by kernel_rfl) (by decide +kernel) (by kernel_rfl) ?_
    | refine r_draw (U := [[], [], [], [], [], [], [], [], []]) (H := []) hmix (by kernel_rfl) (by decide +kernel) (by kernel_rfl) ?_
    | refine r_draw (U := [[], [], [], [], [], [], [], [], []]) (H := []) hmix (by kernel_rfl) (by decide +kernel) (by kernel_rfl) ?_
    | refine r_draw (U := [[], [], [], [], [], [], [1], [], [], [1, 7], [], [], [1, 7], [], [1, 6, 7], [], [], [], [], []]) (H := [⟨0, [], .hole⟩, ⟨0, [], .hole⟩, ⟨0, [], .hole⟩, ⟨0, [], .hole⟩]) hmix (by kernel_rfl) (by decide +kernel) (by kernel_rfl) ?_)
      rw [hgo]
      refine ⟨⟨grow_bd b (by simpa using hlen), .inl o, vi, vl, vo, st_eq hk1, ?_, ?_, ?_⟩, ?_⟩
      · rw [pg.it]; exact (pg.vi.set a0 tI _).up grow_up
      · exact .view ((pg.vl.set a0 tW _).up fun j hj => .inr ⟨by omega, by rw [len_st]; exact hj.2⟩)
      · exact (pg.vo.set a0 tR _).up fun j hj => hj.elim .inl fun a => .inr ⟨a.1, by rw [len_st]; exact a.2⟩
      · exact pg.kp.trans ⟨by simp, fun j hj hx => st_ne (by rintro rfl; exact hx (.inl o))⟩
    | false =>
      rw [if_neg (by decide)] at hgo
      have hgo2 : putGo r [] s.Waiters s out = ({ s1 with Waiters := left, Items := s1.Items ++ [itmOf s1 r] }, out1) := by rw [← hgo]; rfl
      rw [hgo2]
      have hnow : 0 ≤ s1.Now ∧ s1.Now ≤ 1099511627776 := by rw [pg.nw]; exact hr.now
      have hitm : (s1.Items ++ [itmOf s1 r]).map eI = s.Items.map eI ++ [eI (itmOf s1 r)] := by rw [pg.it]; simp
      have hvi := pg.vi
      generalize s.Items.map eI = li at hvi hitm
      by_cases hL0 : 0 < r.Lease
      · have hle : decide (0 < r.Lease) = true := by simpa using hL0
        have hwr : IntKind.wrap .i64 (s1.Now + r.Lease) = s1.Now + r.Lease := by have := hr.ls; exact IntWalk.i64_in _ (by omega)
        have hit : eI (itmOf s1 r) = .agg 74 [.int .i64 r.Client, .int .i64 (s1.Now + r.Lease), eFs r.T] := by simp only [itmOf, if_pos hL0, eI]
        have hfin := fun (v : AV) (L : List Entry) => @PG.fin X k s r out h j left s1 { s1 with Waiters := left, Items := s1.Items ++ [itmOf s1 r] } out1 false vi vw vo vl v hh L pg b o rfl
        cases hvi with
        | nil =>
          repeat' (first
    | simp (implicitDefEqProofs := false) only [push_cast, reduceIte, reduceCtorEq, Nat.reduceAdd, Nat.reduceSub, Nat.reduceEqDiff, Nat.reduceLT, Nat.reduceLeDiff, Nat.reduceBEq, Nat.reduceMul, Int.reduceLT, Int.reduceLE, Int.reduceEq, Int.reduceToNat, Int.reduceMul, Int.reduceNeg, Go.Proofs.Try.f80, sst0, hle, hwr, a0, a1, gE, hk1, hb1, gq0, gq4, gq5, hvlt, cast_ge hlt, hlW, eFs_ty, eFs_pl, eFs_wk, Int.toNat_natCast, List.length_map, hgk, hgb, ap_lo, st_lo, st_ne, st_eq, len_st, st_st, sst, at_set, at_set0, at_set2, at_set20, sst2, List.replicate_succ, List.drop_zero, ne_hi hk1, ne_hi' hk1, ne_h hk1, ne_h' hk1, ne_hi hb1, ne_hi' hb1, ne_h hb1, ne_h' hb1]
    | refine Sp2.f ?_ ?_
    | refine Spl.f ?_ ?_ <;> intro hb
    | refine rq_mk rfl (fun b hb => ?_)
    | refine r_draw (U := [[], [], [], [], [], [], [4], [], [], [], []]) (H := [⟨0, [], .hole⟩, ⟨0, [], .hole⟩]) hmix (by kernel_rfl) (by decide +kernel) (by kernel_rfl) ?_
    | refine r_draw (U := [[], [], [], [], [], [], [], [], [], [], [], []]) (H := []) hmix (by kernel_rfl) (by decide +kernel) (by kernel_rfl) ?_
    | refine r_draw (U := [[], [], [], [], [], [], [], [], []]) (H := []) hmix (by kernel_rfl) (by decide +kernel) (by kernel_rfl) ?_
    | refine r_draw (U := [[], [], [], [], [], [], [], [], []]) (H := []) hmix (by kernel_rfl) (by decide +kernel) (by kernel_rfl) ?_
    | refine r_draw (U := [[], [], [], [], [], [], [1], [], [], [1, 7], [], [], [1, 7], [], [1, 6, 7], [], [], [], [], []]) (H := [⟨0, [], .hole⟩, ⟨0, [], .hole⟩, ⟨0, [], .hole⟩, ⟨0, [], .hole⟩]) hmix (by kernel_rfl) (by decide +kernel) (by kernel_rfl) ?_)
          refine hfin _ _ ?_
          show View _ _ _ _ ((s1.Items ++ [itmOf s1 r]).map eI)
          rw [hitm, hit]
          exact View.mk' (es := [.agg 74 [.int .i64 r.Client, .int .i64 (s1.Now + r.Lease), eFs r.T]]) [] ⟨by omega, by simp⟩ at_set rfl rfl
        | @win kw lo _ z hxw hkw =>
          have hkwl := lt_some hkw
          have hne : kw ≠ k := by rintro rfl; rw [a0] at hkw; cases hkw
          have hgw : ∀ E : Entry, (hh.set k E)[kw]? = some ⟨74, li ++ z, .own⟩ := fun E => by rw [st_ne (Ne.symm hne)]; exact hkw
          have htk : (li ++ z).take li.length = li := by simp
          have hle2 : li.length ≤ (li ++ z).length := by simp
          have hsm : li.length ≤ 1000 := by
            have h1 : li.length = s1.Items.length := by have := congrArg List.length hitm; simp at this; omega
            have := hr.il
            rw [h1, pg.it]; omega
          by_cases hz : li = []
          · subst hz
            repeat' (first
    | simp (implicitDefEqProofs := false) only [push_cast, reduceIte, reduceCtorEq, Nat.reduceAdd, Nat.reduceSub, Nat.reduceEqDiff, Nat.reduceLT, Nat.reduceLeDiff, Nat.reduceBEq, Nat.reduceMul, Int.reduceLT, Int.reduceLE, Int.reduceEq, Int.reduceToNat, Int.reduceMul, Int.reduceNeg, Go.Proofs.Try.f80, sst0, Nat.zero_le, hgw, hkwl, hle2, hle, hwr, a0, a1, gE, hk1, hb1, gq0, gq4, gq5, hvlt, cast_ge hlt, hlW, eFs_ty, eFs_pl, eFs_wk, Int.toNat_natCast, List.length_map, hgk, hgb, ap_lo, st_lo, st_ne, st_eq, len_st, st_st, sst, at_set, at_set0, at_set2, at_set20, sst2, List.replicate_succ, List.drop_zero, ne_hi hk1, ne_hi' hk1, ne_h hk1, ne_h' hk1, ne_hi hb1, ne_hi' hb1, ne_h hb1, ne_h' hb1, ne_hi hkwl, ne_hi' hkwl, ne_h hkwl, ne_h' hkwl]
    | refine Sp2.f ?_ ?_
    | refine Spl.f ?_ ?_ <;> intro hb
    | refine rq_mk rfl (fun b hb => ?_)
    | refine r_draw (U := [[], [], [], [], [], [], [4], [], [], [], []]) (H := [⟨0, [], .hole⟩, ⟨0, [], .hole⟩]) hmix (by kernel_rfl) (by decide +kernel) (by kernel_rfl) ?_
    | refine r_draw (U := [[], [], [], [], [], [], [], [], [], [], [], []]) (H := []) hmix (by kernel_rfl) (by decide +kernel) (by kernel_rfl) ?_
    | refine r_draw (U := [[], [], [], [], [], [], [], [], []]) (H := []) hmix (by kernel_rfl) (by decide +kernel) (by kernel_rfl) ?_
    | refine r_draw (U := [[], [], [], [], [], [], [], [], []]) (H := []) hmix (by kernel_rfl) (by decide +kernel) (by kernel_rfl) ?_
    | refine r_draw (U := [[], [], [], [], [], [], [1], [], [], [1, 7], [], [], [1, 7], [], [1, 6, 7], [], [], [], [], []]) (H := [⟨0, [], .hole⟩, ⟨0, [], .hole⟩, ⟨0, [], .hole⟩, ⟨0, [], .hole⟩]) hmix (by kernel_rfl) (by decide +kernel) (by kernel_rfl) ?_)
            refine hfin _ _ ?_
            show View _ _ _ _ ((s1.Items ++ [itmOf s1 r]).map eI)
            rw [hitm, hit]
            exact View.mk' (es := [.agg 74 [.int .i64 r.Client, .int .i64 (s1.Now + r.Lease), eFs r.T]]) [] ⟨by omega, by simp⟩ at_set rfl rfl
          · have hz1 : (li.length ≤ 0) = False := by simp; exact hz
            have hz2 : (li.length + 1 ≤ li.length) = False := by simp
            repeat' (first
    | simp (implicitDefEqProofs := false) only [push_cast, reduceIte, reduceCtorEq, Nat.reduceAdd, Nat.reduceSub, Nat.reduceEqDiff, Nat.reduceLT, Nat.reduceLeDiff, Nat.reduceBEq, Nat.reduceMul, Int.reduceLT, Int.reduceLE, Int.reduceEq, Int.reduceToNat, Int.reduceMul, Int.reduceNeg, Go.Proofs.Try.f80, sst0, List.take_length, hgw, hkwl, htk, hle2, hz1, hz2, hle, hwr, a0, a1, gE, hk1, hb1, gq0, gq4, gq5, hvlt, cast_ge hlt, hlW, eFs_ty, eFs_pl, eFs_wk, Int.toNat_natCast, List.length_map, hgk, hgb, ap_lo, st_lo, st_ne, st_eq, len_st, st_st, sst, at_set, at_set0, at_set2, at_set20, sst2, List.replicate_succ, List.drop_zero, ne_hi hk1, ne_hi' hk1, ne_h hk1, ne_h' hk1, ne_hi hb1, ne_hi' hb1, ne_h hb1, ne_h' hb1, ne_hi hkwl, ne_hi' hkwl, ne_h hkwl, ne_h' hkwl]
    | refine Sp2.f ?_ ?_
    | refine Spl.f ?_ ?_ <;> intro hb
    | refine rq_mk rfl (fun b hb => ?_)
    | refine r_draw (U := [[], [], [], [], [], [], [4], [], [], [], []]) (H := [⟨0, [], .hole⟩, ⟨0, [], .hole⟩]) hmix (by kernel_rfl) (by decide +kernel) (by kernel_rfl) ?_
    | refine r_draw (U := [[], [], [], [], [], [], [], [], [], [], [], []]) (H := []) hmix (by kernel_rfl) (by decide +kernel) (by kernel_rfl) ?_
    | refine r_draw (U := [[], [], [], [], [], [], [], [], []]) (H := []) hmix (by kernel_rfl) (by decide +kernel) (by kernel_rfl) ?_
    | refine r_draw (U := [[], [], [], [], [], [], [], [], []]) (H := []) hmix (by kernel_rfl) (by decide +kernel) (by kernel_rfl) ?_
    | refine r_draw (U := [[], [], [], [], [], [], [1], [], [], [1, 7], [], [], [1, 7], [], [1, 6, 7], [], [], [], [], []]) (H := [⟨0, [], .hole⟩, ⟨0, [], .hole⟩, ⟨0, [], .hole⟩, ⟨0, [], .hole⟩]) hmix (by kernel_rfl) (by decide +kernel) (by kernel_rfl) ?_)
            all_goals first
              | omega
              | skip
            refine hfin _ _ ?_
            show View _ _ _ _ ((s1.Items ++ [itmOf s1 r]).map eI)
            rw [hitm, hit]
            exact View.mk' (es := li ++ [.agg 74 [.int .i64 r.Client, .int .i64 (s1.Now + r.Lease), eFs r.T]]) [] ⟨by omega, by simp⟩ at_set (by simp) (by simp)
      · have hle : decide (0 < r.Lease) = false := by simpa using hL0
        have hit : eI (itmOf s1 r) = .agg 74 [.int .i64 r.Client, .int .i64 0, eFs r.T] := by simp only [itmOf, if_neg hL0, eI]
        have hfin := fun (v : AV) (L : List Entry) => @PG.fin X k s r out h j left s1 { s1 with Waiters := left, Items := s1.Items ++ [itmOf s1 r] } out1 false vi vw vo vl v hh L pg b o rfl
        cases hvi with
        | nil =>
          repeat' (first
    | simp (implicitDefEqProofs := false) only [push_cast, reduceIte, reduceCtorEq, Nat.reduceAdd, Nat.reduceSub, Nat.reduceEqDiff, Nat.reduceLT, Nat.reduceLeDiff, Nat.reduceBEq, Nat.reduceMul, Int.reduceLT, Int.reduceLE, Int.reduceEq, Int.reduceToNat, Int.reduceMul, Int.reduceNeg, Go.Proofs.Try.f80, sst0, hle, a0, a1, gE, hk1, hb1, gq0, gq4, gq5, hvlt, cast_ge hlt, hlW, eFs_ty, eFs_pl, eFs_wk, Int.toNat_natCast, List.length_map, hgk, hgb, ap_lo, st_lo, st_ne, st_eq, len_st, st_st, sst, at_set, at_set0, at_set2, at_set20, sst2, List.replicate_succ, List.drop_zero, ne_hi hk1, ne_hi' hk1, ne_h hk1, ne_h' hk1, ne_hi hb1, ne_hi' hb1, ne_h hb1, ne_h' hb1]
    | refine Sp2.f ?_ ?_
    | refine Spl.f ?_ ?_ <;> intro hb
    | refine rq_mk rfl (fun b hb => ?_)
    | refine r_draw (U := [[], [], [], [], [], [], [4], [], [], [], []]) (H := [⟨0, [], .hole⟩, ⟨0, [], .hole⟩]) hmix (by kernel_rfl) (by decide +kernel) (by kernel_rfl) ?_
    | refine r_draw (U := [[], [], [], [], [], [], [], [], [], [], [], []]) (H := []) hmix (by kernel_rfl) (by decide +kernel) (by kernel_rfl) ?_
    | refine r_draw (U := [[], [], [], [], [], [], [], [], []]) (H := []) hmix (by kernel_rfl) (by decide +kernel) (by kernel_rfl) ?_
    | refine r_draw (U := [[], [], [], [], [], [], [], [], []]) (H := []) hmix (by kernel_rfl) (by decide +kernel) (by kernel_rfl) ?_
    | refine r_draw (U := [[], [], [], [], [], [], [1], [], [], [1, 7], [], [], [1, 7], [], [1, 6, 7], [], [], [], [], []]) (H := [⟨0, [], .hole⟩, ⟨0, [], .hole⟩, ⟨0, [], .hole⟩, ⟨0, [], .hole⟩]) hmix (by kernel_rfl) (by decide +kernel) (by kernel_rfl) ?_)
          refine hfin _ _ ?_
          show View _ _ _ _ ((s1.Items ++ [itmOf s1 r]).map eI)
          rw [hitm, hit]
          exact View.mk' (es := [.agg 74 [.int .i64 r.Client, .int .i64 0, eFs r.T]]) [] ⟨by omega, by simp⟩ at_set rfl rfl
        | @win kw lo _ z hxw hkw =>
          have hkwl := lt_some hkw
          have hne : kw ≠ k := by rintro rfl; rw [a0] at hkw; cases hkw
          have hgw : ∀ E : Entry, (hh.set k E)[kw]? = some ⟨74, li ++ z, .own⟩ := fun E => by rw [st_ne (Ne.symm hne)]; exact hkw
          have htk : (li ++ z).take li.length = li := by simp
          have hle2 : li.length ≤ (li ++ z).length := by simp
          have hsm : li.length ≤ 1000 := by
            have h1 : li.length = s1.Items.length := by have := congrArg List.length hitm; simp at this; omega
            have := hr.il
            rw [h1, pg.it]; omega
          by_cases hz : li = []
          · subst hz
            repeat' (first
    | simp (implicitDefEqProofs := false) only [push_cast, reduceIte, reduceCtorEq, Nat.reduceAdd, Nat.reduceSub, Nat.reduceEqDiff, Nat.reduceLT, Nat.reduceLeDiff, Nat.reduceBEq, Nat.reduceMul, Int.reduceLT, Int.reduceLE, Int.reduceEq, Int.reduceToNat, Int.reduceMul, Int.reduceNeg, Go.Proofs.Try.f80, sst0, Nat.zero_le, hgw, hkwl, hle2, hle, a0, a1, gE, hk1, hb1, gq0, gq4, gq5, hvlt, cast_ge hlt, hlW, eFs_ty, eFs_pl, eFs_wk, Int.toNat_natCast, List.length_map, hgk, hgb, ap_lo, st_lo, st_ne, st_eq, len_st, st_st, sst, at_set, at_set0, at_set2, at_set20, sst2, List.replicate_succ, List.drop_zero, ne_hi hk1, ne_hi' hk1, ne_h hk1, ne_h' hk1, ne_hi hb1, ne_hi' hb1, ne_h hb1, ne_h' hb1, ne_hi hkwl, ne_hi' hkwl, ne_h hkwl, ne_h' hkwl]
    | refine Sp2.f ?_ ?_
    | refine Spl.f ?_ ?_ <;> intro hb
    | refine rq_mk rfl (fun b hb => ?_)
    | refine r_draw (U := [[], [], [], [], [], [], [4], [], [], [], []]) (H := [⟨0, [], .hole⟩, ⟨0, [], .hole⟩]) hmix (by kernel_rfl) (by decide +kernel) (by kernel_rfl) ?_
    | refine r_draw (U := [[], [], [], [], [], [], [], [], [], [], [], []]) (H := []) hmix (by kernel_rfl) (by decide +kernel) (by kernel_rfl) ?_
    | refine r_draw (U := [[], [], [], [], [], [], [], [], []]) (H := []) hmix (by kernel_rfl) (by decide +kernel) (by kernel_rfl) ?_
    | refine r_draw (U := [[], [], [], [], [], [], [], [], []]) (H := []) hmix (by kernel_rfl) (by decide +kernel) (by kernel_rfl) ?_
    | refine r_draw (U := [[], [], [], [], [], [], [1], [], [], [1, 7], [], [], [1, 7], [], [1, 6, 7], [], [], [], [], []]) (H := [⟨0, [], .hole⟩, ⟨0, [], .hole⟩, ⟨0, [], .hole⟩, ⟨0, [], .hole⟩]) hmix (by kernel_rfl) (by decide +kernel) (by kernel_rfl) ?_)
            refine hfin _ _ ?_
            show View _ _ _ _ ((s1.Items ++ [itmOf s1 r]).map eI)
            rw [hitm, hit]
            exact View.mk' (es := [.agg 74 [.int .i64 r.Client, .int .i64 0, eFs r.T]]) [] ⟨by omega, by simp⟩ at_set rfl rfl
          · have hz1 : (li.length ≤ 0) = False := by simp; exact hz
            have hz2 : (li.length + 1 ≤ li.length) = False := by simp
            repeat' (first
    | simp (implicitDefEqProofs := false) only [push_cast, reduceIte, reduceCtorEq, Nat.reduceAdd, Nat.reduceSub, Nat.reduceEqDiff, Nat.reduceLT, Nat.reduceLeDiff, Nat.reduceBEq, Nat.reduceMul, Int.reduceLT, Int.reduceLE, Int.reduceEq, Int.reduceToNat, Int.reduceMul, Int.reduceNeg, Go.Proofs.Try.f80, sst0, List.take_length, hgw, hkwl, htk, hle2, hz1, hz2, hle, a0, a1, gE, hk1, hb1, gq0, gq4, gq5, hvlt, cast_ge hlt, hlW, eFs_ty, eFs_pl, eFs_wk, Int.toNat_natCast, List.length_map, hgk, hgb, ap_lo, st_lo, st_ne, st_eq, len_st, st_st, sst, at_set, at_set0, at_set2, at_set20, sst2, List.replicate_succ, List.drop_zero, ne_hi hk1, ne_hi' hk1, ne_h hk1, ne_h' hk1, ne_hi hb1, ne_hi' hb1, ne_h hb1, ne_h' hb1, ne_hi hkwl, ne_hi' hkwl, ne_h hkwl, ne_h' hkwl]
    | refine Sp2.f ?_ ?_
    | refine Spl.f ?_ ?_ <;> intro hb
    | refine rq_mk rfl (fun b hb => ?_)
    | refine r_draw (U := [[], [], [], [], [], [], [4], [], [], [], []]) (H := [⟨0, [], .hole⟩, ⟨0, [], .hole⟩]) hmix (by kernel_rfl) (by decide +kernel) (by kernel_rfl) ?_
    | refine r_draw (U := [[], [], [], [], [], [], [], [], [], [], [], []]) (H := []) hmix (by kernel_rfl) (by decide +kernel) (by kernel_rfl) ?_
    | refine r_draw (U := [[], [], [], [], [], [], [], [], []]) (H := []) hmix (by kernel_rfl) (by decide +kernel) (by kernel_rfl) ?_
    | refine r_draw (U := [[], [], [], [], [], [], [], [], []]) (H := []) hmix (by kernel_rfl) (by decide +kernel) (by kernel_rfl) ?_
    | refine r_draw (U := [[], [], [], [], [], [], [1], [], [], [1, 7], [], [], [1, 7], [], [1, 6, 7], [], [], [], [], []]) (H := [⟨0, [], .hole⟩, ⟨0, [], .hole⟩, ⟨0, [], .hole⟩, ⟨0, [], .hole⟩]) hmix (by kernel_rfl) (by decide +kernel) (by kernel_rfl) ?_)
            all_goals first
              | omega
              | skip
            refine hfin _ _ ?_
            show View _ _ _ _ ((s1.Items ++ [itmOf s1 r]).map eI)
            rw [hitm, hit]
            exact View.mk' (es := li ++ [.agg 74 [.int .i64 r.Client, .int .i64 0, eFs r.T]]) [] ⟨by omega, by simp⟩ at_set (by simp) (by simp)

end Go.Abs
