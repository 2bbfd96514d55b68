/- R7: a part of the proofs about the tuple space and its bytes. -/
import Derived.Test.YtilfbkhbjkjicaaR4
import Derived.Test.YtilfbkhbjkjicaaGv
set_option linter.all false
set_option maxRecDepth 100000
set_option maxHeartbeats 0
namespace Go.Abs
open Go
open Go.Proofs.Try (prog)
def gE (s : Spc) (vi vw vo : AV) : Entry := ⟨132, [.agg 132 [.agg 29 [.int .i64 s.Now, vi, vw, .int .i64 s.Read, .int .i64 s.Write, eL s.Last], vo]], .own⟩
inductive GV (X : Nat → Prop) (h : List Entry) (T : TypeId) : AV → List AV → Prop where
  | flat {l : List AV} : GV X h T (.list T l) l
  | view {v : AV} {l : List AV} (hv : View X h T v l) : GV X h T v l
theorem GV.set {X : Nat → Prop} {h : List Entry} {T : TypeId} {v : AV} {l : List AV} (hv : GV X h T v l) {k : Nat} {e0 : Entry} (hk : h[k]? = some e0) (hT : e0.T ≠ T) (E : Entry) : GV X (h.set k E) T v l := by
  cases hv with
  | flat => exact .flat
  | view hv => exact .view (hv.set hk hT E)
theorem GV.app {X : Nat → Prop} {h : List Entry} {T : TypeId} {v : AV} {l : List AV} (hv : GV X h T v l) (r : List Entry) : GV X (h ++ r) T v l := by
  cases hv with
  | flat => exact .flat
  | view hv => exact .view (hv.app r)
theorem GV.up {X Y : Nat → Prop} {h : List Entry} {T : TypeId} {v : AV} {l : List AV} (hv : GV X h T v l) (hX : ∀ j, X j → Y j) : GV Y h T v l := by
  cases hv with
  | flat => exact .flat
  | view hv => exact .view (hv.up hX)
theorem GV.mono {X : Nat → Prop} {h h' : List Entry} {T : TypeId} {v : AV} {l : List AV} (hv : GV X h T v l) (hg : ∀ j es, X j → h[j]? = some ⟨T, es, .own⟩ → h'[j]? = some ⟨T, es, .own⟩) : GV X h' T v l := by
  cases hv with
  | flat => exact .flat
  | view hv => exact .view (hv.mono (fun _ h => h) hg)
theorem GV.len {X : Nat → Prop} {h : List Entry} {T U : TypeId} {v : AV} {l : List AV} (hv : GV X h T v l) (hU : zab prog U = .slice T) : yc9 prog U v = .ret (.int .i64 l.length) [] := by
  have hs : yax (zab prog U) = true := by rw [hU]; rfl
  cases hv with
  | flat => rw [qc0, if_pos hs]
  | view hv =>
    cases hv with
    | nil => rw [stLen_nils, if_pos hs]; rfl
    | win hx hk => rw [stLen_win, if_pos hs]
theorem GV.at {X : Nat → Prop} {h : List Entry} {T U : TypeId} {v : AV} {l : List AV} {i : Nat} {e : AV} (hv : GV X h T v l) (hi : l[i]? = some e) (hU : zab prog U = .slice T) (hok : okT prog T = true) :
    ∃ p, qa0 prog U v (.int .i64 i) = .ret p [] ∧ ∀ (d : Option Tmp) (s : List Ctl) (env : Env) (Q : zap), Rs prog (qb7 T p) d s env h Q = Rn prog s .normal (zbd env d e) h Q := by
  have hlt : i < l.length := (List.getElem?_eq_some_iff.1 hi).1
  have hin : 0 ≤ (i : Int) ∧ (i : Int) < (l.length : Int) := by omega
  cases hv with
  | flat =>
    refine ⟨.eref T (l.getD i .junk), ?_, fun d s env Q => ?_⟩
    · rw [zcn, if_pos ⟨hU, hok⟩, if_pos hin, Int.toNat_natCast]
    · rw [stLoad_eref, if_pos rfl, rs_ret, List.getD_eq_getElem?_getD, hi]; rfl
  | view hv =>
    cases hv with
    | nil => simp at hlt
    | @win k lo _ z hx hk =>
      refine ⟨.ref k [i] T, ?_, fun d s env Q => ?_⟩
      · rw [zcs, if_pos ⟨hU, hok⟩, if_pos hin, Int.toNat_natCast, Nat.zero_add]; rfl
      · have hg : (l ++ z)[i]? = some e := by rw [List.getElem?_append_left hlt]; exact hi
        rw [stLoad_ref, if_pos rfl, rs_rd, hk, rd_some]
        simp only [yb4, if_true, getE, hg, zb1, rs_ret]
        rfl
structure GS (X : Nat → Prop) (k : Nat) (s : Spc) (out : List Rpl) (h : List Entry) : Prop where
  bd : ∀ j, X j → j < h.length
  own : X k
  ex : ∃ vi vw vo, h[k]? = some (gE s vi vw vo) ∧ View X h 87 vi (s.Items.map eI) ∧ GV X h 89 vw (s.Waiters.map eW) ∧ View X h 26 vo (out.map eR)
def Gth (f : FuncId) (args : List AV) (X : Nat → Prop) (k : Nat) (h : List Entry) (s' : Spc) (out' : List Rpl) : Prop :=
  ∃ h', GS (ybh X h h') k s' out' h' ∧ Keeps X h h' ∧ FSpec prog f (.ref k [0] 132 :: args) h fun r' h'' => r' = .tup [] ∧ h'' = h'
end Go.Abs
set_option linter.all false
set_option maxRecDepth 100000
set_option maxHeartbeats 0
namespace Go.Abs
open Go
open Go.Proofs.Try (prog)
structure PG (X : Nat → Prop) (k : Nat) (s : Spc) (r : Req) (out : List Rpl) (h : List Entry) (j : Nat) (left : List Wtr) (s1 : Spc) (out1 : List Rpl) (tk : Bool) (vi vw vo vl : AV) (h1 : List Entry) : Prop where
  go : if tk = true then ya8 r [] s.Waiters s out = ({ s1 with Waiters := left ++ s.Waiters.drop j }, out1) else ya8 r left (s.Waiters.drop j) s1 out1 = ya8 r [] s.Waiters s out
  nw : s1.Now = s.Now
  it : s1.Items = s.Items
  rw : s1.Read = s.Read ∧ s1.Write = s.Write
  l4 : s1.Last.length = 4
  g : h1[k]? = some (gE s1 vi vw vo)
  vi : View X h1 87 vi (s.Items.map eI)
  vw : GV X h1 89 vw (s.Waiters.map eW)
  vo : View (ybh X h h1) h1 26 vo (out1.map eR)
  vl : View (fun i => h.length < i ∧ i < h1.length) h1 89 vl (left.map eW)
  bx : h1[h.length]? = some ⟨60, [eQ r], .own⟩
  kp : Keeps X h h1
  ol : out1.length ≤ out.length + j
  ll : left.length ≤ j
theorem PG.left {X : Nat → Prop} {k : Nat} {s : Spc} {r : Req} {out : List Rpl} {h : List Entry} {j : Nat} {left : List Wtr} {s1 : Spc} {out1 : List Rpl} {tk : Bool} {vi vw vo vl v' : AV} {hh h' l : List Entry} {x : Wtr}
    (pg : PG X k s r out h j left s1 out1 tk vi vw vo vl hh) (b : ∀ j, X j → j < h.length) (o : X k) (q1 : View (ybh (fun i => h.length < i ∧ i < hh.length) (hh ++ l) h') h' 89 v' (left.map eW ++ [eW x])) (q2 : (hh ++ l).length ≤ h'.length)
    (q3 : ∀ j e, (hh ++ l)[j]? = some e → (¬ (h.length < j ∧ j < hh.length) ∨ e.T ≠ 89) → h'[j]? = some e)
    (go : if tk = true then ya8 r [] s.Waiters s out = ({ s1 with Waiters := (left ++ [x]) ++ s.Waiters.drop (j + 1) }, out1) else ya8 r (left ++ [x]) (s.Waiters.drop (j + 1)) s1 out1 = ya8 r [] s.Waiters s out) :
    PG X k s r out h (j + 1) (left ++ [x]) s1 out1 tk vi vw vo v' h' := by
  have hl := pg.kp.len
  have hbx := qab pg.bx
  have q2' : hh.length ≤ h'.length := by simp at q2; omega
  have kX : ∀ j e, X j → hh[j]? = some e → h'[j]? = some e := fun j e hx he => q3 j e (by rw [zad (qab he)]; exact he) (.inl fun hc => by have := b j hx; omega)
  refine ⟨go, pg.nw, pg.it, pg.rw, pg.l4, kX k _ o pg.g, pg.vi.mono (fun _ h => h) fun j es hx he => kX j _ hx he, pg.vw.mono fun j es hx he => kX j _ hx he, ?_, ?_, ?_, ⟨by omega, fun j hj hx => ?_⟩, by have := pg.ol; omega, by have := pg.ll; simp; omega⟩
  · refine pg.vo.mono (fun j hj => hj.elim .inl fun a => .inr ⟨a.1, by omega⟩) fun j es _ he => q3 j _ (by rw [zad (qab he)]; exact he) (.inr (by show 26 ≠ 89; decide))
  · rw [List.map_append, List.map_cons, List.map_nil]
    refine q1.up fun j hj => hj.elim (fun a => ⟨a.1, by omega⟩) fun a => ⟨by have := a.1; simp at this; omega, a.2⟩
  · exact q3 _ _ (by rw [zad hbx]; exact pg.bx) (.inl fun hc => Nat.lt_irrefl _ hc.1)
  · have he : h[j]? = some h[j] := List.getElem?_eq_getElem hj
    have he1 := pg.kp.get he hx
    rw [he]
    exact q3 _ _ (by rw [zad (qab he1)]; exact he1) (.inl fun hc => by omega)
theorem PG.told {X : Nat → Prop} {k : Nat} {s : Spc} {r : Req} {out : List Rpl} {h : List Entry} {j : Nat} {left : List Wtr} {s1 s2 : Spc} {out1 : List Rpl} {vi vw vo vl v' : AV} {hh HA l : List Entry} {x : Wtr} {y : Rpl} {n : Nat}
    (pg : PG X k s r out h j left s1 out1 false vi vw vo vl hh) (b : ∀ j, X j → j < h.length) (o : X k) (hn : hh.length ≤ n) (hnl : n < (hh ++ l).length)
    (q1 : View (fun i => ybh X h hh i ∨ i = n) HA 26 v' (out1.map eR ++ [eR y])) (q2 : HA.length = (hh ++ l).length)
    (q3 : ∀ j e, (hh ++ l)[j]? = some e → j ≠ n → (¬ ybh X h hh j ∨ e.T ≠ 26) → HA[j]? = some e)
    (hs : s2.Now = s1.Now ∧ s2.Items = s1.Items ∧ s2.Read = s1.Read ∧ s2.Write = s1.Write ∧ s2.Last.length = s1.Last.length)
    (go : if x.Take = true then ya8 r [] s.Waiters s out = ({ s2 with Waiters := left ++ s.Waiters.drop (j + 1) }, out1 ++ [y]) else ya8 r left (s.Waiters.drop (j + 1)) s2 (out1 ++ [y]) = ya8 r [] s.Waiters s out) :
    PG X k s r out h (j + 1) left s2 (out1 ++ [y]) x.Take vi vw v' vl (HA.set k (gE s2 vi vw v')) := by
  have hl := pg.kp.len
  have hbx := qab pg.bx
  have hkl := qab pg.g
  have hk := b k o
  have q2' : HA.length = hh.length + l.length := by rw [q2]; simp
  have tI : 132 ≠ 87 := by decide
  have tW : 132 ≠ 89 := by decide
  have tR : 132 ≠ 26 := by decide
  have old : ∀ (j : Nat) (e : Entry), hh[j]? = some e → e.T ≠ 26 → HA[j]? = some e := fun j e he ht => q3 j e (by rw [zad (qab he)]; exact he) (by have := qab he; omega) (.inr ht)
  have gk := old k _ pg.g tR
  refine ⟨go, hs.1.trans pg.nw, hs.2.1.trans pg.it, ⟨hs.2.2.1.trans pg.rw.1, hs.2.2.2.1.trans pg.rw.2⟩, hs.2.2.2.2.trans pg.l4, yad (by omega), ?_, ?_, ?_, ?_, ?_, ⟨by rw [yab]; omega, fun j hj hx => ?_⟩, by have := pg.ol; simp; omega, by have := pg.ll; omega⟩
  · exact (pg.vi.mono (fun _ h => h) fun j es hx he => old j _ he (by simp)).set gk tI _
  · exact (pg.vw.mono fun j es hx he => old j _ he (by simp)).set gk tW _
  · rw [List.map_append, List.map_cons, List.map_nil]
    refine (q1.set gk tR _).up fun j hj => hj.elim (fun hj => hj.elim .inl fun a => .inr ⟨a.1, by rw [yab]; omega⟩) fun a => .inr ⟨by omega, by rw [yab]; omega⟩
  · refine ((pg.vl.mono (fun _ h => h) fun j es hx he => old j _ he (by simp)).set gk tW _).up fun j hj => ⟨hj.1, by rw [yab]; omega⟩
  · rw [qac (by omega)]
    exact old _ _ pg.bx (by show 60 ≠ 26; decide)
  · have he : h[j]? = some h[j] := List.getElem?_eq_getElem hj
    have he1 := pg.kp.get he hx
    rw [he, qac (by rintro rfl; exact hx o)]
    exact q3 _ _ (by rw [zad (qab he1)]; exact he1) (by have := qab he1; omega) (.inl fun hc => hc.elim hx fun a => by omega)
theorem PG.fin {X : Nat → Prop} {k : Nat} {s : Spc} {r : Req} {out : List Rpl} {h : List Entry} {j : Nat} {left : List Wtr} {s1 s2 : Spc} {out1 : List Rpl} {tk : Bool} {vi vw vo vl v : AV} {hh L : List Entry}
    (pg : PG X k s r out h j left s1 out1 tk vi vw vo vl hh) (b : ∀ j, X j → j < h.length) (o : X k) (hw : s2.Waiters = left)
    (hv : View (fun i => hh.length ≤ i ∧ i < hh.length + L.length) (hh.set k (gE s2 v vl vo) ++ L) 87 v (s2.Items.map eI)) :
    GS (ybh X h (hh.set k (gE s2 v vl vo) ++ L)) k s2 out1 (hh.set k (gE s2 v vl vo) ++ L) ∧ Keeps X h (hh.set k (gE s2 v vl vo) ++ L) := by
  have hk1 := qab pg.g
  have hl := pg.kp.len
  have tW : 132 ≠ 89 := by decide
  have tR : 132 ≠ 26 := by decide
  refine ⟨⟨ya9 b (by simp; omega), .inl o, v, vl, vo, by rw [zad (by simpa using hk1)]; exact yad hk1, ?_, ?_, ?_⟩, ⟨by simp; omega, fun j hj hx => ?_⟩⟩
  · exact hv.up fun i hi => .inr ⟨by omega, by simp; omega⟩
  · rw [hw]; exact .view (((pg.vl.set pg.g tW _).app _).up fun i hi => .inr ⟨by omega, by simp; omega⟩)
  · exact ((pg.vo.set pg.g tR _).app _).up fun i hi => hi.elim .inl fun a => .inr ⟨a.1, by simp; omega⟩
  · have he : h[j]? = some h[j] := List.getElem?_eq_getElem hj
    have he1 := pg.kp.get he hx
    rw [zad (by simp; omega), qac (by rintro rfl; exact hx o), he]
    exact he1
end Go.Abs
