/- Gv: a part of the proofs about the tuple space and its bytes. -/
import Derived.Test.YtilfbkhbjkjicaaAbs28
namespace Go.Abs
open Go
end Go.Abs
set_option linter.all false
namespace Go.Abs
open Go
section
variable {P : Program}
def GI1 (h : List Entry) (e0 : Entry) (p : Nat → Prop) (E : Nat → (Nat → AV) → Env) (i : Nat) (env : Env) (hh : List Entry) : Prop := p i ∧ hh.take h.length = h ∧ hh[h.length]? = some e0 ∧ env = E i (lk env)
theorem GI1.mk {h H l : List Entry} {e0 : Entry} {p : Nat → Prop} {E : Nat → (Nat → AV) → Env} {i : Nat} {env : Env} (hp : p i) (hT : H.take h.length = h) (h0 : H[h.length]? = some e0) (he : env = E i (lk env)) : GI1 h e0 p E i env (H ++ l) := by
  have := zac h0
  exact ⟨hp, by rw [List.take_append_of_le_length (by omega)]; exact hT, by rw [List.getElem?_append_left this]; exact h0, he⟩
theorem GI1.mk0 {h H : List Entry} {e0 : Entry} {p : Nat → Prop} {E : Nat → (Nat → AV) → Env} {i : Nat} {env : Env} (hp : p i) (hT : H.take h.length = h) (h0 : H[h.length]? = some e0) (he : env = E i (lk env)) : GI1 h e0 p E i env H := ⟨hp, hT, h0, he⟩
def GI2 (h : List Entry) (e0 e1 : Entry) (p : Nat → Prop) (E : Nat → (Nat → AV) → Env) (i : Nat) (env : Env) (hh : List Entry) : Prop := p i ∧ hh.take h.length = h ∧ hh[h.length]? = some e0 ∧ hh[h.length + 1]? = some e1 ∧ env = E i (lk env)
theorem GI2.mk {h H l : List Entry} {e0 e1 : Entry} {p : Nat → Prop} {E : Nat → (Nat → AV) → Env} {i : Nat} {env : Env} (hp : p i) (hT : H.take h.length = h) (h0 : H[h.length]? = some e0) (h1 : H[h.length + 1]? = some e1) (he : env = E i (lk env)) : GI2 h e0 e1 p E i env (H ++ l) := by
  have := zac h1
  exact ⟨hp, by rw [List.take_append_of_le_length (by omega)]; exact hT, by rw [List.getElem?_append_left (by omega)]; exact h0, by rw [List.getElem?_append_left this]; exact h1, he⟩
end
end Go.Abs
set_option linter.all false
namespace Go.Abs
open Go
section
variable {P : Program}
theorem rn_app {s2 : List Ctl} {Q : yap} : ∀ (s1 : List Ctl) (e : AEx) (env : Env) (h : List Entry), Rn P (s1 ++ s2) e env h Q = Rn P s1 e env h fun e' env' h' => Rn P s2 e' env' h' Q
  | [], e, env, h => rfl
  | c :: s1, e, env, h => by
    have IH := rn_app (s2 := s2) (Q := Q) s1
    cases c <;> cases e <;> simp only [List.cons_append, Rn, IH]
theorem rn_mono {Q Q' : yap} (hq : ∀ e env h, Q e env h → Q' e env h) : ∀ (s : List Ctl) (e : AEx) (env : Env) (h : List Entry), Rn P s e env h Q → Rn P s e env h Q'
  | [], e, env, h, hr => hq _ _ _ hr
  | c :: s, e, env, h, hr => by
    have IH := rn_mono hq s
    cases c <;> cases e <;> simp only [Rn] at hr ⊢ <;> first
      | exact yb0 _ _ _ (fun e env' h' hm => IH _ _ _ hm) hr
      | exact qcg (fun env' h' hm => IH _ _ _ hm) _ _ _ hr
      | exact yc3 (fun env' h' hm => IH _ _ _ hm) _ _ _ _ _ _ hr
      | exact IH _ _ _ hr
      | (split at hr
         · rw [if_pos ‹_›]; exact IH _ _ _ hr
         · rw [if_neg ‹_›]; exact IH _ _ _ hr)
theorem qce (n : Nat) {s : List Ctl} {e : AEx} {env : Env} {h : List Entry} {Q : yap} (M : yap) (h1 : Rn P (s.take n) e env h M) (h2 : ∀ e env' h', M e env' h' → Rn P (s.drop n) e env' h' Q) : Rn P s e env h Q := by
  have := rn_app (P := P) (s2 := s.drop n) (Q := Q) (s.take n) e env h
  rw [List.take_append_drop] at this
  rw [this]
  exact rn_mono h2 _ _ _ _ h1
theorem View.mk' {X : Nat → Prop} {h : List Entry} {T : TypeId} {k n lo : Nat} {es l : List AV} (z : List AV) (hx : X k) (hk : h[k]? = some ⟨T, es, .own⟩) (hes : es = l ++ z) (hn : n = l.length) : View X h T (.win k [] T 0 n lo) l := by
  subst hes; subst hn; exact .win hx hk
theorem yb4 {X : Nat → Prop} {h : List Entry} {T : TypeId} {v : AV} {l : List AV} (y : AV) (hv : View X h T v l) :
    ∃ v' h', View (yc7 X h h') h' T v' (l ++ [y]) ∧ h.length ≤ h'.length ∧ (∀ j e, h[j]? = some e → (¬ X j ∨ e.T ≠ T) → h'[j]? = some e) ∧
      ∀ (d : Option Tmp) (s : List Ctl) (env : Env) (Q : yap), Rn P s .normal (ybf env d v') h' Q → Rh P (zap T [y] h.length v) d s env h Q := by
  cases hv with
  | nil =>
    refine ⟨.win h.length [] T 0 1 1, h ++ [⟨T, [y], .own⟩], ?_, by simp, fun j e hj _ => by rw [List.getElem?_append_left (zac hj)]; exact hj, fun d s env Q hr => ?_⟩
    · exact View.mk' (l := [y]) [] (.inr ⟨Nat.le_refl _, by simp⟩) (by rw [zar]; rfl) rfl rfl
    · simp only [zap, List.length_cons, List.length_nil, Nat.zero_add, rh_new]
      exact hr
  | @win k lo _ z hx hk =>
    have hkl := zac hk
    have htk : (l ++ z).take l.length = l := by simp
    have hle : l.length ≤ (l ++ z).length := by simp
    have hdr : (l ++ z).drop (l.length + 1) = z.drop 1 := by rw [List.drop_append]; simp
    have hkH : (h ++ [(⟨0, [], .hole⟩ : Entry)])[k]? = some ⟨T, l ++ z, .own⟩ := by rw [List.getElem?_append_left hkl]; exact hk
    by_cases hfit : l.length + 1 ≤ lo
    · refine ⟨.win k [] T 0 (l.length + 1) lo, h.set k ⟨T, l ++ [y] ++ z.drop 1, .own⟩ ++ [⟨0, [], .hole⟩], ?_, by simp, fun j e hj hc => ?_, fun d s env Q hr => ?_⟩
      · exact View.mk' (l := l ++ [y]) (z.drop 1) (.inl hx) (by rw [List.getElem?_append_left (by simpa using hkl), List.getElem?_set_self hkl]) rfl (by simp)
      · rw [List.getElem?_append_left (by simpa using zac hj), List.getElem?_set_ne]
        · exact hj
        · rintro rfl
          rw [hk] at hj
          cases hj
          rcases hc with hc | hc
          · exact hc hx
          · exact hc rfl
      · simp only [zap, yco, and_self, if_true, rh_rd, hkH, ydh, htk, hle, hdr, List.length_cons, List.length_nil, Nat.zero_add, hfit, rh_ret, yay]
        rw [List.set_append_left _ _ hkl]
        exact hr
    · refine ⟨.win h.length [] T 0 (l.length + 1) (l.length + 1), h.set k ⟨T, [], .dead⟩ ++ [⟨T, l ++ [y], .own⟩], ?_, by simp, fun j e hj hc => ?_, fun d s env Q hr => ?_⟩
      · refine View.mk' (l := l ++ [y]) (es := l ++ [y]) [] (.inr ⟨Nat.le_refl _, by simp⟩) ?_ (by simp) (by simp)
        have := zar (h.set k ⟨T, [], .dead⟩) [⟨T, l ++ [y], .own⟩]
        rw [List.length_set] at this
        exact this
      · rw [List.getElem?_append_left (by simpa using zac hj), List.getElem?_set_ne]
        · exact hj
        · rintro rfl
          rw [hk] at hj
          cases hj
          rcases hc with hc | hc
          · exact hc hx
          · exact hc rfl
      · simp only [zap, yco, and_self, if_true, rh_rd, hkH, ydh, htk, hle, hdr, List.length_cons, List.length_nil, Nat.zero_add, hfit, if_false, rh_ret, yay]
        rw [List.set_append_left _ _ hkl]
        have := set_at0 (h.set k ⟨T, [], .dead⟩) [(⟨0, [], .hole⟩ : Entry)] ⟨T, l ++ [y], .own⟩
        rw [List.length_set] at this
        rw [this]
        exact hr
theorem ds_app {X : Nat → Prop} {h : List Entry} {T : TypeId} {v : AV} {l : List AV} (y : AV) {n : Nat} {eh : Entry} (hn : h[n]? = some eh) (hst : eh.st = .hole) (hv : View X h T v l) :
    ∃ v' wr rd, View (fun j => X j ∨ j = n) (yay h wr) T v' (l ++ [y]) ∧ (yay h wr).length = h.length ∧ (∀ j e, h[j]? = some e → j ≠ n → (¬ X j ∨ e.T ≠ T) → (yay h wr)[j]? = some e) ∧
      ∀ (acc : List Nat) (D : DC) (s : List Ctl) (env : Env) (Q : yap), Dv P v' (.wr wr) (acc ++ rd) D s env h Q → Ds P (zap T [y] n v) acc D s env h Q := by
  have hnl := zac hn
  cases hv with
  | nil =>
    refine ⟨.win n [] T 0 1 1, [(n, ⟨T, [y], .own⟩)], [], ?_, by simp [yay], fun j e hj hjn _ => by simp only [yay]; rw [List.getElem?_set_ne (Ne.symm hjn)]; exact hj, fun acc D s env Q hr => ?_⟩
    · exact View.mk' (l := [y]) (es := [y]) [] (.inr rfl) (by simp only [yay]; rw [List.getElem?_set_self hnl]) rfl rfl
    · simp only [zap, List.length_cons, List.length_nil, Nat.zero_add, ds_ret]
      rw [List.append_nil] at hr
      exact hr
  | @win k lo _ z hx hk =>
    have hkl := zac hk
    have hkn : k ≠ n := by
      rintro rfl
      rw [hk] at hn
      cases hn
      cases hst
    have htk : (l ++ z).take l.length = l := by simp
    have hle : l.length ≤ (l ++ z).length := by simp
    have hdr : (l ++ z).drop (l.length + 1) = z.drop 1 := by rw [List.drop_append]; simp
    by_cases hfit : l.length + 1 ≤ lo
    · refine ⟨.win k [] T 0 (l.length + 1) lo, [(k, ⟨T, l ++ [y] ++ z.drop 1, .own⟩)], [k], ?_, by simp [yay], fun j e hj hjn hc => ?_, fun acc D s env Q hr => ?_⟩
      · exact View.mk' (l := l ++ [y]) (z.drop 1) (.inl hx) (by simp only [yay]; rw [List.getElem?_set_self hkl]) rfl (by simp)
      · simp only [yay]
        rw [List.getElem?_set_ne]
        · exact hj
        · rintro rfl
          rw [hk] at hj
          cases hj
          rcases hc with hc | hc
          · exact hc hx
          · exact hc rfl
      · simp only [zap, yco, and_self, if_true, ds_rd, hk, dd_some, htk, hle, hdr, List.length_cons, List.length_nil, Nat.zero_add, hfit, ds_ret]
        exact hr
    · refine ⟨.win n [] T 0 (l.length + 1) (l.length + 1), [(k, ⟨T, [], .dead⟩), (n, ⟨T, l ++ [y], .own⟩)], [k], ?_, by simp [yay], fun j e hj hjn hc => ?_, fun acc D s env Q hr => ?_⟩
      · exact View.mk' (l := l ++ [y]) (es := l ++ [y]) [] (.inr rfl) (by simp only [yay]; rw [List.getElem?_set_self (by simpa using hnl)]) (by simp) (by simp)
      · simp only [yay]
        rw [List.getElem?_set_ne (Ne.symm hjn), List.getElem?_set_ne]
        · exact hj
        · rintro rfl
          rw [hk] at hj
          cases hj
          rcases hc with hc | hc
          · exact hc hx
          · exact hc rfl
      · simp only [zap, yco, and_self, if_true, ds_rd, hk, dd_some, htk, hle, hdr, List.length_cons, List.length_nil, Nat.zero_add, hfit, if_false, ds_ret]
        exact hr
end
end Go.Abs
set_option linter.all false
namespace Go.Abs
open Go
section
variable {P : Program}
end
end Go.Abs
set_option linter.all false
namespace Go.Abs
open Go
def zbe (a b : Int) : Int := IntKind.u32.wrap (a + b)
def xor32 (a b : Int) : Int := bits .xor .u32 a b
def and32 (a b : Int) : Int := bits .and .u32 a b
def or32 (a b : Int) : Int := bits .or .u32 a b
def not32 (a : Int) : Int := bits .xor .u32 4294967295 a
def shl32 (a : Int) (n : Nat) : Int := IntKind.u32.wrap (a * 2 ^ (min n IntKind.u32.bits))
def qc4 (a : Int) (n : Nat) : Int := a.fdiv (2 ^ (min n IntKind.u32.bits))
def ybh (x : Int) (n : Nat) : Int := or32 (shl32 x n) (qc4 x (32 - n))
theorem or32_comm (a b : Int) : or32 a b = or32 b a := by
  simp only [or32, bits, BitVec.or_comm]
def by32 (b : UInt8) : Int := IntKind.u32.wrap (b.toNat : Int)
def be32 (a b c d : UInt8) : Int := or32 (or32 (or32 (shl32 (by32 a) 24) (shl32 (by32 b) 16)) (shl32 (by32 c) 8)) (by32 d)
def sg0 (x : Int) : Int := xor32 (xor32 (ybh x 25) (ybh x 14)) (qc4 x 3)
def sg1 (x : Int) : Int := xor32 (xor32 (ybh x 15) (ybh x 13)) (qc4 x 10)
def ydf (s : List UInt8) (n : Nat) (l : List Int) : Int :=
  if n < 16 then be32 (s.getD (4 * n) 0) (s.getD (4 * n + 1) 0) (s.getD (4 * n + 2) 0) (s.getD (4 * n + 3) 0)
  else zbe (zbe (zbe (l.getD (n - 16) 0) (sg0 (l.getD (n - 15) 0))) (l.getD (n - 7) 0)) (sg1 (l.getD (n - 2) 0))
def ybk (s : List UInt8) : Nat → List Int
  | 0 => []
  | n + 1 => ybk s n ++ [ydf s n (ybk s n)]
theorem ybp (s : List UInt8) : ∀ n, (ybk s n).length = n
  | 0 => rfl
  | n + 1 => by simp [ybk, ybp s n]
def kTab : List Int := [
  0x428a2f98, 0x71374491, 0xb5c0fbcf, 0xe9b5dba5, 0x3956c25b, 0x59f111f1, 0x923f82a4, 0xab1c5ed5,
  0xd807aa98, 0x12835b01, 0x243185be, 0x550c7dc3, 0x72be5d74, 0x80deb1fe, 0x9bdc06a7, 0xc19bf174,
  0xe49b69c1, 0xefbe4786, 0x0fc19dc6, 0x240ca1cc, 0x2de92c6f, 0x4a7484aa, 0x5cb0a9dc, 0x76f988da,
  0x983e5152, 0xa831c66d, 0xb00327c8, 0xbf597fc7, 0xc6e00bf3, 0xd5a79147, 0x06ca6351, 0x14292967,
  0x27b70a85, 0x2e1b2138, 0x4d2c6dfc, 0x53380d13, 0x650a7354, 0x766a0abb, 0x81c2c92e, 0x92722c85,
  0xa2bfe8a1, 0xa81a664b, 0xc24b8b70, 0xc76c51a3, 0xd192e819, 0xd6990624, 0xf40e3585, 0x106aa070,
  0x19a4c116, 0x1e376c08, 0x2748774c, 0x34b0bcb5, 0x391c0cb3, 0x4ed8aa4a, 0x5b9cca4f, 0x682e6ff3,
  0x748f82ee, 0x78a5636f, 0x84c87814, 0x8cc70208, 0x90befffa, 0xa4506ceb, 0xbef9a3f7, 0xc67178f2]
structure V8 where
  a : Int
  b : Int
  c : Int
  d : Int
  e : Int
  f : Int
  g : Int
  h : Int
def V8.l (v : V8) : List Int := [v.a, v.b, v.c, v.d, v.e, v.f, v.g, v.h]
def one32 (v : V8) (k w : Int) : Int :=
  zbe (zbe (zbe (zbe v.h (xor32 (xor32 (ybh v.e 26) (ybh v.e 21)) (ybh v.e 7))) (xor32 (and32 v.e v.f) (and32 (not32 v.e) v.g))) k) w
def two32 (v : V8) : Int := zbe (xor32 (xor32 (ybh v.a 30) (ybh v.a 19)) (ybh v.a 10)) (xor32 (xor32 (and32 v.a v.b) (and32 v.a v.c)) (and32 v.b v.c))
def rnd32 (v : V8) (k w : Int) : V8 := ⟨zbe (one32 v k w) (two32 v), v.a, v.b, v.c, zbe v.d (one32 v k w), v.e, v.f, v.g⟩
def rnds (s : List UInt8) (v : V8) : Nat → V8
  | 0 => v
  | n + 1 => rnd32 (rnds s v n) (kTab.getD n 0) ((ybk s 64).getD n 0)
def blk (v : V8) (s : List UInt8) : V8 :=
  let u := rnds s v 64
  ⟨zbe v.a u.a, zbe v.b u.b, zbe v.c u.c, zbe v.d u.d, zbe v.e u.e, zbe v.f u.f, zbe v.g u.g, zbe v.h u.h⟩
def qbw (v : V8) (s : List UInt8) : Nat → V8
  | 0 => v
  | n + 1 => blk (qbw v s n) ((s.drop (64 * n)).take 64)
def v8 : V8 := ⟨0x6a09e667, 0xbb67ae85, 0x3c6ef372, 0xa54ff53a, 0x510e527f, 0x9b05688c, 0x1f83d9ab, 0x5be0cd19⟩
def u8 (n : Int) : UInt8 := UInt8.ofNat (IntKind.u8.wrap n).toNat
theorem u8_eq (n : Int) : IntKind.u8.wrap n = ((u8 n).toNat : Int) := by
  have h : IntKind.u8.wrap n = n % 256 := by simp [IntKind.wrap, IntKind.bits, IntKind.signed]
  unfold u8
  rw [h]
  simp
  omega
def ybj (n : Nat) : Nat := (119 - n % 64) % 64
def len8 (n : Nat) : List UInt8 := [56, 48, 40, 32, 24, 16, 8, 0].map fun i => u8 ((IntKind.u64.wrap ((n : Int) * 8)).fdiv (2 ^ i))
def qdj (s : List UInt8) : List UInt8 := s ++ (0x80 :: List.replicate (ybj s.length) 0) ++ len8 s.length
def by4 (x : Int) : List UInt8 := [u8 (qc4 x 24), u8 (qc4 x 16), u8 (qc4 x 8), u8 x]
def qdx (s : List UInt8) : List UInt8 := (qbw v8 (qdj s) ((qdj s).length / 64)).l.flatMap by4
theorem padS_len (s : List UInt8) : (qdj s).length % 64 = 0 := by
  simp only [qdj, len8, List.length_append, List.length_cons, List.length_replicate, List.length_map, ybj, List.length_nil]
  omega
theorem blks_app (v : V8) (s t : List UInt8) : ∀ n m, s.length = 64 * n → qbw v (s ++ t) (n + m) = qbw (qbw v s n) t m := by
  intro n m hs
  induction m with
  | zero =>
    have : ∀ k, k ≤ n → qbw v (s ++ t) k = qbw v s k := by
      intro k
      induction k with
      | zero => intro _; rfl
      | succ k ih =>
        intro hk
        simp only [qbw, ih (by omega)]
        rw [List.drop_append_of_le_length (by omega), List.take_append_of_le_length (by simp; omega)]
    exact this n (Nat.le_refl _)
  | succ m ih =>
    rw [← Nat.add_assoc]
    simp only [qbw, ih]
    rw [List.drop_append, List.drop_of_length_le (by omega), List.nil_append, show 64 * (n + m) - s.length = 64 * m by omega]
end Go.Abs
set_option linter.all false
namespace Go.Abs
open Go
theorem zak (n : Int) : IntKind.u64.wrap n = n % 18446744073709551616 := by simp [IntKind.wrap, IntKind.bits, IntKind.signed]
theorem wrap_u8 (n : Int) : IntKind.u8.wrap n = n % 256 := by simp [IntKind.wrap, IntKind.bits, IntKind.signed]
theorem u8_val (n : Int) : ((u8 n).toNat : Int) = n % 256 := by rw [← u8_eq, wrap_u8]
theorem u8_inj {a b : UInt8} (h : (a.toNat : Int) = b.toNat) : a = b := UInt8.toNat_inj.1 (by omega)
def beN (v : Int) : Nat → List UInt8
  | 0 => []
  | n + 1 => u8 (v.fdiv (2 ^ (8 * n))) :: beN v n
theorem yak (v : Int) : ∀ n, (beN v n).length = n
  | 0 => rfl
  | n + 1 => by simp [beN, yak v n]
def numF (v : Int) (l : List UInt8) : Int := l.foldl (fun v b => v * 256 + (b.toNat : Int)) v
def num (l : List UInt8) : Int := numF 0 l
theorem ydk (v : Int) (b : UInt8) (l : List UInt8) : numF v (b :: l) = numF (v * 256 + (b.toNat : Int)) l := rfl
theorem pow256 (n : Nat) : (256 : Int) ^ (n + 1) = 256 ^ n * 256 := by rw [Int.pow_succ]
theorem numF_eq : ∀ (l : List UInt8) (v : Int), numF v l = v * 256 ^ l.length + num l
  | [], v => by simp [numF, num]
  | b :: l, v => by
    rw [num, ydk, ydk, numF_eq l, numF_eq l, List.length_cons, pow256]
    grind
theorem num_range : ∀ (l : List UInt8), 0 ≤ num l ∧ num l < 256 ^ l.length
  | [] => by simp [num, numF]
  | b :: l => by
    have h := num_range l
    have hb : b.toNat < 256 := b.toNat_lt
    have e : num (b :: l) = (b.toNat : Int) * 256 ^ l.length + num l := by
      rw [num, ydk, numF_eq]; simp
    rw [e, List.length_cons, pow256]
    have h3 : (0 : Int) ≤ 256 ^ l.length := by omega
    have h4 : (b.toNat : Int) * 256 ^ l.length ≤ 255 * 256 ^ l.length := Int.mul_le_mul_of_nonneg_right (by omega) h3
    have h5 : 0 ≤ (b.toNat : Int) * 256 ^ l.length := Int.mul_nonneg (by omega) h3
    omega
theorem num_cons (b : UInt8) (l : List UInt8) : num (b :: l) = (b.toNat : Int) * 256 ^ l.length + num l := by
  rw [num, ydk, numF_eq]; simp
theorem two_pow8 (n : Nat) : (2 : Int) ^ (8 * n) = 256 ^ n := by
  rw [Int.pow_mul]; rfl
theorem num_beN (v : Int) (hv : 0 ≤ v) : ∀ n, num (beN v n) = v % 256 ^ n
  | 0 => by simp [beN, num, numF]
  | n + 1 => by
    have h0 : (0 : Int) < 256 ^ n := Int.pow_pos (by omega)
    rw [beN, num_cons, yak, num_beN v hv n, u8_val, two_pow8, pow256]
    rw [Int.fdiv_eq_ediv_of_nonneg _ (by omega), Int.emod_def v (256 ^ n * 256), ← Int.ediv_ediv_of_nonneg (by omega), Int.emod_def v (256 ^ n), Int.emod_def (v / 256 ^ n) 256]
    generalize v / 256 ^ n = a
    generalize (256 : Int) ^ n = b
    grind
theorem beN_num : ∀ (l : List UInt8) (c : Int), 0 ≤ c → beN (c * 256 ^ l.length + num l) l.length = l
  | [], c, hc => rfl
  | b :: l, c, hc => by
    have h0 : (0 : Int) < 256 ^ l.length := Int.pow_pos (by omega)
    have hr := num_range l
    have hb : b.toNat < 256 := b.toNat_lt
    rw [num_cons, List.length_cons, beN, two_pow8, pow256]
    have e : c * (256 ^ l.length * 256) + ((b.toNat : Int) * 256 ^ l.length + num l) = (c * 256 + (b.toNat : Int)) * 256 ^ l.length + num l := by grind
    rw [e, Int.fdiv_eq_ediv_of_nonneg _ (by omega), beN_num l _ (by omega)]
    congr 1
    rw [Int.add_comm, Int.add_mul_ediv_right _ _ (by omega), Int.ediv_eq_zero_of_lt hr.1 hr.2, Int.zero_add]
    apply u8_inj
    rw [u8_val]; omega
theorem beN_num0 (l : List UInt8) {n : Nat} (hn : l.length = n) : beN (num l) n = l := by
  subst hn
  have := beN_num l 0 (Int.le_refl 0)
  simpa using this
theorem or_add {v : Int} {b : UInt8} (h0 : 0 ≤ v) (h1 : v < 72057594037927936) : bits .or .u64 (IntKind.u64.wrap (v * 2 ^ (min 8 IntKind.u64.bits))) (b.toNat : Int) = v * 256 + (b.toNat : Int) := by
  obtain ⟨n, rfl⟩ : ∃ n : Nat, v = n := ⟨v.toNat, by omega⟩
  have hb : b.toNat < 256 := b.toNat_lt
  have hb8 : b.toNat < 2 ^ 8 := hb
  have e1 : IntKind.u64.wrap ((n : Int) * 2 ^ (min 8 IntKind.u64.bits)) = ((n * 256 : Nat) : Int) := by
    rw [zak]
    show ((n : Int) * 256) % 18446744073709551616 = _
    omega
  rw [e1]
  have hor : n * 256 ||| b.toNat = n * 256 + b.toNat := by
    have := Nat.two_pow_add_eq_or_of_lt hb8 n
    rw [Nat.mul_comm] at this
    exact this.symm
  simp only [bits, BitVec.toNat_or, BitVec.toNat_ofInt]
  show IntKind.u64.wrap (((((n * 256 : Nat) : Int) % ((2 ^ 64 : Nat) : Int)).toNat ||| (((b.toNat : Int) % ((2 ^ 64 : Nat) : Int)).toNat) : Nat) : Int) = _
  have e2 : (((n * 256 : Nat) : Int) % ((2 ^ 64 : Nat) : Int)).toNat = n * 256 := by omega
  have e3 : ((b.toNat : Int) % ((2 ^ 64 : Nat) : Int)).toNat = b.toNat := by omega
  rw [e2, e3, hor, zak]
  omega
end Go.Abs
set_option linter.all false
set_option autoImplicit false
namespace Go.Abs
open Go
section
variable {P : Program}
def EndS (h : List Entry) (k : Nat) (E : Entry) (r : AV) : AV → List Entry → Prop := fun r0 h0 =>
  h0.take h.length = h.set k E ∧ zah r0 = true ∧ rz h0 h.length r0 = r
theorem ydl {h0 h1 : List Entry} {n j : Nat} (h : h0.take n = h1) (hj : j < n) : h0[j]? = h1[j]? := by
  rw [← h, List.getElem?_take, if_pos hj]
theorem det_set (hP : WF P) {f : FuncId} {args : List AV} {h : List Entry} {k : Nat} {E : Entry} {r : AV} (hE : yas h.length E.es = true) (hr : zan h.length r = true) (hs : FSpec P f args h (EndS h k E r)) :
    FSpec P f args h fun r' h'' => r' = r ∧ h'' = h.set k E := by
  refine FSpec.trim hP hs ?_
  rintro r0 h0 ⟨h1, h2, h3⟩
  refine ⟨fun j e hj he => ?_, h2, by rw [h3]; exact hr, h3, h1⟩
  have := ydl h1 hj
  rw [he] at this
  by_cases hjk : k = j
  · subst hjk
    rw [List.getElem?_set_self (by simpa using hj)] at this
    cases this
    exact .inr hE
  · rw [List.getElem?_set_ne hjk] at this
    exact .inl this.symm
def EndU (h : List Entry) (k : Nat) (E : Entry) : AV → List Entry → Prop := fun r0 h0 => h0.take h.length = h.set k E ∧ r0 = .tup []
theorem det_setU (hP : WF P) {f : FuncId} {args : List AV} {h : List Entry} {k : Nat} {E : Entry} (hE : yas h.length E.es = true) (hs : FSpec P f args h (EndU h k E)) :
    FSpec P f args h fun r' h'' => r' = .tup [] ∧ h'' = h.set k E := by
  refine FSpec.trim_tup hP hs ?_
  rintro r0 h0 ⟨h1, rfl⟩
  refine ⟨fun j e hj he => ?_, [], rfl, rfl, rfl, h1⟩
  have := ydl h1 hj
  rw [he] at this
  by_cases hjk : k = j
  · subst hjk
    rw [List.getElem?_set_self (by simpa using hj)] at this
    cases this
    exact .inr hE
  · rw [List.getElem?_set_ne hjk] at this
    exact .inl this.symm
def EndN (h : List Entry) (r : AV) : AV → List Entry → Prop := fun r0 h0 => h0.take h.length = h ∧ zah r0 = true ∧ rz h0 h.length r0 = r
theorem det_none (hP : WF P) {f : FuncId} {args : List AV} {h : List Entry} {r : AV} (hr : zan h.length r = true) (hs : FSpec P f args h (EndN h r)) :
    FSpec P f args h fun r' h'' => r' = r ∧ h'' = h := by
  refine FSpec.trim hP hs ?_
  rintro r0 h0 ⟨h1, h2, h3⟩
  refine ⟨fun j e hj he => ?_, h2, by rw [h3]; exact hr, h3, h1⟩
  have := ydl h1 hj
  rw [he] at this
  exact .inl this.symm
theorem FSpec.bz (hP : WF P) {f : FuncId} {args args' : List AV} {h : List Entry} {K : AV → List Entry → Prop} (ha : args.map (bz h 4) = args') (hp : FSpec P f args' h K) : FSpec P f args h K := by
  subst ha
  obtain ⟨hc, hs⟩ := hp
  refine ⟨hc, fun κ w vs hr hv => hs κ w vs hr ?_⟩
  clear hs
  induction args generalizing vs with
  | nil => simp only [ya2] at hv; subst hv; simp [ya2]
  | cons a as ih =>
    simp only [ya2] at hv
    obtain ⟨v, r, rfl, h1, h2, h3⟩ := hv
    simp only [List.map_cons, ya2]
    exact ⟨v, r, rfl, by rw [bz_agg]; exact h1, rep_bz (c := ⟨κ, h, w⟩) hP hr 4 a _ h2, ih r h3⟩
theorem FSpec.gives (hP : WF P) {f : FuncId} {args args' : List AV} {h : List Entry} {k : Nat} {e : Entry} {K : AV → List Entry → Prop} (hk : h[k]? = some e) (ho : e.st = .own) (hne : e.es ≠ []) (ha : args.map (Go.Abs.bz (h.set k (fzE e)) 4) = args') (hp : FSpec P f args' (h.set k (fzE e)) K) : FSpec P f args h K :=
  FSpec.freeze hP hk ho hne (FSpec.bz hP ha hp)
theorem take_set_app {h l : List Entry} {k : Nat} {E : Entry} : (h.set k E ++ l).take h.length = h.set k E := by
  rw [List.take_append_of_le_length (by simp), List.take_of_length_le (by simp)]
end
end Go.Abs
set_option linter.all false
namespace Go.Abs
open Go
section
variable {P : Program}
theorem qbq (t : Tmp) (T : TypeId) (K : AV → List Entry → Prop) (e : AEx) (env : Env) (h' : List Entry) : ych P [.cell t T] K e env h' = (e.fin = true ∧ CellK P (qcd T (lk env t)) h' fun v => K v h') := rfl
theorem fk_tt (t u : Tmp) (K : AV → List Entry → Prop) (e : AEx) (env : Env) (h' : List Entry) : ych P [.tmp t, .tmp u] K e env h' = (e.fin = true ∧ [lk env t, lk env u].all zah = true ∧ K (.tup [lk env t, lk env u]) h') := rfl
theorem View.len {X : Nat → Prop} {h : List Entry} {T U : TypeId} {v : AV} {l : List AV} (hv : View X h T v l) (hU : zab P U = .slice T) : zcp P U v = .ret (.int .i64 l.length) [] := by
  cases hv with
  | nil => simp [zcp, hU, qay]
  | win => simp [zcp, hU, qay]
theorem View.lenAV {X : Nat → Prop} {h : List Entry} {T : TypeId} {v : AV} {l : List AV} (hv : View X h T v l) : Go.Abs.lenAV v = l.length := by
  cases hv <;> rfl
def Beg (B H : List Entry) : Prop := ∀ (j : Nat) (e : Entry), B[j]? = some e → H[j]? = some e
theorem Beg.take {B H : List Entry} (hb : Beg B H) {n : Nat} (hn : n ≤ B.length) : H.take n = B.take n := by
  apply List.ext_getElem?
  intro j
  rw [List.getElem?_take, List.getElem?_take]
  split
  · rw [hb j _ (List.getElem?_eq_getElem (by omega)), List.getElem?_eq_getElem (by omega)]
  · rfl
theorem Beg.app {B H : List Entry} (hb : Beg B H) (l : List Entry) : Beg B (H ++ l) := fun j e hj => by
  have := hb j e hj
  rw [List.getElem?_append_left (zac this)]; exact this
theorem Beg.rfl' {B : List Entry} (l : List Entry) : Beg B (B ++ l) := fun j e hj => by rw [List.getElem?_append_left (zac hj)]; exact hj
theorem Beg.len {B H : List Entry} (hb : Beg B H) : B.length ≤ H.length := by
  rcases Nat.eq_zero_or_pos B.length with h | h
  · omega
  · have := zac (hb (B.length - 1) _ (List.getElem?_eq_getElem (by omega))); omega
end
end Go.Abs
set_option linter.all false
namespace Go.Abs
open Go
section
variable {P : Program}
theorem bz_dat {h : List Entry} : ∀ (n : Nat) (a : AV), dat a = true → bz h n a = a
  | 0, a, _ => rfl
  | n + 1, a, hd => by
    cases a <;> simp only [bz] <;> try rfl
    case agg T vs =>
      rw [qbt] at hd
      congr 1
      have : ∀ l : List AV, qc8 l = true → l.map (bz h n) = l := by
        intro l
        induction l with
        | nil => intro _; rfl
        | cons a l ih =>
          intro hl
          rw [yb7, Bool.and_eq_true] at hl
          rw [List.map_cons, bz_dat n a hl.1, ih hl.2]
      exact this vs hd
    case win => simp [dat] at hd
theorem bz_aggE (h : List Entry) (n : Nat) (T : TypeId) (vs : List AV) : bz h (n + 1) (.agg T vs) = .agg T (vs.map (bz h n)) := rfl
theorem bz_winE (h : List Entry) (n k : Nat) (p : List Nat) (T : TypeId) (fr m lo : Nat) : bz h (n + 1) (.win k p T fr m lo) = bzWin T p fr m (.win k p T fr m lo) h[k]? := rfl
theorem bz_intE (h : List Entry) (n : Nat) (k : IntKind) (x : Int) : bz h (n + 1) (.int k x) = .int k x := rfl
inductive Given (X : Nat → Prop) (h : List Entry) (T : TypeId) : AV → List AV → Prop where
  | nil : Given X h T .nils []
  | win {k lo : Nat} {l z : List AV} (hx : X k) (hk : h[k]? = some ⟨T, l ++ z, .fz⟩) : Given X h T (.win k [] T 0 l.length lo) l
theorem Given.mono {X X' : Nat → Prop} {h h' : List Entry} {T : TypeId} {v : AV} {l : List AV} (hv : Given X h T v l) (hX : ∀ j, X j → X' j) (hg : ∀ j es, X j → h[j]? = some ⟨T, es, .fz⟩ → h'[j]? = some ⟨T, es, .fz⟩) : Given X' h' T v l := by
  cases hv with
  | nil => exact .nil
  | win hx hk => exact .win (hX _ hx) (hg _ _ hx hk)
theorem Given.set {X : Nat → Prop} {h : List Entry} {T : TypeId} {v : AV} {l : List AV} (hv : Given X h T v l) {k : Nat} {e0 : Entry} (hk : h[k]? = some e0) (hT : e0.T ≠ T) (E : Entry) : Given X (h.set k E) T v l :=
  hv.mono (fun _ h => h) fun j es _ hj => by
    have : k ≠ j := by rintro rfl; rw [hk] at hj; cases hj; exact hT rfl
    rw [List.getElem?_set_ne this]; exact hj
theorem Given.app {X : Nat → Prop} {h : List Entry} {T : TypeId} {v : AV} {l : List AV} (hv : Given X h T v l) (r : List Entry) : Given X (h ++ r) T v l :=
  hv.mono (fun _ h => h) fun j es _ hj => by rw [List.getElem?_append_left (zac hj)]; exact hj
structure GivenX (P : Program) (X : Nat → Prop) (h : List Entry) (T U : TypeId) (v : AV) (l : List AV) (x : AV) : Prop where
  wk : ∀ n, wk P (n + 1) U v = x
  bz : ∀ n, bz h (n + 1) x = .list T l
  ty : tyB P v U = true
  pl : zah v = true
  rz : ∀ n, (∀ j, X j → n ≤ j) → rz h n v = .list T l ∨ (l = [] ∧ rz h n v = .nils)
theorem Given.ex {X : Nat → Prop} {h : List Entry} {T U : TypeId} {v : AV} {l : List AV} (hv : Given X h T v l) (hU : zab P U = .slice T) : ∃ x, GivenX P X h T U v l x := by
  cases hv with
  | nil => exact ⟨.list T [], fun n => by rw [qbr, hU]; rfl, fun n => rfl, by rw [yci, hU]; rfl, rfl, fun n _ => .inr ⟨rfl, by simp only [Go.Abs.rz]⟩⟩
  | win hx hk =>
    have hw : qaq (l ++ ‹_›) [] 0 l.length = some l := by simp [qaq]
    refine ⟨_, fun n => wk_win .., fun n => ?_, by rw [ty_win, hU]; simp, rfl, fun n hn => .inl ?_⟩
    · simp only [Go.Abs.bz, hk, bzWin, if_true, hw]
    · simp only [Go.Abs.rz, if_pos (hn _ hx), hk, yb5, if_true, hw]
theorem View.give (hP : WF P) {X : Nat → Prop} {h : List Entry} {T : TypeId} {v : AV} {l : List AV} (hv : View X h T v l) (hn : l = [] → v = .nils) :
    ∃ h', Given X h' T v l ∧ h'.length = h.length ∧ (∀ j e, h[j]? = some e → (¬ X j ∨ e.T ≠ T) → h'[j]? = some e) ∧ ∀ f args K, FSpec P f args h' K → FSpec P f args h K := by
  cases hv with
  | nil => exact ⟨h, .nil, rfl, fun j e he _ => he, fun f args K hs => hs⟩
  | @win k lo l z hx hk =>
    have hl : l ≠ [] := fun hl => by cases hn hl
    refine ⟨h.set k ⟨T, l ++ z, .fz⟩, .win (z := z) hx (List.getElem?_set_self (zac hk)), by simp, fun j e he hc => ?_, fun f args K hs => FSpec.freeze hP hk rfl (by simp [hl]) hs⟩
    have : k ≠ j := by
      rintro rfl
      rw [hk] at he
      cases he
      rcases hc with hc | hc
      · exact hc hx
      · exact hc rfl
    rw [List.getElem?_set_ne this]; exact he
end
end Go.Abs
