/- Abs3: a part of the proofs about the tuple space (layer 8). -/
import Derived.Test.YtelohjfiojpeeaaAbs2
import Derived.ChangeKeysEq
set_option linter.all false
namespace Go.Abs
open Go
section
variable {P : Program}

/-! ### The steps, on abstract values -/
/-- What an operation does: it fails; it gives a value and writes entries; it reads an entry first. -/
inductive Stp where
  | fail
  | ret (v : AV) (wr : List (Nat × Entry))
  | rd (k : Nat) (f : Entry → Stp)

def Stp.run (h : List Entry) : Stp → Option (AV × List (Nat × Entry))
  | .fail => none
  | .ret v wr => some (v, wr)
  | .rd k f => match h[k]? with
    | some e => (f e).run h
    | none => none

def wrAll (h : List Entry) : List (Nat × Entry) → List Entry
  | [] => h
  | x :: r => wrAll (h.set x.1 x.2) r

def lk : List (Nat × AV) → Nat → AV
  | [], _ => .junk
  | x :: r, t => if x.1 = t then x.2 else lk r t

def constAV : Value → AV
  | .int k n => .int k n
  | .bool b => .bool b
  | .string s => .str s
  | .pointer a => match a with
    | none => .nilptr
    | some _ => .junk
  | .slice a l c => match a with
    | none => if l = 0 ∧ c = 0 then .nils else .junk
    | some _ => .junk
  | .nilFunc => .nilfn
  | .tuple vs => if vs = #[] then .tup [] else .junk
  | _ => .junk

def ev (env : List (Nat × AV)) : Operand → AV
  | .tmp t => lk env t
  | .const v => constAV v
  | .func f => .fn f []
  | .global _ => .junk

def isPtr : Shape → Bool | .ptr _ => true | _ => false
def isSlice : Shape → Bool | .slice _ => true | _ => false

def tyB (P : Program) (av : AV) (T : TypeId) : Bool :=
  match av with
  | .int k _ => shapeT P T == .int k
  | .bool _ => shapeT P T == .bool
  | .str _ => shapeT P T == .str
  | .agg T' _ => T' == T
  | .list T' _ => shapeT P T == .slice T'
  | .win _ _ T' _ _ _ => shapeT P T == .slice T'
  | .ref _ _ T' => shapeT P T == .ptr T'
  | .eref T' _ => shapeT P T == .ptr T'
  | .nilptr => isPtr (shapeT P T)
  | .fn _ _ => shapeT P T == .func
  | .nilfn => shapeT P T == .func
  | .nils => isSlice (shapeT P T)
  | .tup _ => false
  | .junk => false

theorem tyB_ok {av : AV} {T : TypeId} (h : tyB P av T = true) : tyOK P av T := by
  cases av <;> simp only [tyB, tyOK, beq_iff_eq, reduceCtorEq] at h ⊢ <;> try exact h
  case nilptr => cases hs : shapeT P T <;> simp_all [isPtr]
  case nils => cases hs : shapeT P T <;> simp_all [isSlice]

def getE (es : List AV) : List Nat → Option AV
  | [] => none
  | i :: r => match es[i]? with
    | some v => getP v r
    | none => none

def setE (es : List AV) (u : AV) : List Nat → Option (List AV)
  | [] => none
  | i :: r => match es[i]? with
    | some v => (setP v r u).map fun x => es.set i x
    | none => none

def liveB : Status → Bool
  | .own => true
  | .fz => true
  | _ => false

/-- A type of a known shape that has cells. -/
def okT (P : Program) (T : TypeId) : Bool := !(shapeT P T == .other) && !(P.cellsOf T == 0)

def zeroA (P : Program) : Nat → TypeId → AV
  | 0, _ => .junk
  | f + 1, T => match shapeT P T with
    | .int k => .int k 0
    | .bool => .bool false
    | .str => .str ByteArray.empty
    | .slice _ => .nils
    | .ptr _ => .nilptr
    | .func => .nilfn
    | .struct => .agg T ((fieldsT P T).map fun x => zeroA P f x.1)
    | .arr n e => .agg T (List.replicate n (zeroA P f e))
    | .other => .junk

def zeroAV (P : Program) (T : TypeId) : AV := zeroA P 8 T

/-- the cells of a type's zero value, as they are reckoned here -/
def zeroC (P : Program) : Nat → TypeId → List Value
  | 0, _ => []
  | f + 1, T => match shapeT P T with
    | .int k => [.int k 0]
    | .bool => [.bool false]
    | .str => [.string ByteArray.empty]
    | .slice _ => [.slice none 0 0]
    | .ptr _ => [.pointer none]
    | .func => [.nilFunc]
    | .struct => (fieldsT P T).flatMap fun x => zeroC P f x.1
    | .arr n e => (List.replicate n (zeroC P f e)).flatten
    | .other => []

def goodZ (P : Program) : Nat → TypeId → Bool
  | 0, _ => false
  | f + 1, T => match shapeT P T with
    | .other => false
    | .struct => (fieldsT P T).all fun x => goodZ P f x.1
    | .arr _ e => goodZ P f e
    | _ => true

def vEq : Value → Value → Bool
  | .int k n, .int k' m => k == k' && n == m
  | .bool a, .bool b => a == b
  | .string a, .string b => a.data == b.data
  | .pointer none, .pointer none => true
  | .slice none a b, .slice none a' b' => a == a' && b == b'
  | .nilFunc, .nilFunc => true
  | _, _ => false

def vEqs : List Value → List Value → Bool
  | [], [] => true
  | a :: r, b :: s => vEq a b && vEqs r s
  | _, _ => false

/-- The table's own zero value of a type is the one reckoned here. -/
def zOK (P : Program) (T : TypeId) : Bool :=
  goodZ P 8 T && okT P T && (match P.info? T with
    | some i => (match i.zero with
      | some z => vEqs z.cells.toList (zeroC P 8 T) && (Value.isAgg z == isAgg (zeroAV P T))
      | none => false)
    | none => false)

def stLoad (T : TypeId) : AV → Stp
  | .ref k p T' => if T' = T then .rd k fun e => if liveB e.st = true then (match getE e.es p with | some v => .ret v [] | none => .fail) else .fail else .fail
  | .eref T' v => if T' = T then .ret v [] else .fail
  | _ => .fail

def stStore (P : Program) (T : TypeId) (y : AV) : AV → Stp
  | .ref k p T' => if T' = T then (if tyB P y T = true then .rd k fun e => if e.st = .own then (match setE e.es y p with | some es => .ret (.tup []) [(k, { e with es := es })] | none => .fail) else .fail else .fail) else .fail
  | _ => .fail

def stFieldAddr (P : Program) (T : TypeId) (i : Nat) : AV → Stp
  | .ref k p T' => if T' = T then (match (fieldsT P T)[i]? with | some f => if okT P f.1 = true then .ret (.ref k (p ++ [i]) f.1) [] else .fail | none => .fail) else .fail
  | .eref T' (.agg T'' vs) => if T' = T then (match (fieldsT P T)[i]?, vs[i]? with | some f, some v => if okT P f.1 = true then .ret (.eref f.1 v) [] else .fail | _, _ => .fail) else .fail
  | _ => .fail

def stField (P : Program) (T : TypeId) (i : Nat) : AV → Stp
  | .agg T' vs => if T' = T then (match (fieldsT P T)[i]?, vs[i]? with | some f, some v => if okT P f.1 = true then .ret v [] else .fail | _, _ => .fail) else .fail
  | _ => .fail

def stIndexAddr (P : Program) (T : TypeId) (x i : AV) : Stp :=
  match i with
  | .int _ n =>
    match x with
    | .win k p e fr len _ => if shapeT P T = .slice e ∧ okT P e = true then (if 0 ≤ n ∧ n < (len : Int) then .ret (.ref k (p ++ [fr + n.toNat]) e) [] else .fail) else .fail
    | .list e es => if shapeT P T = .slice e ∧ okT P e = true then (if 0 ≤ n ∧ n < (es.length : Int) then .ret (.eref e (es.getD n.toNat .junk)) [] else .fail) else .fail
    | .ref k p T' => if T' = T then (match shapeT P T with | .arr m e => if okT P e = true ∧ 0 ≤ n ∧ n < (m : Int) then .ret (.ref k (p ++ [n.toNat]) e) [] else .fail | _ => .fail) else .fail
    | .eref T' (.agg T'' vs) => if T' = T then (match shapeT P T with | .arr m e => if okT P e = true ∧ 0 ≤ n ∧ n < (m : Int) then .ret (.eref e (vs.getD n.toNat .junk)) [] else .fail | _ => .fail) else .fail
    | _ => .fail
  | _ => .fail

def stIndex (P : Program) (T : TypeId) (x i : AV) : Stp :=
  match i with
  | .int _ n =>
    match x with
    | .agg T' vs => if T' = T then (match shapeT P T with | .arr m e => if okT P e = true ∧ 0 ≤ n ∧ n < (m : Int) then .ret (vs.getD n.toNat .junk) [] else .fail | _ => .fail) else .fail
    | .str s => if shapeT P T = .str then (if 0 ≤ n ∧ n < (s.size : Int) then .ret (.int .u8 ((s.data.getD n.toNat 0).toNat)) [] else .fail) else .fail
    | _ => .fail
  | _ => .fail

/-- A struct or an array that is compared part by part. -/
def eqT (P : Program) (T : TypeId) : Bool := match P.underlying T with
  | some (.struct fs) => fs.toList.all (fun f => f.name != "_") && !P.stoodInHeld T && !P.eqGuardType P.depth T
  | some (.array _ e) => okT P e && !P.eqGuardType P.depth T
  | _ => false

/-- '==' on comparable values. -/
def eqA (P : Program) : Nat → AV → AV → Option Bool
  | 0, _, _ => none
  | n + 1, x, y => match x, y with
    | .int _ a, .int _ b => some (a == b)
    | .bool a, .bool b => some (a == b)
    | .str a, .str b => some (a == b)
    | .agg T vs, .agg T' us => if T = T' ∧ eqT P T = true ∧ vs.length = us.length then
        ((vs.zip us).foldr (fun p acc => match eqA P n p.1 p.2, acc with | some a, some b => some (a && b) | _, _ => none) (some true)) else none
    | _, _ => none

/-- integers' operations; the second is the yes that it does not panic -/
def intBin (op : BinOp) (k : IntKind) (a b : Int) : Stp :=
  match op with
  | .add => .ret (.int k (k.wrap (a + b))) []
  | .sub => .ret (.int k (k.wrap (a - b))) []
  | .mul => .ret (.int k (k.wrap (a * b))) []
  | .quo => if b = 0 then .fail else .ret (.int k (k.wrap (a.tdiv b))) []
  | .rem => if b = 0 then .fail else .ret (.int k (a.tmod b)) []
  | .and => .ret (.int k (bits .and k a b)) []
  | .or => .ret (.int k (bits .or k a b)) []
  | .xor => .ret (.int k (bits .xor k a b)) []
  | .andNot => .ret (.int k (bits .andNot k a b)) []
  | .eql => .ret (.bool (a == b)) []
  | .neq => .ret (.bool (a != b)) []
  | .lss => .ret (.bool (decide (a < b))) []
  | .leq => .ret (.bool (decide (a ≤ b))) []
  | .gtr => .ret (.bool (decide (b < a))) []
  | .geq => .ret (.bool (decide (b ≤ a))) []
  | .shl => if b < 0 then .fail else .ret (.int k (k.wrap (a * 2 ^ (min b.toNat k.bits)))) []
  | .shr => if b < 0 then .fail else .ret (.int k (a.fdiv (2 ^ (min b.toNat k.bits)))) []

def stBin (P : Program) (op : BinOp) (T : TypeId) (x y : AV) : Stp :=
  match x, y with
  | .int k a, .int k' b => if op = .shl ∨ op = .shr ∨ k = k' then intBin op k a b else .fail
  | .bool a, .bool b => if shapeT P T = .bool then (match op with | .eql => .ret (.bool (a == b)) [] | .neq => .ret (.bool (!(a == b))) [] | _ => .fail) else .fail
  | .str a, .str b => match op with | .eql => .ret (.bool (a == b)) [] | .neq => .ret (.bool (!(a == b))) [] | _ => .fail
  | .agg T1 vs, .agg T2 us => if T1 = T ∧ T2 = T then (match op, eqA P 5 (.agg T vs) (.agg T us) with | .eql, some b => .ret (.bool b) [] | .neq, some b => .ret (.bool (!b)) [] | _, _ => .fail) else .fail
  | _, _ => .fail

def stUn (op : UnOp) (x : AV) : Stp :=
  match op, x with
  | .not, .bool b => .ret (.bool (!b)) []
  | .neg, .int k n => .ret (.int k (k.wrap (0 - n))) []
  | _, _ => .fail

def stConv (P : Program) (S T : TypeId) (x : AV) : Stp :=
  match x with
  | .int _ n => match shapeT P T with
    | .int k => if shapeT P S ≠ .other then .ret (.int k (k.wrap n)) [] else .fail
    | _ => .fail
  | _ => .fail

def stLen (P : Program) (T : TypeId) (x : AV) : Stp :=
  match x with
  | .win _ _ e _ n _ => if isSlice (shapeT P T) = true then .ret (.int .i64 n) [] else .fail
  | .list e es => if isSlice (shapeT P T) = true then .ret (.int .i64 es.length) [] else .fail
  | .nils => if isSlice (shapeT P T) = true then .ret (.int .i64 0) [] else .fail
  | .str s => if shapeT P T = .str then .ret (.int .i64 s.size) [] else .fail
  | _ => .fail

def stMin (op : Builtin) (x y : AV) : Stp :=
  match x, y with
  | .int k a, .int _ b => match op with
    | .min => .ret (.int k (if b < a then b else a)) []
    | .max => .ret (.int k (if a < b then b else a)) []
    | _ => .fail
  | _, _ => .fail

def evs (env : List (Nat × AV)) (xs : Array Operand) : List AV := xs.toList.map (ev env)

/-- parts laid into a row of values, each of its type -/
def fillAV (P : Program) (ty : Nat → Option TypeId) : List (Nat × AV) → List AV → Option (List AV)
  | [], zs => some zs
  | x :: r, zs => match ty x.1 with
    | some T => if x.1 < zs.length ∧ tyB P x.2 T = true then fillAV P ty r (zs.set x.1 x.2) else none
    | none => none

/-- what the parts of a literal of this type must be -/
def partsOK (P : Program) (T : TypeId) : Bool := match shapeT P T with
  | .struct => (fieldsT P T).all fun f => okT P f.1
  | .arr _ e => okT P e
  | _ => false

def stBuild (P : Program) (T : TypeId) (ps : List (Nat × AV)) : Stp :=
  match zeroAV P T with
  | .agg T' zs => if T' = T ∧ zOK P T = true ∧ partsOK P T = true then (match fillAV P (fun i => match shapeT P T with | .struct => ((fieldsT P T)[i]?).map (·.1) | .arr _ e => some e | _ => none) ps zs with
    | some vs => .ret (.agg T vs) []
    | none => .fail) else .fail
  | _ => .fail

def stBuildSlice (P : Program) (T : TypeId) (n : Nat) (ps : List (Nat × AV)) (s : Nat) : Stp :=
  match shapeT P T with
  | .slice e => if n * P.cellsOf e ≤ 16777216 ∧ zOK P e = true then (match fillAV P (fun _ => some e) ps (List.replicate n (zeroAV P e)) with
    | some vs => .ret (.win s [] e 0 n n) [(s, ⟨e, vs, .own⟩)]
    | none => .fail) else .fail
  | _ => .fail

def stMakeSlice (P : Program) (T : TypeId) (l c : AV) (s : Nat) : Stp :=
  match l, c, shapeT P T with
  | .int _ a, .int _ b, .slice e => if 0 ≤ a ∧ a ≤ b ∧ (P.bytesOf e : Int) * b ≤ 140737488355328 ∧ b ≤ 9223372036854775807 ∧ zOK P e = true then
      .ret (.win s [] e 0 a.toNat b.toNat) [(s, ⟨e, List.replicate a.toNat (zeroAV P e), .own⟩)] else .fail
  | _, _, _ => .fail

def stNilCheck (x : AV) : Stp :=
  match x with
  | .ref k p T => .ret (.ref k p T) []
  | .eref T v => .ret (.eref T v) []
  | .fn f caps => .ret (.fn f caps) []
  | _ => .fail

/-- a slice's type, of elements that have cells -/
def isSliceOK (P : Program) (T : TypeId) : Bool := match shapeT P T with | .slice e => okT P e | _ => false

/-- a bound of a slice expression -/
def bnd (o : Option AV) (d : Nat) : Option Int := match o with
  | none => some (d : Int)
  | some (.int _ n) => some n
  | _ => none

def pIn (p : List Nat) (n : Nat) : Bool := match p with
  | [] => false
  | i :: _ => decide (i < n)

def stSlice (P : Program) (T : TypeId) (x : AV) (lo hi mx : Option AV) : Stp :=
  match x with
  | .str s => if shapeT P T = .str then (match mx, bnd lo 0, bnd hi s.size with
    | none, some l, some h => if 0 ≤ l ∧ l ≤ h ∧ h ≤ (s.size : Int) then .ret (.str (s.extract l.toNat h.toNat)) [] else .fail
    | _, _, _ => .fail) else .fail
  | .list e es => if shapeT P T = .slice e ∧ okT P e = true then (match mx, bnd lo 0, bnd hi es.length with
    | none, some l, some h => if 0 ≤ l ∧ l ≤ h ∧ h ≤ (es.length : Int) then .ret (.list e ((es.take h.toNat).drop l.toNat)) [] else .fail
    | some (.int _ m), some l, some h => if 0 ≤ l ∧ l ≤ h ∧ h ≤ m ∧ m ≤ (es.length : Int) then .ret (.list e ((es.take h.toNat).drop l.toNat)) [] else .fail
    | _, _, _ => .fail) else .fail
  | .win k p e fr n lo' => if shapeT P T = .slice e ∧ okT P e = true then (match mx, bnd lo 0, bnd hi n with
    | none, some l, some h => if 0 ≤ l ∧ l ≤ h ∧ (h ≤ (n : Int) ∨ h ≤ (lo' : Int)) then .ret (.win k p e (fr + l.toNat) (h.toNat - l.toNat) (max n lo' - l.toNat)) [] else .fail
    | some (.int _ m), some l, some h => if 0 ≤ l ∧ l ≤ h ∧ h ≤ m ∧ (m ≤ (n : Int) ∨ m ≤ (lo' : Int)) then .ret (.win k p e (fr + l.toNat) (h.toNat - l.toNat) (m.toNat - l.toNat)) [] else .fail
    | _, _, _ => .fail) else .fail
  | .nils => if isSliceOK P T = true then (match mx, bnd lo 0, bnd hi 0 with
    | none, some l, some h => if l = 0 ∧ h = 0 then .ret .nils [] else .fail
    | _, _, _ => .fail) else .fail
  | .ref k p T' => if T' = T then (match shapeT P T with
    | .arr m e => (match mx, bnd lo 0, bnd hi m with
      | none, some l, some h => if okT P e = true ∧ 0 ≤ l ∧ l ≤ h ∧ h ≤ (m : Int) then .rd k fun en => if liveB en.st = true ∧ pIn p en.es.length = true then .ret (.win k p e l.toNat (h.toNat - l.toNat) (m - l.toNat)) [] else .fail else .fail
      | _, _, _ => .fail)
    | _ => .fail) else .fail
  | _ => .fail

/-- the elements that a window shows -/
def winGet (es : List AV) (p : List Nat) (fr n : Nat) : Option (List AV) :=
  match p with
  | [] => if fr + n ≤ es.length then some ((es.drop fr).take n) else none
  | _ => match getE es p with
    | some (.agg _ vs) => if fr + n ≤ vs.length then some ((vs.drop fr).take n) else none
    | _ => none

def isNilB (p : List Nat) : Bool := match p with | [] => true | _ => false

/-- append to s the elements ys -/
def stAppendTo (e : TypeId) (ys : List AV) (s : Nat) (x : AV) : Stp :=
  match x with
  | .nils => .ret (.win s [] e 0 ys.length ys.length) [(s, ⟨e, ys, .own⟩)]
  | .win k p e' fr n lo => if e' = e ∧ isNilB p = true ∧ fr = 0 then .rd k fun en => if en.st = .own ∧ n ≤ en.es.length then
      (if n + ys.length ≤ lo then .ret (.win k [] e 0 (n + ys.length) lo) [(k, { en with es := en.es.take n ++ ys ++ en.es.drop (n + ys.length) })]
       else .ret (.win s [] e 0 (n + ys.length) (n + ys.length)) [(k, { en with es := [], st := .dead }), (s, ⟨e, en.es.take n ++ ys, .own⟩)])
      else .fail else .fail
  | _ => .fail

def u8s (s : ByteArray) : List AV := s.data.toList.map fun b => .int .u8 b.toNat

/-- the bound on what an append makes: far below what the model lets grow -/
def roomOK (P : Program) (e : TypeId) (n : Nat) : Bool := decide (n ≤ 4294967296) && decide (P.bytesOf e ≤ 16384) && zOK P e

def stAppend (P : Program) (T : TypeId) (x y : AV) (s : Nat) (len : AV → Nat) : Stp :=
  match shapeT P T with
  | .slice e =>
    if roomOK P e (len x + len y) = true then
      match y with
      | .list e' es => if e' = e then stAppendTo e es s x else .fail
      | .str b => if shapeT P e = .int .u8 then stAppendTo e (u8s b) s x else .fail
      | .nils => stAppendTo e [] s x
      | .win k p e' fr n _ => if e' = e then .rd k fun en => if liveB en.st = true then (match winGet en.es p fr n with | some ys => stAppendTo e ys s x | none => .fail) else .fail else .fail
      | _ => .fail
    else .fail
  | _ => .fail

def lenAV : AV → Nat
  | .win _ _ _ _ n _ => n
  | .list _ es => es.length
  | .str s => s.size
  | _ => 0

/-- zero what a window shows -/
def stClear (P : Program) (T : TypeId) (x : AV) : Stp :=
  match x with
  | .nils => if isSlice (shapeT P T) = true then .ret (.tup []) [] else .fail
  | .win k p e fr n _ => if shapeT P T = .slice e ∧ zOK P e = true ∧ isNilB p = true then .rd k fun en => if en.st = .own ∧ fr + n ≤ en.es.length then
      .ret (.tup []) [(k, { en with es := en.es.take fr ++ List.replicate n (zeroAV P e) ++ en.es.drop (fr + n) })] else .fail else .fail
  | _ => .fail

def stBuiltin (P : Program) (b : Builtin) (ts : List TypeId) (xs : List AV) (s : Nat) : Stp :=
  match b, ts, xs with
  | .len, T :: _, [x] => stLen P T x
  | .min, _, [x, y] => stMin .min x y
  | .max, _, [x, y] => stMin .max x y
  | .clear, T :: _, [x] => stClear P T x
  | .append, [T, T2], [x, y] => if isSlice (shapeT P T2) = true ∨ shapeT P T2 = .str then stAppend P T x y s lenAV else .fail
  | _, _, _ => .fail

def stExtract (i : Nat) : AV → Stp
  | .tup vs => match vs[i]? with | some v => .ret v [] | none => .fail
  | _ => .fail

def plainAV : AV → Bool
  | .junk => false
  | .tup _ => false
  | _ => true

def pairs (env : List (Nat × AV)) (ps : Array (Nat × Operand)) : List (Nat × AV) := ps.toList.map fun x => (x.1, ev env x.2)

/-- One operation, but a call of a Go function. s: the entry that is kept free for what it makes. -/
def step (P : Program) (env : List (Nat × AV)) (s : Nat) : Op → Stp
  | .move x => .ret (ev env x) []
  | .assign x => .ret (ev env x) []
  | .pick c a b => match ev env c with
    | .bool true => .ret (ev env a) []
    | .bool false => .ret (ev env b) []
    | _ => .fail
  | .alloc T => if zOK P T = true then .ret (.ref s [0] T) [(s, ⟨T, [zeroAV P T], .own⟩)] else .fail
  | .box T x => if tyB P (ev env x) T = true then .ret (.ref s [0] T) [(s, ⟨T, [ev env x], .own⟩)] else .fail
  | .build T ps => stBuild P T (pairs env ps)
  | .buildSlice T n ps => stBuildSlice P T n (pairs env ps) s
  | .load T x => stLoad T (ev env x)
  | .store T x y => stStore P T (ev env y) (ev env x)
  | .nilCheck x => stNilCheck (ev env x)
  | .binOp op T x y _ => stBin P op T (ev env x) (ev env y)
  | .unOp op _ x => stUn op (ev env x)
  | .convert S T x => stConv P S T (ev env x)
  | .makeFunc (.func f) first caps => if first = #[] ∧ (evs env caps).all plainAV = true then .ret (.fn f (evs env caps)) [] else .fail
  | .makeSlice T l c => stMakeSlice P T (ev env l) (ev env c) s
  | .slice T x lo hi mx => if (mx.isNone || hi.isSome) = true then stSlice P T (ev env x) (lo.map (ev env)) (hi.map (ev env)) (mx.map (ev env)) else .fail
  | .fieldAddr T x i => if shapeT P T = .struct then stFieldAddr P T i (ev env x) else .fail
  | .field T x i => if shapeT P T = .struct then stField P T i (ev env x) else .fail
  | .indexAddr T x i => stIndexAddr P T (ev env x) (ev env i)
  | .index T x i => stIndex P T (ev env x) (ev env i)
  | .extract x i => stExtract i (ev env x)
  | .call { callee := .builtin b, args, argTypes } => stBuiltin P b argTypes.toList (evs env args) s
  | _ => .fail

/-- operations that take up an entry -/
def makes : Op → Bool
  | .alloc _ | .box _ _ | .buildSlice .. | .makeSlice .. => true
  | .call { callee := .builtin .append, .. } => true
  | _ => false

end
end Go.Abs
