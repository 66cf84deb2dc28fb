/- A verified evaluator of runs whose inputs are known: values, heap, operations, code, calls. This text: what it computes. -/
import Derived.Test.YtjbcafbeafhdpaaGreatDoorSL2
set_option maxRecDepth 10000
set_option linter.unusedVariables false
namespace Go.D
open Go.SL

/-! ### 1. Finite maps from numbers -/
inductive T (α : Type) where
  | emp
  | n (l : T α) (v : Option α) (r : T α)
def T.get {α : Type} : T α → Nat → Option α
  | .emp, _ => none
  | .n l v r, k => bif Nat.beq k 0 then v else bif Nat.beq (k % 2) 1 then l.get (k / 2) else r.get (k / 2 - 1)
def T.setF {α : Type} (v : Option α) : Nat → Nat → T α → T α
  | 0, _, t => t
  | f + 1, k, .emp => bif Nat.beq k 0 then .n .emp v .emp else bif Nat.beq (k % 2) 1 then .n (T.setF v f (k / 2) .emp) none .emp else .n .emp none (T.setF v f (k / 2 - 1) .emp)
  | f + 1, k, .n l u r => bif Nat.beq k 0 then .n l v r else bif Nat.beq (k % 2) 1 then .n (T.setF v f (k / 2) l) u r else .n l u (T.setF v f (k / 2 - 1) r)
def T.set {α : Type} (t : T α) (k : Nat) (v : Option α) : T α := T.setF v (k + 1) k t

/-! ### 2. Values -/
/-- How far a slice may grow: known; or as far as its block goes, so many elements being skipped (where that is no element any more, the slice begins at the other place). -/
inductive Cap where
  | known (c : Nat)
  | rest (k alt : Nat)
  deriving Repr, DecidableEq
inductive DV where
  | int (k : IntKind) (n : Int)
  | bool (b : Bool)
  | str (s : List UInt8)
  | ptr (a : Option (Nat × Nat))
  | slice (a : Option (Nat × Nat)) (len : Nat) (cap : Cap)
  | map (m : Option Nat)
  | func (f : Nat) (first captured : List DV)
  | nilFunc
  | nilIface
  | agg (cs : List DV)
  | tuple (vs : List DV)
  deriving Repr
inductive DObj where
  | cells (t : TypeId) (sz : Nat) (cs : List DV)
  | map (es : List (DV × DV × Nat)) (clock : Nat)
  deriving Repr
structure St where
  h : T DObj
  nx : Nat
abbrev DE := T DV

def ofCell : Value → Option DV
  | .int k n => some (.int k n)
  | .bool b => some (.bool b)
  | .string s => some (.str s.data.toList)
  | .pointer none => some (.ptr none)
  | .slice none n c => bif Nat.ble n c then some (.slice none n (.known c)) else none
  | .map none => some (.map none)
  | .nilFunc => some .nilFunc
  | .nilIface => some .nilIface
  | _ => none
def ofCells : List Value → Option (List DV)
  | [] => some []
  | v :: r => match ofCell v, ofCells r with
    | some d, some ds => some (d :: ds)
    | _, _ => none
def ofValue : Value → Option DV
  | .agg ⟨cs⟩ => match ofCells cs with
    | some ds => some (.agg ds)
    | none => none
  | .tuple ⟨cs⟩ => match ofCells cs with
    | some ds => some (.tuple ds)
    | none => none
  | v => ofCell v
def dev (E : DE) : Operand → Option DV
  | .tmp t => E.get t
  | .const v => ofValue v
  | .func f => some (.func f [] [])
  | .global _ => none
def devs (E : DE) : List Operand → Option (List DV)
  | [] => some []
  | x :: r => match dev E x, devs E r with
    | some v, some vs => some (v :: vs)
    | _, _ => none
/-- A bound of a slice. -/
def boundD (E : DE) (d : Nat) : Option Operand → Option Nat
  | none => some d
  | some x => match dev E x with
    | some (.int _ (.ofNat k)) => some k
    | _ => none
def dput (n : Nat) (E : DE) (d : Option Nat) (v : DV) : Option DE := match d with | some d => bif Nat.blt d n then some (E.set d (some v)) else none | none => some E
/-- A value's cells. -/
def DV.cells : DV → List DV
  | .agg cs => cs
  | v => [v]
def DV.one : DV → Bool
  | .agg _ => false
  | .tuple _ => false
  | _ => true
def wholeD (u : Und) (cs : List DV) : Option DV := match u with
  | .other => none
  | .struct _ => some (.agg cs)
  | _ => match cs with
    | [v] => some v
    | _ => none

/-! ### 3. Types -/
structure Tys where
  ty : T TI
  /-- struct types whose values may be compared -/
  eqt : T Unit
  /-- unsafe.Pointer -/
  ups : T Unit
  /-- where the first type lies alone, the second one does -/
  lies : List (Nat × Nat)
def Tys.get (Λ : Tys) (t : Nat) : Option TI := Λ.ty.get t
def tyUnd (Λ : Tys) (t : Nat) : Option Und := match Λ.get t with | some i => some i.und | none => none
def fieldD (Λ : Tys) (t i : Nat) : Option (TI × Nat) := match Λ.get t with
  | some ⟨.struct fs, _, _, _⟩ => match fs[i]? with
    | some (ft, off) => match Λ.get ft with
      | some fi => some (fi, off)
      | none => none
    | none => none
  | _ => none

/-! ### 4. Operations -/
def inI64 (n : Int) : Bool := decide (-9223372036854775808 ≤ n) && decide (n ≤ 9223372036854775807)
def dwrap (k : IntKind) (n : Int) : Int := match k with
  | .i64 => bif inI64 n then n else k.wrap n
  | _ => k.wrap n
def beqB : List UInt8 → List UInt8 → Bool
  | [], [] => true
  | a :: r, b :: s => bif Nat.beq a.toNat b.toNat then beqB r s else false
  | _, _ => false
/-- Two cells of one kind compared; none: not here. -/
def eqCell (Λ : Tys) (u : Und) (a b : DV) : Option Bool := match u, a, b with
  | .int _, .int k a, .int k' b => bif decide (k = k') then some (decide (a = b)) else none
  | .bool, .bool a, .bool b => some (a == b)
  | .string, .str a, .str b => some (beqB a b)
  | .ptr _, .ptr none, .ptr b => some b.isNone
  | .ptr _, .ptr (some _), .ptr none => some false
  | .ptr e, .ptr (some a), .ptr (some b) => bif Nat.beq a.1 b.1 && Nat.beq a.2 b.2 && (Λ.get e).isSome then some true else none
  | .slice _, .slice none _ _, .slice b _ _ => some b.isNone
  | .slice _, .slice (some _) _ _, .slice none _ _ => some false
  | _, _, _ => none
/-- Fields, one cell each. -/
def eqFields (Λ : Tys) (xs ys : List DV) : List (TypeId × Nat) → Option Bool
  | [] => some true
  | (t, o) :: r => match tyUnd Λ t, xs[o]?, ys[o]? with
    | some u, some x, some y => match u with
      | .struct _ => none
      | .other => none
      | _ => match eqCell Λ u x y with
        | some true => eqFields Λ xs ys r
        | some false => some false
        | none => none
    | _, _, _ => none
def dbin (Λ : Tys) (op : BinOp) (t : Nat) (x y : DV) : Option DV := match x, y with
  | .int k a, .int k' b => match op with
    | .shl => bif decide (b < 0) then none else some (.int k (k.wrap (a * 2 ^ min b.toNat k.bits)))
    | .shr => bif decide (b < 0) then none else some (.int k (a.fdiv (2 ^ min b.toNat k.bits)))
    | _ => bif decide (k = k') then (match op with
      | .quo => bif decide (b = 0) then none else some (.int k (k.wrap (a.tdiv b)))
      | .rem => bif decide (b = 0) then none else some (.int k (a.tmod b))
      | .and => some (.int k (k.wrap ((BitVec.ofInt k.bits a &&& BitVec.ofInt k.bits b).toNat)))
      | .or => some (.int k (k.wrap ((BitVec.ofInt k.bits a ||| BitVec.ofInt k.bits b).toNat)))
      | .xor => some (.int k (k.wrap ((BitVec.ofInt k.bits a ^^^ BitVec.ofInt k.bits b).toNat)))
      | .andNot => some (.int k (k.wrap ((BitVec.ofInt k.bits a &&& ~~~(BitVec.ofInt k.bits b)).toNat)))
      | .add => some (.int k (dwrap k (a + b)))
      | .sub => some (.int k (dwrap k (a - b)))
      | .mul => some (.int k (dwrap k (a * b)))
      | .eql => some (.bool (decide (a = b)))
      | .neq => some (.bool (!(decide (a = b))))
      | .lss => some (.bool (decide (a < b)))
      | .leq => some (.bool (decide (a ≤ b)))
      | .gtr => some (.bool (decide (b < a)))
      | .geq => some (.bool (decide (b ≤ a)))
      | _ => none) else none
  | .str a, .str b => match op with
    | .add => bif Nat.ble (a.length + b.length) 1099511627776 then some (.str (a ++ b)) else none
    | .eql => some (.bool (beqB a b))
    | .neq => some (.bool (!(beqB a b)))
    | _ => none
  | .agg xs, .agg ys => match op, tyUnd Λ t with
    | .eql, some (.struct fs) => match Λ.eqt.get t, eqFields Λ xs ys fs with
      | some _, some b => some (.bool b)
      | _, _ => none
    | .neq, some (.struct fs) => match Λ.eqt.get t, eqFields Λ xs ys fs with
      | some _, some b => some (.bool (!b))
      | _, _ => none
    | _, _ => none
  | x, y => match op, tyUnd Λ t with
    | .eql, some u => match eqCell Λ u x y with
      | some b => some (.bool b)
      | none => none
    | .neq, some u => match eqCell Λ u x y with
      | some b => some (.bool (!b))
      | none => none
    | _, _ => none
def cellsAt (h : T DObj) (b off n : Nat) : Option (List DV) := match h.get b with
  | some (.cells _ _ cs) => let r := (cs.drop off).take n
    bif Nat.beq r.length n then some r else none
  | _ => none
/-- Operations that yield a value and leave memory alone. -/
def quietD (Λ : Tys) (E : DE) (h : T DObj) : Op → Option DV
  | .move x => dev E x
  | .assign x => dev E x
  | .pick c a b => match dev E c with
    | some (.bool true) => dev E a
    | some (.bool false) => dev E b
    | _ => none
  | .nilCheck x => match dev E x with
    | some (.ptr (some a)) => some (.ptr (some a))
    | _ => none
  | .fieldAddr t x i => match dev E x with
    | some (.ptr (some (b, o))) => match fieldD Λ t i with
      | some (fi, off) => bif Nat.beq fi.size 0 then none else some (.ptr (some (b, o + off)))
      | none => none
    | _ => none
  | .field t x i => match dev E x with
    | some (.agg cs) => match fieldD Λ t i with
      | some (fi, off) => match fi.und with
        | .other => none
        | .struct _ => some (.agg ((cs.drop off).take fi.size))
        | _ => cs[off]?
      | none => none
    | _ => none
  | .extract x i => match dev E x with
    | some (.tuple vs) => vs[i]?
    | _ => none
  | .unOp op _ x => match op, dev E x with
    | .not, some (.bool b) => some (.bool (!b))
    | .neg, some (.int k n) => some (.int k (dwrap k (0 - n)))
    | _, _ => none
  | .binOp op t x y _ => match dev E x, dev E y with
    | some u, some v => dbin Λ op t u v
    | _, _ => none
  | .convert s t x => match dev E x with
    | some (.int _ n) => match Λ.get s, Λ.get t with
      | some _, some j => match j.und with
        | .int k => some (.int k (dwrap k n))
        | _ => none
      | _, _ => none
    | some (.str b) => match tyUnd Λ s, tyUnd Λ t with
      | some .string, some .string => some (.str b)
      | _, _ => none
    | _ => none
  | .makeFunc fn first captured => match fn with
    | .func f => (match devs E first.toList, devs E captured.toList with
      | some f1, some c => some (.func f f1 c)
      | _, _ => none)
    | _ => none
  | .load t a => match dev E a, Λ.get t with
    | some (.ptr (some (b, o))), some i => match cellsAt h b o i.size with
      | some cs => wholeD i.und cs
      | none => none
    | _, _ => none
  | .index t x y => match dev E x, dev E y, tyUnd Λ t with
    | some (.str s), some (.int _ (.ofNat k)), some .string => match s[k]? with
      | some c => some (.int .u8 c.toNat)
      | none => none
    | _, _, _ => none
  | .indexAddr t x y => match dev E x, dev E y, tyUnd Λ t with
    | some (.slice (some (b, o)) len _), some (.int _ (.ofNat k)), some (.slice e) => match Λ.get e with
      | some ei => bif Nat.blt k len then some (.ptr (some (b, o + k * ei.size))) else none
      | none => none
    | _, _, _ => none
  | .slice t x lo hi none => match dev E x, tyUnd Λ t with
    | some (.str s), some .string => match boundD E 0 lo, boundD E s.length hi with
      | some l, some r => bif Nat.ble l r && Nat.ble r s.length then some (.str ((s.drop l).take (r - l))) else none
      | _, _ => none
    | some (.slice a len cap), some (.slice e) => match boundD E 0 lo, boundD E len hi, Λ.get e with
      | some l, some r, some ei => bif Nat.ble l r && Nat.ble r len then
          (match a, cap with
           | none, .known c => some (.slice none (r - l) (.known (c - l)))
           | some (b, o), .known c => some (.slice (some (b, bif Nat.beq c l then o else o + l * ei.size)) (r - l) (.known (c - l)))
           | some (b, o), .rest k alt => some (bif Nat.beq l 0 then .slice (some (b, o)) r (.rest k alt) else .slice (some (b, o + l * ei.size)) (r - l) (.rest (k + l) o))
           | _, _ => none) else none
      | _, _, _ => none
    | _, _ => none
  | .call c => match c.callee, c.args.toList, c.argTypes.toList with
    | .builtin .len, [x], [t] => match dev E x, tyUnd Λ t with
      | some (.str s), some .string => some (.int .i64 s.length)
      | some (.slice _ n _), some (.slice _) => some (.int .i64 n)
      | _, _ => none
    | .builtin .min, [x, y], _ => match dev E x, dev E y with
      | some (.int k a), some (.int _ b) => some (.int k (if b < a then b else a))
      | _, _ => none
    | .builtin .max, [x, y], _ => match dev E x, dev E y with
      | some (.int k a), some (.int _ b) => some (.int k (if a < b then b else a))
      | _, _ => none
    | .builtin .unsafeSliceData, [x], _ => match dev E x with
      | some (.slice none _ _) => some (.ptr none)
      | some (.slice (some a) _ (.known (_ + 1))) => some (.ptr (some a))
      | some (.slice (some a) (_ + 1) (.rest _ _)) => some (.ptr (some a))
      | _ => none
    | _, _, _ => none
  | _ => none

def setD (cs : List DV) (p : Nat) : List DV → List DV
  | [] => cs
  | v :: vs => setD (cs.set p v) (p + 1) vs
def fillD (place : Nat → Option (Nat × Nat)) (cs : List DV) : List (Nat × DV) → Option (List DV)
  | [] => some cs
  | (i, v) :: r => match place i with
    | none => none
    | some (off, sz) => bif Nat.beq v.cells.length sz && Nat.ble (off + v.cells.length) cs.length then fillD place (setD cs off v.cells) r else none
def devP (E : DE) : List (Nat × Operand) → Option (List (Nat × DV))
  | [] => some []
  | (i, x) :: r => match dev E x, devP E r with
    | some v, some vs => some ((i, v) :: vs)
    | _, _ => none
def placesD (Λ : Tys) : List (TypeId × Nat) → Option (List (Nat × Nat))
  | [] => some []
  | (t, o) :: r => match Λ.get t, placesD Λ r with
    | some i, some ps => some ((o, i.size) :: ps)
    | _, _ => none
def buildD (Λ : Tys) (E : DE) (t : Nat) (ps : List (Nat × Operand)) : Option DV := match Λ.get t with
  | some ⟨.struct fs, _, _, z⟩ => match placesD Λ fs, devP E ps, ofCells z with
    | some pl, some vs, some zs => match fillD (fun k => pl[k]?) zs vs with
      | some cs => some (.agg cs)
      | none => none
    | _, _, _ => none
  | _ => none
def repD (k : Nat) (z : List DV) : List DV := match k with
  | 0 => []
  | k + 1 => z ++ repD k z
/-- Operations that make one new block: what they yield is a pointer or a slice to it. -/
def allocD (Λ : Tys) (E : DE) (nx : Nat) : Op → Option (DV × DObj)
  | .alloc t => match Λ.get t with
    | some i => match ofCells i.zero with
      | some zs => some (.ptr (some (nx, 0)), .cells t 0 zs)
      | none => none
    | none => none
  | .box t x => match dev E x with
    | some v => some (.ptr (some (nx, 0)), .cells t 0 v.cells)
    | none => none
  | .buildSlice t len ps => match tyUnd Λ t with
    | some (.slice e) => match Λ.get e with
      | some ei => match devP E ps.toList, ofCells ei.zero with
        | some vs, some zs => bif Nat.blt 0 ei.size && Nat.ble (len * ei.size) 16777216 && Nat.beq zs.length ei.size then
            (match fillD (fun k => some (k * ei.size, ei.size)) (repD len zs) vs with
             | some cs => some (.slice (some (nx, 0)) len (.known len), .cells e 0 cs)
             | none => none) else none
        | _, _ => none
      | none => none
    | _ => none
  | .makeSlice t l c => match tyUnd Λ t, dev E l, dev E c with
    | some (.slice e), some (.int _ (.ofNat l)), some (.int _ (.ofNat c)) => match Λ.get e with
      | some ei => match ofCells ei.zero with
        | some zs => bif Nat.ble l c && Nat.ble c 1048576 && Nat.ble ei.bytes 128 && Nat.blt 0 ei.size && Nat.beq zs.length ei.size then some (.slice (some (nx, 0)) l (.known c), .cells e 0 (repD c zs)) else none
        | none => none
      | none => none
    | _, _, _ => none
  | _ => none

/-! ### 5. Code -/
inductive Xt where
  | norm | ret | exit (id : Nat)
  deriving Repr
inductive Prim where
  | nothing
  deriving Repr, DecidableEq
inductive Ext where
  | noEscape
  deriving Repr, DecidableEq
structure Env0 where
  tys : Tys
  fns : T Func
  prims : T Prim
  exts : T Ext
def primD : Prim → List DV → St → Option (DV × St)
  | .nothing, _, _ => none
/-- Functions without a body, that yield a value at once. -/
def extD : Ext → List DV → St → Option (DV × St)
  | .noEscape, [v], s => some (v, s)
  | _, _, _ => none
abbrev CallF := Nat → List DV → St → Option (DV × St)
/-- Operations that turn memory. -/
def storeD (Λ : Tys) (E : DE) (h : T DObj) (t : Nat) (a x : Operand) : Option (T DObj) := match dev E a, dev E x, Λ.get t with
  | some (.ptr (some (b, o))), some v, some i => match h.get b with
    | some (.cells t' sz cs) => let vs := v.cells
      bif Nat.beq vs.length i.size && Nat.ble (o + vs.length) cs.length && vs.all DV.one then some (h.set b (some (.cells t' sz (setD cs o vs)))) else none
    | _ => none
  | _, _, _ => none
def u8s (s : List UInt8) : List DV := s.map fun c => .int .u8 c.toNat
/-- What an appended value's cells are. -/
def srcD (h : T DObj) (sz : Nat) : DV → Option (Nat × List DV)
  | .slice none 0 _ => some (0, [])
  | .slice (some (b, o)) n _ => match cellsAt h b o (n * sz) with
    | some cs => some (n, cs)
    | none => none
  | .str s => bif Nat.beq sz 1 then some (s.length, u8s s) else none
  | _ => none
/-- The second argument's type: a slice's or a string's. -/
def seqTy (Λ : Tys) (u : Nat) : Bool := match tyUnd Λ u with
  | some .string => true
  | some (.slice _) => true
  | _ => false
def appendD (Λ : Tys) (s : St) (t u : Nat) (x y : DV) : Option (DV × St) := bif !(seqTy Λ u) then none else match tyUnd Λ t with
  | some (.slice e) => match Λ.get e with
    | some ei => match srcD s.h ei.size y with
      | some (n, news) => bif Nat.beq n 0 then (match x with | .slice .. => some (x, s) | _ => none) else
        bif !(Nat.blt 0 ei.size && Nat.ble ei.bytes 128 && Nat.beq ei.zero.length ei.size && news.all DV.one) then none else
        match x with
        | .slice none len cap => bif Nat.beq len 0 && decide (cap = .known 0) && Nat.ble n 1048576 then some (.slice (some (s.nx, 0)) n (.rest 0 0), ⟨s.h.set s.nx (some (.cells e ei.size news)), s.nx + 1⟩) else none
        | .slice (some (b, o)) len cap => match s.h.get b with
          | some (.cells e' sz cs) =>
            bif !(Nat.ble (o + len * ei.size) cs.length && Nat.ble (len + n) 1048576) then none else
            match cap with
            | .known c => bif Nat.ble (len + n) c then none else
                some (.slice (some (s.nx, 0)) (len + n) (.rest 0 0), ⟨s.h.set s.nx (some (.cells e ei.size ((cs.drop o).take (len * ei.size) ++ news))), s.nx + 1⟩)
            | .rest k _ => bif Nat.beq sz ei.size && Nat.beq e e' && Nat.beq o (k * sz) then
                some (.slice (some (s.nx, 0)) (len + n) (.rest 0 0), ⟨(s.h.set b none).set s.nx (some (.cells e ei.size ((cs.drop o).take (len * ei.size) ++ news))), s.nx + 1⟩) else none
          | _ => none
        | _ => none
      | none => none
    | none => none
  | _ => none
def bytesD : List DV → Option (List UInt8)
  | [] => some []
  | .int .u8 (.ofNat n) :: r => bif Nat.blt n 256 then (match bytesD r with | some s => some (UInt8.ofNat n :: s) | none => none) else none
  | _ => none
def oneTy (Λ : Tys) (e : Nat) : Bool := match Λ.get e with
  | some ei => Nat.beq ei.size 1
  | none => false
/-- Any operation that does something. -/
def loudD (P : Env0) (call : CallF) (E : DE) (s : St) : Op → Option (DV × St)
  | .store t a x => match storeD P.tys E s.h t a x with
    | some h => some (.tuple [], ⟨h, s.nx⟩)
    | none => none
  | .call c => match c.callee with
    | .builtin .append => match c.args.toList, c.argTypes.toList with
      | [x, y], [t, u] => match dev E x, dev E y with
        | some x, some y => appendD P.tys s t u x y
        | _, _ => none
      | _, _ => none
    | .builtin .unsafeString => match c.args.toList, c.argTypes.toList with
      | [x, y], [pt, _] => match dev E x, dev E y with
        | some (.ptr none), some (.int .i64 (.ofNat 0)) => some (.str [], s)
        | some (.ptr (some (b, o))), some (.int .i64 (.ofNat (n + 1))) => match s.h.get b, tyUnd P.tys pt with
          | some (.cells t _ _), some (.ptr e) => bif !(Nat.beq t e && oneTy P.tys e && Nat.ble n 1048576) then none else match cellsAt s.h b o (n + 1) with
            | some cs => match bytesD cs with
              | some bs => some (.str bs, ⟨s.h.set b none, s.nx⟩)
              | none => none
            | none => none
          | _, _ => none
        | _, _ => none
      | _, _ => none
    | .value f => match dev E f, devs E c.args.toList with
      | some (.func f first cap), some vs => match P.exts.get f with
        | some x => extD x (first ++ vs ++ cap) s
        | none => call f (first ++ vs ++ cap) s
      | _, _ => none
    | _ => none
  | .convert t u x => match dev E x with
    | some (.ptr (some (b, o))) => match s.h.get b with
      | some (.cells t' sz cs) => match tyUnd P.tys t, P.tys.ups.get u with
        | some (.ptr e), some _ => match P.tys.get e with
          | some ei => bif !(Nat.beq ei.size 0) && Nat.blt o cs.length then some (.ptr (some (b, o)), s) else none
          | none => none
        | _, _ => match P.tys.ups.get t, tyUnd P.tys u, P.tys.get t' with
          | some _, some (.ptr e), some ti => bif Nat.beq sz 0 && Nat.beq o 0 && Nat.beq cs.length ti.size && Nat.blt 0 ti.size && P.tys.lies.any (fun p => Nat.beq p.1 t' && Nat.beq p.2 e) && (P.tys.get e).isSome then some (.ptr (some (b, o)), s) else none
          | _, _, _ => none
      | _ => none
    | _ => none
  | _ => none
/-- Is it carried out? -/
def wantsD (ops : List Oper) (E : DE) : Option (Nat × Bool) → Option Bool
  | none => some true
  | some (j, want) => match ops[j]? with
    | some o => match o.dst with
      | some d => match E.get d with
        | some (.bool b) => some (b == want)
        | some (.tuple []) => some false
        | _ => none
      | none => none
    | none => none
def operD (P : Env0) (call : CallF) (o : Oper) (E : DE) (s : St) : Option (DV × St) :=
  match quietD P.tys E s.h o.op with
  | some v => some (v, s)
  | none => match allocD P.tys E s.nx o.op with
    | some (v, ob) => some (v, ⟨s.h.set s.nx (some ob), s.nx + 1⟩)
    | none => match o.op with
      | .build t ps => match buildD P.tys E t ps.toList with
        | some v => some (v, s)
        | none => none
      | op => loudD P call E s op
def listD (P : Env0) (call : CallF) (n : Nat) (all : List Oper) : List Oper → DE → St → Option (DE × St)
  | [], E, s => some (E, s)
  | o :: r, E, s => match wantsD all E o.guard with
    | some true => match operD P call o E s with
      | some (v, s') => match dput n E o.dst v with
        | some E' => listD P call n all r E' s'
        | none => none
      | none => none
    | some false => match dput n E o.dst (.tuple []) with
      | some E' => listD P call n all r E' s
      | none => none
    | none => none
/-! Regions that draw their order -/
def aEq : Option (Nat × Nat) → Option (Nat × Nat) → Bool
  | none, none => true
  | some a, some b => Nat.beq a.1 b.1 && Nat.beq a.2 b.2
  | _, _ => false
def cEq : Cap → Cap → Bool
  | .known c, .known d => Nat.beq c d
  | .rest c x, .rest d y => Nat.beq c d && Nat.beq x y
  | _, _ => false
def mEq : Option Nat → Option Nat → Bool
  | none, none => true
  | some a, some b => Nat.beq a b
  | _, _ => false
mutual
def dvEq : DV → DV → Bool
  | .int k a, .int k' b => decide (k = k') && decide (a = b)
  | .bool a, .bool b => a == b
  | .str a, .str b => beqB a b
  | .ptr a, .ptr b => aEq a b
  | .slice a n c, .slice b m d => aEq a b && Nat.beq n m && cEq c d
  | .map a, .map b => mEq a b
  | .func f a b, .func g c d => Nat.beq f g && dvsEq a c && dvsEq b d
  | .nilFunc, .nilFunc => true
  | .nilIface, .nilIface => true
  | .agg a, .agg b => dvsEq a b
  | .tuple a, .tuple b => dvsEq a b
  | _, _ => false
def dvsEq : List DV → List DV → Bool
  | [], [] => true
  | a :: r, b :: s => dvEq a b && dvsEq r s
  | _, _ => false
end
def hasB (ev i : Nat) : Bool := Nat.beq (Nat.land (Nat.shiftRight ev i) 1) 1
def subB (d ev : Nat) : Bool := Nat.beq (Nat.land d ev) d
/-- What an operation waits for, as a mask. -/
def maskD : List Edge → Nat
  | [] => 0
  | e :: r => bif Region.binds .any e then Nat.lor (2 ^ e.on) (maskD r) else maskD r
def slotsO : List Operand → List Nat
  | [] => []
  | .tmp t :: r => t :: slotsO r
  | _ :: r => slotsO r
def slotsD (ops : List Oper) (o : Oper) : List Nat :=
  (match o.guard with
   | some (j, _) => (match ops[j]? with
     | some q => (match q.dst with | some d => [d] | none => [])
     | none => [])
   | none => []) ++ slotsO o.op.operands.toList
inductive Step where
  | q (i : Nat)
  | a (i : Nat)
  | l (i : Nat)
  deriving Repr
inductive Kd where
  | q | a | l
  deriving Repr, DecidableEq
def kindD : Op → Kd
  | .move _ => .q
  | .assign _ => .q
  | .pick .. => .q
  | .nilCheck _ => .q
  | .fieldAddr .. => .q
  | .field .. => .q
  | .extract .. => .q
  | .unOp .. => .q
  | .binOp .. => .q
  | .convert .. => .q
  | .makeFunc .. => .q
  | .load .. => .q
  | .index .. => .q
  | .indexAddr .. => .q
  | .slice .. => .q
  | .build .. => .q
  | .alloc _ => .a
  | .box .. => .a
  | .buildSlice .. => .a
  | .makeSlice .. => .a
  | .call c => match c.callee with
    | .builtin .len => .q
    | .builtin .min => .q
    | .builtin .max => .q
    | .builtin .unsafeSliceData => .q
    | _ => .l
  | _ => .l
/-- The operations that are ready, from number i on. -/
def readyD (ev : Nat) : List Nat → Nat → List Nat
  | [], _ => []
  | d :: r, i => bif !(hasB ev i) && subB d ev then i :: readyD ev r (i + 1) else readyD ev r (i + 1)
def firstK (ks : List Kd) (k : Kd) : List Nat → Option Nat
  | [] => none
  | i :: r => match ks[i]? with
    | some k' => bif decide (k = k') then some i else firstK ks k r
    | none => none
def planD (dl : List Nat) (ks : List Kd) : Nat → Nat → List Step
  | 0, _ => []
  | f + 1, ev => match readyD ev dl 0 with
    | [] => []
    | [i] => match ks[i]? with
      | some .q => .q i :: planD dl ks f (Nat.lor ev (2 ^ i))
      | _ => .l i :: planD dl ks f (Nat.lor ev (2 ^ i))
    | R => match firstK ks .q R with
      | some i => .q i :: planD dl ks f (Nat.lor ev (2 ^ i))
      | none => match firstK ks .a R with
        | some i => .a i :: planD dl ks f (Nat.lor ev (2 ^ i))
        | none => []
def planGo (dl : List Nat) : Nat → List Step → Bool
  | ev, [] => Nat.beq ev (2 ^ dl.length - 1)
  | ev, .q i :: r => (match dl[i]? with | some d => !(hasB ev i) && subB d ev | none => false) && planGo dl (Nat.lor ev (2 ^ i)) r
  | ev, .a i :: r => (match dl[i]? with | some d => !(hasB ev i) && subB d ev | none => false) && planGo dl (Nat.lor ev (2 ^ i)) r
  | ev, .l i :: r => (match dl[i]? with | some d => !(hasB ev i) && subB d ev | none => false) && (match readyD ev dl 0 with | [j] => Nat.beq i j | _ => false) && planGo dl (Nat.lor ev (2 ^ i)) r
/-- Operation i writes slot d: the others. -/
def slotGo (di : Nat) (i d : Nat) : Nat → List Nat → List (Option Nat) → List (List Nat) → Bool
  | j, dj :: dl, qj :: qs, sj :: sl => (Nat.beq i j || ((match qj with | some d' => !(Nat.beq d d') | none => true) && (!(sj.any (Nat.beq d)) || hasB dj i || hasB di j))) && slotGo di i d (j + 1) dl qs sl
  | _, _, _, _ => true
def slotsGo (dl0 : List Nat) (qs0 : List (Option Nat)) (sl0 : List (List Nat)) : Nat → List Nat → List (Option Nat) → Bool
  | i, di :: dl, qi :: qs => (match qi with | some d => slotGo di i d 0 dl0 qs0 sl0 | none => true) && slotsGo dl0 qs0 sl0 (i + 1) dl qs
  | _, _, _ => true
def masksD (ops : List Oper) : List Nat := ops.map fun o => maskD o.after.toList
def regOk (ops : List Oper) (steps : List Step) : Bool :=
  let dl := masksD ops
  planGo dl 0 steps && slotsGo dl (ops.map (·.dst)) (ops.map (slotsD ops)) 0 dl (ops.map (·.dst))
def stepsD (ops : List Oper) : List Step := planD (masksD ops) (ops.map fun o => kindD o.op) ops.length 0
/-- These slots alone. -/
def onlyD (E : DE) : List Nat → DE
  | [] => .emp
  | t :: r => match E.get t with
    | some v => (onlyD E r).set t (some v)
    | none => onlyD E r
def qbD (Λ : Tys) (E : DE) (h : T DObj) (op : Op) : Option DV := match op with
  | .build t ps => buildD Λ E t ps.toList
  | op => quietD Λ E h op
def isLoad : Op → Bool
  | .load .. => true
  | _ => false
structure Chk where
  i : Nat
  e : DE
  op : Op
  v : DV
/-- What an operation surely waits for: two steps down. -/
def closD (dl : List Nat) (i : Nat) : Nat :=
  let d := dl.getD i 0
  let rec go : Nat → List Nat → Nat
    | _, [] => d
    | j, e :: r => bif hasB d j then Nat.lor e (go (j + 1) r) else go (j + 1) r
  go 0 dl
def chkD (Λ : Tys) (h : T DObj) (cl : Nat) : List Chk → Bool
  | [] => true
  | c :: r => (hasB cl c.i || (match quietD Λ c.e h c.op with | some u => dvEq u c.v | none => false)) && chkD Λ h cl r
abbrev Pend := Option (Nat × Nat × DObj)
def runS (P : Env0) (call : CallF) (n : Nat) (ops : List Oper) (dl : List Nat) : List Step → DE → St → Pend → List Chk → Option (DE × St)
  | [], E, s, pend, _ => match pend with
    | some (_, id, ob) => some (E, ⟨s.h.set id (some ob), s.nx⟩)
    | none => some (E, s)
  | .q i :: r, E, s, pend, chk => match ops[i]? with
    | some o => let ee := onlyD E (slotsD ops o)
      match wantsD ops ee o.guard with
      | some true => match qbD P.tys ee s.h o.op with
        | some v => match dput n E o.dst v with
          | some E' => runS P call n ops dl r E' s pend (bif isLoad o.op then ⟨i, ee, o.op, v⟩ :: chk else chk)
          | none => none
        | none => none
      | some false => match dput n E o.dst (.tuple []) with
        | some E' => runS P call n ops dl r E' s pend chk
        | none => none
      | none => none
    | none => none
  | .a i :: r, E, s, pend, chk => match ops[i]?, pend with
    | some o, none => let ee := onlyD E (slotsD ops o)
      match wantsD ops ee o.guard with
      | some true => match allocD P.tys ee s.nx o.op with
        | some (v, ob) => match dput n E o.dst v with
          | some E' => runS P call n ops dl r E' ⟨s.h, s.nx + 1⟩ (some (i, s.nx, ob)) chk
          | none => none
        | none => none
      | some false => match dput n E o.dst (.tuple []) with
        | some E' => runS P call n ops dl r E' s pend chk
        | none => none
      | none => none
    | _, _ => none
  | .l i :: r, E, s, pend, chk => match ops[i]? with
    | some o => let ee := onlyD E (slotsD ops o)
      match wantsD ops ee o.guard with
      | some false => match dput n E o.dst (.tuple []) with
        | some E' => runS P call n ops dl r E' s pend chk
        | none => none
      | some true =>
        let cl := closD dl i
        let sp : St × Pend := match pend with
          | some (j, id, ob) => bif hasB cl j then (⟨s.h.set id (some ob), s.nx⟩, none) else (s, pend)
          | none => (s, none)
        match operD P call o ee sp.1 with
        | some (v, s') => match dput n E o.dst v with
          | some E' => bif chkD P.tys s'.h cl chk then runS P call n ops dl r E' s' sp.2 chk else none
          | none => none
        | none => none
      | none => none
    | none => none
def drawnD (P : Env0) (call : CallF) (n : Nat) (ops : List Oper) (E : DE) (s : St) : Option (DE × St) :=
  bif regOk ops (stepsD ops) then runS P call n ops (masksD ops) (stepsD ops) E s none [] else none
/-- Rounds of a loop. -/
def loopD (body : DE → St → Option (Xt × DE × St)) : Nat → DE → St → Option (Xt × DE × St)
  | 0, _, _ => none
  | f + 1, E, s => match body E s with
    | some (.norm, E', s') => loopD body f E' s'
    | r => r
def codeD (P : Env0) (call : CallF) (lf n : Nat) : Code → DE → St → Option (Xt × DE × St)
  | .skip, E, s => some (.norm, E, s)
  | .ret, E, s => some (.ret, E, s)
  | .exit i, E, s => some (.exit i, E, s)
  | .seq a b, E, s => match codeD P call lf n a E s with
    | some (.norm, E', s') => codeD P call lf n b E' s'
    | r => r
  | .cond c x y, E, s => match dev E c with
    | some (.bool true) => codeD P call lf n x E s
    | some (.bool false) => codeD P call lf n y E s
    | _ => none
  | .block i x, E, s => match codeD P call lf n x E s with
    | some (.exit j, E', s') => bif Nat.beq j i then some (.norm, E', s') else some (.exit j, E', s')
    | r => r
  | .loop x, E, s => loopD (codeD P call lf n x) lf E s
  | .region _ ops d, E, s => match (bif d then drawnD P call n ops.toList E s else listD P call n ops.toList ops.toList E s) with
    | some (E', s') => some (.norm, E', s')
    | none => none
  | _, _, _ => none
def resD (Λ : Tys) (E : DE) (h : T DObj) : List ResultVar → Option (List DV)
  | [] => some []
  | .tmp t :: r => match E.get t, resD Λ E h r with
    | some v, some vs => some (v :: vs)
    | _, _ => none
  | .cell a t :: r => match E.get a, Λ.get t, resD Λ E h r with
    | some (.ptr (some (b, o))), some i, some vs => match cellsAt h b o i.size with
      | some cs => match wholeD i.und cs with
        | some v => some (v :: vs)
        | none => none
      | none => none
    | _, _, _ => none
def argsD : Nat → List DV → DE → DE
  | _, [], E => E
  | i, v :: vs, E => argsD (i + 1) vs (E.set i (some v))
def callD (P : Env0) (lf : Nat) : Nat → CallF
  | 0, _, _, _ => none
  | d + 1, f, args, s => match P.prims.get f with
    | some p => primD p args s
    | none => match P.fns.get f with
      | some fn => match fn.body with
        | some c => bif !(Nat.ble args.length fn.ntmps) then none else match codeD P (callD P lf d) lf fn.ntmps c (argsD 0 args .emp) s with
          | some (.exit _, _, _) => none
          | some (_, E, s') => match resD P.tys E s'.h fn.results.toList with
            | some [v] => some (v, s')
            | some vs => some (.tuple vs, s')
            | none => none
          | none => none
        | none => none
      | none => none
end Go.D
