/- An evaluator of the model's code on plain values: frozen slices are lists, what a call makes for itself stands in a list of blocks. No tape. -/
import Derived.WalkKit
set_option linter.unusedVariables false
set_option linter.unusedSimpArgs false
namespace Go.Tw

/-- Kinds of data. -/
inductive Ty where
  | int (k : IntKind) | bool | str | unit | fn | pair (a b : Ty) | sl (a : Ty)
  deriving DecidableEq

@[reducible] def Ty.D : Ty → Type
  | .int _ => Int
  | .bool => Bool
  | .str => ByteArray
  | .unit => Unit
  | .fn => Nat
  | .pair a b => a.D × b.D
  | .sl a => List a.D

/-- The zero value. -/
def Ty.z : (T : Ty) → T.D
  | .int _ => (0 : Int)
  | .bool => false
  | .str => (⟨#[]⟩ : ByteArray)
  | .unit => ()
  | .fn => (0 : Nat)
  | .pair a b => (a.z, b.z)
  | .sl a => ([] : List a.D)

/-- How many cells. -/
def Ty.size : Ty → Nat
  | .unit => 0
  | .pair a b => a.size + b.size
  | _ => 1

def Ty.prim : Ty → Bool
  | .sl _ => false
  | .pair a b => a.prim && b.prim
  | _ => true

/-- Values: of one cell, but for agg and tup. -/
inductive AV where
  | d (T : Ty) (x : T.D)
  | fr (T : Ty) (ys : List T.D)
  | nil (T : Ty)
  | own (r : Nat)
  | box (r o : Nat)
  | pel (r : Nat) (i o : Nat)
  | pfz (T : Ty) (x : T.D) (o : Nat)
  | mp (r : Nat)
  | fn (f : FuncId) (cap : List AV)
  | agg (cs : List AV)
  | tup (vs : List AV)
  | opt (j : Nat) (w g : Bool) (v : AV)
  | any

inductive AObj where
  | vars (cs : List AV)
  | row (T : Ty) (ys : List T.D)
  | map (ex ag : Bool) (K V : Ty) (es : List (K.D × V.D))
  | gone

abbrev AHeap := List AObj

structure St where
  t : List AV
  h : AHeap
  k : List Nat
  b : Nat
  g : List Nat

inductive AX where
  | tmp (i : Nat)
  | cst (v : AV)

def explode : (T : Ty) → T.D → List AV
  | .unit, _ => []
  | .pair a b, x => explode a x.1 ++ explode b x.2
  | .int k, x => [.d (.int k) x]
  | .bool, x => [.d .bool x]
  | .str, x => [.d .str x]
  | .fn, x => [.d .fn x]
  | .sl a, x => [.d (.sl a) x]

def asD (h : AHeap) (T : Ty) : AV → Option T.D
  | .d U x => if e : U = T then some (e ▸ x) else none
  | .nil U => match T with
    | .sl a => if U = a then some ([] : List a.D) else none
    | _ => none
  | .fr U ys => if e : Ty.sl U = T then some (e ▸ ys) else none
  | .own r => match h[r]? with
    | some (.row U ys) => if e : Ty.sl U = T then some (e ▸ ys) else none
    | _ => none
  | .fn f [] => match T with
    | .fn => some f
    | _ => none
  | _ => none

def implode (h : AHeap) : (T : Ty) → List AV → Option (T.D × List AV)
  | .unit, cs => some ((), cs)
  | .pair a b, cs => match implode h a cs with
    | some (x, cs1) => match implode h b cs1 with
      | some (y, cs2) => some ((x, y), cs2)
      | none => none
    | none => none
  | .int k, cs => match cs with | c :: r => (match asD h (.int k) c with | some x => some (x, r) | none => none) | [] => none
  | .bool, cs => match cs with | c :: r => (match asD h .bool c with | some x => some (x, r) | none => none) | [] => none
  | .str, cs => match cs with | c :: r => (match asD h .str c with | some x => some (x, r) | none => none) | [] => none
  | .fn, cs => match cs with | c :: r => (match asD h .fn c with | some x => some (x, r) | none => none) | [] => none
  | .sl a, cs => match cs with | c :: r => (match asD h (.sl a) c with | some x => some (x, r) | none => none) | [] => none

def AV.cells : AV → List AV
  | .agg cs => cs
  | v => [v]

/-- A value of kind T. -/
def whole (h : AHeap) (T : Ty) (v : AV) : Option T.D := match implode h T v.cells with
  | some (x, []) => some x
  | _ => none

/-- The blocks of the call's own that a value leads to. -/
def AV.owns : AV → List Nat
  | .own r => [r]
  | .agg cs => cs.filterMap fun | .own r => some r | _ => none
  | _ => []

def setNth {α : Type} : List α → Nat → α → List α
  | [], _, _ => []
  | _ :: l, 0, y => y :: l
  | x :: l, n + 1, y => x :: setNth l n y

def nth {α : Type} (z : α) : List α → Nat → α
  | [], _ => z
  | x :: _, 0 => x
  | _ :: l, n + 1 => nth z l n

def goneAll (h : AHeap) : List Nat → AHeap
  | [] => h
  | r :: l => goneAll (setNth h r .gone) l

/- No more leads to block r. -/
mutual
def AV.kill (r : Nat) : AV → AV
  | .own q => if q = r then .any else .own q
  | .pel q i o => if q = r then .any else .pel q i o
  | .box q o => if q = r then .any else .box q o
  | .mp q => if q = r then .any else .mp q
  | .agg cs => .agg (AV.killL r cs)
  | .tup cs => .tup (AV.killL r cs)
  | .fn f cs => .fn f (AV.killL r cs)
  | .opt j w g v => .opt j w g (v.kill r)
  | v => v
def AV.killL (r : Nat) : List AV → List AV
  | [] => []
  | c :: cs => c.kill r :: AV.killL r cs
end
def AObj.kill (r : Nat) : AObj → AObj
  | .vars cs => .vars (cs.map (AV.kill r))
  | o => o
def St.kill (s : St) (r : Nat) : St := ⟨s.t.map (AV.kill r), s.h.map (AObj.kill r), if s.k.contains r then s.k else r :: s.k, s.b, s.g⟩

def St.put (s : St) (d : Option Nat) (v : AV) : St := match d with
  | some i => ⟨setNth s.t i v, s.h, s.k, s.b, s.g⟩
  | none => s

def AX.val (s : St) : AX → AV
  | .tmp i => nth .any s.t i
  | .cst v => v

/-- A value, and under which condition it is there, seen under a guard. -/
def AV.strip (gd : Option (Nat × Bool)) : AV → Bool × AV
  | .opt j w g v => match gd with
    | some (i, u) => if i = j then (if u = w then (true, v) else (g, v)) else (g, v)
    | none => (g, v)
  | v => (true, v)

/-- What a pure call takes. -/
def frz0 (h : AHeap) : AV → Option AV
  | .d T x => some (.d T x)
  | .fr T ys => some (.d (.sl T) ys)
  | .nil U => some (.d (.sl U) ([] : List U.D))
  | .own r => match h[r]? with
    | some (.row U ys) => some (.d (.sl U) ys)
    | _ => none
  | .fn f [] => some (.fn f [])
  | _ => none
def frzL (h : AHeap) : List AV → Option (List AV)
  | [] => some []
  | c :: cs => match frz0 h c with
    | some v => (match frzL h cs with | some vs => some (v :: vs) | none => none)
    | none => none
def frz (h : AHeap) : AV → Option AV
  | .agg cs => match frzL h cs with | some vs => some (.agg vs) | none => none
  | v => frz0 h v

/-- A value that leads to no memory. -/
def AV.prim : AV → Bool
  | .d T _ => T.prim
  | .fn _ [] => true
  | _ => false
def AV.flat : AV → Bool
  | .agg cs => cs.all AV.prim
  | v => v.prim

/-- Two cells' equality, of the kinds that are told. -/
def eq0 : Ty → AV → AV → Option Bool
  | .int k, .d (.int a) x, .d (.int b) y => if a = k ∧ b = k then some (x == y) else none
  | .bool, .d .bool x, .d .bool y => some (x == y)
  | .str, .d .str x, .d .str y => some (x.toList == y.toList)
  | _, _, _ => none
def eqL : List Ty → List AV → List AV → Option Bool
  | [], [], [] => some true
  | [k], [x], [y] => eq0 k x y
  | k :: ks, x :: xs, y :: ys => match eq0 k x y with
    | some b => (match eqL ks xs ys with | some c => some (b && c) | none => none)
    | none => none
  | _, _, _ => none

/-- Whole numbers: the condition, and the value. -/
def binI (op : BinOp) (k : IntKind) (x y : Int) : Option (Bool × AV) := match op with
  | .add => some (true, .d (.int k) (k.wrap (x + y)))
  | .sub => some (true, .d (.int k) (k.wrap (x - y)))
  | .mul => some (true, .d (.int k) (k.wrap (x * y)))
  | .quo => some (y != 0, .d (.int k) (k.wrap (x.tdiv y)))
  | .rem => some (y != 0, .d (.int k) (x.tmod y))
  | .eql => some (true, .d .bool (x == y))
  | .neq => some (true, .d .bool (x != y))
  | .lss => some (true, .d .bool (decide (x < y)))
  | .leq => some (true, .d .bool (decide (x ≤ y)))
  | .gtr => some (true, .d .bool (decide (x > y)))
  | .geq => some (true, .d .bool (decide (x ≥ y)))
  | _ => none

/-- Shifts. -/
def shI (op : BinOp) (k : IntKind) (x y : Int) : Option (Bool × AV) := match op with
  | .shl => some (decide (0 ≤ y), .d (.int k) (k.wrap (x * 2 ^ (min y.toNat k.bits))))
  | .shr => some (decide (0 ≤ y), .d (.int k) (x.fdiv (2 ^ (min y.toNat k.bits))))
  | _ => none

def binV (op : BinOp) (x y : AV) : Option (Bool × AV) := match x, y with
  | .d (.int k) x, .d (.int j) y => (match op with
    | .shl => shI .shl k x y
    | .shr => shI .shr k x y
    | op => if k = j then binI op k x y else none)
  | .d .str x, .d .str y => (match op with
    | .eql => some (true, .d .bool (x.toList == y.toList))
    | .neq => some (true, .d .bool (!(x.toList == y.toList)))
    | _ => none)
  | _, _ => none

/-- Two structs' equality; ng: inequality. -/
def eqV (ng : Bool) (ks : List Ty) (x y : AV) : Option (Bool × AV) := match x, y with
  | .agg xs, .agg ys => (match eqL ks xs ys with
    | some b => some (true, .d .bool (match ng with | true => !b | false => b))
    | none => none)
  | _, _ => none
/-- Two truth values' equality. -/
def eqB (ng : Bool) (x y : AV) : Option (Bool × AV) := match x, y with
  | .d .bool x, .d .bool y => some (true, .d .bool (match ng with | true => x != y | false => x == y))
  | _, _ => none

/-- n cells from cell o on: one cell as it is, several as one value. -/
def cut (cs : List AV) (o n : Nat) (agg : Bool) : Option AV := match agg with
  | true => if ((cs.drop o).take n).length = n then some (.agg ((cs.drop o).take n)) else none
  | false => match cs.drop o with | c :: _ => some c | [] => none

def loadV (h : AHeap) (a : AV) (n : Nat) (agg : Bool) : Option (Bool × AV) := match a with
  | .box r o => match h[r]? with
    | some (.vars cs) => (match cut cs o n agg with | some v => some (true, v) | none => none)
    | _ => none
  | .pfz T x o => (match cut (explode T x) o n agg with | some v => some (true, v) | none => none)
  | .pel r i o => match h[r]? with
    | some (.row T ys) => (match cut (explode T (ys.getD i T.z)) o n agg with | some v => some (decide (i < ys.length), v) | none => none)
    | _ => none
  | _ => none

def faV (h : AHeap) (a : AV) (o : Nat) : Option (Bool × AV) := match a with
  | .box r q => (match h[r]? with
    | some (.vars _) => some (true, .box r (q + o))
    | _ => none)
  | .pfz T x q => some (true, .pfz T x (q + o))
  | .pel r i q => (match h[r]? with
    | some (.row _ ys) => some (decide (i < ys.length), .pel r i (q + o))
    | _ => none)
  | _ => none

def inside (i : Int) (n : Nat) : Bool := decide (0 ≤ i) && decide (i < (n : Int))

def iaV (h : AHeap) (n : Nat) (x i : AV) : Option (Bool × AV) := match i with
  | .d (.int _) i => (match x with
    | .d (.sl T) ys => if T.size = n then some (inside i ys.length, .pfz T (ys.getD i.toNat T.z) 0) else none
    | .fr T ys => if T.size = n then some (inside i ys.length, .pfz T (ys.getD i.toNat T.z) 0) else none
    | .nil T => some (inside i 0, .pfz T T.z 0)
    | .own r => (match h[r]? with
      | some (.row T ys) => if T.size = n then some (inside i ys.length, .pel r i.toNat 0) else none
      | _ => none)
    | _ => none)
  | _ => none

def lenV (h : AHeap) (x : AV) : Option AV := match x with
  | .d (.sl _) ys => some (.d (.int .i64) (ys.length : Int))
  | .fr _ ys => some (.d (.int .i64) (ys.length : Int))
  | .nil _ => some (.d (.int .i64) (0 : Int))
  | .own r => (match h[r]? with
    | some (.row _ ys) => some (.d (.int .i64) (ys.length : Int))
    | _ => none)
  | _ => none

/-- s[lo:hi] of a list that came in. -/
def slcV (T : Ty) (x lo hi : AV) : Option (Bool × AV) := match lo with
  | .d (.int _) lo => (match hi with
    | .d (.int _) hi => (match asD [] (.sl T) x with
      | some ys => some (decide (0 ≤ lo) && (decide (lo ≤ hi) && decide (hi ≤ (ys.length : Int))), .d (.sl T) ((ys.take hi.toNat).drop lo.toNat))
      | _ => none)
    | _ => none)
  | _ => none

/-- The same datum? (Of kinds without lists.) -/
def Ty.beq : (T : Ty) → T.D → T.D → Bool
  | .int _, x, y => decide ((x : Int) = y)
  | .bool, x, y => (match (x : Bool), (y : Bool) with | true, true => true | false, false => true | _, _ => false)
  | .str, x, y => (x : ByteArray).toList == (y : ByteArray).toList
  | .unit, _, _ => true
  | .pair a b, x, y => a.beq x.1 y.1 && b.beq x.2 y.2
  | _, _, _ => false
def Ty.key : Ty → Bool
  | .int _ | .bool | .unit => true
  | .pair a b => a.key && b.key
  | _ => false
/-- A map's entries: what is read, and what is written. -/
def mget (K V : Ty) : List (K.D × V.D) → K.D → V.D
  | [], _ => V.z
  | (a, v) :: l, k => cond (K.beq k a) v (mget K V l k)
def mput (K V : Ty) : List (K.D × V.D) → K.D → V.D → List (K.D × V.D)
  | [], k, v => [(k, v)]
  | (a, u) :: l, k, v => cond (K.beq k a) ((k, v) :: l) ((a, u) :: mput K V l k v)
/-- A key. -/
def keyV (ag : Bool) (K : Ty) (v : AV) : Option K.D := match ag with
  | true => (match v with | .agg cs => (match implode [] K cs with | some (x, []) => some x | _ => none) | _ => none)
  | false => (match v with | .d T x => if e : T = K then some (e ▸ x) else none | _ => none)
def lookV (ag : Bool) (K V : Ty) (h : AHeap) (m x : AV) : Option (Bool × AV) := match m with
  | .mp r => (match h[r]? with
    | some (.map _ ag' K' V' es) => if ag' = ag ∧ K' = K ∧ V' = V then (match keyV ag' K' x with | some k => some (true, .d V' (mget K' V' es k)) | none => none) else none
    | _ => none)
  | _ => none
def mlenV (h : AHeap) (m : AV) : Option AV := match m with
  | .mp r => (match h[r]? with
    | some (.map true _ _ _ es) => some (.d (.int .i64) (es.length : Int))
    | _ => none)
  | _ => none
/-- m[x] = v; of an entry that is made ahead of it only where the entries' order and number are not told. -/
def msetH (apart ag : Bool) (K V : Ty) (h : AHeap) (m x v : AV) : Option AHeap := match m with
  | .mp r => (match h[r]? with
    | some (.map ex ag' K' V' es) => if ag' = ag ∧ K' = K ∧ V' = V then (match keyV ag' K' x, asD h V' v with
      | some k, some y => (match apart && ex with | true => none | false => some (setNth h r (.map ex ag' K' V' (mput K' V' es k y))))
      | _, _ => none) else none
    | _ => none)
  | _ => none

/-- What is appended. -/
def listOf (h : AHeap) (T : Ty) (x : AV) : Option (List T.D) := asD h (.sl T) x

inductive AOp where
  | mov (x : AX)
  | not (x : AX)
  | pand (c b : AX)
  | por (c b : AX)
  | bin (op : BinOp) (x y : AX)
  | eqs (ng : Bool) (ks : List Ty) (x y : AX)
  | eqb (ng : Bool) (x y : AX)
  | min (x y : AX)
  | max (x y : AX)
  | conv (k : IntKind) (x : AX)
  | load (a : AX) (n : Nat) (agg : Bool)
  | fa (a : AX) (o : Nat)
  | ia (x i : AX) (n : Nat)
  | fld (x : AX) (o n : Nat) (agg : Bool)
  | len (x : AX)
  | lens (x : AX)
  | build (ps : List (List AV ⊕ (AX × Nat)))
  | ext (x : AX) (i : Nat)
  | slc (T : Ty) (x : AX) (lo hi : Option AX)
  | litf (T : Ty) (xs : List AX)
  | appf (T : Ty) (s x : AX) (lim : Nat)
  | slc3 (T : Ty) (x : AX) (lo : Option AX) (hi mx : AX)
  | neg (x : AX)
  | pcall (f : AX) (args : List AX)
  | mkfn (f : FuncId) (cs : List AX)
  | call (f : FuncId) (args : List AX)
  | mlook (ag : Bool) (K V : Ty) (m x : AX)
  | mlen (m : AX)
  -- what changes the blocks
  | new (cs : List AV)
  | box (x : AX) (n : Nat)
  | lit (T : Ty) (xs : List AX)
  | mk (T : Ty) (n : AX) (lim : Nat)
  | store (a x : AX) (n : Nat)
  | app (T : Ty) (s x : AX) (lim : Nat)
  | copy (T : Ty) (dst src : AX)
  | icall (f : FuncId) (args : List AX)
  | vcall (f : AX) (args : List AX)
  | iarr (a i : AX) (n sz : Nat)
  | idx (x i : AX) (n sz : Nat) (agg : Bool)
  | trunc (T : Ty) (x n : AX)
  | mkmap (ex ag : Bool) (K V : Ty)
  | mset (ag : Bool) (K V : Ty) (m x v : AX)

/-- A value under a condition. -/
abbrev CV := Option (Bool × AV)

def CV.map1 (x : Bool × AV) (f : AV → CV) : CV := match f x.2 with
  | some (c, v) => some (x.1 && c, v)
  | none => none
def CV.map2 (x y : Bool × AV) (f : AV → AV → CV) : CV := match f x.2 y.2 with
  | some (c, v) => some (x.1 && (y.1 && c), v)
  | none => none
def CV.sure (v : Option AV) : CV := match v with | some v => some (true, v) | none => none

def AX.get (gd : Option (Nat × Bool)) (s : St) (x : AX) : Bool × AV := (x.val s).strip gd

def AX.slot (w : Bool) : AX → Option (Nat × Bool)
  | .tmp i => some (i, w)
  | .cst _ => none

/-- A cell of which all is told. -/
def AV.solid (h : AHeap) : AV → Bool
  | .d _ _ => true
  | .fr _ _ => true
  | .nil _ => true
  | .fn _ _ => true
  | .pfz _ _ _ => true
  | .own r => match h[r]? with | some (.row _ _) => true | _ => false
  | .box r _ => match h[r]? with | some (.vars _) => true | _ => false
  | _ => false
/-- The n cells of a value. -/
def AV.take (h : AHeap) (v : AV) (n : Nat) : Option (List AV) := if v.cells.length = n then (match v.cells.all (AV.solid h) with | true => some v.cells | false => none) else none

def parts (gd : Option (Nat × Bool)) (s : St) : List (List AV ⊕ (AX × Nat)) → Option (Bool × List AV)
  | [] => some (true, [])
  | .inl cs :: ps => match parts gd s ps with
    | some (c, l) => some (c, cs ++ l)
    | none => none
  | .inr (x, n) :: ps => match (x.get gd s).2.take s.h n with
    | some cs => (match parts gd s ps with
      | some (c, l) => some ((x.get gd s).1 && c, cs ++ l)
      | none => none)
    | none => none

/-- The values of operands, each wanted whole, as a list of kind T. -/
def elems (gd : Option (Nat × Bool)) (s : St) (h : AHeap) (T : Ty) : List AX → Option (Bool × List T.D)
  | [] => some (true, [])
  | x :: xs => match whole h T (x.get gd s).2 with
    | some y => (match elems gd s h T xs with | some (c, ys) => some ((x.get gd s).1 && c, y :: ys) | none => none)
    | none => none

def argsOf (gd : Option (Nat × Bool)) (s : St) : List AX → Option (Bool × List AV)
  | [] => some (true, [])
  | x :: xs => match frz s.h (x.get gd s).2 with
    | some y => (match argsOf gd s xs with | some (c, ys) => some ((x.get gd s).1 && c, y :: ys) | none => none)
    | none => none

/-- Where a call takes a row of the caller's own, its results lead to no memory. -/
def lends (gd : Option (Nat × Bool)) (s : St) : List AX → Bool
  | [] => false
  | x :: xs => match (x.get gd s).2.owns with
    | [] => lends gd s xs
    | _ => true
def tame (gd : Option (Nat × Bool)) (s : St) (xs : List AX) (r : List AV) (v : CV) : CV := match lends gd s xs with
  | true => cond (r.all AV.flat) v none
  | false => v

def oneV : List AV → AV
  | [v] => v
  | vs => .tup vs

abbrev GEnv := FuncId → List AV → Option (Bool × List AV)

def lowOf (gd : Option (Nat × Bool)) (s : St) : Option AX → Bool × AV
  | some x => x.get gd s
  | none => (true, .d (.int .i64) (0 : Int))

/-- Operations that leave the blocks alone. -/
def AOp.pure (Γ : GEnv) (gd : Option (Nat × Bool)) (s : St) : AOp → Option CV
  | .mov x => some (some (x.get gd s))
  | .not x => some (CV.map1 (x.get gd s) fun | .d .bool b => some (true, .d .bool (!b)) | _ => none)
  | .pand c b => some (match (c.get gd s).2, (b.get (c.slot true) s).2 with
    | .d .bool p, .d .bool q => some ((c.get gd s).1 && ((b.get (c.slot true) s).1 || !p), .d .bool (p && q))
    | _, _ => none)
  | .por c b => some (match (c.get gd s).2, (b.get (c.slot false) s).2 with
    | .d .bool p, .d .bool q => some ((c.get gd s).1 && ((b.get (c.slot false) s).1 || p), .d .bool (p || q))
    | _, _ => none)
  | .bin op x y => some (CV.map2 (x.get gd s) (y.get gd s) (binV op))
  | .eqs ng ks x y => some (CV.map2 (x.get gd s) (y.get gd s) (eqV ng ks))
  | .eqb ng x y => some (CV.map2 (x.get gd s) (y.get gd s) (eqB ng))
  | .min x y => some (CV.map2 (x.get gd s) (y.get gd s) fun | .d (.int k) x, .d (.int j) y => (if k = j then some (true, .d (.int k) (if y < x then y else x)) else none) | _, _ => none)
  | .max x y => some (CV.map2 (x.get gd s) (y.get gd s) fun | .d (.int k) x, .d (.int j) y => (if k = j then some (true, .d (.int k) (if y > x then y else x)) else none) | _, _ => none)
  | .conv k x => some (CV.map1 (x.get gd s) fun | .d (.int _) n => some (true, .d (.int k) (k.wrap n)) | _ => none)
  | .load a n agg => some (CV.map1 (a.get gd s) fun a => loadV s.h a n agg)
  | .fa a o => some (CV.map1 (a.get gd s) fun a => faV s.h a o)
  | .ia x i n => some (CV.map2 (x.get gd s) (i.get gd s) fun x i => iaV s.h n x i)
  | .fld x o n agg => some (CV.map1 (x.get gd s) fun | .agg cs => CV.sure (cut cs o n agg) | _ => none)
  | .lens x => some (CV.map1 (x.get gd s) fun | .d .str b => some (true, .d (.int .i64) (b.size : Int)) | _ => none)
  | .len x => some (CV.map1 (x.get gd s) fun x => CV.sure (lenV s.h x))
  | .build ps => some (match parts gd s ps with | some (c, l) => some (c, .agg l) | none => none)
  | .ext x i => some (CV.map1 (x.get gd s) fun | .tup vs => (match vs[i]? with | some v => some (true, v) | none => none) | _ => none)
  | .slc T x lo hi => some (match hi with
    | some hi => CV.map2 (x.get gd s) ((lowOf gd s lo).1 && (hi.get gd s).1, (lowOf gd s lo).2) fun x l => slcV T x l (hi.get gd s).2
    | none => CV.map2 (x.get gd s) (lowOf gd s lo) fun x l => (match asD [] (.sl T) x with
      | some ys => slcV T x l (.d (.int .i64) (ys.length : Int))
      | none => none))
  | .litf T xs => some (match elems gd s [] T xs with | some (c, ys) => some (c, .fr T ys) | none => none)
  | .appf T l x lim => some (CV.map2 (l.get gd s) (x.get gd s) (fun l x => (match listOf s.h T x with
    | some zs => (match l with
      | .nil U => if U = T then some (decide (zs.length ≤ lim), .d (.sl T) zs) else none
      | .fr U ys => if e : U = T then some (decide ((e ▸ ys : List T.D).length + zs.length ≤ lim), .d (.sl T) ((e ▸ ys : List T.D) ++ zs)) else none
      | _ => none)
    | none => none)))
  | .neg x => some (CV.map1 (x.get gd s) fun | .d (.int k) n => some (true, .d (.int k) (k.wrap (0 - n))) | _ => none)
  | .slc3 T x lo hi mx => some (match (mx.get gd s).2, (hi.get gd s).2 with
    | .d (.int _) m, .d (.int k) hh => CV.map2 (x.get gd s) ((lowOf gd s lo).1 && ((hi.get gd s).1 && (mx.get gd s).1), (lowOf gd s lo).2) fun x l => (match slcV T x l (.d (.int k) hh), asD [] (.sl T) x with
      | some (c, v), some ys => some (c && (decide (hh ≤ m) && decide (m ≤ (ys.length : Int))), v)
      | _, _ => none)
    | _, _ => none)
  | .pcall f args => some (match (f.get gd s) with
    | (g, .d .fn f) => (match argsOf gd s args with
      | some (c, vs) => (match Γ f vs with | some (p, r) => tame gd s args r (some (g && (c && p), oneV r)) | none => none)
      | none => none)
    | (g, .fn f []) => (match argsOf gd s args with
      | some (c, vs) => (match Γ f vs with | some (p, r) => tame gd s args r (some (g && (c && p), oneV r)) | none => none)
      | none => none)
    | _ => none)
  | .mkfn f cs => some (some (true, .fn f (cs.map fun x => x.val s)))
  | .call f args => some (match argsOf gd s args with
    | some (c, vs) => (match Γ f vs with | some (p, r) => tame gd s args r (some (c && p, oneV r)) | none => none)
    | none => none)
  | .mlook ag K V m x => some (CV.map2 (m.get gd s) (x.get gd s) (lookV ag K V s.h))
  | .mlen m => some (CV.map1 (m.get gd s) fun m => CV.sure (mlenV s.h m))
  | _ => none

section
variable {O : Type}
abbrev Inl (O : Type) := FuncId → List AV → AHeap → (List AV → AHeap → List Nat → Option O) → Option O

def chk (c : Bool) (k : Option O) : Option O := cond c k none

def setCells (cs : List AV) (o : Nat) (vs : List AV) : List AV := cs.take o ++ vs ++ cs.drop (o + vs.length)

def storeH (h : AHeap) (n : Nat) (a x : AV) : Option (Bool × AHeap) := match x.take h n with
  | some xs => (match a with
    | .box r o => (match h[r]? with
      | some (.vars cs) => if o + n ≤ cs.length then some (true, setNth h r (.vars (setCells cs o xs))) else none
      | _ => none)
    | .pel r i o => (match h[r]? with
      | some (.row T ys) => (match implode h T (setCells (explode T (ys.getD i T.z)) o xs) with
        | some (y, []) => cond (x.owns.contains r) none (some (decide (i < ys.length), goneAll (setNth h r (.row T (ys.set i y))) x.owns))
        | _ => none)
      | _ => none)
    | _ => none)
  | none => none

def branch (f : Nat → Option O) (i : Int) : (n j : Nat) → Option O
  | 0, _ => none
  | n + 1, j => cond (i == (j : Int)) (f j) (branch f i n (j + 1))

def killAll (s : St) : List Nat → St
  | [] => s
  | r :: l => killAll (s.kill r) l

/-- No value under a guard. -/
def plainV (v : AV) (k : Option O) : Option O := match v with
  | .opt _ _ _ _ => none
  | _ => k

def AOp.heavy (I : Inl O) (gd : Option (Nat × Bool)) (s : St) (dst : Option Nat) (κ : St → Option O) : AOp → Option O
  | .new cs => κ (St.put ⟨s.t, s.h ++ [.vars cs], s.k, s.b, s.g⟩ dst (.box s.h.length 0))
  | .box x n => match (x.get gd s).2.take s.h n with
    | some cs => chk (x.get gd s).1 (κ (St.put ⟨s.t, s.h ++ [.vars cs], s.k, s.b, s.g⟩ dst (.box s.h.length 0)))
    | none => none
  | .lit T xs => match elems gd s s.h T xs with
    | some (c, ys) => chk c (κ (St.put ⟨s.t, goneAll s.h (xs.flatMap fun x => (x.get gd s).2.owns) ++ [.row T ys], s.k, s.b, s.g⟩ dst (.own s.h.length)))
    | none => none
  | .mk T n lim => match (n.get gd s) with
    | (c, .d (.int _) m) => chk (c && (decide (0 ≤ m) && decide (m ≤ (lim : Int)))) (κ (St.put ⟨s.t, s.h ++ [.row T (List.replicate m.toNat T.z)], s.k, s.b, s.g⟩ dst (.own s.h.length)))
    | _ => none
  | .store a x n => match storeH s.h n (a.get gd s).2 (x.get gd s).2 with
    | some (c, h) => chk ((a.get gd s).1 && ((x.get gd s).1 && c)) (κ (St.put ⟨s.t, h, s.k, s.b, s.g⟩ dst .any))
    | none => none
  | .app T l x lim => match listOf s.h T (x.get gd s).2 with
    | some zs => (match (l.get gd s).2 with
      | .nil U => if U = T then chk ((l.get gd s).1 && ((x.get gd s).1 && decide (zs.length ≤ lim))) (κ (St.put ⟨s.t, s.h ++ [.row T zs], s.k, s.b, s.g⟩ dst (.own s.h.length))) else none
      | .fr U ys => if e : U = T then chk ((l.get gd s).1 && ((x.get gd s).1 && (decide (0 < zs.length) && decide ((e ▸ ys : List T.D).length + zs.length ≤ lim)))) (κ (St.put ⟨s.t, s.h ++ [.row T ((e ▸ ys : List T.D) ++ zs)], s.k, s.b, s.g⟩ dst (.own s.h.length))) else none
      | .own r => (match s.h[r]? with
        | some (.row U ys) => (if e : U = T then
            chk ((l.get gd s).1 && ((x.get gd s).1 && decide ((e ▸ ys : List T.D).length + zs.length ≤ lim)))
              (κ (St.put (St.kill ⟨s.t, setNth s.h r (.row T ((e ▸ ys : List T.D) ++ zs)), s.k, s.b, s.g⟩ r) dst (.own r))) else none)
        | _ => none)
      | _ => none)
    | none => none
  | .copy T d x => match (d.get gd s).2 with
    | .own r => (match s.h[r]? with
      | some (.row U ys) => (match listOf s.h T (x.get gd s).2 with
        | some zs => (if e : U = T then chk ((d.get gd s).1 && (x.get gd s).1) (κ (St.put ⟨s.t, setNth s.h r (.row T (zs.take (e ▸ ys : List T.D).length ++ (e ▸ ys : List T.D).drop zs.length)), s.k, s.b, s.g⟩ dst (.d (.int .i64) ((Nat.min zs.length (e ▸ ys : List T.D).length : Nat) : Int)))) else none)
        | none => none)
      | _ => none)
    | _ => none
  | .icall f args => I f (args.map fun x => x.val s) s.h fun rs h ks => plainV (oneV rs) (κ (St.put (killAll ⟨s.t, h, s.k, s.b, s.g⟩ ks) dst (oneV rs)))
  | .vcall f args => match (f.get gd s) with
    | (c, .fn f cap) => chk c (I f ((args.map fun x => x.val s) ++ cap) s.h fun rs h ks => plainV (oneV rs) (κ (St.put (killAll ⟨s.t, h, s.k, s.b, s.g⟩ ks) dst (oneV rs))))
    | _ => none
  | .idx x i n sz agg => match (x.get gd s), (i.get gd s) with
    | (c, .agg cs), (e, .d (.int _) i) => chk (c && e) (branch (fun j => match cut cs (j * sz) sz agg with | some v => plainV v (κ (St.put s dst v)) | none => none) i n 0)
    | _, _ => none
  | .trunc T x n => match (x.get gd s), (n.get gd s) with
    | (c, .own r), (e, .d (.int _) m) => (match s.h[r]? with
      | some (.row U ys) => (if q : U = T then chk (c && (e && (decide (0 ≤ m) && decide (m ≤ ((q ▸ ys : List T.D).length : Int))))) (κ (St.put (St.kill ⟨s.t, setNth s.h r (.row T ((q ▸ ys : List T.D).take m.toNat)), s.k, s.b, s.g⟩ r) dst (.own r))) else none)
      | _ => none)
    | _, _ => none
  | .iarr a i n sz => match (a.get gd s), (i.get gd s) with
    | (c, a), (e, .d (.int _) i) => chk (c && e) (branch (fun j => match faV s.h a (j * sz) with | some (c, v) => chk c (plainV v (κ (St.put s dst v))) | none => none) i n 0)
    | _, _ => none
  | .mkmap ex ag K V => κ (St.put ⟨s.t, s.h ++ [.map ex ag K V []], s.k, s.b, s.g⟩ dst (.mp s.h.length))
  | .mset ag K V m x v => match msetH false ag K V s.h (m.get gd s).2 (x.get gd s).2 (v.get gd s).2 with
    | some h => chk ((m.get gd s).1 && ((x.get gd s).1 && (v.get gd s).1)) (κ (St.put ⟨s.t, h, s.k, s.b, s.g⟩ dst .any))
    | none => none
  | _ => none

structure GOp where
  guard : Option (Nat × Bool)
  dst : Option Nat
  op : AOp

def gval (want : Bool) : AV → Option Bool
  | .d .bool b => some (match want with | true => b | false => !b)
  | .opt _ _ g (.d .bool b) => some (g && (match want with | true => b | false => !b))
  | _ => none

def St.guards (s : St) (j : Nat) : St := if s.g.contains j then s else ⟨s.t, s.h, s.k, s.b, j :: s.g⟩

/-- The slot of no guard is written. -/
def free (s : St) (d : Option Nat) (k : Option O) : Option O := match d with
  | some i => if s.g.contains i then none else k
  | none => k

def evOp (Γ : GEnv) (I : Inl O) (o : GOp) (s : St) (κ : St → Option O) : Option O := match o.guard with
  | none => (match o.op.pure Γ none s with
    | some (some (c, v)) => free s o.dst (plainV v (chk c (κ (s.put o.dst v))))
    | some none => none
    | none => free s o.dst (o.op.heavy I none s o.dst κ))
  | some (j, w) => match gval w (nth .any s.t j) with
    | some g => (match o.op.pure Γ (some (j, w)) s with
      | some (some (c, v)) => free (s.guards j) o.dst (chk (c || !g) (κ ((s.guards j).put o.dst (.opt j w g v))))
      | some none => none
      | none => free s o.dst (cond g (o.op.heavy I (some (j, w)) s o.dst κ) (κ (s.put o.dst .any))))
    | none => none

def evOps (Γ : GEnv) (I : Inl O) : List GOp → St → (St → Option O) → Option O
  | [], s, κ => κ s
  | o :: l, s, κ => evOp Γ I o s fun s => evOps Γ I l s κ

def AV.noOpt : AV → AV
  | .opt _ _ _ _ => .any
  | v => v
/-- Behind a region: no value under a guard. -/
def St.unguard (s : St) : St := match s.g with
  | [] => s
  | _ :: _ => ⟨s.t.map AV.noOpt, s.h, s.k, s.b, []⟩

inductive AE where
  | normal | exit (id : Nat) | ret

/-- What is kept where ways meet: these temporaries; and what they lead to, numbered anew. -/
def trimT (keep : List Nat) : Nat → List AV → List AV
  | _, [] => []
  | i, v :: l => (if keep.contains i then v else .any) :: trimT keep (i + 1) l
mutual
def AV.ids : AV → List Nat
  | .own q => [q]
  | .pel q _ _ => [q]
  | .box q _ => [q]
  | .mp q => [q]
  | .agg cs => AV.idsL cs
  | .tup cs => AV.idsL cs
  | .fn _ cs => AV.idsL cs
  | .opt _ _ _ v => v.ids
  | _ => []
def AV.idsL : List AV → List Nat
  | [] => []
  | c :: cs => c.ids ++ AV.idsL cs
end
def AObj.ids : AObj → List Nat
  | .vars cs => cs.flatMap AV.ids
  | _ => []
def addIds (b : Nat) (acc : List Nat) : List Nat → List Nat
  | [] => acc
  | r :: l => addIds b (if r < b then acc else if acc.contains r then acc else acc ++ [r]) l
def closeIds (h : AHeap) (b : Nat) : Nat → Nat → List Nat → List Nat
  | 0, _, acc => acc
  | n + 1, j, acc => match acc[j]? with
    | none => acc
    | some r => closeIds h b n (j + 1) (addIds b acc (match h[r]? with | some o => o.ids | none => []))
/-- The new number of a block. -/
def newId (b : Nat) (acc : List Nat) (r : Nat) : Option Nat := if r < b then some r else match acc.idxOf? r with
  | some i => some (b + i)
  | none => none
mutual
def AV.ren (b : Nat) (acc : List Nat) : AV → AV
  | .own q => match newId b acc q with | some q => .own q | none => .any
  | .pel q i o => match newId b acc q with | some q => .pel q i o | none => .any
  | .box q o => match newId b acc q with | some q => .box q o | none => .any
  | .mp q => match newId b acc q with | some q => .mp q | none => .any
  | .agg cs => .agg (AV.renL b acc cs)
  | .tup cs => .tup (AV.renL b acc cs)
  | .fn f cs => .fn f (AV.renL b acc cs)
  | .opt j w g v => .opt j w g (v.ren b acc)
  | v => v
def AV.renL (b : Nat) (acc : List Nat) : List AV → List AV
  | [] => []
  | c :: cs => c.ren b acc :: AV.renL b acc cs
end
def AObj.ren (b : Nat) (acc : List Nat) : AObj → AObj
  | .vars cs => .vars (cs.map (AV.ren b acc))
  | o => o
def St.renum (s : St) (acc : List Nat) : St :=
  ⟨s.t.map (AV.ren s.b acc), ((s.h.take s.b) ++ (acc.map fun r => nth .gone s.h r)).map (AObj.ren s.b acc), s.k.filter (fun r => decide (r < s.b)), s.b, s.g⟩
def St.gc (s : St) (keep : List Nat) : St :=
  St.renum ⟨trimT keep 0 s.t, s.h, s.k, s.b, s.g⟩ (closeIds s.h s.b s.h.length 0 (addIds s.b [] ((trimT keep 0 s.t).flatMap AV.ids)))
/-- A row of the call's own becomes one that is no longer written. -/
def St.frzT (s : St) : List Nat → St
  | [] => s
  | i :: l => match nth .any s.t i with
    | .own r => (match s.h[r]? with
      | some (.row T ys) => St.frzT (St.put (St.kill ⟨s.t, setNth s.h r .gone, s.k, s.b, s.g⟩ r) (some i) (.d (.sl T) ys)) l
      | _ => St.frzT s l)
    | _ => St.frzT s l

/-- A nil slice becomes a row of the call's own without elements. -/
inductive Promo where
  | tmp (i : Nat) (T : Ty)
  | cell (r o : Nat) (T : Ty)

def Promo.at (s : St) : Promo → Option St
  | .tmp i T => match nth .any s.t i with
    | .nil U => if U = T then some ⟨setNth s.t i (.own s.h.length), s.h ++ [.row T []], s.k, s.b, s.g⟩ else none
    | .own _ => some s
    | .d (.sl _) _ => some s
    | _ => none
  | .cell r o T => match s.h[r]? with
    | some (.vars cs) => (match nth .any cs o with
      | .nil U => if U = T then some ⟨s.t, setNth s.h r (.vars (setNth cs o (.own s.h.length))) ++ [.row T []], s.k, s.b, s.g⟩ else none
      | .own _ => some s
      | .d (.sl _) _ => some s
      | _ => none)
    | _ => none

/-- What a loop keeps: at its head; at each exit to a block; at a return; the slots that are frozen at its head. -/
structure LAnn where
  keep : List Nat
  ex : List (Nat × List Nat)
  ret : List Nat
  frz : List Nat

inductive AC where
  | skip | ret
  | exit (id : Nat)
  | reg (draw : Bool) (ops : List GOp)
  | mreg (ops : List GOp) (ag : Bool) (K V : Ty) (m x v : AX) (d1 d2 : Nat)
  | seq (a b : AC)
  | cond (c : AX) (a b : AC)
  | blk (id : Nat) (a : AC)
  | loop (key : Nat) (L : LAnn) (a : AC)
  | unr (n : Nat) (L : LAnn) (a : AC)
  | scope (a : AC)
  | lab
  | pro (p : Promo)

def LAnn.keepE (L : LAnn) (id : Nat) : List Nat := match L.ex.find? (fun p => p.1 == id) with
  | some p => p.2
  | none => []
def LAnn.head (L : LAnn) (s : St) : St := (s.frzT L.frz).gc L.keep

def kloop (f : St → (AE → St → Option O) → Option O) (L : LAnn) (rec : St → Option O) (κ : AE → St → Option O) : AE → St → Option O
  | .normal, s => rec (L.head s)
  | .exit j, s => κ (.exit j) (s.gc (L.keepE j))
  | .ret, s => κ .ret (s.gc L.ret)
def loopN (f : St → (AE → St → Option O) → Option O) (L : LAnn) : Nat → St → (AE → St → Option O) → Option O
  | 0, _, _ => none
  | n + 1, s, κ => f s (kloop f L (fun s => loopN f L n s κ) κ)

def kseq (f : St → (AE → St → Option O) → Option O) (κ : AE → St → Option O) : AE → St → Option O
  | .normal, s => f s κ
  | .exit j, s => κ (.exit j) s
  | .ret, s => κ .ret s
def kblk (id : Nat) (κ : AE → St → Option O) : AE → St → Option O
  | .exit j, s => if j = id then κ .normal s else κ (.exit j) s
  | .normal, s => κ .normal s
  | .ret, s => κ .ret s

/-- What loops come to, by their keys. -/
abbrev LEnv (O : Type) := Nat → St → (AE → St → Option O) → Option O

def ev (Γ : GEnv) (Λ : LEnv O) (I : Inl O) : AC → St → (AE → St → Option O) → Option O
  | .skip, s, κ => κ .normal s
  | .ret, s, κ => κ .ret s
  | .exit id, s, κ => κ (.exit id) s
  | .reg _ ops, s, κ => evOps Γ I ops s fun s => κ .normal s.unguard
  | .mreg ops ag K V m x v d1 d2, s, κ => cond (decide (d1 < s.t.length) && decide (d2 < s.t.length)) (evOps Γ I ops ⟨setNth (setNth s.t d1 .any) d2 .any, s.h, s.k, s.b, s.g⟩ fun s => match msetH true ag K V s.h (m.get none s).2 (x.get none s).2 (v.get none s).2 with
    | some h => chk ((m.get none s).1 && ((x.get none s).1 && (v.get none s).1)) (κ .normal (St.unguard ⟨s.t, h, s.k, s.b, s.g⟩))
    | none => none) none
  | .seq a b, s, κ => ev Γ Λ I a s (kseq (ev Γ Λ I b) κ)
  | .cond c a b, s, κ => match (c.get none s) with
    | (g, .d .bool p) => chk g (cond p (ev Γ Λ I a s κ) (ev Γ Λ I b s κ))
    | _ => none
  | .blk id a, s, κ => ev Γ Λ I a s (kblk id κ)
  | .loop key L _, s, κ => Λ key (L.head s) κ
  | .unr n L a, s, κ => loopN (ev Γ Λ I a) L n (L.head s) κ
  | .scope a, s, κ => ev Γ Λ I a s κ
  | .lab, s, κ => κ .normal s
  | .pro p, s, κ => match p.at s with | some s => κ .normal s | none => none

/-- Where a result lies. -/
inductive ARes where
  | tmp (i : Nat)
  | cell (i n : Nat) (agg : Bool)

structure AFn where
  np : Nat
  nt : Nat
  res : List ARes
  body : AC

def ARes.val (s : St) : ARes → Option AV
  | .tmp i => (match nth .any s.t i with | .any => none | .opt _ _ _ _ => none | v => some v)
  | .cell i n agg => match loadV s.h (nth .any s.t i) n agg with
    | some (true, v) => some v
    | _ => none
def resVals (s : St) : List ARes → Option (List AV)
  | [] => some []
  | r :: l => match r.val s with
    | some v => (match resVals s l with | some vs => some (v :: vs) | none => none)
    | none => none

def AFn.enter (f : AFn) (args : List AV) (h : AHeap) : St := ⟨args.map AV.noOpt ++ List.replicate (f.nt - args.length) .any, h, [], h.length, []⟩

def kfn (f : AFn) (κ : List AV → AHeap → List Nat → Option O) : AE → St → Option O
  | .exit _, _ => none
  | _, s => match resVals s f.res with
    | some vs => κ vs s.h s.k
    | none => none

abbrev ITab := FuncId → Option AFn

/-- Calls that are carried out in place, to a depth. -/
def inl (Γ : GEnv) (Λ : Nat → LEnv O) (A : ITab) : Nat → Inl O
  | 0 => fun _ _ _ _ => none
  | n + 1 => fun f args h κ => match A f with
    | some a => ev Γ (Λ n) (inl Γ Λ A n) a.body (a.enter args h) (kfn a κ)
    | none => none
end

def frzR (h : AHeap) : List AV → Option (List AV)
  | [] => some []
  | v :: vs => match frz h v with
    | some x => (match frzR h vs with | some xs => some (x :: xs) | none => none)
    | none => none
/-- A function at frozen arguments. -/
def runFn (Γ : GEnv) (Λ : Nat → LEnv (List AV)) (A : ITab) (d : Nat) (a : AFn) (args : List AV) : Option (List AV) :=
  ev Γ (Λ d) (inl Γ Λ A d) a.body (a.enter args []) (kfn a fun vs h _ => frzR h vs)

/-- Patterns of states: data are caught. -/
inductive APat where
  | d (T : Ty) | nil (T : Ty) | own (r : Nat) | box (r o : Nat) | mp (r : Nat) | pfz (T : Ty) (o : Nat) | any
  | fn (f : FuncId) (cs : List APat)
inductive OPat where
  | vars (cs : List APat) | row (T : Ty) | map (ex ag : Bool) (K V : Ty) | gone
/-- A datum with its kind. -/
abbrev Dat := (T : Ty) × T.D

mutual
def APat.meets : APat → AV → List Dat → Option (List Dat)
  | .d T, .d U x, l => if U = T then some (⟨U, x⟩ :: l) else none
  | .nil T, .nil U, l => if U = T then some l else none
  | .own r, .own q, l => if q = r then some l else none
  | .box r o, .box q p, l => if q = r ∧ p = o then some l else none
  | .mp r, .mp q, l => if q = r then some l else none
  | .pfz T o, .pfz U x p, l => if U = T ∧ p = o then some (⟨U, x⟩ :: l) else none
  | .any, .any, l => some l
  | .fn f ps, .fn g cs, l => if g = f then APat.all ps cs l else none
  | _, _, _ => none
def APat.all : List APat → List AV → List Dat → Option (List Dat)
  | [], [], l => some l
  | p :: ps, v :: vs, l => match APat.all ps vs l with | some l => p.meets v l | none => none
  | _, _, _ => none
end
def OPat.meets : OPat → AObj → List Dat → Option (List Dat)
  | .vars ps, .vars cs, l => APat.all ps cs l
  | .row T, .row U ys, l => if U = T then some (⟨.sl U, ys⟩ :: l) else none
  | .map ex ag K V, .map ex' ag' K' V' es, l => if ex' = ex ∧ ag' = ag ∧ K' = K ∧ V' = V then some (⟨.sl (.pair K' V'), es⟩ :: l) else none
  | .gone, .gone, l => some l
  | _, _, _ => none
def OPat.all : List OPat → AHeap → List Dat → Option (List Dat)
  | [], [], l => some l
  | p :: ps, v :: vs, l => match OPat.all ps vs l with | some l => p.meets v l | none => none
  | _, _, _ => none
structure SPat where
  t : List APat
  h : List OPat
  k : List Nat
  b : Nat
def SPat.meets (p : SPat) (s : St) : Option (List Dat) := if s.k = p.k ∧ s.b = p.b ∧ s.g = [] then (match OPat.all p.h s.h [] with | some l => APat.all p.t s.t l | none => none) else none
def Dat.to (T : Ty) (x : Dat) : Option T.D := if e : x.1 = T then some (e ▸ x.2) else none

/-- Rows of environments. -/
def ga (T : Ty) (vs : List AV) (k : T.D → List AV → Option (Bool × List AV)) : Option (Bool × List AV) := match vs with
  | v :: r => (match whole [] T v with | some x => k x r | none => none)
  | [] => none
def gf (f : FuncId) (vs : List AV) (k : List AV → Option (Bool × List AV)) : Option (Bool × List AV) := match vs with
  | .fn g [] :: r => if g = f then k r else none
  | _ => none
def gz (vs : List AV) (r : Bool × List AV) : Option (Bool × List AV) := match vs with
  | [] => some r
  | _ => none
def lam {O : Type} (p : SPat) (s : St) (k : List Dat → Option O) : Option O := match p.meets s with
  | some l => k l
  | none => none
def dk {O : Type} (T : Ty) (l : List Dat) (k : T.D → List Dat → Option O) : Option O := match l with
  | d :: r => (match d.to T with | some x => k x r | none => none)
  | [] => none

end Go.Tw
