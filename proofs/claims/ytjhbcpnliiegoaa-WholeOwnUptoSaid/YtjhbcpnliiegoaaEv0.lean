/- A second reading of the program's code, over plain data: kinds, leaves, rows that a call owns, and what each operation makes of them. Definitions alone. -/
import Derived.Orders
import Derived.Laws.BytesArg
namespace Go.Fx
open Go
/-- Kinds of data. 'sl e k': a slice whose elements have the type number e and are of the kind k. 'raw': a cell that is carried along; 'fnc g': the function g; 'mp': a map from texts to whole numbers that nobody writes; 'rp k': a pointer to data that nobody writes; 'clo g k': the function g with such a pointer; 'hd': a slice as its cell alone. -/
inductive K where
  | int (k : IntKind)
  | bool
  | str
  | sl (e : TypeId) (k : K)
  | prod (a b : K)
  | unit
  | raw
  | fnc (g : FuncId)
  | mp
  | rp (k : K)
  | clo (g : FuncId) (k : K)
  | hd
  deriving DecidableEq
def K.T : K → Type
  | .int _ => Int
  | .bool => Bool
  | .str => ByteArray
  | .sl _ k => List k.T
  | .prod a b => a.T × b.T
  | .unit => Unit
  | .raw => Value
  | .hd => Value
  | .fnc _ => Unit
  | .mp => List (ByteArray × Int)
  | .rp k => k.T
  | .clo _ k => k.T
def K.d : (k : K) → k.T
  | .int _ => (0 : Int)
  | .bool => false
  | .str => ByteArray.empty
  | .sl _ _ => []
  | .prod a b => (a.d, b.d)
  | .unit => ()
  | .raw => .nilFunc
  | .hd => .slice none 0 0
  | .fnc _ => ()
  | .mp => []
  | .rp k => k.d
  | .clo _ k => k.d
/-- No pointers that are not nil: of zeros. -/
def K.noP : K → Bool
  | .rp _ => false
  | .clo _ _ => false
  | .prod a b => a.noP && b.noP
  | _ => true
/-- How many cells. -/
def K.n : K → Nat
  | .prod a b => a.n + b.n
  | .unit => 0
  | _ => 1
def K.cast (a b : K) (x : a.T) : Option b.T := if h : a = b then some (h ▸ x) else none
/-- One cell's content. 'val fr k x': data that nobody writes (fr: all its memory is newer than the call's beginning). 'nil': the nil slice. 'own r': the slice that is the whole of row r. -/
inductive Leaf where
  | val (fr : Bool) (k : K) (x : k.T)
  | nil
  | own (r : Nat)
/-- A leaf, or a struct of leaves. -/
inductive Cmp where
  | lf (l : Leaf)
  | agg (ls : List Leaf)
/-- A pointer that is nil, or to a variable of the call's own. -/
inductive Hd where
  | nilp
  | box (b : Nat)
/-- What a slot holds. 'pbox': a variable that was lent, with its block; 'hd': a nil pointer; 'tupp': several results, the first one a pointer. 'ref': a pointer to memory that nobody writes; 'adr r i o': to cell o of element i of row r; 'box b o': to cell o of variable b; 'sub r o n g': the slice of n elements of row r from element o on, which may be written (g: the row's block and room). 'mpo r': the map from texts to whole numbers that is row r (of pairs). 'hsl e vs i r': a slice of the slices vs, of which number i is row r. -/
inductive SV where
  | undef
  | one (c : Cmp)
  | tup (cs : List Cmp)
  | ref (ls : List Leaf)
  | adr (r i o : Nat)
  | box (b o : Nat)
  | sub (r o n : Nat) (g : Option (Nat × Nat))
  | pbox (b o : Nat) (g : Nat)
  | hd (h : Hd)
  | tupp (h : Hd) (cs : List Cmp)
  | mpo (r : Nat)
  | fb (g : FuncId) (b : Nat)
  | hsl (e : TypeId) (vs : List Value) (i : Int) (r : Nat)
/-- A row of the call's own (rw), or one that nobody writes any more. -/
structure Row where
  e : TypeId
  k : K
  fr : Bool
  rw : Bool
  xs : List k.T
structure Box where
  t : TypeId
  ls : List Leaf
structure Mem where
  rows : List (Option Row)
  boxes : List (Option Box)
structure S where
  fr : List (Nat × SV)
  m : Mem
inductive TD where
  | int (k : IntKind) | bool | str | sl (e : TypeId) | struct (fs : List (Nat × TypeId)) | ptr | map | arr (n : Nat) (e : TypeId) | other
structure TI where
  d : TD
  k : K
  agg : Bool
  bytes : Nat
abbrev Tab := TypeId → Option TI
/-- The kind of a map's entries, as a row has them. -/
abbrev eK : K := .prod .str (.int .i64)
def mpFind (k : ByteArray) : List (ByteArray × Int) → Option Int
  | [] => none
  | x :: r => if k = x.1 then some x.2 else mpFind k r
def mpPut (k : ByteArray) (v : Int) : List (ByteArray × Int) → List (ByteArray × Int)
  | [] => [(k, v)]
  | x :: r => if k = x.1 then (k, v) :: r else x :: mpPut k v r
/-- A row as a map's entries. -/
def Row.mp? (row : Row) : Option (List (ByteArray × Int)) := match row with
  | ⟨_, .prod .str (.int .i64), _, _, xs⟩ => some xs
  | _ => none
def lookup : List (Nat × SV) → Nat → SV
  | [], _ => .undef
  | (t, v) :: r, t' => bif Nat.beq t t' then v else lookup r t'
def S.get (s : S) (t : Nat) : SV := lookup s.fr t
def S.put (s : S) (d : Option Nat) (v : SV) (m : Mem) : S := match d with
  | none => ⟨s.fr, m⟩
  | some t => ⟨(t, v) :: s.fr, m⟩
def cb (b : Bool) : SV := .one (.lf (.val true .bool b))
def ci (k : IntKind) (n : Int) : SV := .one (.lf (.val true (.int k) n))
def constSV : Value → SV
  | .int k n => ci k n
  | .bool b => cb b
  | .string x => .one (.lf (.val true .str x))
  | .slice none 0 0 => .one (.lf .nil)
  | .pointer none => .hd .nilp
  | .map none => .one (.lf (.val true .mp ([] : List (ByteArray × Int))))
  | _ => .undef
def SV.plain : SV → SV
  | .pbox b o _ => .box b o
  | v => v
def Hd.sv : Hd → SV
  | .nilp => .hd .nilp
  | .box b => .box b 0
def S.opd (s : S) : Operand → SV
  | .tmp t => (s.get t).plain
  | .const v => constSV v
  | .func g => .one (.lf (.val true (.fnc g) ()))
  | _ => .undef
def S.refine (s : S) (x : Operand) (b : Bool) : S := match x with
  | .tmp t => ⟨(t, cb b) :: s.fr, s.m⟩
  | _ => s
def SV.bool? : SV → Option Bool
  | .one (.lf (.val _ .bool b)) => some b
  | _ => none
def Mem.row? (m : Mem) (r : Nat) : Option Row := (m.rows[r]?).bind id
def Mem.box? (m : Mem) (b : Nat) : Option Box := (m.boxes[b]?).bind id
/-- A leaf as data of a kind. -/
def leafData (m : Mem) (k : K) : Leaf → Option k.T
  | .val _ k' x => K.cast k' k x
  | .nil => match k with
    | .sl _ _ => some []
    | .hd => some (Value.slice none 0 0)
    | _ => none
  | .own r => match m.row? r with
    | none => none
    | some row => K.cast (.sl row.e row.k) k row.xs
def packK (m : Mem) : (k : K) → List Leaf → Option k.T
  | .prod a b, ls => match packK m a (ls.take a.n), packK m b (ls.drop a.n) with
    | some x, some y => some (x, y)
    | _, _ => none
  | .unit, ls => match ls with
    | [] => some ()
    | _ => none
  | .int q, ls => match ls with
    | [l] => leafData m (.int q) l
    | _ => none
  | .bool, ls => match ls with
    | [l] => leafData m .bool l
    | _ => none
  | .str, ls => match ls with
    | [l] => leafData m .str l
    | _ => none
  | .sl e k, ls => match ls with
    | [l] => leafData m (.sl e k) l
    | _ => none
  | .raw, ls => match ls with
    | [l] => leafData m .raw l
    | _ => none
  | .hd, ls => match ls with
    | [l] => leafData m .hd l
    | _ => none
  | .fnc g, ls => match ls with
    | [l] => leafData m (.fnc g) l
    | _ => none
  | .mp, ls => match ls with
    | [l] => leafData m .mp l
    | _ => none
  | .rp k, ls => match ls with
    | [l] => leafData m (.rp k) l
    | _ => none
  | .clo g k, ls => match ls with
    | [l] => leafData m (.clo g k) l
    | _ => none
def splitK (fr : Bool) : (k : K) → k.T → List Leaf
  | .prod a b, x => splitK fr a x.1 ++ splitK fr b x.2
  | .unit, _ => []
  | .int q, x => [.val fr (.int q) x]
  | .bool, x => [.val fr .bool x]
  | .str, x => [.val fr .str x]
  | .sl e k, x => [.val fr (.sl e k) x]
  | .raw, x => [.val fr .raw x]
  | .hd, x => [.val fr .hd x]
  | .fnc g, x => [.val fr (.fnc g) x]
  | .mp, x => [.val fr .mp x]
  | .rp k, x => [.val fr (.rp k) x]
  | .clo g k, x => [.val fr (.clo g k) x]
def Cmp.leaves : Cmp → List Leaf
  | .lf l => [l]
  | .agg ls => ls
def mkC (agg : Bool) (ls : List Leaf) : Option Cmp := match agg, ls with
  | true, ls => some (.agg ls)
  | false, [l] => some (.lf l)
  | _, _ => none
/-- Rows that a leaf leads to are written no more. -/
def Mem.freeze (m : Mem) : Leaf → Mem
  | .own r => ⟨m.rows.modify r (Option.map fun row => { row with rw := false }), m.boxes⟩
  | _ => m
def Mem.freezeAll (m : Mem) (ls : List Leaf) : Mem := ls.foldl Mem.freeze m
/-- No slices inside. -/
def K.flat : K → Bool
  | .sl _ _ => false
  | .prod a b => a.flat && b.flat
  | .mp => false
  | .rp _ => false
  | .clo _ _ => false
  | _ => true
/-- Is all memory that a leaf's elements lead to newer than the call's beginning? -/
def rowFr (m : Mem) : Leaf → Bool
  | .val fr (.sl _ k) _ => fr || k.flat
  | .val _ _ _ => true
  | .nil => true
  | .own r => match m.row? r with
    | some row => row.fr
    | none => false
/-- Is all memory that a leaf leads to newer than the call's beginning? -/
def leafFr (m : Mem) : Leaf → Bool
  | .val fr k _ => fr || k.flat
  | .nil => true
  | .own r => match m.row? r with
    | some row => row.fr
    | none => false
def argT : List (Bool × K) → Type
  | [] => Unit
  | p :: r => p.2.T × argT r
def packArgs (m : Mem) : (ps : List (Bool × K)) → List Cmp → Option (argT ps)
  | [], [] => some ()
  | p :: r, c :: cs => match packK m p.2 c.leaves, packArgs m r cs with
    | some x, some y => some (x, y)
    | _, _ => none
  | _, _ => none
def aggOk : List (Bool × K) → List Cmp → Bool
  | [], [] => true
  | p :: r, .lf _ :: cs => !p.1 && aggOk r cs
  | p :: r, .agg _ :: cs => p.1 && aggOk r cs
  | _, _ => false
/-- How a function's results lie. own: slices in rows of nobody else; fresh: in memory newer than the call; shared: in that or in what the arguments led to. -/
inductive Md where
  | own | fresh | shared
def Md.isOwn : Md → Bool
  | .own => true
  | _ => false
def Md.isShared : Md → Bool
  | .shared => true
  | _ => false
/-- What a function that is called says of itself. -/
structure Sig where
  ps : List (Bool × K)
  rs : List (Bool × K)
  md : Md
  fn : argT ps → Option (argT rs)
/-- A result's leaves: rows of the caller's own, numbered from n on. -/
def thawL (n : Nat) : List Leaf → List Leaf × List (Option Row)
  | [] => ([], [])
  | .val _ (.sl e k) xs :: r =>
    let q := thawL (n + 1) r
    (.own n :: q.1, some ⟨e, k, true, true, xs⟩ :: q.2)
  | l :: r => let q := thawL n r; (l :: q.1, q.2)
def thaw (own fr : Bool) (n : Nat) : (rs : List (Bool × K)) → argT rs → Option (List Cmp × List (Option Row))
  | [], _ => some ([], [])
  | p :: r, y =>
    let q := if own then thawL n (splitK true p.2 y.1) else (splitK fr p.2 y.1, [])
    match mkC p.1 q.1, thaw own fr (n + q.2.length) r y.2 with
    | some c, some z => some (c :: z.1, q.2 ++ z.2)
    | _, _ => none
def ofCs : List Cmp → SV
  | [c] => .one c
  | cs => .tup cs
section
variable {R : Type}
def bitsOp (op : BinOp) (k : IntKind) (a b : Int) : Int :=
  let x := BitVec.ofInt k.bits a
  let y := BitVec.ofInt k.bits b
  match op with
  | .and => k.wrap (x &&& y).toNat
  | .or => k.wrap (x ||| y).toNat
  | .xor => k.wrap (x ^^^ y).toNat
  | _ => k.wrap (x &&& ~~~y).toNat
def shlI (k : IntKind) (a b : Int) : Int := k.wrap (a * 2 ^ (min b.toNat k.bits))
def shrI (k : IntKind) (a b : Int) : Int := a.fdiv (2 ^ (min b.toNat k.bits))
def binInt (op : BinOp) (k : IntKind) (a b : Int) (c : Leaf → Option R) : Option R :=
  match op with
  | .add => c (.val true (.int k) (k.wrap (a + b)))
  | .sub => c (.val true (.int k) (k.wrap (a - b)))
  | .mul => c (.val true (.int k) (k.wrap (a * b)))
  | .quo => bif decide (b = 0) then none else c (.val true (.int k) (k.wrap (a.tdiv b)))
  | .rem => bif decide (b = 0) then none else c (.val true (.int k) (a.tmod b))
  | .eql => c (.val true .bool (a == b))
  | .neq => c (.val true .bool (a != b))
  | .lss => c (.val true .bool (decide (a < b)))
  | .leq => c (.val true .bool (decide (a ≤ b)))
  | .gtr => c (.val true .bool (decide (a > b)))
  | .geq => c (.val true .bool (decide (a ≥ b)))
  | .shl => none
  | .shr => none
  | op => c (.val true (.int k) (bitsOp op k a b))
def binStr (op : BinOp) (a b : ByteArray) (c : Leaf → Option R) : Option R :=
  match op with
  | .add => bif decide (a.size + b.size ≤ 9223372036854775807) then c (.val true .str (a ++ b)) else none
  | .eql => c (.val true .bool (a.toList == b.toList))
  | .neq => c (.val true .bool (!(a.toList == b.toList)))
  | _ => none
def binInts (op : BinOp) (k : IntKind) (a : Int) (k' : IntKind) (b : Int) (c : Leaf → Option R) : Option R :=
  match op with
  | .shl => bif decide (b < 0) then none else c (.val true (.int k) (shlI k a b))
  | .shr => bif decide (b < 0) then none else c (.val true (.int k) (shrI k a b))
  | op => if k = k' then binInt op k a b c else none
def binBool (op : BinOp) (a b : Bool) (c : Leaf → Option R) : Option R :=
  match op with
  | .eql => c (.val true .bool (a == b))
  | .neq => c (.val true .bool (!(a == b)))
  | _ => none
def negI (k : IntKind) (a : Int) : Int := k.wrap (0 - a)
def binE (T : Tab) (xt : TypeId) (op : BinOp) (x y : Leaf) (c : Leaf → Option R) : Option R :=
  match x, y with
  | .val _ (.int k) a, .val _ (.int k') b => binInts op k a k' b c
  | .val _ .bool a, .val _ .bool b => match T xt with
    | some ⟨.bool, _, _, _⟩ => binBool op a b c
    | _ => none
  | .val _ .str a, .val _ .str b => binStr op a b c
  | _, _ => none
def unE (op : UnOp) (x : Leaf) (c : Leaf → Option R) : Option R :=
  match op, x with
  | .neg, .val _ (.int k) a => c (.val true (.int k) (negI k a))
  | .xor, .val _ (.int k) a => c (.val true (.int k) (bitsOp .xor k (if k.signed then -1 else k.max) a))
  | .not, .val _ .bool b => c (.val true .bool (not b))
  | _, _ => none
def convE (T : Tab) (m : Mem) (src dst : TypeId) (x : Leaf) (c : Leaf → Option R) : Option R :=
  match T src, T dst, x with
  | some ⟨.int _, _, _, _⟩, some ⟨.int k, _, _, _⟩, .val _ (.int _) a => c (.val true (.int k) (k.wrap a))
  | some ⟨.sl e, _, _, _⟩, some ⟨.str, _, _, _⟩, .own r => match T e, m.row? r with
    | some ⟨.int .u8, _, _, _⟩, some row => match K.cast (.sl row.e row.k) (.sl row.e (.int .u8)) row.xs with
      | some xs => c (.val true .str (strOfNums xs))
      | none => none
    | _, _ => none
  | _, _, _ => none
def listLen (m : Mem) : Leaf → Option Nat
  | .val _ (.sl _ _) xs => some (List.length (α := _) xs)
  | .nil => some 0
  | .own r => (m.row? r).map fun row => row.xs.length
  | _ => none
def btI (s : ByteArray) (i : Int) : Int := ((s.data.getD i.toNat 0).toNat : Int)
/-- An element's address. -/
def idxAddr (m : Mem) (n : Nat) (x : Leaf) (i : Int) (c : SV → Option R) : Option R :=
  match x with
  | .val fr (.sl _ k) xs => bif Nat.beq n k.n then
      (bif decide (0 ≤ i) && decide (i < (List.length (α := k.T) xs : Int)) then c (.ref (splitK fr k (List.getD (α := k.T) xs i.toNat k.d))) else none) else none
  | .own r => match m.row? r with
    | some row => bif Nat.beq n row.k.n then
        (bif decide (0 ≤ i) && decide (i < (row.xs.length : Int)) then c (bif row.rw then .adr r i.toNat 0 else .ref (splitK row.fr row.k (row.xs.getD i.toNat row.k.d))) else none) else none
    | none => none
  | _ => none
def elemN (T : Tab) (t : TypeId) : Option Nat := match T t with
  | some ⟨.sl _, .sl _ k, _, _⟩ => some k.n
  | _ => none
def tyN (T : Tab) (t : TypeId) : Option (Bool × Nat) := (T t).map fun i => (i.agg, i.k.n)
/-- A pointer that was handed in: what it leads to. -/
def SV.deref : SV → SV
  | .one (.lf (.val fr (.rp k) x)) => .ref (splitK fr k x)
  | v => v
def loadE (T : Tab) (m : Mem) (t : TypeId) (x : SV) (c : SV → Option R) : Option R :=
  match tyN T t with
  | none => none
  | some (agg, n) =>
    let ls := match x with
      | .ref ls => some (ls.take n)
      | .adr r i o => match m.row? r with
        | some row => some (((splitK row.fr row.k (row.xs.getD i row.k.d)).drop o).take n)
        | none => none
      | .box b o => match m.box? b with
        | some bx => some ((bx.ls.drop o).take n)
        | none => none
      | _ => none
    match ls with
    | none => none
    | some ls => bif Nat.beq ls.length n then (match mkC agg ls with
      | some v => c (.one v)
      | none => none) else none
def putList {α : Type} (l : List α) (o : Nat) (new : List α) : List α := l.take o ++ new ++ l.drop (o + new.length)
def storeE (T : Tab) (m : Mem) (t : TypeId) (x : SV) (v : Cmp) (c : Mem → Option R) : Option R :=
  match tyN T t with
  | none => none
  | some (_, n) => bif Nat.beq v.leaves.length n then (match x with
    | .adr r i o =>
      let m1 := m.freezeAll v.leaves
      match m1.row? r with
      | some row => bif row.rw && Nat.ble (o + n) row.k.n then
          (match packK m1 row.k (putList (splitK row.fr row.k (row.xs.getD i row.k.d)) o v.leaves) with
          | some y => c ⟨m1.rows.set r (some { row with fr := row.fr && v.leaves.all (leafFr m1), xs := row.xs.set i y }), m1.boxes⟩
          | none => none) else none
      | none => none
    | .box b o => match m.box? b with
      | some bx => bif Nat.ble (o + n) bx.ls.length then c ⟨m.rows, m.boxes.set b (some { bx with ls := putList bx.ls o v.leaves })⟩ else none
      | none => none
    | _ => none) else none
/-- A new row. -/
def newRow (m : Mem) (row : Row) (c : SV → Mem → Option R) : Option R := c (.one (.lf (.own m.rows.length))) ⟨m.rows ++ [some row], m.boxes⟩
def packEach (m : Mem) (k : K) : List Cmp → Option (List k.T)
  | [] => some []
  | v :: r => match packK m k v.leaves, packEach m k r with
    | some x, some y => some (x :: y)
    | _, _ => none
def allLeaves (cs : List Cmp) : List Leaf := cs.flatMap Cmp.leaves
def fieldAt (T : Tab) (t : TypeId) (f : Nat) : Option (Nat × TypeId) := match T t with
  | some ⟨.struct fs, _, _, _⟩ => fs[f]?
  | _ => none
/-- The parts of a struct or of an array: where they lie, of what type. -/
def bldOf (T : Tab) (t : TypeId) : Option (List (Nat × TypeId) × K) := match T t with
  | some ⟨.struct fs, k, _, _⟩ => some (fs, k)
  | some ⟨.arr n e, k, _, _⟩ => match T e with
    | some ei => some ((List.range n).map fun i => (i * ei.k.n, e), k)
    | none => none
  | _ => none
/-- An array's length and its elements' size. -/
def arrN (T : Tab) (t : TypeId) : Option (Nat × Nat) := match T t with
  | some ⟨.arr n e, _, _, _⟩ => match T e with
    | some ei => some (n, ei.k.n)
    | none => none
  | _ => none
/-- One road for each place of an array. -/
def pickI (i : Int) (f : Nat → Option R) : Nat → Option R
  | 0 => none
  | n + 1 => bif i == (n : Int) then f n else pickI i f n
def zeroLeaves : K → List Leaf
  | .prod a b => zeroLeaves a ++ zeroLeaves b
  | .unit => []
  | .int q => [.val true (.int q) (0 : Int)]
  | .bool => [.val true .bool false]
  | .str => [.val true .str ByteArray.empty]
  | .sl _ _ => [.nil]
  | .raw => [.val true .raw .nilFunc]
  | .hd => [.nil]
  | .fnc g => [.val true (.fnc g) ()]
  | .mp => [.val true .mp ([] : List (ByteArray × Int))]
  | .rp _ => [.val true .raw (.pointer none)]
  | .clo _ _ => [.val true .raw .nilFunc]
def lim (e : Nat) : Nat := 140737488355328 / e
def seqOf {α : Type} : List (Option α) → Option (List α)
  | [] => some []
  | some x :: r => (seqOf r).map (x :: ·)
  | none :: _ => none
def SV.cmp? : SV → Option Cmp
  | .one c => some c
  | _ => none
def SV.leaf? : SV → Option Leaf
  | .one (.lf l) => some l
  | _ => none
def SV.int? : SV → Option Int
  | .one (.lf (.val _ (.int _) a)) => some a
  | _ => none
/-- What a function that writes into its first argument (a slice of a row of the caller's own) says of itself: of the row's elements, where the slice begins, how long it is, and the other arguments: the results (no slices) and the row's elements afterwards. -/
structure IoSig where
  e : TypeId
  k : K
  ps : List (Bool × K)
  rs : List (Bool × K)
  fn : List k.T → Nat → Nat → argT ps → Option (argT rs × List k.T)
/-- What a function says of itself that is given a row (its first argument: it may write it, and nobody reads it afterwards); its results have no memory. -/
structure GvSig where
  e : TypeId
  k : K
  ps : List (Bool × K)
  rs : List (Bool × K)
  fn : List k.T → argT ps → Option (argT rs)
/-- Functions that are called in ways of their own. 'cl e n b': slices.Clone at elements of type e, of n cells and b bytes. 'pt g sg': function g, whose last argument is a flag: where it is false the first two arguments, structs of two cells, come back, and 0; else as sg says. -/
inductive Oth where
  | io (s : IoSig)
  | gv (s : GvSig)
  | cl (e : TypeId) (n b : Nat)
  | pt (g : FuncId) (sg : Sig)
/-- A package-level table of whole numbers: its type, their kind, what it holds. -/
structure Tbl where
  t : TypeId
  k : IntKind
  xs : List Int
/-- A variable that is lent: of type t; the cells of kind k behind cell 'pre' are lent, the 'post' cells behind them are not. -/
structure Rcv where
  t : TypeId
  pre : Nat
  k : K
  post : Nat
def rcvT : Option Rcv → Type
  | none => Unit
  | some r => r.k.T
/-- A first result that is a pointer to a new variable, or nil. -/
structure New where
  t : TypeId
  k : K
def newT : Option New → Type
  | none => Unit
  | some r => Option r.k.T
/-- What a function says of itself that is lent a variable (rcv: a pointer to it is the first argument; nilr: the first argument is a nil pointer), or given rows (pown), or makes a variable (nw). -/
structure XSig where
  rcv : Option Rcv
  nilr : Bool
  ps : List (Bool × K)
  pown : Bool
  nw : Option New
  rs : List (Bool × K)
  own : Bool
  fn : rcvT rcv → argT ps → Option (newT nw × argT rs × rcvT rcv)
/-- What is known of the functions that are called; subs: the slots whose slices stay parts of their rows; x: those that are lent variables (true: the first argument is nil); eqs: types of structs of so many whole numbers. -/
structure Cals where
  fn : FuncId → Option Sig
  io : FuncId → Option Oth
  subs : Nat → Bool
  tabs : Nat → Option Tbl
  x : FuncId → Bool → Option XSig
  eqs : TypeId → Option Nat
instance : CoeFun Cals (fun _ => FuncId → Option Sig) := ⟨Cals.fn⟩
/-- Is a table looked into? -/
def tblAt (C : Cals) (t : TypeId) : Operand → Option Tbl
  | .global g => match C.tabs g with
    | some tb => bif Nat.beq tb.t t then some tb else none
    | none => none
  | _ => none
def tblE (tb : Tbl) (i : Option Int) (c : SV → Option R) : Option R := match i with
  | some i => bif decide (0 ≤ i) && decide (i < (tb.xs.length : Int)) then c (.ref [.val true (.int tb.k) (List.getD tb.xs i.toNat (0 : Int))]) else none
  | none => none
/-- The fields of a struct that is built: those that are not named are zero. -/
def fillB (T : Tab) (ls : List Leaf) (fs : List (Nat × TypeId)) : List (Nat × Cmp) → Option (List Leaf)
  | [] => some ls
  | (i, c) :: r => match fs[i]? with
    | some (o, ft) => match tyN T ft with
      | some (_, n) => bif Nat.beq c.leaves.length n && Nat.ble (o + n) ls.length then fillB T (putList ls o c.leaves) fs r else none
      | none => none
    | none => none
def callE (C : Cals) (m : Mem) (g : FuncId) (xs : List SV) (c : SV → Mem → Option R) : Option R :=
  match C g, seqOf (xs.map SV.cmp?) with
  | some sg, some cs =>
    let m1 := if sg.md.isShared then m.freezeAll (allLeaves cs) else m
    let fr := !sg.md.isShared || (allLeaves cs).all (leafFr m1)
    bif aggOk sg.ps cs then (match packArgs m1 sg.ps cs with
      | none => none
      | some x => (sg.fn x).bind fun y => match thaw sg.md.isOwn fr m1.rows.length sg.rs y with
        | none => none
        | some q => c (ofCs q.1) ⟨m1.rows ++ q.2, m1.boxes⟩) else none
  | _, _ => none
def SV.part? : SV → Option (Nat × Nat × Nat)
  | .sub r o n _ => some (r, o, n)
  | _ => none
/-- A call that writes into a slice of a row of the caller's own. -/
def callIO (m : Mem) (ig : IoSig) (xs : List SV) (c : SV → Mem → Option R) : Option R :=
  match xs with
  | [] => none
  | x0 :: rest => match x0.part?, seqOf (rest.map SV.cmp?) with
    | some (r, o, n), some cs =>
      let m1 := m.freezeAll (allLeaves cs)
      match m1.row? r with
      | none => none
      | some row => match K.cast (.sl row.e row.k) (.sl ig.e ig.k) row.xs with
        | none => none
        | some zs =>
          bif (row.rw && (ig.k.flat && Nat.blt 0 n)) && (aggOk ig.ps cs && ig.rs.all (fun p => p.2.flat)) then
            (match packArgs m1 ig.ps cs with
            | none => none
            | some x => (ig.fn zs o n x).bind fun y => match thaw false false 0 ig.rs y.1, K.cast (.sl ig.e ig.k) (.sl row.e row.k) y.2 with
              | some q, some ws => bif Nat.beq (List.length (α := row.k.T) ws) row.xs.length then c (ofCs q.1) ⟨m1.rows.set r (some { row with xs := ws }), m1.boxes⟩ else none
              | _, _ => none) else none
    | _, _ => none
def callGv (m : Mem) (gg : GvSig) (xs : List SV) (c : SV → Mem → Option R) : Option R :=
  match xs with
  | [] => none
  | x0 :: rest => match x0.leaf?, seqOf (rest.map SV.cmp?) with
    | some (.own r), some cs => match m.row? r with
      | none => none
      | some row => match K.cast (.sl row.e row.k) (.sl gg.e gg.k) row.xs with
        | none => none
        | some zs =>
          bif (row.rw && (allLeaves cs).all fun l => match l with | .own q => !(Nat.beq q r) | _ => true) && (aggOk gg.ps cs && gg.rs.all (fun p => p.2.flat)) then
            (match packArgs m gg.ps cs with
            | none => none
            | some x => (gg.fn zs x).bind fun y => match thaw false false 0 gg.rs y with
              | some q => c (ofCs q.1) ⟨m.rows.set r none ++ [some ⟨gg.e, gg.k, true, true, []⟩], m.boxes⟩
              | none => none) else none
    | _, _ => none
def callCl (T : Tab) (m : Mem) (e : TypeId) (n b : Nat) (xs : List SV) (c : SV → Mem → Option R) : Option R :=
  match xs with
  | [x] => match x.leaf?, T e with
    | some l, some ei => match leafData m (.sl e ei.k) l with
      | some ys => bif (Nat.beq n ei.k.n && Nat.beq b ei.bytes) && decide (List.length (α := ei.k.T) ys < lim b) then newRow m ⟨e, ei.k, rowFr m l, true, ys⟩ c else none
      | none => none
    | _, _ => none
  | _ => none
def onePt (g : FuncId) (sg : Sig) : Cals := ⟨fun x => bif Nat.beq x g then some sg else none, fun _ => none, fun _ => false, fun _ => none, fun _ _ => none, fun _ => none⟩
def callPt (m : Mem) (g : FuncId) (sg : Sig) (xs : List SV) (c : SV → Mem → Option R) : Option R :=
  match seqOf (xs.map SV.cmp?) with
  | some [.agg [q1, q2], .agg [r1, r2], .agg [_, _], .lf (.val _ .bool t)] => bif t then callE (onePt g sg) m g xs c else c (.tup [.agg [q1, q2], .agg [r1, r2], .lf (.val true (.int .i64) (0 : Int))]) m
  | _ => none
def callO (T : Tab) (m : Mem) : Oth → List SV → (SV → Mem → Option R) → Option R
  | .io ig, xs, c => callIO m ig xs c
  | .gv gg, xs, c => callGv m gg xs c
  | .cl e n b, xs, c => callCl T m e n b xs c
  | .pt g sg, xs, c => callPt m g sg xs c
/-- What a map holds. -/
def mpOf (m : Mem) : SV → Option (List (ByteArray × Int))
  | .mpo r => (m.row? r).bind Row.mp?
  | .one (.lf (.val _ .mp xs)) => some xs
  | _ => none
def isMapT (T : Tab) (t : TypeId) : Bool := match T t with
  | some ⟨.map, _, _, _⟩ => true
  | _ => false
def strOf : SV → Option ByteArray
  | .one (.lf (.val _ .str x)) => some x
  | _ => none
def lookE (T : Tab) (m : Mem) (t : TypeId) (x k : SV) (ok : Bool) (c : SV → Option R) : Option R :=
  match mpOf m x, strOf k with
  | some xs, some k => bif isMapT T t then c (bif ok then .tup [.lf (.val true (.int .i64) ((mpFind k xs).getD 0)), .lf (.val true .bool (mpFind k xs).isSome)] else ci .i64 ((mpFind k xs).getD 0)) else none
  | _, _ => none
def putE (T : Tab) (m : Mem) (t : TypeId) (x k v : SV) (c : Mem → Option R) : Option R :=
  match x, strOf k, v with
  | .mpo r, some k, .one (.lf (.val _ (.int .i64) n)) => match m.row? r with
    | some ⟨_, .prod .str (.int .i64), fr, true, xs⟩ => bif isMapT T t then c ⟨m.rows.set r (some ⟨0, eK, fr, true, mpPut k n xs⟩), m.boxes⟩ else none
    | _ => none
  | _, _, _ => none
/-- A map that is given away, or told: nobody writes it any more. -/
def frzV (m : Mem) : SV → SV
  | .mpo r => match m.row? r with
    | some ⟨_, .prod .str (.int .i64), fr, _, xs⟩ => .one (.lf (.val fr .mp xs))
    | _ => .undef
  | v => v
def mpLs (vs : List SV) : List Leaf := vs.filterMap fun
  | .mpo r => some (.own r)
  | _ => none
def frzAll (m : Mem) (vs : List SV) : Mem := m.freezeAll (mpLs vs)
def isMpo : SV → Bool
  | .mpo _ => true
  | _ => false
def slD (T : Tab) : Option TypeId → Bool
  | some t => match T t with
    | some ⟨.sl _, _, _, _⟩ => true
    | _ => false
  | none => false
def builtinE (T : Tab) (m : Mem) (b : Builtin) (ts : List TypeId) (xs : List SV) (c : SV → Mem → Option R) : Option R :=
  match b, xs with
  | .len, [.one (.lf (.val _ .str x))] => match (ts[0]?).bind T with
    | some ⟨.str, _, _, _⟩ => c (ci .i64 (ByteArray.size x : Int)) m
    | _ => none
  | .len, [.one (.lf l)] => match (ts[0]?).bind T, listLen m l with
    | some ⟨.sl _, _, _, _⟩, some n => c (ci .i64 (n : Int)) m
    | _, _ => none
  | .len, [.hsl _ vs _ _] => match (ts[0]?).bind T with
    | some ⟨.sl _, _, _, _⟩ => c (ci .i64 (List.length vs : Int)) m
    | _ => none
  | .append, [.one (.lf l), .one (.lf y)] =>
    let m1 := m.freeze y
    bif slD T (ts[1]?) then (match (ts[0]?).bind T with
    | some ⟨.sl e, .sl _ k, _, _⟩ => match T e, leafData m1 (.sl e k) y with
      | some ei, some ys => match l with
        | .nil => bif decide (List.length (α := k.T) ys < lim ei.bytes) then newRow m1 ⟨e, k, rowFr m1 y, true, ys⟩ c else none
        | .own r => match m1.row? r with
          | some row => match K.cast (.sl row.e row.k) (.sl e k) row.xs with
            | some xs => bif row.rw && decide (List.length (α := k.T) xs + List.length (α := k.T) ys < lim ei.bytes) then
                newRow ⟨m1.rows.set r none, m1.boxes⟩ ⟨e, k, row.fr && rowFr m1 y, true, List.append (α := k.T) xs ys⟩ c else none
            | none => none
          | none => none
        | _ => none
      | _, _ => none
    | _ => none) else none
  | .copy, [.one (.lf (.own r)), .one (.lf y)] =>
    let m1 := m.freeze y
    match (ts[0]?).bind T, m1.row? r with
    | some ⟨.sl _, .sl _ k, _, _⟩, some row => match leafData m1 (.sl row.e row.k) y with
      | some ys => bif row.rw && Nat.beq k.n row.k.n then
          c (ci .i64 (Nat.min (List.length (α := row.k.T) ys) row.xs.length : Nat)) ⟨m1.rows.set r (some { row with fr := row.fr && rowFr m1 y, xs := (ys : List row.k.T).take row.xs.length ++ row.xs.drop (List.length (α := row.k.T) ys) }), m1.boxes⟩ else none
      | none => none
    | _, _ => none
  | .copy, [.sub r o n _, .one (.lf y)] =>
    let m1 := m.freeze y
    match (ts[0]?).bind T, m1.row? r with
    | some ⟨.sl _, .sl _ k, _, _⟩, some row => match leafData m1 (.sl row.e row.k) y with
      | some ys => bif (row.rw && Nat.blt 0 n) && (Nat.beq k.n row.k.n && Nat.ble (o + n) row.xs.length) then
          c (ci .i64 (Nat.min (List.length (α := row.k.T) ys) n : Nat)) ⟨m1.rows.set r (some { row with fr := row.fr && rowFr m1 y, xs := row.xs.take o ++ ((ys : List row.k.T).take n ++ row.xs.drop (o + Nat.min (List.length (α := row.k.T) ys) n)) }), m1.boxes⟩ else none
      | none => none
    | _, _ => none
  | _, _ => none
/-- 'xs[lo:hi]', the bounds tested. -/
def cutE {α : Type} (n : Nat) (take drop : Nat → α → α) (x : α) (lo hi : Option Int) (c : α → Option R) : Option R :=
  match lo, hi with
  | none, none => c x
  | none, some h => bif decide (0 ≤ h) && decide (h ≤ (n : Int)) then c (take h.toNat x) else none
  | some l, none => bif decide (0 ≤ l) && decide (l ≤ (n : Int)) then c (drop l.toNat x) else none
  | some l, some h => bif decide (0 ≤ l) && (decide (l ≤ h) && decide (h ≤ (n : Int))) then c (drop l.toNat (take h.toNat x)) else none
def sliceE (m : Mem) (n : Nat) (x : Leaf) (lo hi : Option Int) (c : SV → Mem → Option R) : Option R :=
  match x with
  | .val fr (.sl e k) xs => bif Nat.beq n k.n then cutE (List.length (α := k.T) xs) (List.take (α := k.T)) (List.drop (α := k.T)) xs lo hi fun y => c (.one (.lf (.val fr (.sl e k) y))) m else none
  | .own r => match m.row? r with
    | none => none
    | some row => bif Nat.beq n row.k.n then (match lo, row.rw with
      | none, true => cutE row.xs.length List.take List.drop row.xs none hi fun y => newRow ⟨m.rows.set r none, m.boxes⟩ { row with xs := y } c
      | lo, _ => cutE row.xs.length List.take List.drop row.xs lo hi fun y => c (.one (.lf (.val row.fr (.sl row.e row.k) y))) (m.freeze (.own r))) else none
  | _ => none
/-- 'xs[:h:h]'. -/
def slice3E (m : Mem) (n : Nat) (x : Leaf) (h q : Int) (c : SV → Mem → Option R) : Option R :=
  match x with
  | .val fr (.sl e k) xs => bif Nat.beq n k.n then
      (bif decide (0 ≤ h) && (decide (h ≤ q) && decide (q ≤ (List.length (α := k.T) xs : Int))) then c (.one (.lf (.val fr (.sl e k) (List.take (α := k.T) h.toNat xs)))) m else none) else none
  | _ => none
def sliceStr (m : Mem) (s : ByteArray) (lo hi : Option Int) (c : SV → Mem → Option R) : Option R :=
  let l := lo.getD 0
  let h := hi.getD (ByteArray.size s : Int)
  bif decide (0 ≤ l) && (decide (l ≤ h) && decide (h ≤ (ByteArray.size s : Int))) then c (.one (.lf (.val true .str (ByteArray.extract s l.toNat h.toNat)))) m else none
/-- A part of a row, which may be written. -/
def subE (m : Mem) (n : Nat) (x : SV) (lo hi : Option Int) (c : SV → Mem → Option R) : Option R :=
  match x.leaf? with
  | some (.own r) => match m.row? r with
    | some row =>
      let l := lo.getD 0
      let h := hi.getD (row.xs.length : Int)
      bif (Nat.beq n row.k.n && row.rw) && (decide (0 ≤ l) && (decide (l ≤ h) && decide (h ≤ (row.xs.length : Int)))) then c (.sub r l.toNat (h - l).toNat none) m else none
    | none => none
  | _ => none
def isSub (C : Cals) : Option Nat → Bool
  | some d => C.subs d
  | none => false
def idxHsl (n : Nat) (x : SV) (i : Int) (c : SV → Option R) : Option R := match x with
  | .hsl _ _ j r => bif Nat.beq n 1 && decide (i = j) then c (.ref [.own r]) else none
  | _ => none
def isHsl : SV → Bool
  | .hsl _ _ _ _ => true
  | _ => false
def idxSub (m : Mem) (n : Nat) (x : SV) (i : Int) (c : SV → Option R) : Option R :=
  match x.part? with
  | some (r, o, len) => match m.row? r with
    | some row => bif Nat.beq n row.k.n && row.rw then (bif decide (0 ≤ i) && decide (i < (len : Int)) then c (.adr r (o + i.toNat) 0) else none) else none
    | none => none
  | none => none
/-- Leaves whose rows are given away or lent: of the caller's own, or no memory at all. -/
def ownLf (m : Mem) : Leaf → Bool
  | .val _ k _ => k.flat
  | .nil => true
  | .own r => match m.row? r with
    | some row => row.rw && row.fr
    | none => false
def noDup : List Nat → Bool
  | [] => true
  | x :: r => !(r.any (Nat.beq x)) && noDup r
def ownIds (ls : List Leaf) : List Nat := ls.filterMap fun
  | .own r => some r
  | _ => none
/-- Rows that are no longer the caller's. -/
def dropRows (m : Mem) (rs : List Nat) : Mem := ⟨rs.foldl (fun l r => l.set r none) m.rows, m.boxes⟩
/-- The arguments behind the lent variable. -/
def xrest : Option Rcv → Bool → List SV → List SV
  | none, false, vs => vs
  | _, _, vs => vs.drop 1
/-- The lent variable: its number, the leaves that are lent, their data. -/
def xrcv (m : Mem) : (rcv : Option Rcv) → Bool → List SV → Option (Option Nat × List Leaf × rcvT rcv)
  | none, false, _ => some (none, [], ())
  | none, true, .hd .nilp :: _ => some (none, [], ())
  | some r, _, .box b o :: _ => match m.box? b with
    | some bx => bif (Nat.beq o r.pre && Nat.beq bx.t r.t) && Nat.beq bx.ls.length (r.pre + r.k.n + r.post) then (match packK m r.k ((bx.ls.drop r.pre).take r.k.n) with
      | some x => some (some b, (bx.ls.drop r.pre).take r.k.n, x)
      | none => none) else none
    | none => none
  | _, _, _ => none
def rcvL : (rcv : Option Rcv) → rcvT rcv → List Leaf
  | none, _ => []
  | some r, d => splitK true r.k d
def newL : (nw : Option New) → newT nw → List Leaf
  | none, _ => []
  | some _, none => []
  | some r, some x => splitK true r.k x
/-- What the lent variable holds afterwards (q: its leaves). -/
def xback (m : Mem) : Option Rcv → Option Nat → List Leaf → Option (List (Option Box))
  | some r, some b, q => match m.box? b with
    | some bx => some (m.boxes.set b (some ⟨r.t, putList bx.ls r.pre q⟩))
    | none => none
  | none, none, _ => some m.boxes
  | _, _, _ => none
/-- The pointer to a new variable, and the variable (n: its number, q: its leaves). -/
def xnew (n : Nat) (q : List Leaf) : (nw : Option New) → newT nw → Option Hd × List Box
  | none, _ => (none, [])
  | some _, none => (some .nilp, [])
  | some r, some _ => (some (.box n), [⟨r.t, q⟩])
def xres : Option Hd → List Cmp → SV
  | none, cs => ofCs cs
  | some h, [] => h.sv
  | some h, c :: cs => .tupp h (c :: cs)
/-- Is there a new variable or not? -/
def caseN {β : Type} : (nw : Option New) → (newT nw → β) → newT nw → β
  | none, f, y => f y
  | some _, f, none => f none
  | some _, f, some x => f (some x)
theorem caseN_eq {β : Type} (nw : Option New) (f : newT nw → β) (y : newT nw) : caseN nw f y = f y := by
  cases nw with
  | none => rfl
  | some r => cases y <;> rfl
def callX (m : Mem) (xg : XSig) (vs : List SV) (c : SV → Mem → Option R) : Option R :=
  match seqOf ((xrest xg.rcv xg.nilr vs).map SV.cmp?) with
  | none => none
  | some cs =>
    let m1 := bif xg.pown then m else m.freezeAll (allLeaves cs)
    match xrcv m1 xg.rcv xg.nilr vs with
    | none => none
    | some p =>
      let gv := p.2.1 ++ bif xg.pown then allLeaves cs else []
      let ids := ownIds gv
      bif aggOk xg.ps cs && ((xg.pown || (allLeaves cs).all (leafFr m1)) && (gv.all (ownLf m1) && noDup ids)) then
        (match packArgs m1 xg.ps cs with
        | none => none
        | some x => (xg.fn p.2.2 x).bind fun y => caseN xg.nw (fun y1 =>
          let n := m1.rows.length
          let q1 := thawL n (rcvL xg.rcv y.2.2)
          let q2 := thawL (n + q1.2.length) (newL xg.nw y1)
          let h := xnew m1.boxes.length q2.1 xg.nw y1
          match xback m1 xg.rcv p.1 q1.1, thaw xg.own true (n + q1.2.length + q2.2.length) xg.rs y.2.1 with
            | some bs, some q3 => c (xres h.1 q3.1) ⟨(dropRows m1 ids).rows ++ (q1.2 ++ q2.2 ++ q3.2), bs ++ h.2.map some⟩
            | _, _ => none) y.1) else none
/-- The function that a slot holds. -/
def fncOf : SV → Option FuncId
  | .one (.lf (.val _ (.fnc g) _)) => some g
  | _ => none
/-- The function that a slot holds with a variable, and the pointer to that. -/
def cloOf : SV → Option (FuncId × SV)
  | .one (.lf (.val fr (.clo g k) x)) => some (g, .one (.lf (.val fr (.rp k) x)))
  | _ => none
/-- The function that is made of a function and an own variable: it is handed to a call as data. -/
def fbC (T : Tab) (m : Mem) : SV → Option Cmp
  | .fb g b => match m.box? b with
    | some bx => match T bx.t with
      | some i => match packK m i.k bx.ls with
        | some y => some (.lf (.val false (.clo g i.k) y))
        | none => none
      | none => none
    | none => none
  | v => v.cmp?
def isFb : SV → Bool
  | .fb _ _ => true
  | _ => false
/-- A call that is handed such functions. -/
def callF (C : Cals) (T : Tab) (m : Mem) (g : FuncId) (xs : List SV) (c : SV → Mem → Option R) : Option R :=
  match C g, seqOf (xs.map (fbC T m)) with
  | some sg, some cs => bif !sg.md.isShared && aggOk sg.ps cs then (match packArgs m sg.ps cs with
      | none => none
      | some x => (sg.fn x).bind fun y => match thaw sg.md.isOwn true m.rows.length sg.rs y with
        | none => none
        | some q => c (ofCs q.1) ⟨m.rows ++ q.2, m.boxes⟩) else none
  | _, _ => none
def makeF (m : Mem) (g : FuncId) (x : SV) (c : SV → Mem → Option R) : Option R :=
  match x with
  | .box b 0 => c (.fb g b) m
  | _ => none
def isNilp : List SV → Bool
  | .hd .nilp :: _ => true
  | _ => false
def eqI (a b : Int) : Bool := a == b
/-- Two structs of whole numbers, field by field. -/
def eqLeaves : List Leaf → List Leaf → Option Bool
  | [], [] => some true
  | .val _ (.int .i64) a :: r, .val _ (.int .i64) b :: q => (eqLeaves r q).map fun e => eqI a b && e
  | _, _ => none
def isPtr (m : Mem) : SV → Bool
  | .box _ _ => true
  | .adr r _ _ => (m.row? r).isSome
  | .ref _ => true
  | _ => false
def isPtrT (T : Tab) (t : TypeId) : Bool := match T t with
  | some ⟨.ptr, _, _, _⟩ => true
  | _ => false
def eqRes (op : BinOp) (e : Bool) : Option SV := match op with
  | .eql => some (cb e)
  | .neq => some (cb (!e))
  | _ => none
/-- Pointers held against nil, structs against structs. -/
def binV (C : Cals) (T : Tab) (xt : TypeId) (op : BinOp) : SV → SV → Option SV
  | .hd .nilp, .hd .nilp => bif isPtrT T xt then eqRes op true else none
  | .box _ _, .hd .nilp => bif isPtrT T xt then eqRes op false else none
  | .hd .nilp, .box _ _ => bif isPtrT T xt then eqRes op false else none
  | .one (.agg ls), .one (.agg ls') => match C.eqs xt, eqLeaves ls ls' with
    | some n, some e => bif Nat.beq ls.length n && Nat.beq ls'.length n then eqRes op e else none
    | _, _ => none
  | _, _ => none
def optInt (s : S) : Option Operand → Option (Option Int)
  | none => some none
  | some x => (s.opd x).int?.map some
def noOwn (ls : List Leaf) : Bool := ls.all fun
  | .own _ => false
  | _ => true
/-- One operation. -/
def evalOp (C : Cals) (T : Tab) (s : S) (o : Oper) (c : SV → Mem → Option R) : Option R :=
  match o.op with
  | .move x => c (s.opd x) s.m
  | .assign x => c (s.opd x) s.m
  | .pick q a b => match (s.opd q).bool? with
    | some b' => bif b' then c (s.opd a) s.m else c (s.opd b) s.m
    | none => none
  | .binOp op xt x y _ => match (s.opd x).leaf?, (s.opd y).leaf? with
    | some x, some y => binE T xt op x y fun l => c (.one (.lf l)) s.m
    | none, none => match binV C T xt op (s.opd x) (s.opd y) with
      | some v => c v s.m
      | none => none
    | _, _ => none
  | .nilCheck x => bif isPtr s.m (s.opd x) then c (s.opd x) s.m else none
  | .unOp op _ x => match (s.opd x).leaf? with
    | some x => unE op x fun l => c (.one (.lf l)) s.m
    | _ => none
  | .convert src dst x => match (s.opd x).leaf? with
    | some x => convE T s.m src dst x fun l => c (.one (.lf l)) s.m
    | _ => none
  | .extract x i => match s.opd x with
    | .tup cs => match cs[i]? with
      | some v => c (.one v) s.m
      | none => none
    | .tupp h cs => match i with
      | 0 => c h.sv s.m
      | i + 1 => match cs[i]? with
        | some v => c (.one v) s.m
        | none => none
    | _ => none
  | .indexAddr t x i => match tblAt C t x with
    | some tb => tblE tb (s.opd i).int? fun v => c v s.m
    | none => match arrN T t with
      | some (n, sz) => (match s.opd x, (s.opd i).int? with
        | .box b o, some i => pickI i (fun j => c (.box b (o + j * sz)) s.m) n
        | _, _ => none)
      | none => match elemN T t, (s.opd x).leaf?, (s.opd i).int? with
      | some n, some x, some i => idxAddr s.m n x i fun v => c v s.m
      | some n, none, some i => bif isHsl (s.opd x) then idxHsl n (s.opd x) i fun v => c v s.m else idxSub s.m n (s.opd x) i fun v => c v s.m
      | _, _, _ => none
  | .index t x i => match T t, (s.opd x).leaf?, (s.opd i).int? with
    | some ⟨.str, _, _, _⟩, some (.val _ .str x), some i => bif decide (0 ≤ i) && decide (i < (ByteArray.size x : Int)) then c (ci .u8 (btI x i)) s.m else none
    | _, _, _ => none
  | .load t x => loadE T s.m t (s.opd x).deref fun v => c v s.m
  | .store t x v => match (s.opd v).cmp? with
    | some v => storeE T s.m t (s.opd x) v fun m => c .undef m
    | none => none
  | .makeSlice t n q => match T t, (s.opd n).int?, (s.opd q).int? with
    | some ⟨.sl e, .sl _ k, _, _⟩, some n, some q => match T e with
      | some ei => bif decide (0 ≤ n) && (decide (n ≤ q) && (decide (q.toNat * ei.bytes ≤ 281474976710656) && (Nat.blt 0 ei.bytes && ei.k.noP))) then newRow s.m ⟨e, k, true, true, List.replicate n.toNat k.d⟩ c else none
      | none => none
    | _, _, _ => none
  | .buildSlice t n ps => match T t with
    | some ⟨.sl e, .sl _ k, _, _⟩ => match seqOf (ps.toList.map fun p => (s.opd p.2).cmp?) with
      | some cs => bif isSub C o.dst then (bif (Nat.ble (n * k.n) 16777216 && (ps.toList.map (·.1) == List.range n)) && noOwn (allLeaves cs) then (match packEach s.m k cs with
        | some xs => c (.one (.lf (.val ((allLeaves cs).all (leafFr s.m)) (.sl e k) xs))) s.m
        | none => none) else none) else
        let m1 := s.m.freezeAll (allLeaves cs)
        bif Nat.ble (n * k.n) 16777216 && (ps.toList.map (·.1) == List.range n) then (match packEach m1 k cs with
        | some xs => newRow m1 ⟨e, k, (allLeaves cs).all (leafFr m1), true, xs⟩ c
        | none => none) else none
      | none => none
    | _ => none
  | .slice t x lo hi mx => bif isSub C o.dst then (match elemN T t, optInt s lo, optInt s hi, optInt s mx with
    | some n, some lo, some hi, some none => subE s.m n (s.opd x) lo hi c
    | _, _, _, _ => none) else match (s.opd x).leaf?, optInt s lo, optInt s hi, optInt s mx with
    | some (.val _ .str x), some lo, some hi, some none => match T t with
      | some ⟨.str, _, _, _⟩ => sliceStr s.m x lo hi c
      | _ => none
    | some x, some lo, some hi, some none => match elemN T t with
      | some n => sliceE s.m n x lo hi c
      | none => none
    | some x, some none, some (some h), some (some q) => match elemN T t with
      | some n => slice3E s.m n x h q c
      | none => none
    | _, _, _, _ => none
  | .makeMap _ none => c (.mpo s.m.rows.length) ⟨s.m.rows ++ [some ⟨0, eK, true, true, []⟩], s.m.boxes⟩
  | .lookup t x k ok => lookE T s.m t (s.opd x) (s.opd k) ok fun v => c v s.m
  | .mapUpdate t x k v => putE T s.m t (s.opd x) (s.opd k) (s.opd v) fun m => c .undef m
  | .insert t x k v => putE T s.m t (s.opd x) (s.opd k) (s.opd v) fun m => c .undef m
  | .alloc t => match T t with
    | some i => c (.box s.m.boxes.length 0) ⟨s.m.rows, s.m.boxes ++ [some ⟨t, zeroLeaves i.k⟩]⟩
    | none => none
  | .box t x => match T t, (s.opd x).cmp? with
    | some i, some v => bif Nat.beq v.leaves.length i.k.n then c (.box s.m.boxes.length 0) ⟨s.m.rows, s.m.boxes ++ [some ⟨t, v.leaves⟩]⟩ else none
    | _, _ => none
  | .build t ps => match bldOf T t with
    | some (fs, k) => match seqOf (ps.toList.map fun p => (s.opd p.2).cmp?.map fun v => (p.1, v)) with
      | some cs => match fillB T (zeroLeaves k) fs cs with
        | some ls => c (.one (.agg ls)) s.m
        | none => none
      | none => none
    | _ => none
  | .makeFunc fn first cap => match fn, first.toList, cap.toList with
    | .func g, [], [x] => makeF s.m g (s.opd x) c
    | _, _, _ => none
  | .fieldAddr t x f => match fieldAt T t f, (s.opd x).deref with
    | some (o, ft), .ref ls => match tyN T ft with
      | some (_, n) => c (.ref ((ls.drop o).take n)) s.m
      | none => none
    | some (o, _), .adr r i o' => match s.m.row? r with
      | some _ => c (.adr r i (o' + o)) s.m
      | none => none
    | some (o, _), .box b o' => c (.box b (o' + o)) s.m
    | _, _ => none
  | .field t x f => match fieldAt T t f, s.opd x with
    | some (o, ft), .one (.agg ls) => match tyN T ft with
      | some (agg, n) => bif Nat.beq ((ls.drop o).take n).length n then (match mkC agg ((ls.drop o).take n) with
        | some v => c (.one v) s.m
        | none => none) else none
      | none => none
    | _, _ => none
  | .call q => match q.callee with
    | .value (.func g) => match C.x g (isNilp (q.args.toList.map s.opd)) with
      | some xg => callX s.m xg (q.args.toList.map s.opd) c
      | none => match C.io g with
        | none => bif (q.args.toList.map s.opd).any isFb then callF C T s.m g (q.args.toList.map s.opd) c else callE C (frzAll s.m (q.args.toList.map s.opd)) g ((q.args.toList.map s.opd).map (frzV s.m)) c
        | some ig => callO T s.m ig (q.args.toList.map s.opd) c
    | .value (.tmp t) => match fncOf (s.opd (.tmp t)) with
      | some g => callE C s.m g (q.args.toList.map s.opd) c
      | none => match cloOf (s.opd (.tmp t)) with
        | some p => callE C s.m p.1 (q.args.toList.map s.opd ++ [p.2]) c
        | none => none
    | .builtin b => bif Nat.beq q.argTypes.size q.args.size then builtinE T s.m b q.argTypes.toList (q.args.toList.map s.opd) c else none
    | _ => none
  | _ => none
/-- What stands where an operation was not wanted. -/
def isVoid : SV → Bool
  | .tup [] => true
  | _ => false
/-- One operation of a region: is it wanted? c is told the state as it was looked at, and whether. -/
def evalG (C : Cals) (T : Tab) (all : List Oper) (o : Oper) (s : S) (c : S → Bool → SV → Mem → Option R) : Option R :=
  match o.guard with
  | none => evalOp C T s o fun v m => c s true v m
  | some (j, want) => match (all[j]?).bind (·.dst) with
    | none => none
    | some d => bif isVoid (s.get d) then c s false (.tup []) s.m else match (s.get d).bool? with
      | none => none
      | some b => bif b then
          (let s' := s.refine (.tmp d) true
           bif want then evalOp C T s' o fun v m => c s' true v m else c s' false (.tup []) s'.m)
        else
          (let s' := s.refine (.tmp d) false
           bif want then c s' false (.tup []) s'.m else evalOp C T s' o fun v m => c s' true v m)
def dstOk (N : Nat) : Option Tmp → Bool
  | none => true
  | some d => Nat.blt d N
def evalOps (C : Cals) (T : Tab) (N : Nat) (all : List Oper) : List Oper → S → (S → Option R) → Option R
  | [], s, c => c s
  | o :: r, s, c => bif dstOk N o.dst then evalG C T all o s fun s' _ v m => evalOps C T N all r (s'.put o.dst v m) c else none
def ownR (ls : List Leaf) : List Nat := ls.filterMap fun
  | .own r => some (2 * r)
  | _ => none
def SV.owns : SV → List Nat
  | .one c => ownR c.leaves
  | .adr r _ _ => [2 * r]
  | .box b _ => [2 * b + 1]
  | .sub r _ _ _ => [2 * r]
  | .mpo r => [2 * r]
  | .fb _ b => [2 * b + 1]
  | _ => []
def flatSig (sg : Sig) : Bool := !sg.md.isShared && sg.rs.all fun p => p.2.flat
def isW (C : Cals) (s : S) (o : Oper) : Bool :=
  match o.op with
  | .buildSlice .. => !(isSub C o.dst)
  | .store .. | .makeSlice .. | .alloc .. | .box .. | .makeMap .. | .mapUpdate .. | .insert .. => true
  | .slice _ x .. => bif isSub C o.dst then false else match (s.opd x).leaf? with
    | some (.own _) => true
    | _ => false
  | .call q => match q.callee with
    | .value (.func g) => (C.x g (isNilp (q.args.toList.map s.opd))).isSome || ((C.io g).isSome || ((q.args.toList.map s.opd).any isMpo || ((q.args.toList.map s.opd).any isFb || match C g with
      | some sg => !flatSig sg
      | none => true)))
    | .builtin .len => false
    | _ => true
  | _ => false
/-- What an operation that leaves the memory alone reads of it. -/
def readsOf (s : S) (o : Oper) : List Nat :=
  match o.op with
  | .convert _ _ x => (s.opd x).owns
  | .indexAddr _ x _ => (s.opd x).owns
  | .slice _ x .. => (s.opd x).owns
  | .load _ x => (s.opd x).owns
  | .nilCheck x => (s.opd x).owns
  | .lookup _ x _ _ => (s.opd x).owns
  | .fieldAddr _ x _ => (s.opd x).owns
  | .call q => q.args.toList.flatMap fun x => (s.opd x).owns
  | _ => []
/-- A slot's rows and variables, and the rows of its variable. -/
def SV.deep (m : Mem) : SV → List Nat
  | .box b o => (2 * b + 1) :: (match m.box? b with
    | some bx => ownR bx.ls
    | none => [])
  | .fb _ b => (2 * b + 1) :: (match m.box? b with
    | some bx => ownR bx.ls
    | none => [])
  | v => v.owns
/-- What an operation that does not leave it alone writes, of what was there. -/
def writesOf (s : S) (o : Oper) : List Nat :=
  match o.op with
  | .store _ x v => (s.opd x).owns ++ (s.opd v).owns
  | .buildSlice _ _ ps => ps.toList.flatMap fun p => (s.opd p.2).owns
  | .slice _ x .. => (s.opd x).owns
  | .mapUpdate _ x _ _ => (s.opd x).owns
  | .insert _ x _ _ => (s.opd x).owns
  | .call q => q.args.toList.flatMap fun x => (s.opd x).deep s.m
  | _ => []
structure LogE where
  w : Bool
  rd : List Nat
  tc : List Nat
def newIds (m m' : Mem) : List Nat :=
  ((List.range (m'.rows.length - m.rows.length)).map fun i => 2 * (m.rows.length + i)) ++ ((List.range (m'.boxes.length - m.boxes.length)).map fun i => 2 * (m.boxes.length + i) + 1)
def logE (C : Cals) (s : S) (o : Oper) (wt : Bool) (m' : Mem) : LogE := bif wt then (bif isW C s o then ⟨true, [], writesOf s o ++ newIds s.m m'⟩ else ⟨false, readsOf s o, []⟩) else ⟨false, [], []⟩
/-- A new variable, whatever comes: in a region that draws it has its place ready, number by number behind B. -/
def isNew (o : Oper) : Bool := match o.op with
  | .alloc _ => o.guard.isNone
  | _ => false
def newBox (T : Tab) (o : Oper) : Option Box := match o.op with
  | .alloc t => match T t with
    | some i => some ⟨t, zeroLeaves i.k⟩
    | none => none
  | _ => none
def padOf (T : Tab) (ops : List Oper) : List (Option Box) := ops.map fun o => bif isNew o then newBox T o else none
def S.pad (T : Tab) (ops : List Oper) (s : S) : S := ⟨s.fr, ⟨s.m.rows, s.m.boxes ++ padOf T ops⟩⟩
def logD (C : Cals) (B j : Nat) (s : S) (o : Oper) (wt : Bool) (m' : Mem) : LogE := bif isNew o then ⟨false, [], [2 * (B + j) + 1]⟩ else logE C s o wt m'
def evalOpsD (C : Cals) (T : Tab) (N B : Nat) (all : List Oper) : List Oper → List LogE → S → (List LogE → S → Option R) → Option R
  | [], lg, s, c => c lg s
  | o :: r, lg, s, c => bif dstOk N o.dst then (bif isNew o then (match newBox T o with
      | some _ => evalOpsD C T N B all r (lg ++ [⟨false, [], [2 * (B + lg.length) + 1]⟩]) (s.put o.dst (.box (B + lg.length) 0) s.m) c
      | none => none) else evalG C T all o s fun s' wt v m => evalOpsD C T N B all r (lg ++ [logE C s' o wt m]) (s'.put o.dst v m) c) else none
def disj (x y : List Nat) : Bool := x.all fun a => !(y.any (Nat.beq a))
def hasN (x : Nat) (l : List Nat) : Bool := l.any (Nat.beq x)
def tmpsOf (l : List Operand) : List Nat := l.filterMap fun
  | .tmp t => some t
  | _ => none
/-- The slots that an operation looks at. -/
def looks (all : List Oper) (o : Oper) : List Nat := (match o.guard with
  | some (g, _) => match (all[g]?).bind (·.dst) with
    | some d => [d]
    | none => []
  | none => []) ++ tmpsOf o.op.operands.toList
def optIn (d : Option Nat) (l : List Nat) : Bool := match d with
  | some d => hasN d l
  | none => false
def optEq (d e : Option Nat) : Bool := match d, e with
  | some d, some e => Nat.beq d e
  | _, _ => false
/-- Two lists in order, as one; what stands in both stands once. -/
def mrg : Nat → List Nat → List Nat → List Nat
  | 0, a, b => a ++ b
  | _ + 1, [], b => b
  | _ + 1, x :: a, [] => x :: a
  | n + 1, x :: a, y :: b => bif Nat.blt x y then x :: mrg n a (y :: b) else bif Nat.blt y x then y :: mrg n (x :: a) b else x :: mrg n a b
/-- For each operation: those that come before it whatever the order (bs: of those before in the text). -/
def befOf (bs : List (List Nat)) (o : Oper) : List Nat := o.after.toList.foldr (fun e l => bif Region.binds .any e then mrg 400 (bs.getD e.on [] ++ [e.on]) l else l) []
def befs : List Oper → List (List Nat) → List (List Nat)
  | [], bs => bs
  | o :: r, bs => befs r (bs ++ [befOf bs o])
def pairOk (all : List Oper) (x y : Oper) (a b : LogE) : Bool :=
  !(a.w && b.w) && (disj a.tc b.tc && disj b.tc a.tc) && (disj a.rd b.tc && (disj b.rd a.tc && (!(optIn x.dst (looks all y)) && (!(optIn y.dst (looks all x)) && !(optEq x.dst y.dst)))))
/-- Operation number j (y, b) with those ahead of it in the text. -/
def rowOk (all : List Oper) (bj : List Nat) (y : Oper) (b : LogE) : Nat → List (Oper × LogE) → Bool
  | _, [] => true
  | i, (x, a) :: r => ((hasN i bj || pairOk all x y a b) && bif isNew y then disj a.rd b.tc && disj a.tc b.tc else true) && rowOk all bj y b (i + 1) r
def selOk (o : Oper) : Bool := match o.op with
  | .select .. => false
  | _ => true
def edgesOk (j : Nat) (o : Oper) : Bool := o.after.toList.all fun e => bif Region.binds .any e then Nat.blt e.on j else true
def compatL (all : List Oper) (done : List (Oper × LogE)) : List (Oper × LogE) → List (List Nat) → Bool
  | (y, b) :: r, bj :: bs => (selOk y && edgesOk done.length y) && (rowOk all bj y b 0 done && compatL all (done ++ [(y, b)]) r bs)
  | [], _ => true
  | _, [] => false
def compat (all : List Oper) (lg : List LogE) : Bool := compatL all [] (all.zip lg) (befs all [])
inductive LS where
  | v (fr : Bool)
  | z (e : TypeId) (k : K) (fr : Bool)
  | o (e : TypeId) (k : K) (fr : Bool)
inductive CS where
  | lf (l : LS)
  | agg (ls : List LS)
  | box (t : TypeId) (ls : List LS)
  | sub (fr : Bool)
  | pbox (t : TypeId) (ls : List LS)
  | nilp
  | mpo
/-- A leaf in the shape that is asked. -/
def coL (m : Mem) : LS → Leaf → Option (Leaf × Mem)
  | .v fr, .val fr' k x => bif fr' || !fr then some (.val fr k x, m) else none
  | .v fr, .own r => match m.row? r with
    | some row => bif row.fr || !fr then some (.val fr (.sl row.e row.k) row.xs, m.freeze (.own r)) else none
    | none => none
  | .v _, .nil => some (.nil, m)
  | .z e k fr, .nil => some (.val fr (.sl e k) [], m)
  | .z _ _ fr, .val fr' k x => bif fr' || !fr then some (.val fr k x, m) else none
  | .z _ _ fr, .own r => match m.row? r with
    | some row => bif row.fr || !fr then some (.val fr (.sl row.e row.k) row.xs, m.freeze (.own r)) else none
    | none => none
  | .o _ _ fr, .own r => match m.row? r with
    | some row => bif row.rw && (row.fr || !fr) then some (.own r, ⟨m.rows.set r (some { row with fr := fr }), m.boxes⟩) else none
    | none => none
  | .o e k fr, .nil => some (.own m.rows.length, ⟨m.rows ++ [some ⟨e, k, fr, true, []⟩], m.boxes⟩)
  | _, _ => none
def coLs (m : Mem) : List LS → List Leaf → Option (List Leaf × Mem)
  | [], [] => some ([], m)
  | x :: r, l :: q => match coL m x l with
    | some p => match coLs p.2 r q with
      | some z => some (p.1 :: z.1, z.2)
      | none => none
    | none => none
  | _, _ => none
def coV (m : Mem) : CS → SV → Option (SV × Mem)
  | .lf x, .one (.lf l) => match coL m x l with
    | some p => some (.one (.lf p.1), p.2)
    | none => none
  | .agg xs, .one (.agg ls) => match coLs m xs ls with
    | some p => some (.one (.agg p.1), p.2)
    | none => none
  | .box t xs, .box b 0 => match m.box? b with
    | some bx => match coLs m xs bx.ls with
      | some p => bif Nat.beq t bx.t then some (.box b 0, ⟨p.2.rows, p.2.boxes.set b (some ⟨t, p.1⟩)⟩) else none
      | none => none
    | none => none
  | .sub fr, .sub r o n g => match m.row? r with
    | some row => bif row.rw && (row.fr || !fr) then some (.sub r o n g, ⟨m.rows.set r (some { row with fr := fr }), m.boxes⟩) else none
    | none => none
  | .pbox t xs, .pbox b o g => match m.box? b with
    | some bx => match coLs m xs bx.ls with
      | some p => bif Nat.beq t bx.t then some (.pbox b o g, ⟨p.2.rows, p.2.boxes.set b (some ⟨t, p.1⟩)⟩) else none
      | none => none
    | none => none
  | .nilp, .hd .nilp => some (.hd .nilp, m)
  | .mpo, .mpo r => match m.row? r with
    | some row => bif row.rw && row.fr then some (.mpo r, m) else none
    | none => none
  | _, _ => none
def coFr (s : S) : List (Nat × CS) → Mem → Option (List (Nat × SV) × Mem)
  | [], m => some ([], m)
  | (t, c) :: r, m => match coV m c (s.get t) with
    | some p => match coFr s r p.2 with
      | some z => some ((t, p.1) :: z.1, z.2)
      | none => none
    | none => none
def addNew (l : List Nat) (x : Nat) : List Nat := bif l.any (Nat.beq x) then l else l ++ [x]
def ownsL (l : List Nat) (ls : List Leaf) : List Nat := ls.foldl (fun l x => match x with
  | .own r => addNew l r
  | _ => l) l
def SV.leaves : SV → List Leaf
  | .one c => c.leaves
  | .tup cs => allLeaves cs
  | .ref ls => ls
  | .sub r _ _ _ => [.own r]
  | .mpo r => [.own r]
  | _ => []
def posO (x : Nat) : List Nat → Option Nat
  | [] => none
  | y :: r => bif Nat.beq x y then some 0 else (posO x r).map (· + 1)
def renL (rs : List Nat) : Leaf → Option Leaf
  | .own r => (posO r rs).map .own
  | l => some l
def renC (rs : List Nat) : Cmp → Option Cmp
  | .lf l => (renL rs l).map .lf
  | .agg ls => (seqOf (ls.map (renL rs))).map .agg
def renV (rs bs : List Nat) : SV → Option SV
  | .one c => (renC rs c).map .one
  | .box b o => (posO b bs).map (.box · o)
  | .pbox b o g => (posO b bs).map (.pbox · o g)
  | .hd .nilp => some (.hd .nilp)
  | .sub r o n g => (posO r rs).map (.sub · o n g)
  | .mpo r => (posO r rs).map .mpo
  | _ => none
def boxIds (fr : List (Nat × SV)) : List Nat := fr.foldl (fun l x => match x.2 with
  | .box b _ => addNew l b
  | .pbox b _ _ => addNew l b
  | _ => l) []
/-- What the frame leads to, anew numbered. -/
def gc (fr : List (Nat × SV)) (m : Mem) : Option S :=
  let bs := boxIds fr
  match seqOf (bs.map m.box?) with
  | none => none
  | some bx =>
    let rs := bx.foldl (fun l b => ownsL l b.ls) (fr.foldl (fun l x => ownsL l x.2.leaves) [])
    bif noDup rs && noDup bs then (match seqOf (rs.map m.row?), seqOf (fr.map fun x => (renV rs bs x.2).map fun v => (x.1, v)), seqOf (bx.map fun b => (seqOf (b.ls.map (renL rs))).map fun ls => Box.mk b.t ls) with
    | some rows, some fr', some bx' => some ⟨fr', ⟨rows.map some, bx'.map some⟩⟩
    | _, _, _ => none) else none
def restr (sh : List (Nat × CS)) (s : S) : Option S := match coFr s sh s.m with
  | some p => gc p.1 p.2
  | none => none
def tag : Code → Nat
  | .region id _ _ => id
  | .seq a _ => tag a
  | .cond _ a _ => tag a
  | .block _ a => tag a
  | .loop a => tag a
  | .scope a => tag a
  | _ => 0
structure Env (R : Type) where
  C : Cals
  T : Tab
  N : Nat
  sh : Nat → List (Nat × CS)
  fin : S → Option R
def cross {R : Type} (E : Env R) (A : Nat → S → Option R) (j : Nat) (s : S) : Option R := match restr (E.sh j) s with
  | some s' => A j s'
  | none => none
/-- What stands to be done, from a state on; A: what the heads of loops answer. -/
def go {R : Type} (E : Env R) (A : Nat → S → Option R) : Nat → List Item → S → Option R
  | 0, _, _ => none
  | _ + 1, [], s => E.fin s
  | n + 1, .code c :: r, s => match c with
    | .skip => go E A n r s
    | .seq a b => go E A n (.code a :: .code b :: r) s
    | .region _ ops d => bif d then evalOpsD E.C E.T E.N s.m.boxes.length ops.toList ops.toList [] (s.pad E.T ops.toList) (fun lg s' => bif compat ops.toList lg then go E A n r s' else none) else evalOps E.C E.T E.N ops.toList ops.toList s fun s' => go E A n r s'
    | .cond x a b => match (s.opd x).bool? with
      | some t => bif t then go E A n (.code a :: r) (s.refine x true) else go E A n (.code b :: r) (s.refine x false)
      | none => none
    | .block id a => go E A n (.code a :: .inBlock id :: r) s
    | .loop a => cross E A (tag a) s
    | .exit id => match exitTo id r with
      | some r' => go E A n r' s
      | none => none
    | .ret => E.fin s
    | _ => none
  | n + 1, .inBlock _ :: r, s => go E A n r s
  | _ + 1, .inLoop a :: _, s => cross E A (tag a) s
  | _ + 1, _ :: _, _ => none
def steps : Nat := 1000
/-- The heads of the loops: pts j is what stands there (the loop's body first). -/
def heads {R : Type} (E : Env R) (pts : Nat → List Item) : Nat → Nat → S → Option R
  | 0, _, _ => none
  | k + 1, j, s => go E (heads E pts k) steps (pts j) s
def resV (T : Tab) (s : S) : ResultVar → Option Cmp
  | .tmp t => (s.get t).cmp?
  | .cell a t => match s.get a, tyN T t with
    | .box b 0, some (agg, n) => match s.m.box? b with
      | some bx => bif Nat.beq bx.ls.length n then mkC agg bx.ls else none
      | none => none
    | _, _ => none
/-- Maps and parts of rows that are told. -/
def frzS {Z : Type} (s : S) (t : Nat) (c : S → Option Z) : Option Z := match s.get t with
  | .sub r o n _ => match s.m.row? r with
    | some row => bif Nat.ble (o + n) row.xs.length then c ⟨(t, .one (.lf (.val row.fr (.sl row.e row.k) (List.take (α := row.k.T) n (List.drop (α := row.k.T) o row.xs))))) :: s.fr, s.m.freeze (.own r)⟩ else none
    | none => none
  | _ => c s
def frz1 {Z : Type} (s : S) (c : S → Option Z) : ResultVar → Option Z
  | .tmp t => bif isMpo (s.get t) then c ⟨(t, frzV s.m (s.get t)) :: s.fr, frzAll s.m [s.get t]⟩ else frzS s t c
  | _ => c s
def frzC {Z : Type} (c : S → Option Z) : List ResultVar → S → Option Z
  | [], s => c s
  | x :: r, s => frz1 s (frzC c r) x
def finish1 (T : Tab) (md : Md) (rs : List (Bool × K)) (res : List ResultVar) (s : S) : Option (argT rs) :=
  match seqOf (res.map (resV T s)) with
  | some cs =>
    let m1 := bif md.isOwn then s.m else s.m.freezeAll (allLeaves cs)
    bif aggOk rs cs && (bif md.isOwn then (allLeaves cs).all (ownLf m1) && noDup (ownIds (allLeaves cs)) else (allLeaves cs).all (leafFr m1)) then packArgs m1 rs cs else none
  | none => none
def argC (fr : Bool) (p : Bool × K) (x : p.2.T) : Cmp := if p.1 then .agg (splitK fr p.2 x) else match splitK fr p.2 x with
  | [l] => .lf l
  | ls => .agg ls
def argFr (fr : Bool) : (ps : List (Bool × K)) → Nat → argT ps → List (Nat × SV)
  | [], _, _ => []
  | p :: r, i, x => (i, .one (argC fr p x.1)) :: argFr fr r (i + 1) x.2
def finish (T : Tab) (md : Md) (rs : List (Bool × K)) (res : List ResultVar) (s : S) : Option (argT rs) := frzC (finish1 T md rs res) res s
structure XSpec where
  rcv : Option Rcv
  nilr : Bool
  ps : List (Bool × K)
  pown : Bool
  nw : Option New
  rs : List (Bool × K)
  own : Bool
  sh : Nat → List (Nat × CS)
/-- What the lent variable's other cells hold, and where it lies. -/
structure Gh where
  b : Nat
  v : Nat → Value
def raws (G : Gh) (i n : Nat) : List Leaf := (List.range n).map fun j => .val true .raw (G.v (i + j))
/-- The lent variable's slot, and the variable (q: its leaves). -/
def entR (G : Gh) (q : List Leaf) : Option Rcv → Bool → List (Nat × SV) × List Box
  | none, false => ([], [])
  | none, true => ([(0, .hd .nilp)], [])
  | some r, _ => ([(0, .pbox 0 r.pre G.b)], [⟨r.t, raws G 0 r.pre ++ q ++ raws G r.pre r.post⟩])
def numFrom (i : Nat) : List Cmp → List (Nat × SV)
  | [] => []
  | c :: cs => (i, .one c) :: numFrom (i + 1) cs
def XSpec.ent (q : XSpec) (G : Gh) (d : rcvT q.rcv) (x : argT q.ps) : Option S :=
  let q1 := thawL 0 (rcvL q.rcv d)
  let e := entR G q1.1 q.rcv q.nilr
  match thaw q.pown true q1.2.length q.ps x with
  | none => none
  | some z => some ⟨e.1 ++ numFrom e.1.length z.1, ⟨q1.2 ++ z.2, e.2.map some⟩⟩
/-- What is left behind a call: the results, the memory. -/
def XSpec.ext (q : XSpec) (G : Gh) (y : newT q.nw × argT q.rs × rcvT q.rcv) : Option (SV × Mem) :=
  let q1 := thawL 0 (rcvL q.rcv y.2.2)
  let q2 := thawL q1.2.length (newL q.nw y.1)
  let e := (entR G q1.1 q.rcv q.nilr).2
  let h := xnew e.length q2.1 q.nw y.1
  match thaw q.own true (q1.2.length + q2.2.length) q.rs y.2.1 with
  | none => none
  | some q3 => some (xres h.1 q3.1, ⟨q1.2 ++ q2.2 ++ q3.2, (e ++ h.2).map some⟩)
structure Spec where
  ps : List (Bool × K)
  rs : List (Bool × K)
  md : Md
  sh : Nat → List (Nat × CS)
/-- What stands at the head of the loop whose tag is j. -/
def ptsC (j : Nat) : Code → List Item → Option (List Item)
  | .seq a b, r => match ptsC j a (.code b :: r) with
    | some x => some x
    | none => ptsC j b r
  | .cond _ a b, r => match ptsC j a r with
    | some x => some x
    | none => ptsC j b r
  | .block id a, r => ptsC j a (.inBlock id :: r)
  | .loop a, r => bif Nat.beq (tag a) j then some (.code a :: .inLoop a :: r) else ptsC j a (.inLoop a :: r)
  | _, _ => none
def Func.pts (f : Func) (j : Nat) : List Item := match f.body with
  | some c => (ptsC j c []).getD []
  | none => []
def Spec.env (q : Spec) (C : Cals) (T : Tab) (f : Func) : Env (argT q.rs) := ⟨C, T, f.ntmps, q.sh, finish T q.md q.rs f.results.toList⟩
def entry (f : Func) : List Item := match f.body with
  | some c => [.code c]
  | none => []
def evalF (q : Spec) (C : Cals) (T : Tab) (f : Func) (k : Nat) (x : argT q.ps) : Option (argT q.rs) :=
  go (q.env C T f) (heads (q.env C T f) (Func.pts f) k) steps (entry f) ⟨argFr q.md.isShared q.ps 0 x, ⟨[], []⟩⟩
end
end Go.Fx
