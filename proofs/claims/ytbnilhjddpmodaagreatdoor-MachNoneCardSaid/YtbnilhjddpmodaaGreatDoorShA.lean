/- ShA: part of the proof: a shadow of the machine that is proved sound, and what the functions of this seat compute. Conditions: none. -/
import Derived.Orders
import Derived.Below
import Derived.Deep.MidRow
import Derived.Deep.AppendSrc
import Derived.Great.BuildSlice
import Derived.Deep.DeepAppendWide
set_option linter.unusedSimpArgs false
/- Which package-level variables are read, and what they hold: rows of whole numbers. -/
namespace Go.Sh
/-- obs.seen, prim.takes. -/
def globs : Nat → Option (List Int)
  | 0 => some [0, 1, 2, 3, 5, 4, 4, 4, 0]
  | 1 => some [0, 1, 1, 1, 1, 3, 1, 1]
  | _ => none
end Go.Sh

/- A shadow of the machine: plain values in place of memory. The definitions alone: values, states, what each operation does to them. Conditions: none; what it is worth is proved in the texts that follow. -/
namespace Go.Sh
open Go

/-- What a value is, with no memory behind it. -/
inductive AV where
  | lit (v : Value)
  | agg (cs : List AV)
  | tup (vs : List AV)
  | sl (n : Nat) (es : List (List AV))
  | hp (i off : Nat)
  | hs (n i off len : Nat)
  | ro (cs : List AV)
  | fn (f : FuncId) (first caps : List AV)
  | ifc (t : TypeId) (v : AV)
  | dead
  deriving Inhabited

/-- What lies in one cell: a value; a nil slice; a slice whose tail is this cell's own. -/
inductive Cell where
  | v (a : AV)
  | nil (n : Nat)
  | own (n : Nat) (es : List (List AV))
  deriving Inhabited

/-- What a slot of the frame holds. -/
inductive Slot where
  | c (x : Cell)
  | ag (cs : List Cell)
  | loc (cs : List Cell)
  | path (t off : Nat)
  | und
  | dead
  deriving Inhabited

abbrev Heap := List (List Cell)

inductive Out where
  | ret (a : AV)
  | own (n : Nat) (es : List (List AV))
  | pan (a : AV)
  deriving Inhabited

abbrev R := Option (Out × Heap)

def Cell.get : Cell → AV
  | .v a => a
  | .nil n => .sl n []
  | .own n es => .sl n es

def Cell.norm : Cell → Cell
  | .nil n => .own n []
  | c => c

def Slot.av : Slot → Option AV
  | .c x => some x.get
  | .ag cs => some (.agg (cs.map Cell.get))
  | _ => none

def Slot.norm : Slot → Slot
  | .c x => .c x.norm
  | .loc cs => .loc (cs.map Cell.norm)
  | .path _ _ => .dead
  | s => s

def Slot.noPath : Slot → Slot
  | .path _ _ => .dead
  | s => s

def memN : List Nat → Nat → Bool
  | [], _ => false
  | x :: r, n => bif Nat.beq x n then true else memN r n

def dstIn (l : List Nat) : Option Nat → Bool
  | some d => memN l d
  | none => false

def lkN {α : Type} : List (Nat × α) → Nat → Option α
  | [], _ => none
  | (x, a) :: r, n => bif Nat.beq x n then some a else lkN r n

def lkS : List (Nat × Slot) → Nat → Slot
  | [], _ => .dead
  | (x, a) :: r, n => bif Nat.beq x n then a else lkS r n

/-- What is known of a type. -/
structure TI where
  size : Nat
  bytes : Nat
  desc : TypeDesc
  zero : List Cell
  deriving Inhabited

def TI.agg (i : TI) : Bool := match i.desc with | .struct _ | .array _ _ => true | _ => false

/-- What the reader of one function's code is told beforehand. Whatever stands here, nothing wrong follows. -/
structure FHint where
  hb : List Nat := []
  tr : List Nat := []
  keep : List (Nat × List Nat) := []
  base : List (Nat × Nat) := []
  hp : List Nat := []
  pure : List Nat := []
  owns : List Nat := []
  pans : List Nat := []
  own : Bool := false
  esc : Bool := false
  ms : List Nat := []
  res : Bool := false
  lp : List Nat := []
  keepR : List (Nat × List Nat) := []
  deriving Inhabited

structure Env where
  P : Program
  code : Nat → Option Func
  ty : TypeId → Option TI
  prim : Nat → Option ((Nat → List AV → Heap → R) → List AV → Heap → R)
  hint : Nat → FHint
  eqs : List Nat

structure St where
  s : Nat → Slot
  h : Heap
  pb : Nat → Bool := fun _ => false

def upd (s : Nat → Slot) (t : Nat) (x : Slot) : Nat → Slot := fun m => bif Nat.beq t m then x else s m

def ups (s : Nat → Slot) : List (Nat × Slot) → Nat → Slot
  | [] => s
  | (t, x) :: r => ups (upd s t x) r

/- taking values apart -/
def boolOf : AV → Option Bool
  | .lit (.bool b) => some b
  | _ => none
def intOf : AV → Option Int
  | .lit (.int .i64 n) => some n
  | _ => none
def strOf : AV → Option ByteArray
  | .lit (.string s) => some s
  | _ => none
def aggOf : AV → Option (List AV)
  | .agg l => some l
  | _ => none
def tupOf : AV → Option (List AV)
  | .tup l => some l
  | _ => none
def slOf (n : Nat) : AV → Option (List (List AV))
  | .sl m es => bif Nat.beq m n then some es else none
  | _ => none

/-- A part of cells: of an aggregate so many from 'off' on; else the one there. -/
def partA (agg : Bool) (n off : Nat) (cs : List AV) : Option AV :=
  bif agg then (bif Nat.ble (off + n) cs.length then some (.agg ((cs.drop off).take n)) else none) else cs[off]?

def intBin (op : BinOp) (k : IntKind) (x y : Int) : Option AV :=
  match op with
  | .add => some (.lit (.int k (k.wrap (x + y))))
  | .sub => some (.lit (.int k (k.wrap (x - y))))
  | .mul => some (.lit (.int k (k.wrap (x * y))))
  | .eql => some (.lit (.bool (x == y)))
  | .neq => some (.lit (.bool (x != y)))
  | .lss => some (.lit (.bool (decide (x < y))))
  | .leq => some (.lit (.bool (decide (x ≤ y))))
  | .gtr => some (.lit (.bool (decide (x > y))))
  | .geq => some (.lit (.bool (decide (x ≥ y))))
  | .quo => bif decide (y = 0) then none else some (.lit (.int k (k.wrap (x.tdiv y))))
  | .rem => bif decide (y = 0) then none else some (.lit (.int k (x.tmod y)))
  | _ => none

def strBin (op : BinOp) (x y : ByteArray) : Option AV :=
  match op with
  | .eql => some (.lit (.bool (x.toList == y.toList)))
  | .neq => some (.lit (.bool (!(x.toList == y.toList))))
  | .lss => some (.lit (.bool (Op.bytesLess x.toList y.toList)))
  | .geq => some (.lit (.bool (!(Op.bytesLess x.toList y.toList))))
  | .leq => some (.lit (.bool (Op.bytesLess x.toList y.toList || x.toList == y.toList)))
  | .gtr => some (.lit (.bool (!(Op.bytesLess x.toList y.toList || x.toList == y.toList))))
  | _ => none

/-- '==' of two values of one cell, of a type. -/
def eqLit : TypeDesc → AV → AV → Option Bool
  | .int _, .lit (.int k x), .lit (.int k' y) => bif decide (k = k') then some (x == y) else none
  | .string, .lit (.string x), .lit (.string y) => some (x == y)
  | .bool, .lit (.bool x), .lit (.bool y) => some (x == y)
  | _, _, _ => none

def eqLits : List TypeDesc → List AV → List AV → Option Bool
  | [], [], [] => some true
  | k :: ks, a :: l, b :: m => (eqLit k a b).bind fun x => (eqLits ks l m).bind fun y => some (x && y)
  | _, _, _ => none

/-- The fields' types of a struct each of whose fields is one cell, and has a name. -/
def kinds1 (E : Env) : Nat → List Field → Option (List TypeDesc)
  | _, [] => some []
  | j, f :: r => bif Nat.beq f.offset j && f.name != "_" then (match E.ty f.type with
      | some i => bif Nat.beq i.size 1 && !i.agg then (kinds1 E (j + 1) r).map fun l => i.desc :: l else none
      | none => none) else none

/-- The same, where a field may be such a struct. -/
def kindsOf (E : Env) : Nat → List Field → Option (List TypeDesc)
  | _, [] => some []
  | j, f :: r => bif Nat.beq f.offset j && f.name != "_" then (match E.ty f.type with
      | some i => bif Nat.beq i.size 1 && !i.agg then (kindsOf E (j + 1) r).map fun l => i.desc :: l
        else (match i.desc with
          | .struct gs => bif memN E.eqs f.type && i.agg then (kinds1 E 0 gs.toList).bind fun l1 => bif Nat.beq l1.length i.size then (kindsOf E (j + i.size) r).map fun l => l1 ++ l else none else none
          | _ => none)
      | none => none) else none

def structKinds (E : Env) (t : TypeId) : Option (List TypeDesc) :=
  bif memN E.eqs t then (match E.ty t with
    | some i => (match i.desc with
      | .struct fs => kindsOf E 0 fs.toList
      | _ => none)
    | none => none) else none

def binAV (E : Env) (op : BinOp) (T : TypeId) (a b : AV) : Option AV :=
  match a, b with
  | .lit (.int k x), .lit (.int k' y) => bif decide (k = k') then intBin op k x y else none
  | .lit (.string x), .lit (.string y) => strBin op x y
  | .lit (.bool x), .lit (.bool y) => bif (match E.ty T with | some i => (match i.desc with | .bool => true | _ => false) | none => false) then (match op with | .eql => some (.lit (.bool (x == y))) | .neq => some (.lit (.bool (!(x == y)))) | _ => none) else none
  | .lit .nilFunc, .lit .nilFunc => bif (match E.ty T with | some i => (match i.desc with | .func _ _ _ => true | _ => false) | none => false) then (match op with | .eql => some (.lit (.bool true)) | .neq => some (.lit (.bool false)) | _ => none) else none
  | .agg l, .agg m => (structKinds E T).bind fun ks => (match op with | .eql => (eqLits ks l m).bind fun x => some (.lit (.bool x)) | .neq => (eqLits ks l m).bind fun x => some (.lit (.bool (!x))) | _ => none)
  | _, _ => none

/-- A whole number turned to another kind. -/
def convA (E : Env) (src dst : TypeId) (a : AV) : Option AV := (E.ty src).bind fun _ => (E.ty dst).bind fun i => match i.desc, a with
  | .int k, .lit (.int _ n) => some (.lit (.int k (k.wrap n)))
  | _, _ => none
def unAV (op : UnOp) (a : AV) : Option AV :=
  match op, a with
  | .neg, .lit (.int k n) => some (.lit (.int k (k.wrap (0 - n))))
  | .not, .lit (.bool b) => some (.lit (.bool (!b)))
  | _, _ => none

def elemSize (E : Env) (T : TypeId) : Option Nat :=
  match E.ty T with
  | some i => match i.desc with | .slice e => (E.ty e).map (·.size) | _ => none
  | none => none

def plainV : Value → Bool
  | .bool _ | .int _ _ | .string _ | .slice none 0 0 | .pointer none | .nilIface | .nilFunc => true
  | _ => false

/-- A constant, as what a slot holds. -/
def constS (E : Env) (T : TypeId) : Value → Option Slot
  | .bool b => some (.c (.v (.lit (.bool b))))
  | .int k n => some (.c (.v (.lit (.int k n))))
  | .string s => some (.c (.v (.lit (.string s))))
  | .pointer none => some (.c (.v (.lit (.pointer none))))
  | .nilIface => some (.c (.v (.lit .nilIface)))
  | .nilFunc => some (.c (.v (.lit .nilFunc)))
  | .slice none 0 0 => (elemSize E T).map fun n => .c (.nil n)
  | .agg arr => bif arr.toList.all plainV then some (.c (.v (.agg (arr.toList.map .lit)))) else none
  | _ => none

def rdS (E : Env) (T : TypeId) (look : Nat → Slot) : Operand → Option Slot
  | .tmp t => some (look t)
  | .const v => constS E T v
  | .func f => some (.c (.v (.fn f [] [])))
  | .global _ => none

def rdA (E : Env) (T : TypeId) (look : Nat → Slot) (x : Operand) : Option AV := (rdS E T look x).bind Slot.av

def rdAs (E : Env) (look : Nat → Slot) : List TypeId → List Operand → Option (List AV)
  | [], [] => some []
  | t :: ts, x :: xs => (rdA E t look x).bind fun a => (rdAs E look ts xs).bind fun l => some (a :: l)
  | _, _ => none

/-- Is it surely the value of one cell? -/
def AV.one : AV → Bool
  | .lit _ | .sl _ _ | .hp _ _ | .hs _ _ _ _ | .ro _ | .fn _ _ _ | .ifc _ _ => true
  | _ => false

/-- The cells of a value of a type, handed on. -/
def explodeK {ρ : Type} (i : TI) (a : AV) (K : List Cell → Option ρ) : Option ρ :=
  bif i.agg then (aggOf a).bind fun l => bif Nat.beq l.length i.size then K ((List.range i.size).map fun j => .v (l.getD j .dead)) else none
  else bif Nat.beq i.size 1 && a.one then K [.v a] else none

/-- The cells of what is to be laid into memory; a slice's own tail goes with it. -/
def takeK {ρ : Type} (i : TI) (s : Slot) (src : Operand) (K : List Cell → List (Nat × Slot) → Option ρ) : Option ρ :=
  match s with
  | .c (.own n es) => bif i.agg then none else match src with | .tmp t => (bif Nat.beq i.size 1 then K [.own n es] [(t, .dead)] else none) | _ => none
  | .c (.nil n) => bif i.agg then none else (bif Nat.beq i.size 1 then K [.nil n] [] else none)
  | .c (.v a) => explodeK i a fun cs => K cs []
  | .ag cs => bif i.agg && Nat.beq cs.length i.size then K cs [] else none
  | _ => none

inductive Pl where
  | loc (t off : Nat)
  | heap (i off : Nat)
  | ro (cs : List AV)

def placeOf (look : Nat → Slot) : Operand → Option Pl
  | .tmp u => match look u with
    | .loc _ => some (.loc u 0)
    | .path t off => some (.loc t off)
    | .c (.v (.hp i o)) => some (.heap i o)
    | .c (.v (.ro cs)) => some (.ro cs)
    | _ => none
  | _ => none

def splice (cs : List Cell) (off : Nat) (l : List Cell) : Option (List Cell) :=
  bif Nat.ble (off + l.length) cs.length then some (cs.take off ++ l ++ cs.drop (off + l.length)) else none

def partG (agg : Bool) (n off : Nat) (l : List AV) : Option AV := bif l.isEmpty then none else partA agg n off l
theorem partG_eq {agg : Bool} {n off : Nat} {l : List Cell} {v : AV} (h : partG agg n off (l.map Cell.get) = some v) : l ≠ [] ∧ partA agg n off (l.map Cell.get) = some v := by
  cases l with
  | nil => cases h
  | cons a l => exact ⟨by simp, h⟩
def hpart (agg : Bool) (n off i : Nat) (h : Heap) : Option AV := (h[i]?).bind fun cs => partG agg n off (cs.map Cell.get)
def hpOfA : AV → Option (Nat × Nat)
  | .hp i o => some (i, o)
  | _ => none
theorem ne_of_cond {α β : Type} {cs : List α} {x : Option β} {r : β} (h : (bif cs.isEmpty then none else x) = some r) : cs ≠ [] ∧ x = some r := by
  cases cs with
  | nil => cases h
  | cons a l => exact ⟨by simp, h⟩
theorem hpOfA_eq {v : AV} {p : Nat × Nat} (h : hpOfA v = some p) : v = .hp p.1 p.2 := by
  unfold hpOfA at h
  split at h
  · cases h; rfl
  · cases h
def hstore (h : Heap) (i off : Nat) (l : List Cell) : Option Heap := (h[i]?).bind fun cs => bif cs.isEmpty then none else (splice cs off l).map fun cs' => h.set i cs'
/-- A slice's tail taken out of a cell of the heap; what the cell reads as stays. -/
def htake (h : Heap) (i off : Nat) : Option ((Nat × List (List AV)) × Heap) :=
  (h[i]?).bind fun cs => match cs[off]? with
    | some (.own n es) => some ((n, es), h.set i (cs.set off (.v (.sl n es))))
    | _ => none

def dstUp (d : Option Nat) (s : Slot) : List (Nat × Slot) :=
  match d with
  | some t => [(t, s)]
  | none => []

def applyV (call : Nat → List AV → Heap → R) (a : AV) (args : List AV) (h : Heap) : R :=
  match a with
  | .fn f first caps => call f (first ++ args ++ caps) h
  | _ => none

def onOut {ρ : Type} (r : R) (kret : AV → Heap → Option ρ) (kown : Nat → List (List AV) → Heap → Option ρ) (kpan : AV → Heap → Option ρ) : Option ρ :=
  r.bind fun p => match p.1 with
    | .ret a => kret a p.2
    | .own n es => kown n es p.2
    | .pan a => kpan a p.2

open Classical in
/-- Handed on, if the heap has not turned. -/
noncomputable def sameH {ρ : Type} (h h' : Heap) (x : Option ρ) : Option ρ := if h' = h then x else none

def fieldOf (E : Env) (T : TypeId) (f : Nat) : Option (Nat × TI) :=
  match E.ty T with
  | some i => match i.desc with
    | .struct fs => match fs[f]? with
      | some g => match E.ty g.type with
        | some j => some (g.offset, j)
        | none => none
      | none => none
    | _ => none
  | none => none

/-- Parts laid into cells, one behind the other. 'place': where part number j lies, and what type it is of. -/
def partsK {ρ : Type} (E : Env) (place : Nat → Option (Nat × TypeId)) (look : Nat → Slot) : List (Nat × Operand) → List Cell → (List Cell → Option ρ) → Option ρ
  | [], cs, K => K cs
  | (j, x) :: r, cs, K =>
    (place j).bind fun p => (E.ty p.2).bind fun i => (rdS E p.2 look x).bind fun s => match s with
      | .c (.nil n) => (splice cs p.1 [.nil n]).bind fun cs' => bif i.agg || !Nat.beq i.size 1 then none else partsK E place look r cs' K
      | s => s.av.bind fun a => explodeK i a fun l => (splice cs p.1 l).bind fun cs' => partsK E place look r cs' K

def structPlace (E : Env) (T : TypeId) (f : Nat) : Option (Nat × TypeId) :=
  match E.ty T with
  | some i => match i.desc with
    | .struct fs => (fs[f]?).map fun g => (g.offset, g.type)
    | _ => none
  | none => none

def chunks (n : Nat) : Nat → List AV → List (List AV)
  | 0, _ => []
  | m + 1, l => l.take n :: chunks n m (l.drop n)

def repl {α : Type} : Nat → List α → List α
  | 0, _ => []
  | m + 1, l => l ++ repl m l

def maxApp : Nat := 2147483648

def maxs : AV → List AV → Option AV
  | a, [] => some a
  | .lit (.int k x), .lit (.int _ y) :: r => maxs (.lit (.int k (if y > x then y else x))) r
  | _, _ => none
def mins : AV → List AV → Option AV
  | a, [] => some a
  | .lit (.int k x), .lit (.int _ y) :: r => mins (.lit (.int k (if y < x then y else x))) r
  | _, _ => none

def isStr (E : Env) (T : TypeId) : Bool := match E.ty T with | some i => (match i.desc with | .string => true | _ => false) | none => false

/-- How many elements a slice has: one that is told by what it holds; one that lies in the heap. -/
def lenOf (n : Nat) : AV → Option Nat
  | .sl m es => bif Nat.beq m n then some es.length else none
  | .hs m _ _ len => bif Nat.beq m n then some len else none
  | .lit (.slice none 0 0) => some 0
  | _ => none
def lenA (E : Env) (T : TypeId) (a : AV) : Option Int :=
  bif isStr E T then (strOf a).map fun s => (s.size : Int)
  else (elemSize E T).bind fun n => Option.map (fun k : Nat => (k : Int)) (lenOf n a)

/-- A built-in function. -/
def builtinK {ρ : Type} (E : Env) (b : Builtin) (d : Option Nat) (args : List Operand) (ts : List TypeId) (look : Nat → Slot) (h : Heap)
    (K : List (Nat × Slot) → Heap → Option ρ) (Kp : AV → Heap → Option ρ) : Option ρ :=
  match b, args, ts with
  | .len, [x], [T] => (rdA E T look x).bind fun a => (lenA E T a).bind fun n => K (dstUp d (.c (.v (.lit (.int .i64 n))))) h
  | .append, [x, y], [T, T'] =>
    (elemSize E T).bind fun n => bif d.isSome && !(isStr E T') && (match E.ty T' with | some i => (match i.desc with | .slice _ => true | _ => false) | none => false) && (match E.ty T with | some i => (match i.desc with | .slice e => (match E.ty e with | some j => Nat.ble j.bytes 16384 && Nat.beq j.zero.length n | none => false) | _ => false) | none => false) then
      (rdA E T' look y).bind fun b => (slOf n b).bind fun ys => (rdS E T look x).bind fun s => match s with
        | .c (.nil m) => bif Nat.beq m n && Nat.ble ys.length maxApp then K (dstUp d (.c (.own n ys))) h else none
        | .c (.own m es) => match x with
          | .tmp t => bif Nat.beq m n && Nat.ble (es.length + ys.length) maxApp then K ((t, .dead) :: dstUp d (.c (.own n (es ++ ys)))) h else none
          | _ => none
        | _ => none
    else none
  | .max, x :: xs, T :: ts => (rdA E T look x).bind fun a => (rdAs E look ts xs).bind fun l => (maxs a l).bind fun r => K (dstUp d (.c (.v r))) h
  | .min, x :: xs, T :: ts => (rdA E T look x).bind fun a => (rdAs E look ts xs).bind fun l => (mins a l).bind fun r => K (dstUp d (.c (.v r))) h
  | .panic, [x], [T] => (rdA E T look x).bind fun a => match a with
    | .ifc t v => Kp (.ifc t v) h
    | _ => none
  | _, _, _ => none

def isApp : Builtin → Bool
  | .append => true
  | _ => false
def isPanicB : Builtin → Bool
  | .panic => true
  | _ => false
/-- Elements appended to a new slice that are to lie in the heap. -/
def hsA (n : Nat) (h : Heap) : List (List AV) → AV
  | [] => .sl n []
  | y :: ys => .hs n h.length 0 (ys.length + 1)
def hsH (h : Heap) : List (List AV) → Heap
  | [] => h
  | y :: ys => h ++ [((y :: ys).flatten).map Cell.v]
/-- The same, behind those of a slice that lies there already; that one is given up. -/
def hsM (h : Heap) (j k : Nat) (cs : List Cell) (ys : List (List AV)) : Heap := h.set j [] ++ [((cs.map Cell.get).take k ++ ys.flatten).map Cell.v]
def appendH {ρ : Type} (E : Env) (d : Option Nat) (args : List Operand) (ts : List TypeId) (look : Nat → Slot) (h : Heap)
    (K : List (Nat × Slot) → Heap → Option ρ) : Option ρ :=
  match args, ts, d with
  | [.tmp t, y], [T, T'], some dd =>
    (elemSize E T).bind fun n => bif !(isStr E T') && Nat.ble 1 n && (match E.ty T' with | some i => (match i.desc with | .slice _ => true | _ => false) | none => false) && (match E.ty T with | some i => (match i.desc with | .slice e => (match E.ty e with | some j => Nat.ble j.bytes 16384 && Nat.beq j.zero.length n | none => false) | _ => false) | none => false) then
      (rdA E T' look y).bind fun b => (slOf n b).bind fun ys => match look t with
        | .c (.own m es) => bif Nat.beq m n && es.isEmpty && Nat.ble ys.length maxApp then K [(t, .dead), (dd, .c (.v (hsA n h ys)))] (hsH h ys) else none
        | .c (.v (.lit (.slice none 0 0))) => bif Nat.ble ys.length maxApp then K [(dd, .c (.v (hsA n h ys)))] (hsH h ys) else none
        | .c (.v (.hs m j off len)) => bif Nat.beq m n && Nat.beq off 0 && !ys.isEmpty && Nat.ble (len + ys.length) maxApp then (h[j]?).bind fun cs => bif !cs.isEmpty && Nat.ble (len * n) cs.length then K [(dd, .c (.v (.hs n h.length 0 (len + ys.length))))] (hsM h j (len * n) cs ys) else none else none
        | _ => none
    else none
  | _, _, _ => none

def bndO (l0 : Int) : Option AV → Option Int
  | none => some l0
  | some x => intOf x

def sliceA (E : Env) (T : TypeId) (a : AV) (lo hi : Option AV) : Option AV :=
  (bndO 0 lo).bind fun l => bif isStr E T then
      (strOf a).bind fun s => (bndO s.size hi).bind fun r =>
        bif decide (0 ≤ l) && decide (l ≤ r) && decide (r ≤ s.size) then some (.lit (.string (s.extract l.toNat r.toNat))) else none
    else (elemSize E T).bind fun n => match a with
      | .hs m i off len => (bndO len hi).bind fun r => bif Nat.beq m n && decide (l = 0) && decide (0 ≤ r) && decide (r ≤ len) then some (.hs m i off r.toNat) else none
      | _ => (slOf n a).bind fun es => (bndO es.length hi).bind fun r =>
        bif decide (0 ≤ l) && decide (l ≤ r) && decide (r ≤ es.length) then some (.sl n ((es.take r.toNat).drop l.toNat)) else none

def rdO (E : Env) (T : TypeId) (look : Nat → Slot) : Option Operand → Option (Option AV)
  | none => some none
  | some x => (rdA E T look x).map some

def indexA (n : Nat) (a i : AV) : Option (List AV) :=
  (slOf n a).bind fun es => (intOf i).bind fun j => bif decide (0 ≤ j) && decide (j.toNat < es.length) then some (es.getD j.toNat []) else none

/-- The place of an element of a slice that lies in the heap. -/
def indexH (n : Nat) (a j : AV) : Option (Nat × Nat) :=
  match a with
  | .hs m i off len => bif Nat.beq m n then (intOf j).bind fun k => bif decide (0 ≤ k) && decide (k.toNat < len) then some (i, off + k.toNat * n) else none else none
  | _ => none

def numOf : AV → Option Int
  | .lit (.int _ n) => some n
  | _ => none
theorem numOf_eq {a : AV} {n : Int} (h : numOf a = some n) : ∃ k, a = .lit (.int k n) := by
  unfold numOf at h
  split at h
  · cases h; exact ⟨_, rfl⟩
  · cases h
def globOf : Operand → Option Nat
  | .global g => some g
  | _ => none
def indexS (a i : AV) : Option AV :=
  (strOf a).bind fun s => (numOf i).bind fun j => bif decide (0 ≤ j) then (s[j.toNat]?).map fun b => .lit (.int .u8 b.toNat) else none

/-- One operation: which slots turn, and the heap behind it. -/
noncomputable def core {ρ : Type} (E : Env) (H : FHint) (call : Nat → List AV → Heap → R) (o : Oper) (look : Nat → Slot) (h : Heap)
    (K : List (Nat × Slot) → Heap → Option ρ) (Kp : AV → Heap → Option ρ) : Option ρ :=
  match o.op with
  | .move x =>
    bif dstIn H.tr o.dst then
      match x with
      | .tmp t => (match look t with | .c c => K ((t, .dead) :: dstUp o.dst (.c c)) h | _ => none)
      | _ => none
    else (rdS E o.type look x).bind fun s => match s with
      | .c (.nil n) => K (dstUp o.dst (.c (.nil n))) h
      | s => s.av.bind fun a => K (dstUp o.dst (.c (.v a))) h
  | .assign x => (rdS E o.type look x).bind fun s => match s with
    | .c (.own n es) => (match x with | .tmp t => K ((t, .dead) :: dstUp o.dst (.c (.own n es))) h | _ => none)
    | .c c => K (dstUp o.dst (.c c)) h
    | .ag cs => K (dstUp o.dst (.ag cs)) h
    | _ => none
  | .pick c a b => (rdA E o.type look c).bind fun cv => (boolOf cv).bind fun t =>
      bif t then (rdA E o.type look a).bind fun x => K (dstUp o.dst (.c (.v x))) h
      else (rdA E o.type look b).bind fun x => K (dstUp o.dst (.c (.v x))) h
  | .alloc T => (E.ty T).bind fun i =>
      match o.dst with
      | some d => bif memN H.hb d then K [(d, .c (.v (.hp h.length 0)))] (h ++ [i.zero.map Cell.norm]) else K [(d, .loc i.zero)] h
      | none => none
  | .box T x => (E.ty T).bind fun i => (rdS E T look x).bind fun s => takeK i s x fun cs us =>
      match o.dst with
      | some d => bif memN H.hb d then K (us ++ [(d, .c (.v (.hp h.length 0)))]) (h ++ [cs.map Cell.norm]) else K (us ++ [(d, .loc cs)]) h
      | none => none
  | .load T a => (E.ty T).bind fun i => (placeOf look a).bind fun p =>
      bif dstIn H.tr o.dst then
        match p with
        | .loc t off => (match look t with
          | .loc cs => (match cs[off]? with
            | some c => bif i.agg || !Nat.beq i.size 1 then none else K ((t, .loc (cs.set off (.v .dead))) :: dstUp o.dst (.c c)) h
            | none => none)
          | _ => none)
        | .heap j off => (htake h j off).bind fun q => bif i.agg || !Nat.beq i.size 1 then none else K (dstUp o.dst (.c (.own q.1.1 q.1.2))) q.2
        | .ro _ => none
      else match p with
        | .loc t off => (match look t with
          | .loc cs => (partA i.agg i.size off (cs.map Cell.get)).bind fun v => K (dstUp o.dst (.c (.v v))) h
          | _ => none)
        | .heap j off => bif dstIn H.lp o.dst then (hpart i.agg i.size off j h).bind fun v => (hpOfA v).bind fun p => K (dstUp o.dst (.c (.v (.hp p.1 p.2)))) h else (hpart i.agg i.size off j h).bind fun v => K (dstUp o.dst (.c (.v v))) h
        | .ro cs => (partA i.agg i.size 0 cs).bind fun v => K (dstUp o.dst (.c (.v v))) h
  | .store T a x => bif o.dst.isSome then none else (E.ty T).bind fun i => (rdS E T look x).bind fun s => takeK i s x fun cs us => (placeOf look a).bind fun p =>
      match p with
      | .loc t off => (match look t with
        | .loc old => (splice old off cs).bind fun new => K (us ++ [(t, .loc new)]) h
        | _ => none)
      | .heap j off => (hstore h j off (cs.map Cell.norm)).bind fun h' => K us h'
      | .ro _ => none
  | .fieldAddr T x f => (fieldOf E T f).bind fun q => bif Nat.beq q.2.size 0 then none else (placeOf look x).bind fun p =>
      match p with
      | .loc t off => K (dstUp o.dst (.path t (off + q.1))) h
      | .heap j off => K (dstUp o.dst (.c (.v (.hp j (off + q.1))))) h
      | .ro cs => bif Nat.ble q.1 cs.length then K (dstUp o.dst (.c (.v (.ro (cs.drop q.1))))) h else none
  | .nilCheck x => (match x with
    | .tmp u => (match look u with
      | .loc _ => K (dstUp o.dst (.path u 0)) h
      | .path t off => K (dstUp o.dst (.path t off)) h
      | .c (.v (.hp j off)) => K (dstUp o.dst (.c (.v (.hp j off)))) h
      | .c (.v (.fn f first caps)) => K (dstUp o.dst (.c (.v (.fn f first caps)))) h
      | _ => none)
    | _ => none)
  | .makeSlice T l c => (E.ty T).bind fun i => (match i.desc with
    | .slice e => (E.ty e).bind fun j => (rdA E 0 look l).bind fun a => (rdA E 0 look c).bind fun b => (intOf a).bind fun n => (intOf b).bind fun m =>
      (match o.dst with
      | some d => bif memN H.hb d && decide (n = m) && decide (0 ≤ n) && decide (n ≤ 1048576) && Nat.ble j.bytes 16384 && Nat.beq j.zero.length j.size && Nat.ble 1 j.size then
          K [(d, .c (.v (.hs j.size h.length 0 n.toNat)))] (h ++ [(repl n.toNat j.zero).map Cell.norm]) else none
      | none => none)
    | _ => none)
  | .indexAddr T x i => (match globOf x with
    | some g => (E.ty T).bind fun ti => (match ti.desc with
      | .array len el => (E.ty el).bind fun j => (globs g).bind fun l => (rdA E 0 look i).bind fun jv => (intOf jv).bind fun k =>
          bif Nat.beq j.size 1 && Nat.beq len l.length && decide (0 ≤ k) && decide (k.toNat < l.length) then K (dstUp o.dst (.c (.v (.ro [.lit (.int .i64 (l.getD k.toNat 0))])))) h else none
      | _ => none)
    | none => (elemSize E T).bind fun n => bif dstIn H.ms o.dst then (rdA E T look x).bind fun a => (rdA E 0 look i).bind fun j => (indexH n a j).bind fun p => K (dstUp o.dst (.c (.v (.hp p.1 p.2)))) h else (rdA E T look x).bind fun a => (rdA E 0 look i).bind fun j => (indexA n a j).bind fun e => K (dstUp o.dst (.c (.v (.ro e)))) h)
  | .index T x i => bif isStr E T then (rdA E T look x).bind fun a => (rdA E 0 look i).bind fun j => (indexS a j).bind fun v => K (dstUp o.dst (.c (.v v))) h else none
  | .extract x i => (rdA E o.type look x).bind fun a => (tupOf a).bind fun vs => (vs[i]?).bind fun v => K (dstUp o.dst (.c (.v v))) h
  | .field T x f => (fieldOf E T f).bind fun q => (rdA E T look x).bind fun a => (aggOf a).bind fun cs => (partA q.2.agg q.2.size q.1 cs).bind fun v => K (dstUp o.dst (.c (.v v))) h
  | .binOp op T x y _ => (rdA E T look x).bind fun a => (rdA E T look y).bind fun b => (binAV E op T a b).bind fun r => K (dstUp o.dst (.c (.v r))) h
  | .unOp op T x => (rdA E T look x).bind fun a => (unAV op a).bind fun r => K (dstUp o.dst (.c (.v r))) h
  | .convert src dst x => (rdA E src look x).bind fun a => (convA E src dst a).bind fun r => K (dstUp o.dst (.c (.v r))) h
  | .makeInterface T x => (E.ty T).bind fun i => (match i.desc with | .interface _ => none | _ => (rdA E T look x).bind fun a => K (dstUp o.dst (.c (.v (.ifc T a)))) h)
  | .makeFunc (.func f) first caps => (rdAs E look (first.toList.map fun _ => 0) first.toList).bind fun l => (rdAs E look (caps.toList.map fun _ => 0) caps.toList).bind fun m => K (dstUp o.dst (.c (.v (.fn f l m)))) h
  | .slice T x lo hi none => (rdA E T look x).bind fun a => (rdO E 0 look lo).bind fun l => (rdO E 0 look hi).bind fun r => (sliceA E T a l r).bind fun v => K (dstUp o.dst (.c (.v v))) h
  | .build T parts => (E.ty T).bind fun i => (match i.desc with
    | .struct fs => bif fs.toList.all (fun f => (E.ty f.type).isSome) then partsK E (structPlace E T) look parts.toList i.zero fun cs => K (dstUp o.dst (.ag cs)) h else none
    | _ => none)
  | .buildSlice T len parts => (E.ty T).bind fun i => (match i.desc with
    | .slice e => (E.ty e).bind fun j => bif o.dst.isSome && Nat.ble (len * j.size) 4096 && Nat.beq j.zero.length j.size && Nat.ble 1 j.size then
        partsK E (fun k => some (k * j.size, e)) look parts.toList (repl len j.zero) fun cs => K (dstUp o.dst (.c (.own j.size (chunks j.size len (cs.map Cell.get))))) h else none
    | _ => none)
  | .call c => (match c.callee with
    | .builtin b => bif isApp b && dstIn H.hb o.dst then appendH E o.dst c.args.toList c.argTypes.toList look h K else builtinK E b o.dst c.args.toList c.argTypes.toList look h K Kp
    | .value f => (rdA E 0 look f).bind fun fv => (rdAs E look c.argTypes.toList c.args.toList).bind fun args =>
        bif dstIn H.pure o.dst then
          onOut (applyV call fv args h) (fun a h' => bif dstIn H.owns o.dst then none else sameH h h' (K (dstUp o.dst (.c (.v a))) h)) (fun n es h' => bif dstIn H.owns o.dst then sameH h h' (K (dstUp o.dst (.c (.own n es))) h) else none) (fun _ _ => none)
        else onOut (applyV call fv args h) (fun a h' => bif dstIn H.owns o.dst then none else K (dstUp o.dst (.c (.v a))) h') (fun n es h' => bif dstIn H.owns o.dst then K (dstUp o.dst (.c (.own n es))) h' else none) (fun p h' => bif dstIn H.pans o.dst then Kp p h' else none)
    | .invoke _ _ => none)
  | .panic x => (rdA E 0 look x).bind fun a => (match a with
    | .ifc t v => Kp (.ifc t v) h
    | _ => none)
  | _ => none

/- which slots an operation reads and writes; does it look at the heap, or turn it? -/
def tmpsOf : List Operand → List Nat
  | [] => []
  | .tmp t :: r => t :: tmpsOf r
  | _ :: r => tmpsOf r

def basesOf (H : FHint) : List Nat → List Nat
  | [] => []
  | t :: r => match lkN H.base t with | some b => b :: basesOf H r | none => basesOf H r

def guardSlot (ops : Array Oper) (o : Oper) : List Nat :=
  match o.guard with
  | none => []
  | some (j, _) => match ops[j]? with | some p => p.dst.toList | none => []

def fpT (H : FHint) (o : Oper) : List Nat :=
  let l := tmpsOf o.op.operands.toList
  l ++ basesOf H l

def fpR (H : FHint) (ops : Array Oper) (o : Oper) : List Nat := fpT H o ++ guardSlot ops o

def target (H : FHint) : Operand → List Nat
  | .tmp u => [(lkN H.base u).getD u]
  | _ => []

def fpW (H : FHint) (o : Oper) : List Nat :=
  o.dst.toList ++ match o.op with
    | .assign x | .box _ x => tmpsOf [x]
    | .move x => bif dstIn H.tr o.dst then tmpsOf [x] else []
    | .load _ a => bif dstIn H.tr o.dst then target H a else []
    | .store _ a x => target H a ++ tmpsOf [x]
    | .call { callee := .builtin .append, args, .. } => tmpsOf (args.toList.take 1)
    | _ => []

def isHp (H : FHint) : Operand → Bool
  | .tmp u => memN H.hp u
  | _ => false

def hR (H : FHint) (o : Oper) : Bool :=
  match o.op with
  | .load _ a | .store _ a _ => isHp H a
  | .alloc _ | .box _ _ | .makeSlice _ _ _ => dstIn H.hb o.dst
  | .call c => (match c.callee with | .builtin b => isPanicB b || (isApp b && dstIn H.hb o.dst) | _ => true)
  | .panic _ => true
  | _ => false

def hW (H : FHint) (o : Oper) : Bool :=
  match o.op with
  | .load _ a => isHp H a && dstIn H.tr o.dst
  | .store _ a _ => isHp H a
  | .alloc _ | .box _ _ | .makeSlice _ _ _ => dstIn H.hb o.dst
  | .call c => (match c.callee with | .builtin b => isPanicB b || (isApp b && dstIn H.hb o.dst) | _ => !dstIn H.pure o.dst)
  | .panic _ => true
  | _ => false

def isGuard (ops : Array Oper) (i : Nat) : Bool := ops.any fun o => match o.guard with | some (j, _) => Nat.beq j i | none => false

/-- What is a guard of others is told as true, or as false. -/
def splitK {ρ : Type} (b : Bool) (us : List (Nat × Slot)) (K : List (Nat × Slot) → Option ρ) : Option ρ :=
  bif b then (match us with
    | [(t, .c (.v a))] => (boolOf a).bind fun x => bif x then K [(t, .c (.v (.lit (.bool true))))] else K [(t, .c (.v (.lit (.bool false))))]
    | _ => none)
  else K us

/-- The bases of the paths among what turns. -/
def addPb (pb : Nat → Bool) : List (Nat × Slot) → Nat → Bool
  | [] => pb
  | (_, .path t _) :: r => addPb (fun m => bif Nat.beq t m then true else pb m) r
  | _ :: r => addPb pb r

/-- The slot that is written is no base of a path. -/
def freeDst (pb : Nat → Bool) : Option Nat → Bool
  | none => true
  | some d => !pb d

def allIn (W : List Nat) (nt : Nat) : List (Nat × Slot) → Bool
  | [] => true
  | (t, _) :: r => memN W t && Nat.blt t nt && allIn W nt r

def dstLt (nt : Nat) : Option Nat → Bool
  | none => true
  | some d => Nat.blt d nt

def selfOk (o : Oper) : Bool :=
  match o.op with
  | .fieldAddr _ (.tmp u) _ | .nilCheck (.tmp u) => (match o.dst with | some d => !Nat.beq d u | none => true)
  | _ => true

/-- The bases of the paths among what turns are told of. -/
def pathsIn (l : List Nat) : List (Nat × Slot) → Bool
  | [] => true
  | (_, .path t _) :: r => memN l t && pathsIn l r
  | _ :: r => pathsIn l r

def okUs (H : FHint) (pb : Nat → Bool) (nt : Nat) (o : Oper) (us : List (Nat × Slot)) : Bool :=
  freeDst pb o.dst && dstLt nt o.dst && selfOk o && allIn (fpW H o) nt us && pathsIn (fpT H o) us

/-- The slots that an operation may look at. -/
def lookM (H : FHint) (ops : Array Oper) (o : Oper) (st : St) (t : Nat) : Slot := bif memN (fpR H ops o) t then st.s t else .dead

def goK {ρ : Type} (H : FHint) (nt : Nat) (o : Oper) (st : St) (K : St → Option ρ) (h' : Heap) (us : List (Nat × Slot)) : Option ρ :=
  bif okUs H st.pb nt o us then K { s := ups st.s us, h := bif hW H o then h' else st.h, pb := addPb st.pb us } else none

noncomputable def runK {ρ : Type} (E : Env) (H : FHint) (nt : Nat) (call : Nat → List AV → Heap → R) (ops : Array Oper) (i : Nat) (o : Oper) (st : St)
    (K : St → Option ρ) (Kp : AV → Heap → Option ρ) : Option ρ :=
  core E H call o (lookM H ops o st) (bif hR H o then st.h else []) (fun us h' => splitK (isGuard ops i) us (goK H nt o st K h')) Kp

def skipK {ρ : Type} (H : FHint) (nt : Nat) (o : Oper) (st : St) (K : St → Option ρ) : Option ρ :=
  bif okUs H st.pb nt o (dstUp o.dst .und) then K { s := ups st.s (dstUp o.dst .und), h := st.h, pb := st.pb } else none

/-- One operation of a region, with its guard. -/
noncomputable def stepK {ρ : Type} (E : Env) (H : FHint) (nt : Nat) (call : Nat → List AV → Heap → R) (ops : Array Oper) (i : Nat) (o : Oper) (st : St)
    (K : St → Option ρ) (Kp : AV → Heap → Option ρ) : Option ρ :=
  match o.guard with
  | none => runK E H nt call ops i o st K Kp
  | some (_, want) => match guardSlot ops o with
    | [g] => (match lookM H ops o st g with
      | .und => skipK H nt o st K
      | .c (.v a) => (boolOf a).bind fun b => bif b == want then runK E H nt call ops i o st K Kp else skipK H nt o st K
      | _ => none)
    | _ => none

end Go.Sh

/- The shadow of regions, of code, of functions: definitions alone. -/
namespace Go.Sh
open Go
set_option linter.unusedVariables false

/-- The operations of a region, one behind the other. -/
noncomputable def opsK {ρ : Type} (E : Env) (H : FHint) (nt : Nat) (call : Nat → List AV → Heap → R) (ops : Array Oper) : List (Nat × Oper) → St → (St → Option ρ) → (AV → Heap → Option ρ) → Option ρ
  | [], st, K, _ => K st
  | (i, o) :: r, st, K, Kp => stepK E H nt call ops i o st (fun st' => opsK E H nt call ops r st' K Kp) Kp

/-- Behind a panic in a region of open order: what does not hang on it must go through. -/
noncomputable def restK {ρ : Type} (E : Env) (H : FHint) (nt : Nat) (call : Nat → List AV → Heap → R) (ops : Array Oper) (hangs : Nat → Bool) : List (Nat × Oper) → St → Option ρ → Option ρ
  | [], _, x => x
  | (i, o) :: r, st, x => bif hangs i then restK E H nt call ops hangs r st x else stepK E H nt call ops i o st (fun st' => restK E H nt call ops hangs r st' x) (fun _ _ => none)

/-- For each operation a number whose bits are those on which it hangs. -/
def ancOf (acc : List Nat) (o : Oper) : Nat := o.after.toList.foldl (fun s e => bif Region.binds .any e then s ||| 2 ^ e.on ||| acc.getD e.on 0 else s) 0
def ancs : List Oper → List Nat → List Nat
  | [], acc => acc
  | o :: r, acc => ancs r (acc ++ [ancOf acc o])

noncomputable def opsD {ρ : Type} (E : Env) (H : FHint) (nt : Nat) (call : Nat → List AV → Heap → R) (ops : Array Oper) (anc : List Nat) : List (Nat × Oper) → St → (St → Option ρ) → (AV → Heap → Option ρ) → Option ρ
  | [], st, K, _ => K st
  | (i, o) :: r, st, K, Kp => stepK E H nt call ops i o st (fun st' => opsD E H nt call ops anc r st' K Kp)
      (fun a h' => bif hW H o then restK E H nt call ops (fun j => (anc.getD j 0).testBit i) r st (Kp a h') else none)

def disj : List Nat → List Nat → Bool
  | [], _ => true
  | x :: r, l => !memN l x && disj r l

/-- A load that only reads; one that takes a tail over. -/
def plainLd (H : FHint) (o : Oper) : Bool := match o.op with | .load _ _ => !dstIn H.tr o.dst | _ => false
def takeLd (H : FHint) (o : Oper) : Bool := match o.op with | .load _ _ => dstIn H.tr o.dst | _ => false

/-- Two operations that go past each other. -/
def past (H : FHint) (ops : Array Oper) (x y : Oper) : Bool :=
  disj (fpW H x) (fpR H ops y) && disj (fpW H x) (fpW H y) && disj (fpW H y) (fpR H ops x) &&
  (!(hW H x && (hR H y || hW H y)) || (takeLd H x && plainLd H y)) && (!(hW H y && hR H x) || (takeLd H y && plainLd H x))

/-- Each two operations of a region of open order stand in order, or go past each other; what one hangs on stands before it. -/
def drawOk (H : FHint) (ops : Array Oper) (anc : List Nat) : List (Nat × Oper) → Bool
  | [] => true
  | (i, x) :: r => (x.after.toList.all fun e => !Region.binds .any e || Nat.blt e.on i) &&
    (r.all fun (j, y) => !(anc.getD i 0).testBit j && ((anc.getD j 0).testBit i || past H ops x y)) && drawOk H ops anc r

def indexed (ops : Array Oper) : List (Nat × Oper) := ops.toList.zipIdx.map fun p => (p.2, p.1)

inductive Ex where
  | normal
  | exit (i : Nat)
  | ret

/-- Behind a region no path is left. -/
def St.endReg (st : St) : St := { s := fun t => (st.s t).noPath, h := st.h }

/-- Only these slots are told on. -/
def St.keep (l : Option (List Nat)) (st : St) : St :=
  match l with
  | none => st
  | some l => { s := lkS (l.map fun t => (t, (st.s t).norm)), h := st.h }

def loopK {ρ : Type} (body : St → (Ex → St → Option ρ) → Option ρ) : Nat → St → (Ex → St → Option ρ) → Option ρ
  | 0, _, _ => none
  | n + 1, st, K => body st fun e st' => match e with
    | .normal => loopK body n st' K
    | .exit i => K (.exit i) st'
    | .ret => K .ret st'

/-- A gate: it opens, if there are any rounds at all. -/
def gateK {ρ : Type} : Nat → Option ρ → Option ρ
  | 0, _ => none
  | _ + 1, x => x
/-- Behind a region: all slots, or only these, and through a gate. -/
def St.cutK {ρ : Type} (n : Nat) (l : Option (List Nat)) (st : St) (K : St → Option ρ) : Option ρ :=
  match l with
  | none => K st
  | some l => gateK n (K (st.keep (some l)))
theorem cutK_eq {ρ : Type} {n : Nat} {l : Option (List Nat)} {st : St} {K : St → Option ρ} {r : ρ} (h : st.cutK n l K = some r) : K (st.keep l) = some r := by
  cases l with
  | none => exact h
  | some l =>
    cases n with
    | zero => cases h
    | succ n => exact h
theorem cutK_mono {ρ : Type} {n n' : Nat} (hn : n ≤ n') {l : Option (List Nat)} {st : St} {K : St → Option ρ} {r : ρ} (h : st.cutK n l K = some r) : st.cutK n' l K = some r := by
  cases l with
  | none => exact h
  | some l =>
    cases n with
    | zero => cases h
    | succ n =>
      cases n' with
      | zero => omega
      | succ n' => exact h
theorem cutK_bind {ρ σ : Type} {n : Nat} {l : Option (List Nat)} {st : St} {K : St → Option σ} {f : σ → Option ρ} : (st.cutK n l K).bind f = st.cutK n l fun s => (K s).bind f := by
  cases l with
  | none => rfl
  | some l =>
    cases n with
    | zero => rfl
    | succ n => rfl

noncomputable def evC {ρ : Type} (E : Env) (H : FHint) (nt : Nat) (call : Nat → List AV → Heap → R) (n : Nat) : Code → Nat → St → (Ex → St → Option ρ) → (AV → Heap → Option ρ) → Option ρ
  | .skip, _, st, K, _ => K .normal st
  | .region id ops draw, _, st, K, Kp =>
    bif draw then
      bif drawOk H ops (ancs ops.toList []) (indexed ops) then opsD E H nt call ops (ancs ops.toList []) (indexed ops) st (fun st' => st'.endReg.cutK n (lkN H.keepR id) (K .normal)) Kp else none
    else opsK E H nt call ops (indexed ops) st (fun st' => st'.endReg.cutK n (lkN H.keepR id) (K .normal)) Kp
  | .seq a b, bi, st, K, Kp => evC E H nt call n a bi st (fun e st' => match e with
      | .normal => evC E H nt call n b bi st' K Kp
      | .exit i => K (.exit i) st'
      | .ret => K .ret st') Kp
  | .cond c x y, bi, st, K, Kp => (rdA E 0 st.s c).bind fun a => (boolOf a).bind fun t =>
      bif t then evC E H nt call n x bi st K Kp else evC E H nt call n y bi st K Kp
  | .block i c, _, st, K, Kp => evC E H nt call n c i st (fun e st' => match e with
      | .normal => K .normal (st'.keep (lkN H.keep i))
      | .exit j => bif Nat.beq j i then K .normal (st'.keep (lkN H.keep i)) else K (.exit j) st'
      | .ret => K .ret st') Kp
  | .loop c, bi, st, K, Kp => loopK (fun st K => evC E H nt call n c bi st (fun e st' => match e with
      | .normal => K .normal (st'.keep (lkN H.keep bi))
      | .exit i => K (.exit i) st'
      | .ret => K .ret st') Kp) n (st.keep (lkN H.keep bi)) K
  | .exit i, _, st, K, _ => K (.exit i) st
  | .ret, _, st, K, _ => K .ret st
  | _, _, _, _, _ => none

/-- All references into the heap lie below 'n'. -/
inductive AV.lt (n : Nat) : AV → Prop
  | lit (v : Value) : AV.lt n (.lit v)
  | agg {cs : List AV} (h : ∀ a ∈ cs, AV.lt n a) : AV.lt n (.agg cs)
  | tup {vs : List AV} (h : ∀ a ∈ vs, AV.lt n a) : AV.lt n (.tup vs)
  | sl (m : Nat) {es : List (List AV)} (h : ∀ e ∈ es, ∀ a ∈ e, AV.lt n a) : AV.lt n (.sl m es)
  | hp {i : Nat} (off : Nat) (h : i < n) : AV.lt n (.hp i off)
  | hs (m : Nat) {i : Nat} (off len : Nat) (h : i < n) : AV.lt n (.hs m i off len)
  | ro {cs : List AV} (h : ∀ a ∈ cs, AV.lt n a) : AV.lt n (.ro cs)
  | fn (f : FuncId) {first caps : List AV} (h : ∀ a ∈ first, AV.lt n a) (h' : ∀ a ∈ caps, AV.lt n a) : AV.lt n (.fn f first caps)
  | ifc (t : TypeId) {a : AV} (h : AV.lt n a) : AV.lt n (.ifc t a)
  | dead : AV.lt n .dead

def Out.lt (n : Nat) : Out → Prop
  | .ret a => a.lt n
  | .own _ es => ∀ e ∈ es, ∀ a ∈ e, a.lt n
  | .pan a => a.lt n

def Heap.lt (n : Nat) (h : Heap) : Prop := ∀ cs ∈ h, ∀ c ∈ cs, c.get.lt n

mutual
def ltA (n : Nat) : AV → Bool
  | .lit _ => true
  | .agg cs => ltL n cs
  | .tup vs => ltL n vs
  | .sl _ es => ltE n es
  | .hp i _ => Nat.blt i n
  | .hs _ i _ _ => Nat.blt i n
  | .ro cs => ltL n cs
  | .fn _ first caps => ltL n first && ltL n caps
  | .ifc _ a => ltA n a
  | .dead => true
def ltL (n : Nat) : List AV → Bool
  | [] => true
  | a :: r => ltA n a && ltL n r
def ltE (n : Nat) : List (List AV) → Bool
  | [] => true
  | x :: r => ltL n x && ltE n r
end
def ltO (n : Nat) : Out → Bool
  | .ret a => ltA n a
  | .own _ es => ltE n es
  | .pan a => ltA n a
def ltC (n : Nat) : List Cell → Bool
  | [] => true
  | c :: r => ltA n c.get && ltC n r
def ltH (n : Nat) : Heap → Bool
  | [] => true
  | cs :: r => ltC n cs && ltH n r
mutual
theorem ltA_ok {n : Nat} : ∀ {a : AV}, ltA n a = true → AV.lt n a
  | .lit v, _ => .lit v
  | .agg cs, h => .agg (ltL_ok (by simpa only [ltA] using h))
  | .tup vs, h => .tup (ltL_ok (by simpa only [ltA] using h))
  | .sl m es, h => .sl m (ltE_ok (by simpa only [ltA] using h))
  | .hp i off, h => .hp off (by rw [ltA, Nat.blt_eq] at h; exact h)
  | .hs m i off len, h => .hs m off len (by rw [ltA, Nat.blt_eq] at h; exact h)
  | .ro cs, h => .ro (ltL_ok (by simpa only [ltA] using h))
  | .fn f first caps, h => by
    rw [ltA, Bool.and_eq_true] at h
    exact .fn f (ltL_ok h.1) (ltL_ok h.2)
  | .ifc t a, h => .ifc t (ltA_ok (by simpa only [ltA] using h))
  | .dead, _ => .dead
theorem ltL_ok {n : Nat} : ∀ {l : List AV}, ltL n l = true → ∀ a ∈ l, AV.lt n a
  | [], _, a, ha => by cases ha
  | x :: r, h, a, ha => by
    rw [ltL, Bool.and_eq_true] at h
    rcases List.mem_cons.1 ha with e | e
    · rw [e]; exact ltA_ok h.1
    · exact ltL_ok h.2 a e
theorem ltE_ok {n : Nat} : ∀ {l : List (List AV)}, ltE n l = true → ∀ e ∈ l, ∀ a ∈ e, AV.lt n a
  | [], _, a, ha => by cases ha
  | x :: r, h, a, ha => by
    rw [ltE, Bool.and_eq_true] at h
    rcases List.mem_cons.1 ha with e | e
    · rw [e]; exact ltL_ok h.1
    · exact ltE_ok h.2 a e
end
theorem ltO_ok {n : Nat} : ∀ {o : Out}, ltO n o = true → o.lt n
  | .ret a, h => ltA_ok h
  | .own _ es, h => ltE_ok h
  | .pan a, h => ltA_ok h
theorem ltC_ok {n : Nat} : ∀ {l : List Cell}, ltC n l = true → ∀ c ∈ l, c.get.lt n
  | [], _, a, ha => by cases ha
  | x :: r, h, a, ha => by
    rw [ltC, Bool.and_eq_true] at h
    rcases List.mem_cons.1 ha with e | e
    · rw [e]; exact ltA_ok h.1
    · exact ltC_ok h.2 a e
theorem ltH_ok {n : Nat} : ∀ {h : Heap}, ltH n h = true → Heap.lt n h
  | [], _, a, ha => by cases ha
  | x :: r, h, a, ha => by
    rw [ltH, Bool.and_eq_true] at h
    rcases List.mem_cons.1 ha with e | e
    · rw [e]; exact ltC_ok h.1
    · exact ltH_ok h.2 a e

open Classical in
/-- What a function made in the heap goes when it ends. First by computing; else by what is known. -/
noncomputable def trunc (H : FHint) (h : Heap) (out : Out) (h' : Heap) : R :=
  bif H.hb.isEmpty || H.esc then some (out, h')
  else bif ltO h.length out && Nat.ble h.length h'.length && ltH h.length (h'.take h.length) then some (out, h'.take h.length)
  else if out.lt h.length ∧ h.length ≤ h'.length ∧ (h'.take h.length = h ∨ Heap.lt h.length (h'.take h.length)) then some (out, h'.take h.length) else none

theorem trunc_cases {H : FHint} {h h' : Heap} {out : Out} {r : Out × Heap} (hb : (H.hb.isEmpty || H.esc) = false) (ht : trunc H h out h' = some r) : r = (out, h'.take h.length) ∧ out.lt h.length ∧ h.length ≤ h'.length ∧ (h'.take h.length = h ∨ Heap.lt h.length (h'.take h.length)) := by
  unfold trunc at ht
  rw [hb] at ht
  simp only [cond_false] at ht
  cases hc : ltO h.length out && Nat.ble h.length h'.length && ltH h.length (h'.take h.length) with
  | true =>
    rw [hc] at ht
    simp only [Bool.and_eq_true] at hc
    exact ⟨(Option.some.inj ht).symm, ltO_ok hc.1.1, Nat.le_of_ble_eq_true hc.1.2, .inr (ltH_ok hc.2)⟩
  | false =>
    rw [hc] at ht
    simp only [cond_false] at ht
    split at ht
    · rename_i hh
      exact ⟨(Option.some.inj ht).symm, hh⟩
    · cases ht
theorem trunc_of {H : FHint} {h h' : Heap} {out : Out} (hb : (H.hb.isEmpty || H.esc) = false) (hh : out.lt h.length ∧ h.length ≤ h'.length ∧ (h'.take h.length = h ∨ Heap.lt h.length (h'.take h.length))) : trunc H h out h' = some (out, h'.take h.length) := by
  unfold trunc
  rw [hb, if_pos hh]
  simp only [cond_false]
  cases ltO h.length out && Nat.ble h.length h'.length && ltH h.length (h'.take h.length) <;> rfl

mutual
/-- Slices that lie in the part of the heap that goes: read out. -/
def resA (k : Nat) (h : Heap) : AV → AV
  | .hs n i off len => bif Nat.ble k i then (match h[i]? with
    | some cs => bif !cs.isEmpty && Nat.ble (off + len * n) cs.length then .sl n (chunks n len (((cs.map Cell.get).drop off).take (len * n))) else .hs n i off len
    | none => .hs n i off len) else .hs n i off len
  | .agg cs => .agg (resL k h cs)
  | .tup vs => .tup (resL k h vs)
  | .lit v => .lit v
  | .sl n es => .sl n es
  | .hp i off => .hp i off
  | .ro cs => .ro cs
  | .fn f a b => .fn f a b
  | .ifc t a => .ifc t a
  | .dead => .dead
def resL (k : Nat) (h : Heap) : List AV → List AV
  | [] => []
  | a :: r => resA k h a :: resL k h r
end
/-- What a function hands out, behind its end. -/
noncomputable def truncR (H : FHint) (h : Heap) (a : AV) (h' : Heap) : R :=
  bif H.res && !(H.hb.isEmpty || H.esc) then trunc H h (.ret (resA h.length h' a)) h' else trunc H h (.ret a) h'

def rdRes (E : Env) (st : St) : ResultVar → Option AV
  | .tmp t => (st.s t).av
  | .cell a T => (E.ty T).bind fun i => (placeOf st.s (.tmp a)).bind fun p => match p with
    | .loc t off => (match st.s t with
      | .loc cs => partA i.agg i.size off (cs.map Cell.get)
      | _ => none)
    | .heap j off => hpart i.agg i.size off j st.h
    | .ro _ => none

def rdRess (E : Env) (st : St) : List ResultVar → Option (List AV)
  | [] => some []
  | x :: r => (rdRes E st x).bind fun a => (rdRess E st r).bind fun l => some (a :: l)

noncomputable def finish (E : Env) (H : FHint) (fn : Func) (h : Heap) (st : St) : R :=
  match fn.results.toList with
  | [x] =>
    bif H.own then match x with
      | .tmp t => (match st.s t with
        | .c (.own n es) => trunc H h (.own n es) st.h
        | .c (.nil n) => trunc H h (.own n []) st.h
        | _ => none)
      | _ => none
    else (rdRes E st x).bind fun a => truncR H h a st.h
  | l => (rdRess E st l).bind fun as => truncR H h (.tup as) st.h

def argSlots : Nat → List AV → List (Nat × Slot)
  | _, [] => []
  | i, a :: r => (i, .c (.v a)) :: argSlots (i + 1) r

/-- A call of a function: what comes out, and the heap behind it. -/
noncomputable def ev (E : Env) : Nat → Nat → List AV → Heap → R
  | 0, _, _, _ => none
  | k + 1, f, args, h =>
    match E.prim f with
    | some p => p (ev E k) args h
    | none => match E.code f with
      | none => none
      | some fn => match fn.body with
        | none => none
        | some c => bif Nat.ble args.length fn.ntmps then
            evC E (E.hint f) fn.ntmps (ev E k) k c 0 { s := lkS (argSlots 0 args), h := h }
              (fun e st => match e with
                | .exit _ => none
                | _ => finish E (E.hint f) fn h st)
              (fun a h' => trunc (E.hint f) h (.pan a) h')
          else none

end Go.Sh

/- What a shadow says of memory: the relation between plain values and the machine's, and what keeps it. -/
namespace Go.Sh
open Go

inductive Owner where
  | none
  | sl (d i : Nat)
  | sc (d i c : Nat)
  | hb (i : Nat)
  | hc (i c : Nat)
  deriving DecidableEq

/-- What is told of memory beside what lies in it: how many cells of a block no one will write any more; whose a block is; the blocks of the heap. -/
structure Gh where
  S : Nat → Nat
  O : Nat → Owner
  μ : List Nat

def row? (w : World) (b o m : Nat) : Option (List Value) :=
  match w.heap[b]? with
  | some (.cells arr _ _) => if o + m ≤ arr.size then some ((arr.toList.drop o).take m) else none
  | _ => none

/-- How many cells a block has. -/
def szB (w : World) (b : Nat) : Nat := match w.heap[b]? with | some (.cells arr _ _) => arr.size | _ => 0
theorem szB_block {w : World} {b : Nat} {arr : Array Value} {T : TypeId} {fz : Nat × Nat} (h : w.heap[b]? = some (.cells arr T fz)) : szB w b = arr.size := by simp [szB, h]
theorem szB_le {w w' : World} {b : Nat} (h : ∀ arr T fz, w.heap[b]? = some (.cells arr T fz) → ∃ arr' T' fz', w'.heap[b]? = some (.cells arr' T' fz') ∧ arr.size ≤ arr'.size) : szB w b ≤ szB w' b := by
  unfold szB
  split
  · rename_i arr T fz e
    obtain ⟨arr', T', fz', e', hl⟩ := h _ _ _ e
    rw [e']; exact hl
  · exact Nat.zero_le _
theorem szB_same {w w' : World} {b : Nat} (h : w'.heap[b]? = w.heap[b]?) : szB w b ≤ szB w' b := by unfold szB; rw [h]; exact Nat.le_refl _

def scalar : Value → Bool
  | .bool _ | .int _ _ | .string _ | .pointer _ | .map _ | .nilIface | .nilFunc | .func (.yield _) _ _ | .slice _ _ _ => true
  | _ => false

mutual
inductive RepA (S : Nat → Nat) (w : World) (μ : List Nat) : AV → Value → Prop
  | lit {v : Value} (h : scalar v = true) : RepA S w μ (.lit v) v
  | agg {cs : List AV} {arr : Array Value} (h : RepC S w μ cs arr.toList) : RepA S w μ (.agg cs) (.agg arr)
  | tup {vs : List AV} {arr : Array Value} (h : RepL S w μ vs arr.toList) : RepA S w μ (.tup vs) (.tuple arr)
  | slN (n : Nat) : RepA S w μ (.sl n []) (.slice none 0 0)
  | slE (n : Nat) (a : Addr) : RepA S w μ (.sl n []) (.slice (some a) 0 0)
  | sl {n : Nat} {es : List (List AV)} {b o cap : Nat} {vals : List Value} (hc : es.length ≤ cap) (hr : row? w b o es.flatten.length = some vals)
      (hv : RepC S w μ es.flatten vals) (hs : o + es.flatten.length ≤ S b) (hn : ∀ e ∈ es, e.length = n) : RepA S w μ (.sl n es) (.slice (some ⟨b, o, none⟩) es.length cap)
  | hp {i b : Nat} (off : Nat) (h : μ[i]? = some b) : RepA S w μ (.hp i off) (.pointer (some ⟨b, off, none⟩))
  | hs {n i b : Nat} (off len cap : Nat) (h : μ[i]? = some b) (hc : len ≤ cap) (hz : off + cap * n ≤ szB w b) : RepA S w μ (.hs n i off len) (.slice (some ⟨b, off, none⟩) len cap)
  | ro {cs : List AV} {b o : Nat} {vals : List Value} (hr : row? w b o cs.length = some vals) (hv : RepC S w μ cs vals) (hs : o + cs.length ≤ S b) :
      RepA S w μ (.ro cs) (.pointer (some ⟨b, o, none⟩))
  | fn {f : FuncId} {first caps : List AV} {fv cv : Array Value} (h : RepL S w μ first fv.toList) (h' : RepL S w μ caps cv.toList) :
      RepA S w μ (.fn f first caps) (.func (.func f) fv cv)
  | ifc {t : TypeId} {a : AV} {v : Value} (h : RepA S w μ a v) : RepA S w μ (.ifc t a) (.iface t v)
  | dead (v : Value) : RepA S w μ .dead v
inductive RepL (S : Nat → Nat) (w : World) (μ : List Nat) : List AV → List Value → Prop
  | nil : RepL S w μ [] []
  | cons {a : AV} {l : List AV} {v : Value} {m : List Value} (h : RepA S w μ a v) (t : RepL S w μ l m) : RepL S w μ (a :: l) (v :: m)
inductive RepC (S : Nat → Nat) (w : World) (μ : List Nat) : List AV → List Value → Prop
  | nil : RepC S w μ [] []
  | cons {a : AV} {l : List AV} {v : Value} {m : List Value} (h : RepA S w μ a v) (o : v.oneCell' = true) (t : RepC S w μ l m) : RepC S w μ (a :: l) (v :: m)
end

/-- Later: what was sealed is as it was, and the heap's blocks are those. -/
structure Ext (S : Nat → Nat) (w : World) (μ : List Nat) (S' : Nat → Nat) (w' : World) (μ' : List Nat) : Prop where
  le : ∀ b, S b ≤ S' b
  row : ∀ b o m vals, o + m ≤ S b → row? w b o m = some vals → row? w' b o m = some vals
  mu : ∀ (i b : Nat), μ[i]? = some b → μ'[i]? = some b
  sz : ∀ b, szB w b ≤ szB w' b

theorem Ext.refl (S : Nat → Nat) (w : World) (μ : List Nat) : Ext S w μ S w μ := ⟨fun _ => Nat.le_refl _, fun _ _ _ _ _ h => h, fun _ _ h => h, fun _ => Nat.le_refl _⟩

theorem Ext.trans {S S' S'' : Nat → Nat} {w w' w'' : World} {μ μ' μ'' : List Nat} (h : Ext S w μ S' w' μ') (k : Ext S' w' μ' S'' w'' μ'') : Ext S w μ S'' w'' μ'' :=
  ⟨fun b => Nat.le_trans (h.le b) (k.le b), fun b o m vals hs hr => k.row b o m vals (Nat.le_trans hs (h.le b)) (h.row b o m vals hs hr), fun i b hi => k.mu i b (h.mu i b hi), fun b => Nat.le_trans (h.sz b) (k.sz b)⟩

section
variable {S S' : Nat → Nat} {w w' : World} {μ μ' : List Nat}

mutual
theorem RepA.mono (x : Ext S w μ S' w' μ') {a : AV} {v : Value} : RepA S w μ a v → RepA S' w' μ' a v
  | .lit h => .lit h
  | .agg h => .agg (RepC.mono x h)
  | .tup h => .tup (RepL.mono x h)
  | .slN n => .slN n
  | .slE n a => .slE n a
  | .sl hc hr hv hs hn => .sl hc (x.row _ _ _ _ hs hr) (RepC.mono x hv) (Nat.le_trans hs (x.le _)) hn
  | .hp off h => .hp off (x.mu _ _ h)
  | .hs off len cap h hc hz => .hs off len cap (x.mu _ _ h) hc (Nat.le_trans hz (x.sz _))
  | .ro hr hv hs => .ro (x.row _ _ _ _ hs hr) (RepC.mono x hv) (Nat.le_trans hs (x.le _))
  | .fn h h' => .fn (RepL.mono x h) (RepL.mono x h')
  | .ifc h => .ifc (RepA.mono x h)
  | .dead v => .dead v
theorem RepL.mono (x : Ext S w μ S' w' μ') {l : List AV} {m : List Value} : RepL S w μ l m → RepL S' w' μ' l m
  | .nil => .nil
  | .cons h t => .cons (RepA.mono x h) (RepL.mono x t)
theorem RepC.mono (x : Ext S w μ S' w' μ') {l : List AV} {m : List Value} : RepC S w μ l m → RepC S' w' μ' l m
  | .nil => .nil
  | .cons h o t => .cons (RepA.mono x h) o (RepC.mono x t)
end

theorem RepC.length {l : List AV} {m : List Value} (h : RepC S w μ l m) : l.length = m.length := by
  induction l generalizing m with
  | nil => cases h; rfl
  | cons a l ih => cases h with | cons h o t => simp [ih t]

theorem RepL.length {l : List AV} {m : List Value} (h : RepL S w μ l m) : l.length = m.length := by
  induction l generalizing m with
  | nil => cases h; rfl
  | cons a l ih => cases h with | cons h t => simp [ih t]

theorem RepC.get {l : List AV} {m : List Value} (h : RepC S w μ l m) {i : Nat} {a : AV} (ha : l[i]? = some a) :
    ∃ v, m[i]? = some v ∧ RepA S w μ a v ∧ v.oneCell' = true := by
  induction l generalizing m i with
  | nil => simp at ha
  | cons b l ih =>
    cases h with
    | cons h o t =>
      cases i with
      | zero => simp at ha; subst ha; exact ⟨_, rfl, h, o⟩
      | succ i => simpa using ih t (by simpa using ha)

theorem RepL.get {l : List AV} {m : List Value} (h : RepL S w μ l m) {i : Nat} {a : AV} (ha : l[i]? = some a) :
    ∃ v, m[i]? = some v ∧ RepA S w μ a v := by
  induction l generalizing m i with
  | nil => simp at ha
  | cons b l ih =>
    cases h with
    | cons h t =>
      cases i with
      | zero => simp at ha; subst ha; exact ⟨_, rfl, h⟩
      | succ i => simpa using ih t (by simpa using ha)

theorem RepC.append {l l' : List AV} {m m' : List Value} (h : RepC S w μ l m) (h' : RepC S w μ l' m') : RepC S w μ (l ++ l') (m ++ m') := by
  induction l generalizing m with
  | nil => cases h; exact h'
  | cons a l ih => cases h with | cons h o t => exact .cons h o (ih t)

theorem RepL.append {l l' : List AV} {m m' : List Value} (h : RepL S w μ l m) (h' : RepL S w μ l' m') : RepL S w μ (l ++ l') (m ++ m') := by
  induction l generalizing m with
  | nil => cases h; exact h'
  | cons a l ih => cases h with | cons h t => exact .cons h (ih t)

theorem RepC.drop {l : List AV} {m : List Value} (h : RepC S w μ l m) (k : Nat) : RepC S w μ (l.drop k) (m.drop k) := by
  induction l generalizing m k with
  | nil => cases h; simp; exact .nil
  | cons a l ih =>
    cases h with
    | cons h o t =>
      cases k with
      | zero => exact .cons h o t
      | succ k => simpa using ih t k

theorem RepC.take {l : List AV} {m : List Value} (h : RepC S w μ l m) (k : Nat) : RepC S w μ (l.take k) (m.take k) := by
  induction l generalizing m k with
  | nil => cases h; simp; exact .nil
  | cons a l ih =>
    cases h with
    | cons h o t =>
      cases k with
      | zero => simp; exact .nil
      | succ k => simpa using RepC.cons h o (ih t k)
end

/-- What lies in one cell, of which 'p' is the owner where it has a tail of its own. -/
def RepCell (G : Gh) (w : World) (p : Owner) : Cell → Value → Prop
  | .v a, x => RepA G.S w G.μ a x
  | .nil _, x => x = .slice none 0 0
  | .own n es, x => (x = .slice none 0 0 ∧ es = []) ∨ ∃ b cap arr T, x = .slice (some ⟨b, 0, none⟩) es.length cap ∧ G.O b = p ∧ w.heap[b]? = some (.cells arr T (0, 0)) ∧
      arr.size = cap * n ∧ es.length ≤ cap ∧ G.S b = es.flatten.length ∧ RepC G.S w G.μ es.flatten (arr.toList.take es.flatten.length) ∧ ∀ e ∈ es, e.length = n

def RepBox (G : Gh) (w : World) (pf : Nat → Owner) (cs : List Cell) (arr : Array Value) : Prop :=
  cs.length = arr.size ∧ ∀ (i : Nat) c, cs[i]? = some c → ∃ x, arr[i]? = some x ∧ RepCell G w (pf i) c x ∧ x.oneCell' = true

def Cell.free : Cell → Bool
  | .own _ _ => false
  | _ => true

def RepSlot (G : Gh) (w : World) (d i : Nat) : Slot → Value → Prop
  | .c x, v => RepCell G w (.sl d i) x v
  | .ag cs, v => ∃ arr, v = .agg arr ∧ cs.all Cell.free = true ∧ RepBox G w (fun _ => .none) cs arr
  | .loc cs, v => ∃ b arr T, v = .pointer (some ⟨b, 0, none⟩) ∧ G.O b = .sl d i ∧ w.heap[b]? = some (.cells arr T (0, 0)) ∧ G.S b = 0 ∧ RepBox G w (.sc d i) cs arr
  | .path _ _, _ => True
  | .und, v => v = undef
  | .dead, _ => True

/-- A box of which the last cells may hold whatever. -/
def RepTail (G : Gh) (w : World) (pf : Nat → Owner) (cs : List Cell) (arr : Array Value) : Prop :=
  cs.length ≤ arr.size ∧ ∀ (i : Nat) c, cs[i]? = some c → ∃ x, arr[i]? = some x ∧ RepCell G w (pf i) c x ∧ x.oneCell' = true
def numC (l : List Int) : List AV := l.map fun n => .lit (.int .i64 n)
/-- The package-level variables that are read hold what they held. -/
def GlobsOk (G : Gh) (w : World) : Prop := ∀ g l, globs g = some l → RepA G.S w G.μ (.ro (numC l)) (.pointer (some ⟨g, 0, none⟩))
def RepHeap (G : Gh) (w : World) (h : Heap) : Prop :=
  G.μ.length = h.length ∧ (∀ (i : Nat) cs, h[i]? = some cs → cs ≠ [] → ∃ b arr T, G.μ[i]? = some b ∧ G.O b = .hb i ∧ w.heap[b]? = some (.cells arr T (0, 0)) ∧ G.S b = 0 ∧ RepTail G w (.hc i) cs arr) ∧ GlobsOk G w

/-- What was sealed lies within its block. -/
def Within (G : Gh) (w : World) : Prop := ∀ b, G.S b ≠ 0 → ∃ arr T fz, w.heap[b]? = some (.cells arr T fz) ∧ G.S b ≤ arr.size

structure RepSt (d : Nat) (G : Gh) (w : World) (st : St) (tmps : Array Value) : Prop where
  slot : ∀ i, RepSlot G w d i (st.s i) (tmps.getD i undef)
  path : ∀ u t off, st.s u = .path t off → st.pb t = true ∧ ∃ b, tmps.getD u undef = .pointer (some ⟨b, off, none⟩) ∧ tmps.getD t undef = .pointer (some ⟨b, 0, none⟩)
  heap : RepHeap G w st.h
  within : Within G w

/-- Block 'b' is as it was, and whose it was. -/
def SameB (G : Gh) (w : World) (G' : Gh) (w' : World) (b : Nat) : Prop := w'.heap[b]? = w.heap[b]? ∧ G'.S b = G.S b ∧ G'.O b = G.O b

theorem row_of_same {w w' : World} {b : Nat} (h : w'.heap[b]? = w.heap[b]?) (o m : Nat) : row? w' b o m = row? w b o m := by simp [row?, h]

section
variable {G G' : Gh} {w w' : World}

theorem RepCell.mono (x : Ext G.S w G.μ G'.S w' G'.μ) {p : Owner} (hs : ∀ b, G.O b = p → SameB G w G' w' b) {c : Cell} {v : Value} (h : RepCell G w p c v) : RepCell G' w' p c v := by
  cases c with
  | v a => exact RepA.mono x h
  | nil n => exact h
  | own n es =>
    rcases h with h | ⟨b, cap, arr, T, hv, ho, hh, ha, hc, hS, hr, hn⟩
    · exact .inl h
    · obtain ⟨h1, h2, h3⟩ := hs b ho
      exact .inr ⟨b, cap, arr, T, hv, h3.trans ho, h1.trans hh, ha, hc, h2.trans hS, hr.mono x, hn⟩

theorem RepBox.mono (x : Ext G.S w G.μ G'.S w' G'.μ) {pf : Nat → Owner} (hs : ∀ i b, G.O b = pf i → SameB G w G' w' b) {cs : List Cell} {arr : Array Value} (h : RepBox G w pf cs arr) : RepBox G' w' pf cs arr :=
  ⟨h.1, fun i c hc => let ⟨v, hv, hr, ho⟩ := h.2 i c hc; ⟨v, hv, hr.mono x (hs i), ho⟩⟩

theorem RepCell.free_mono (x : Ext G.S w G.μ G'.S w' G'.μ) {p q : Owner} {c : Cell} {v : Value} (hf : c.free = true) (h : RepCell G w p c v) : RepCell G' w' q c v := by
  cases c with
  | v a => exact RepA.mono x h
  | nil n => exact h
  | own n es => simp [Cell.free] at hf

theorem RepBox.free_mono (x : Ext G.S w G.μ G'.S w' G'.μ) {pf qf : Nat → Owner} {cs : List Cell} {arr : Array Value} (hf : cs.all Cell.free = true) (h : RepBox G w pf cs arr) : RepBox G' w' qf cs arr :=
  ⟨h.1, fun i c hc => let ⟨v, hv, hr, ho⟩ := h.2 i c hc; ⟨v, hv, hr.free_mono x (List.all_eq_true.1 hf c (List.mem_of_getElem? hc)), ho⟩⟩

theorem RepSlot.mono (x : Ext G.S w G.μ G'.S w' G'.μ) {d i : Nat} (hs : ∀ b, G.O b = .sl d i → SameB G w G' w' b) (hs' : ∀ c b, G.O b = .sc d i c → SameB G w G' w' b)
    {s : Slot} {v : Value} (h : RepSlot G w d i s v) : RepSlot G' w' d i s v := by
  cases s with
  | c c => exact RepCell.mono x hs h
  | ag cs => obtain ⟨arr, hv, hf, hb⟩ := h; exact ⟨arr, hv, hf, hb.free_mono x hf⟩
  | loc cs =>
    obtain ⟨b, arr, T, hv, ho, hh, hS, hb⟩ := h
    obtain ⟨h1, h2, h3⟩ := hs b ho
    exact ⟨b, arr, T, hv, h3.trans ho, h1.trans hh, h2.trans hS, hb.mono x hs'⟩
  | path t o => trivial
  | und => exact h
  | dead => trivial

theorem RepTail.mono (x : Ext G.S w G.μ G'.S w' G'.μ) {pf : Nat → Owner} (hs : ∀ i b, G.O b = pf i → SameB G w G' w' b) {cs : List Cell} {arr : Array Value} (h : RepTail G w pf cs arr) : RepTail G' w' pf cs arr :=
  ⟨h.1, fun i c hc => let ⟨v, hv, hr, ho⟩ := h.2 i c hc; ⟨v, hv, hr.mono x (hs i), ho⟩⟩
theorem RepTail.len {pf : Nat → Owner} {cs : List Cell} {arr : Array Value} (h : RepTail G w pf cs arr) : cs.length ≤ arr.size := h.1
theorem RepTail.get {pf : Nat → Owner} {cs : List Cell} {arr : Array Value} (h : RepTail G w pf cs arr) {i : Nat} {c : Cell} (hc : cs[i]? = some c) : ∃ x, arr[i]? = some x ∧ RepCell G w (pf i) c x ∧ x.oneCell' = true := h.2 i c hc
theorem RepBox.tail {pf : Nat → Owner} {cs : List Cell} {arr : Array Value} (h : RepBox G w pf cs arr) : RepTail G w pf cs arr := ⟨Nat.le_of_eq h.1, h.2⟩
theorem RepHeap.mono (x : Ext G.S w G.μ G'.S w' G'.μ) (hμ : G'.μ = G.μ) (hs : ∀ i b, G.O b = .hb i → SameB G w G' w' b) (hs' : ∀ i c b, G.O b = .hc i c → SameB G w G' w' b)
    {h : Heap} (r : RepHeap G w h) : RepHeap G' w' h := by
  refine ⟨by rw [hμ]; exact r.1, fun i cs hi hne => ?_, fun g l e => RepA.mono x (r.2.2 g l e)⟩
  obtain ⟨b, arr, T, h1, h2, h3, h4, h5⟩ := r.2.1 i cs hi hne
  obtain ⟨e1, e2, e3⟩ := hs i b h2
  exact ⟨b, arr, T, by rw [hμ]; exact h1, e3.trans h2, e1.trans h3, e2.trans h4, h5.mono x (fun c => hs' i c)⟩
end

theorem lt_of_heap {w : World} {b : Nat} {o : Obj} (h : w.heap[b]? = some o) : b < w.heap.size := by
  rcases Nat.lt_or_ge b w.heap.size with hb | hb
  · exact hb
  · rw [Array.getElem?_eq_none hb] at h; simp at h

section
variable {G G' : Gh} {w w' : World}

theorem RepCell.mono' (x : Ext G.S w G.μ G'.S w' G'.μ) {p : Owner} (hs : ∀ b, b < w.heap.size → G.O b = p → SameB G w G' w' b) {c : Cell} {v : Value} (h : RepCell G w p c v) : RepCell G' w' p c v := by
  cases c with
  | v a => exact RepA.mono x h
  | nil n => exact h
  | own n es =>
    rcases h with h | ⟨b, cap, arr, T, hv, ho, hh, ha, hc, hS, hr, hn⟩
    · exact .inl h
    · obtain ⟨h1, h2, h3⟩ := hs b (lt_of_heap hh) ho
      exact .inr ⟨b, cap, arr, T, hv, h3.trans ho, h1.trans hh, ha, hc, h2.trans hS, hr.mono x, hn⟩

theorem RepBox.mono' (x : Ext G.S w G.μ G'.S w' G'.μ) {pf : Nat → Owner} (hs : ∀ i b, b < w.heap.size → G.O b = pf i → SameB G w G' w' b) {cs : List Cell} {arr : Array Value} (h : RepBox G w pf cs arr) : RepBox G' w' pf cs arr :=
  ⟨h.1, fun i c hc => let ⟨v, hv, hr, ho⟩ := h.2 i c hc; ⟨v, hv, hr.mono' x (hs i), ho⟩⟩

theorem RepTail.mono' (x : Ext G.S w G.μ G'.S w' G'.μ) {pf : Nat → Owner} (hs : ∀ i b, b < w.heap.size → G.O b = pf i → SameB G w G' w' b) {cs : List Cell} {arr : Array Value} (h : RepTail G w pf cs arr) : RepTail G' w' pf cs arr :=
  ⟨h.1, fun i c hc => let ⟨v, hv, hr, ho⟩ := h.2 i c hc; ⟨v, hv, hr.mono' x (hs i), ho⟩⟩
theorem RepSlot.mono' (x : Ext G.S w G.μ G'.S w' G'.μ) {d i : Nat} (hs : ∀ b, b < w.heap.size → G.O b = .sl d i → SameB G w G' w' b) (hs' : ∀ c b, b < w.heap.size → G.O b = .sc d i c → SameB G w G' w' b)
    {s : Slot} {v : Value} (h : RepSlot G w d i s v) : RepSlot G' w' d i s v := by
  cases s with
  | c c => exact RepCell.mono' x hs h
  | ag cs => obtain ⟨arr, hv, hf, hb⟩ := h; exact ⟨arr, hv, hf, hb.free_mono x hf⟩
  | loc cs =>
    obtain ⟨b, arr, T, hv, ho, hh, hS, hb⟩ := h
    obtain ⟨h1, h2, h3⟩ := hs b (lt_of_heap hh) ho
    exact ⟨b, arr, T, hv, h3.trans ho, h1.trans hh, h2.trans hS, hb.mono' x hs'⟩
  | path t o => trivial
  | und => exact h
  | dead => trivial

theorem RepHeap.mono' (x : Ext G.S w G.μ G'.S w' G'.μ) (hμ : G'.μ = G.μ) (hs : ∀ i b, b < w.heap.size → G.O b = .hb i → SameB G w G' w' b) (hs' : ∀ i c b, b < w.heap.size → G.O b = .hc i c → SameB G w G' w' b)
    {h : Heap} (r : RepHeap G w h) : RepHeap G' w' h := by
  refine ⟨by rw [hμ]; exact r.1, fun i cs hi hne => ?_, fun g l e => RepA.mono x (r.2.2 g l e)⟩
  obtain ⟨b, arr, T, h1, h2, h3, h4, h5⟩ := r.2.1 i cs hi hne
  obtain ⟨e1, e2, e3⟩ := hs i b (lt_of_heap h3) h2
  exact ⟨b, arr, T, by rw [hμ]; exact h1, e3.trans h2, e1.trans h3, e2.trans h4, h5.mono' x (fun c => hs' i c)⟩
end

end Go.Sh

/- What allocation and stores do to the relation; how a state is told on. -/
namespace Go.Sh
open Go

def getT (tmps : Array Value) (i : Nat) : Value := tmps.getD i undef

def putT (tmps : Array Value) (dst : Option Nat) (v : Value) : Array Value :=
  match dst with
  | some t => tmps.setIfInBounds t v
  | none => tmps

theorem putT_size (tmps : Array Value) (dst : Option Nat) (v : Value) : (putT tmps dst v).size = tmps.size := by
  cases dst <;> simp [putT]

theorem getD_put (tmps : Array Value) (t : Nat) (v : Value) (i : Nat) (h : t < tmps.size) : (tmps.setIfInBounds t v).getD i undef = if i = t then v else tmps.getD i undef := by
  simp only [Array.getD_eq_getD_getElem?, Array.getElem?_setIfInBounds]
  by_cases e : i = t
  · subst e; simp [h]
  · have e' : ¬ t = i := fun h' => e h'.symm
    simp [e, e']

/- a row in memory -/
theorem row?_lt {w : World} {b o m : Nat} {vals : List Value} (h : row? w b o m = some vals) : b < w.heap.size := by
  unfold row? at h
  rcases Nat.lt_or_ge b w.heap.size with hb | hb
  · exact hb
  · rw [Array.getElem?_eq_none hb] at h; simp at h

theorem row?_len {w : World} {b o m : Nat} {vals : List Value} (h : row? w b o m = some vals) : vals.length = m := by
  unfold row? at h
  split at h
  · split at h
    · simp only [Option.some.injEq] at h; subst h; simp; omega
    · simp at h
  · simp at h

theorem row?_cell {w : World} {b o m : Nat} {vals : List Value} (h : row? w b o m = some vals) {j : Nat} {v : Value} (hj : vals[j]? = some v) :
    w.cell? ⟨b, o + j, none⟩ = some v := by
  unfold row? at h
  split at h
  · rename_i arr T fz hh
    split at h
    · simp only [Option.some.injEq] at h; subst h
      have hjm : j < m := by
        rcases Nat.lt_or_ge j m with h' | h'
        · exact h'
        · rw [List.getElem?_eq_none (by simp; omega)] at hj; simp at hj
      simp [World.cell?, hh]
      simpa [List.getElem?_take, hjm, List.getElem?_drop] using hj
    · simp at h
  · simp at h

theorem row?_sub {w : World} {b o m : Nat} {vals : List Value} (h : row? w b o m = some vals) (k n : Nat) (hk : k + n ≤ m) :
    row? w b (o + k) n = some ((vals.drop k).take n) := by
  unfold row? at h ⊢
  split at h
  · rename_i arr T fz hh
    split at h
    · simp only [Option.some.injEq] at h; subst h
      rw [if_pos (by omega)]
      simp only [Option.some.injEq]
      rw [List.drop_take, List.drop_drop, List.take_take]
      congr 1
      omega
    · simp at h
  · simp at h

theorem row?_of_block {w : World} {b : Nat} {arr : Array Value} {T : TypeId} {fz : Nat × Nat} (h : w.heap[b]? = some (.cells arr T fz)) (o m : Nat) (hm : o + m ≤ arr.size) :
    row? w b o m = some ((arr.toList.drop o).take m) := by
  unfold row?; rw [h]; simp [hm]

theorem heap_alloc_old (w : World) (x : Obj) {b : Nat} {y : Obj} (h : w.heap[b]? = some y) : (w.alloc x).heap[b]? = some y := by
  have hb : b < w.heap.size := by
    rcases Nat.lt_or_ge b w.heap.size with hb | hb
    · exact hb
    · rw [Array.getElem?_eq_none hb] at h; simp at h
  show (w.heap.push x)[b]? = _
  rw [Array.getElem?_push, if_neg (by omega)]; exact h

theorem heap_alloc_lt (w : World) (x : Obj) {b : Nat} (hb : b < w.heap.size) : (w.alloc x).heap[b]? = w.heap[b]? := by
  show (w.heap.push x)[b]? = _
  rw [Array.getElem?_push, if_neg (by omega)]

theorem heap_alloc_new (w : World) (x : Obj) : (w.alloc x).heap[w.heap.size]? = some x := by
  show (w.heap.push x)[w.heap.size]? = _
  simp

theorem size_alloc (w : World) (x : Obj) : (w.alloc x).heap.size = w.heap.size + 1 := by
  show (w.heap.push x).size = _
  simp

theorem row?_alloc (w : World) (x : Obj) {b o m : Nat} {vals : List Value} (h : row? w b o m = some vals) : row? (w.alloc x) b o m = some vals := by
  have hb := row?_lt h
  rw [← h]; exact row_of_same (heap_alloc_lt w x hb) o m

/- stores -/
def spliceV (l : List Value) (o : Nat) (vs : List Value) : List Value := l.take o ++ vs ++ l.drop (o + vs.length)

theorem spliceV_length {l : List Value} {o : Nat} {vs : List Value} (h : o + vs.length ≤ l.length) : (spliceV l o vs).length = l.length := by
  simp [spliceV]; omega

theorem spliceV_take {l : List Value} {o : Nat} {vs : List Value} (h : o + vs.length ≤ l.length) (k : Nat) (hk : k ≤ o) : (spliceV l o vs).take k = l.take k := by
  unfold spliceV
  rw [List.append_assoc, List.take_append_of_le_length (by simp; omega), List.take_take, Nat.min_eq_left hk]

theorem spliceV_get {l : List Value} {o : Nat} {vs : List Value} (h : o + vs.length ≤ l.length) (j : Nat) :
    (spliceV l o vs)[j]? = if j < o then l[j]? else if j < o + vs.length then vs[j - o]? else l[j]? := by
  unfold spliceV
  have l2 : (List.take o l).length = o := by simp; omega
  split
  · rename_i hj
    rw [List.append_assoc, List.getElem?_append_left (by omega), List.getElem?_take, if_pos hj]
  · rename_i hj
    rw [List.append_assoc, List.getElem?_append_right (by omega), l2]
    split
    · rw [List.getElem?_append_left (by omega)]
    · rw [List.getElem?_append_right (by omega), List.getElem?_drop]
      congr 1
      omega

theorem heap_setCell (w : World) (b o : Nat) (v : Value) {arr : Array Value} {T : TypeId} {fz : Nat × Nat} (h : w.heap[b]? = some (.cells arr T fz)) :
    (w.setCell ⟨b, o, none⟩ v).heap[b]? = some (.cells (arr.setIfInBounds o v) T fz) := by
  simp [World.setCell, Array.getElem?_modify, h]

theorem heap_setCell_other (w : World) (b o : Nat) (v : Value) {c : Nat} (h : c ≠ b) : (w.setCell ⟨b, o, none⟩ v).heap[c]? = w.heap[c]? := by
  simp only [World.setCell, Array.getElem?_modify]
  rw [if_neg (by exact fun e => h e.symm)]

theorem heap_setCells_other (b : Nat) : ∀ (vs : List Value) (o : Nat) (w : World) {c : Nat}, c ≠ b → (w.setCells b o vs).heap[c]? = w.heap[c]?
  | [], _, _, _, _ => rfl
  | v :: r, o, w, c, h => by rw [World.setCells, heap_setCells_other b r (o + 1) _ h, heap_setCell_other _ _ _ _ h]

theorem size_setCells (b : Nat) : ∀ (vs : List Value) (o : Nat) (w : World), (w.setCells b o vs).heap.size = w.heap.size
  | [], _, _ => rfl
  | v :: r, o, w => by rw [World.setCells, size_setCells b r]; simp [World.setCell]

theorem same_setCells (b : Nat) : ∀ (vs : List Value) (o : Nat) (w : World), (w.setCells b o vs).os = w.os ∧ (w.setCells b o vs).tape = w.tape ∧ (w.setCells b o vs).output = w.output
  | [], _, _ => ⟨rfl, rfl, rfl⟩
  | v :: r, o, w => by rw [World.setCells]; exact same_setCells b r (o + 1) _

theorem heap_setCells (b : Nat) {T : TypeId} {fz : Nat × Nat} : ∀ (vs : List Value) (o : Nat) (w : World) (arr : Array Value), w.heap[b]? = some (.cells arr T fz) → o + vs.length ≤ arr.size →
    ∃ arr', (w.setCells b o vs).heap[b]? = some (.cells arr' T fz) ∧ arr'.toList = spliceV arr.toList o vs ∧ arr'.size = arr.size
  | [], o, w, arr, h, _ => ⟨arr, h, by simp [spliceV], rfl⟩
  | v :: r, o, w, arr, h, hl => by
    simp only [List.length_cons] at hl
    obtain ⟨arr', h1, h2, h3⟩ := heap_setCells b r (o + 1) (w.setCell ⟨b, o, none⟩ v) _ (heap_setCell w b o v h) (by simp; omega)
    refine ⟨arr', h1, ?_, by simpa using h3⟩
    rw [h2]
    apply List.ext_getElem?
    intro j
    rw [spliceV_get (by simp; omega), spliceV_get (by simp; omega)]
    simp only [Array.toList_setIfInBounds, List.length_cons]
    by_cases h1 : j < o
    · rw [if_pos (by omega), if_pos h1, List.getElem?_set_ne (by omega)]
    · rw [if_neg h1]
      by_cases h2 : j = o
      · subst h2
        rw [if_pos (by omega), if_pos (by omega), List.getElem?_set_self (by simp; omega)]
        simp
      · rw [if_neg (by omega)]
        by_cases h3 : j < o + 1 + r.length
        · rw [if_pos h3, if_pos (by omega)]
          have : j - o = (j - (o + 1)) + 1 := by omega
          rw [this, List.getElem?_cons_succ]
        · rw [if_neg h3, if_neg (by omega), List.getElem?_set_ne (by omega)]

theorem cell?_block {w : World} {b : Nat} {arr : Array Value} {T : TypeId} {fz : Nat × Nat} (h : w.heap[b]? = some (.cells arr T fz)) (o : Nat) : w.cell? ⟨b, o, none⟩ = arr[o]? := by
  simp [World.cell?, h]

theorem frozen?_block {w : World} {b : Nat} {arr : Array Value} {T : TypeId} (h : w.heap[b]? = some (.cells arr T (0, 0))) (o : Nat) : w.frozen? ⟨b, o, none⟩ = false := by
  simp [World.frozen?, h]

theorem there_block {w : World} {b : Nat} {arr : Array Value} {T : TypeId} (h : w.heap[b]? = some (.cells arr T (0, 0))) (o n : Nat) (hn : o + n ≤ arr.size) : w.there b o n := by
  intro j hj
  refine ⟨?_, frozen?_block h _⟩
  rw [cell?_block h, Array.getElem?_eq_getElem (by omega)]
  rfl

/-- Cells of a block that no one has sealed are written: what is sealed stands. -/
theorem ext_setCells {S : Nat → Nat} {w : World} {μ : List Nat} {b o : Nat} {vs : List Value} {arr : Array Value} {T : TypeId} {fz : Nat × Nat} (h : w.heap[b]? = some (.cells arr T fz)) (hl : o + vs.length ≤ arr.size)
    (hS : S b ≤ o) : Ext S w μ S (w.setCells b o vs) μ := by
  refine ⟨fun _ => Nat.le_refl _, fun c o' m vals hs hr => ?_, fun _ _ h => h, fun c => ?_⟩
  rotate_left
  · by_cases e : c = b
    · subst e
      obtain ⟨arr', h1, h2, h3⟩ := heap_setCells c vs o w arr h hl
      rw [szB_block h, szB_block h1]; omega
    · exact szB_same (heap_setCells_other b vs o w e)
  by_cases e : c = b
  · subst e
    obtain ⟨arr', h1, h2, h3⟩ := heap_setCells c vs o w arr h hl
    have hm : o' + m ≤ arr.size := by
      unfold row? at hr; rw [h] at hr; simp at hr; exact hr.1
    rw [row?_of_block h o' m hm] at hr
    rw [row?_of_block h1 o' m (by omega), h2, ← hr]
    congr 1
    have hl' : o + vs.length ≤ arr.toList.length := by simpa using hl
    apply List.ext_getElem?
    intro j
    rw [List.getElem?_take, List.getElem?_take]
    split
    · rw [List.getElem?_drop, List.getElem?_drop, spliceV_get hl', if_pos (by omega)]
    · rfl
  · rw [← hr]; exact row_of_same (heap_setCells_other b vs o w e) o' m

end Go.Sh

/- What is handed on is handed on: each step's continuations may be taken later. -/
namespace Go.Sh
open Go

abbrev CR := (List (Nat × Slot) × Heap) ⊕ (AV × Heap)

def elimC {ρ : Type} (K : List (Nat × Slot) → Heap → Option ρ) (Kp : AV → Heap → Option ρ) : CR → Option ρ
  | .inl p => K p.1 p.2
  | .inr p => Kp p.1 p.2

def kD : List (Nat × Slot) → Heap → Option CR := fun us h => some (.inl (us, h))
def kpD : AV → Heap → Option CR := fun a h => some (.inr (a, h))

section
variable {ρ : Type} {K : List (Nat × Slot) → Heap → Option ρ} {Kp : AV → Heap → Option ρ}

theorem kD_bind (us : List (Nat × Slot)) (h : Heap) : K us h = (kD us h).bind (elimC K Kp) := rfl
theorem kpD_bind (a : AV) (h : Heap) : Kp a h = (kpD a h).bind (elimC K Kp) := rfl
theorem none_bind : (none : Option ρ) = (none : Option CR).bind (elimC K Kp) := rfl

theorem bindK {α : Type} {x : Option α} {f : α → Option ρ} {g : α → Option CR} {k : CR → Option ρ} (h : ∀ a, x = some a → f a = (g a).bind k) : x.bind f = (x.bind g).bind k := by
  cases x with
  | none => rfl
  | some a => exact h a rfl

theorem condK {c : Bool} {a b : Option ρ} {a' b' : Option CR} {k : CR → Option ρ} (h : a = a'.bind k) (h' : b = b'.bind k) : (bif c then a else b) = (bif c then a' else b').bind k := by
  cases c with
  | true => exact h
  | false => exact h'

theorem explode_bind (i : TI) (a : AV) {K1 : List Cell → Option ρ} {K2 : List Cell → Option CR} {k : CR → Option ρ} (h : ∀ l, K1 l = (K2 l).bind k) : explodeK i a K1 = (explodeK i a K2).bind k := by
  unfold explodeK
  refine condK (bindK fun l _ => condK (h _) rfl) (condK (h _) rfl)

theorem take_bind (i : TI) (s : Slot) (src : Operand) {K1 : List Cell → List (Nat × Slot) → Option ρ} {K2 : List Cell → List (Nat × Slot) → Option CR} {k : CR → Option ρ} (h : ∀ l us, K1 l us = (K2 l us).bind k) :
    takeK i s src K1 = (takeK i s src K2).bind k := by
  unfold takeK
  cases s with
  | c c =>
    cases c with
    | v a => exact explode_bind i a fun l => h _ _
    | nil n => exact condK rfl (condK (h _ _) rfl)
    | own n es =>
      refine condK rfl ?_
      cases src <;> first | exact condK (h _ _) rfl | rfl
  | ag cs => exact condK (h _ _) rfl
  | _ => rfl

theorem parts_bind (E : Env) (place : Nat → Option (Nat × TypeId)) (look : Nat → Slot) {K1 : List Cell → Option ρ} {K2 : List Cell → Option CR} {k : CR → Option ρ} (h : ∀ l, K1 l = (K2 l).bind k) :
    ∀ (l : List (Nat × Operand)) (cs : List Cell), partsK E place look l cs K1 = (partsK E place look l cs K2).bind k
  | [], cs => h cs
  | (j, x) :: r, cs => by
    unfold partsK
    refine bindK fun p _ => bindK fun i _ => bindK fun s _ => ?_
    have hx : ∀ s' : Slot, (s'.av.bind fun a => explodeK i a fun l => (splice cs p.1 l).bind fun cs' => partsK E place look r cs' K1) = (s'.av.bind fun a => explodeK i a fun l => (splice cs p.1 l).bind fun cs' => partsK E place look r cs' K2).bind k :=
      fun s' => bindK fun a _ => explode_bind i a fun l => bindK fun cs' _ => parts_bind E place look h r cs'
    cases s with
    | c c =>
      cases c with
      | v a => exact hx _
      | nil n => exact bindK fun cs' _ => condK rfl (parts_bind E place look h r cs')
      | own n es => exact hx _
    | _ => exact hx _

theorem onOut_bind (r : R) {k1 : AV → Heap → Option ρ} {k2 : Nat → List (List AV) → Heap → Option ρ} {k3 : AV → Heap → Option ρ} {g1 : AV → Heap → Option CR} {g2 : Nat → List (List AV) → Heap → Option CR} {g3 : AV → Heap → Option CR} {k : CR → Option ρ}
    (h1 : ∀ a h, k1 a h = (g1 a h).bind k) (h2 : ∀ n es h, k2 n es h = (g2 n es h).bind k) (h3 : ∀ a h, k3 a h = (g3 a h).bind k) : onOut r k1 k2 k3 = (onOut r g1 g2 g3).bind k := by
  unfold onOut
  refine bindK fun p _ => ?_
  cases p.1 with
  | ret a => exact h1 _ _
  | own n es => exact h2 _ _ _
  | pan a => exact h3 _ _

theorem sameH_bind (h h' : Heap) {a : Option ρ} {b : Option CR} {k : CR → Option ρ} (e : a = b.bind k) : sameH h h' a = (sameH h h' b).bind k := by
  unfold sameH
  split
  · exact e
  · rfl

theorem builtin_bind (E : Env) (b : Builtin) (d : Option Nat) (args : List Operand) (ts : List TypeId) (look : Nat → Slot) (h : Heap) :
    builtinK E b d args ts look h K Kp = (builtinK E b d args ts look h kD kpD).bind (elimC K Kp) := by
  unfold builtinK
  split
  · exact bindK fun _ _ => bindK fun _ _ => rfl
  · refine bindK fun n _ => condK (bindK fun b _ => bindK fun ys _ => bindK fun s _ => ?_) rfl
    split
    · exact condK rfl rfl
    · split
      · exact condK rfl rfl
      · rfl
    · rfl
  · exact bindK fun _ _ => bindK fun _ _ => bindK fun _ _ => rfl
  · exact bindK fun _ _ => bindK fun _ _ => bindK fun _ _ => rfl
  · refine bindK fun a _ => ?_
    split <;> rfl
  · rfl

theorem appendH_bind (E : Env) (d : Option Nat) (args : List Operand) (ts : List TypeId) (look : Nat → Slot) (h : Heap) :
    appendH E d args ts look h K = (appendH E d args ts look h kD).bind (elimC K Kp) := by
  unfold appendH
  split
  · refine bindK fun n _ => condK (bindK fun b _ => bindK fun ys _ => ?_) rfl
    split
    · exact condK rfl rfl
    · exact condK rfl rfl
    · exact condK (bindK fun cs _ => condK rfl rfl) rfl
    · rfl
  · rfl
theorem core_bind (E : Env) (H : FHint) (call : Nat → List AV → Heap → R) (o : Oper) (look : Nat → Slot) (h : Heap) :
    core E H call o look h K Kp = (core E H call o look h kD kpD).bind (elimC K Kp) := by
  unfold core
  split
  · refine condK ?_ (bindK fun s _ => ?_)
    · split
      · split <;> rfl
      · rfl
    · split
      · rfl
      · exact bindK fun _ _ => rfl
  · refine bindK fun s _ => ?_
    split
    · split <;> rfl
    · rfl
    · rfl
    · rfl
  · exact bindK fun _ _ => bindK fun _ _ => condK (bindK fun _ _ => rfl) (bindK fun _ _ => rfl)
  · refine bindK fun i _ => ?_
    split
    · exact condK rfl rfl
    · rfl
  · refine bindK fun i _ => bindK fun s _ => take_bind i s _ fun cs us => ?_
    split
    · exact condK rfl rfl
    · rfl
  · refine bindK fun i _ => bindK fun p _ => condK ?_ ?_
    · split
      · split
        · split
          · exact condK rfl rfl
          · rfl
        · rfl
      · exact bindK fun _ _ => condK rfl rfl
      · rfl
    · split
      · split
        · exact bindK fun _ _ => rfl
        · rfl
      · exact condK (bindK fun _ _ => bindK fun _ _ => rfl) (bindK fun _ _ => rfl)
      · exact bindK fun _ _ => rfl
  · refine condK rfl (bindK fun i _ => bindK fun s _ => take_bind i s _ fun cs us => bindK fun p _ => ?_)
    split
    · split
      · exact bindK fun _ _ => rfl
      · rfl
    · exact bindK fun _ _ => rfl
    · rfl
  · refine bindK fun q _ => condK rfl (bindK fun p _ => ?_)
    split
    · rfl
    · rfl
    · exact condK rfl rfl
  · split
    · split <;> rfl
    · rfl
  · refine bindK fun i _ => ?_
    split
    · refine bindK fun j _ => bindK fun a _ => bindK fun b _ => bindK fun n _ => bindK fun m _ => ?_
      split
      · exact condK rfl rfl
      · rfl
    · rfl
  · split
    · refine bindK fun ti _ => ?_
      split
      · exact bindK fun _ _ => bindK fun _ _ => bindK fun _ _ => bindK fun _ _ => condK rfl rfl
      · rfl
    · exact bindK fun _ _ => condK (bindK fun _ _ => bindK fun _ _ => bindK fun _ _ => rfl) (bindK fun _ _ => bindK fun _ _ => bindK fun _ _ => rfl)
  · exact condK (bindK fun _ _ => bindK fun _ _ => bindK fun _ _ => rfl) rfl
  · exact bindK fun _ _ => bindK fun _ _ => bindK fun _ _ => rfl
  · exact bindK fun _ _ => bindK fun _ _ => bindK fun _ _ => bindK fun _ _ => rfl
  · exact bindK fun _ _ => bindK fun _ _ => bindK fun _ _ => rfl
  · exact bindK fun _ _ => bindK fun _ _ => rfl
  · exact bindK fun _ _ => bindK fun _ _ => rfl
  · refine bindK fun i _ => ?_
    split
    · rfl
    · exact bindK fun _ _ => rfl
  · exact bindK fun _ _ => bindK fun _ _ => rfl
  · exact bindK fun _ _ => bindK fun _ _ => bindK fun _ _ => bindK fun _ _ => rfl
  · refine bindK fun i _ => ?_
    split
    · refine condK ?_ rfl
      refine parts_bind E _ look ?_ _ _
      intro _; rfl
    · rfl
  · refine bindK fun i _ => ?_
    split
    · refine bindK fun j _ => condK ?_ rfl
      refine parts_bind E _ look ?_ _ _
      intro _; rfl
    · rfl
  · split
    · exact condK (appendH_bind E _ _ _ look h) (builtin_bind E _ _ _ _ look h)
    · refine bindK fun fv _ => bindK fun args _ => condK ?_ ?_
      · exact onOut_bind _ (fun _ _ => condK rfl (sameH_bind _ _ rfl)) (fun _ _ _ => condK (sameH_bind _ _ rfl) rfl) (fun _ _ => rfl)
      · exact onOut_bind _ (fun _ _ => condK rfl rfl) (fun _ _ _ => condK rfl rfl) (fun _ _ => condK rfl rfl)
    · rfl
  · refine bindK fun a _ => ?_
    split <;> rfl
  · rfl
end

/-- What a step comes to. -/
abbrev SR := St ⊕ (AV × Heap)

def elimS {ρ : Type} (K : St → Option ρ) (Kp : AV → Heap → Option ρ) : SR → Option ρ
  | .inl st => K st
  | .inr p => Kp p.1 p.2

noncomputable def stepD (E : Env) (H : FHint) (nt : Nat) (call : Nat → List AV → Heap → R) (ops : Array Oper) (i : Nat) (o : Oper) (st : St) : Option SR :=
  stepK E H nt call ops i o st (fun st => some (.inl st)) (fun a h => some (.inr (a, h)))


theorem split_bind {ρ σ : Type} {k : σ → Option ρ} (b : Bool) (us : List (Nat × Slot)) {K1 : List (Nat × Slot) → Option ρ} {K2 : List (Nat × Slot) → Option σ} (h : ∀ us, K1 us = (K2 us).bind k) : splitK b us K1 = (splitK b us K2).bind k := by
  unfold splitK
  cases b with
  | false => exact h us
  | true =>
    simp only [cond_true]
    split
    · rename_i t a
      cases boolOf a with
      | none => rfl
      | some x => cases x <;> exact h _
    · rfl

section
variable {ρ : Type} {K : St → Option ρ} {Kp : AV → Heap → Option ρ}

theorem run_bindS (E : Env) (H : FHint) (nt : Nat) (call : Nat → List AV → Heap → R) (ops : Array Oper) (i : Nat) (o : Oper) (st : St) :
    runK E H nt call ops i o st K Kp = (runK E H nt call ops i o st (fun st => some (.inl st)) (fun a h => some (.inr (a, h)))).bind (elimS K Kp) := by
  unfold runK
  rw [core_bind, core_bind (ρ := SR)]
  cases core E H call o (lookM H ops o st) (bif hR H o then st.h else []) kD kpD with
  | none => rfl
  | some c =>
    cases c with
    | inr p => rfl
    | inl p =>
      simp only [Option.bind_some, elimC]
      refine split_bind _ _ fun us => ?_
      unfold goK
      cases okUs H st.pb nt o us <;> rfl

theorem skip_bindS (H : FHint) (nt : Nat) (o : Oper) (st : St) : skipK H nt o st K = (skipK H nt o st (fun st => some (.inl st))).bind (elimS K Kp) := by
  unfold skipK
  cases okUs H st.pb nt o (dstUp o.dst .und) <;> rfl

theorem step_bind (E : Env) (H : FHint) (nt : Nat) (call : Nat → List AV → Heap → R) (ops : Array Oper) (i : Nat) (o : Oper) (st : St) :
    stepK E H nt call ops i o st K Kp = (stepD E H nt call ops i o st).bind (elimS K Kp) := by
  unfold stepD stepK
  split
  · exact run_bindS E H nt call ops i o st
  · split
    · split
      · exact skip_bindS H nt o st
      · rename_i g a _
        cases boolOf a with
        | none => rfl
        | some b =>
          simp only [Option.bind_some]
          cases b == _ with
          | true => exact run_bindS E H nt call ops i o st
          | false => exact skip_bindS H nt o st
      · rfl
    · rfl
end

end Go.Sh

/- What operands read as; the frame of a call; how a state goes on. -/
namespace Go.Sh
open Go

theorem beqF {a b : Nat} (h : a ≠ b) : Nat.beq a b = false := by
  cases e : Nat.beq a b with
  | false => rfl
  | true => exact absurd (Nat.eq_of_beq_eq_true e) h

def Cell.conc : Cell → Value
  | .v (.lit x) => x
  | .nil _ => .slice none 0 0
  | _ => undef

def Cell.plain : Cell → Bool
  | .v (.lit x) => scalar x
  | .nil _ => true
  | _ => false

/-- What the table says of a type is so. -/
structure TyOk (P : Program) (t : TypeId) (i : TI) : Prop where
  und : P.underlying t = some i.desc
  info : ∃ ti z, P.info? t = some ti ∧ ti.size = i.size ∧ ti.bytes = i.bytes ∧ ti.zero = some z ∧ z.cells.toList = i.zero.map Cell.conc ∧ i.zero.all Cell.plain = true ∧ (i.agg = true → z = .agg z.cells) ∧ i.zero.length = i.size

structure Env.Ok (E : Env) : Prop where
  code : ∀ f fn, E.code f = some fn → E.P.funcs[f]? = some fn
  ent : ∀ f, (E.code f).isSome = true ∨ (E.prim f).isSome = true → ∃ fn, E.P.funcs[f]? = some fn ∧ (fn.name == "runtime.NumGoroutine") = false ∧ fn.body.isSome = true
  ty : ∀ t i, E.ty t = some i → TyOk E.P t i
  eqs : ∀ t, memN E.eqs t = true → E.P.stoodInHeld t = false ∧ E.P.eqGuardType E.P.depth t = false
  mixed : E.P.follows .mixedOrders = true

/-- Blocks of others: of frames further out, of nobody. -/
def quiet (d : Nat) : Owner → Bool
  | .none => true
  | .sl d' _ | .sc d' _ _ => Nat.blt d' d
  | .hb _ | .hc _ _ => false

structure Fr (d : Nat) (G0 : Gh) (w0 : World) (G : Gh) (w : World) : Prop where
  os : w.os = w0.os
  tape : w.tape = w0.tape
  output : w.output = w0.output
  size : w0.heap.size ≤ w.heap.size
  ext : Ext G0.S w0 G0.μ G.S w G.μ
  same : ∀ b, b < w0.heap.size → quiet d (G0.O b) = true → SameB G0 w0 G w b

theorem Fr.refl (d : Nat) (G : Gh) (w : World) : Fr d G w G w := ⟨rfl, rfl, rfl, Nat.le_refl _, Ext.refl _ _ _, fun _ _ _ => ⟨rfl, rfl, rfl⟩⟩

theorem Fr.trans {d : Nat} {G0 G1 G2 : Gh} {w0 w1 w2 : World} (h : Fr d G0 w0 G1 w1) (k : Fr d G1 w1 G2 w2) : Fr d G0 w0 G2 w2 :=
  ⟨k.os.trans h.os, k.tape.trans h.tape, k.output.trans h.output, Nat.le_trans h.size k.size, h.ext.trans k.ext, fun b hb hq => by
    obtain ⟨a1, a2, a3⟩ := h.same b hb hq
    obtain ⟨b1, b2, b3⟩ := k.same b (Nat.lt_of_lt_of_le hb h.size) (by rw [a3]; exact hq)
    exact ⟨b1.trans a1, b2.trans a2, b3.trans a3⟩⟩

theorem quiet_succ {d : Nat} {o : Owner} (h : quiet d o = true) : quiet (d + 1) o = true := by
  cases o with
  | none => rfl
  | sl d' i => simp only [quiet, Nat.blt_eq] at *; omega
  | sc d' i c => simp only [quiet, Nat.blt_eq] at *; omega
  | hb i => exact h
  | hc i c => exact h

theorem Fr.inner {d : Nat} {G0 G : Gh} {w0 w : World} (h : Fr (d + 1) G0 w0 G w) : Fr d G0 w0 G w :=
  ⟨h.os, h.tape, h.output, h.size, h.ext, fun b hb hq => h.same b hb (quiet_succ hq)⟩

section
variable {E : Env} {G : Gh} {w : World} {d : Nat}

theorem RepCell.get {p : Owner} {c : Cell} {x : Value} (h : RepCell G w p c x) : RepA G.S w G.μ c.get x := by
  cases c with
  | v a => exact h
  | nil n => rw [show x = .slice none 0 0 from h]; exact .slN n
  | own n es =>
    rcases h with ⟨rfl, rfl⟩ | ⟨b, cap, arr, T, rfl, _, hh, ha, hc, hS, hr, hn⟩
    · exact .slN n
    · have hl := hr.length
      have hlen : es.flatten.length ≤ arr.size := by
        rw [List.length_take] at hl
        have : arr.toList.length = arr.size := Array.length_toList
        omega
      exact .sl hc (row?_of_block hh 0 _ (by omega)) hr (by omega) hn

theorem RepTail.gets {pf : Nat → Owner} {cs : List Cell} {arr : Array Value} (h : RepTail G w pf cs arr) : RepC G.S w G.μ (cs.map Cell.get) (arr.toList.take cs.length) := by
  have hl := h.len
  have key : ∀ (cs : List Cell) (l : List Value), cs.length ≤ l.length → (∀ (i : Nat) c, cs[i]? = some c → ∃ x, l[i]? = some x ∧ RepA G.S w G.μ c.get x ∧ x.oneCell' = true) → RepC G.S w G.μ (cs.map Cell.get) (l.take cs.length) := by
    intro cs
    induction cs with
    | nil => intro l hl _; simp; exact .nil
    | cons c cs ih =>
      intro l hl hg
      cases l with
      | nil => simp at hl
      | cons x l =>
        obtain ⟨x', hx, hr, ho⟩ := hg 0 c rfl
        simp at hx; subst hx
        exact .cons hr ho (ih l (by simpa using hl) (fun i c hc => by simpa using hg (i + 1) c (by simpa using hc)))
  refine key cs arr.toList (by simpa using hl) fun i c hc => ?_
  obtain ⟨x, hx, hr, ho⟩ := h.get hc
  exact ⟨x, by simpa using hx, hr.get, ho⟩

theorem RepBox.gets {pf : Nat → Owner} {cs : List Cell} {arr : Array Value} (h : RepBox G w pf cs arr) : RepC G.S w G.μ (cs.map Cell.get) arr.toList := by
  obtain ⟨hl, hg⟩ := h
  have key : ∀ (cs : List Cell) (l : List Value), cs.length = l.length → (∀ (i : Nat) c, cs[i]? = some c → ∃ x, l[i]? = some x ∧ RepA G.S w G.μ c.get x ∧ x.oneCell' = true) → RepC G.S w G.μ (cs.map Cell.get) l := by
    intro cs
    induction cs with
    | nil => intro l hl _; cases l with
      | nil => exact .nil
      | cons => simp at hl
    | cons c cs ih =>
      intro l hl hg
      cases l with
      | nil => simp at hl
      | cons x l =>
        obtain ⟨x', hx, hr, ho⟩ := hg 0 c rfl
        simp at hx; subst hx
        exact .cons hr ho (ih l (by simpa using hl) (fun i c hc => by simpa using hg (i + 1) c (by simpa using hc)))
  refine key cs arr.toList (by simpa using hl) fun i c hc => ?_
  obtain ⟨x, hx, hr, ho⟩ := hg i c hc
  exact ⟨x, by simpa using hx, hr.get, ho⟩

theorem RepSlot.av {i : Nat} {s : Slot} {v : Value} {a : AV} (h : RepSlot G w d i s v) (ha : s.av = some a) : RepA G.S w G.μ a v := by
  cases s with
  | c c => simp only [Slot.av, Option.some.injEq] at ha; subst ha; exact h.get
  | ag cs =>
    simp only [Slot.av, Option.some.injEq] at ha; subst ha
    obtain ⟨arr, rfl, _, hb⟩ := h
    exact .agg hb.gets
  | _ => simp [Slot.av] at ha

theorem plain_repC {S : Nat → Nat} {μ : List Nat} : ∀ {l : List Value}, l.all plainV = true → RepC S w μ (l.map .lit) l
  | [], _ => .nil
  | v :: l, h => by
    rw [List.all_cons, Bool.and_eq_true] at h
    refine .cons (.lit ?_) ?_ (plain_repC h.2)
    · have := h.1
      unfold plainV at this
      split at this <;> first | rfl | cases this
    · have := h.1
      unfold plainV at this
      split at this <;> first | rfl | cases this

theorem constS_rep {T : TypeId} {v : Value} {s : Slot} (h : constS E T v = some s) (i : Nat) : RepSlot G w d i s v := by
  unfold constS at h
  split at h <;> first
    | (simp only [Option.some.injEq] at h; subst h; exact RepA.lit rfl)
    | (simp only [Option.map_eq_some_iff] at h; obtain ⟨n, _, rfl⟩ := h; rfl)
    | skip
  · rename_i arr
    cases e : arr.toList.all plainV with
    | false => rw [e] at h; cases h
    | true =>
      rw [e] at h
      cases h
      exact RepA.agg (plain_repC e)
  · cases h

/-- The look at slots is no more than what is so. -/
def LookOk (G : Gh) (w : World) (d : Nat) (look : Nat → Slot) (tmps : Array Value) : Prop := ∀ t, RepSlot G w d t (look t) (tmps.getD t undef)

theorem rdS_rep {T : TypeId} {look : Nat → Slot} {x : Operand} {s : Slot} {a : Act} (hl : LookOk G w d look a.tmps) (h : rdS E T look x = some s) :
    ∃ i, RepSlot G w d i s (a.eval x) ∧ (∀ t, x = .tmp t → i = t ∧ s = look t) := by
  cases x with
  | tmp t => simp only [rdS, Option.some.injEq] at h; subst h; exact ⟨t, hl t, fun t' e => by cases e; exact ⟨rfl, rfl⟩⟩
  | const v => exact ⟨0, constS_rep h 0, fun t e => by cases e⟩
  | global g => simp [rdS] at h
  | func f => simp only [rdS, Option.some.injEq] at h; subst h; exact ⟨0, RepA.fn .nil .nil, fun t e => by cases e⟩

theorem rdA_rep {T : TypeId} {look : Nat → Slot} {x : Operand} {v : AV} {a : Act} (hl : LookOk G w d look a.tmps) (h : rdA E T look x = some v) : RepA G.S w G.μ v (a.eval x) := by
  unfold rdA at h
  obtain ⟨s, hs, hv⟩ := Option.bind_eq_some_iff.1 h
  obtain ⟨i, hr, _⟩ := rdS_rep hl hs
  exact hr.av hv

theorem rdAs_rep {look : Nat → Slot} {a : Act} (hl : LookOk G w d look a.tmps) : ∀ (ts : List TypeId) (xs : List Operand) (l : List AV), rdAs E look ts xs = some l → RepL G.S w G.μ l (xs.map a.eval)
  | [], [], l, h => by simp only [rdAs, Option.some.injEq] at h; subst h; exact .nil
  | [], _ :: _, _, h => by simp [rdAs] at h
  | _ :: _, [], _, h => by simp [rdAs] at h
  | t :: ts, x :: xs, l, h => by
    simp only [rdAs, Option.bind_eq_some_iff, Option.some.injEq] at h
    obtain ⟨v, hv, m, hm, rfl⟩ := h
    exact .cons (rdA_rep hl hv) (rdAs_rep hl ts xs m hm)
end

theorem ups_not_mem {s : Nat → Slot} {i : Nat} : ∀ {us : List (Nat × Slot)}, i ∉ us.map Prod.fst → ups s us i = s i
  | [], _ => rfl
  | (t, x) :: r, h => by
    simp only [List.map_cons, List.mem_cons, not_or] at h
    rw [ups, ups_not_mem h.2, upd]
    rw [beqF fun e => h.1 e.symm]
    rfl

theorem ups_mem {s : Nat → Slot} {i : Nat} : ∀ {us : List (Nat × Slot)}, i ∈ us.map Prod.fst → ∃ x, (i, x) ∈ us ∧ ups s us i = x
  | [], h => by simp at h
  | (t, x) :: r, h => by
    by_cases hr : i ∈ r.map Prod.fst
    · obtain ⟨y, hy, e⟩ := ups_mem (s := upd s t x) hr
      exact ⟨y, List.mem_cons_of_mem _ hy, e⟩
    · simp only [List.map_cons, List.mem_cons] at h
      rcases h with rfl | h
      · exact ⟨x, List.mem_cons_self, by rw [ups, ups_not_mem hr, upd, show Nat.beq i i = true from by simp]; rfl⟩
      · exact absurd h hr

theorem addPb_mono {pb : Nat → Bool} {t : Nat} : ∀ {us : List (Nat × Slot)}, pb t = true → addPb pb us t = true
  | [], h => h
  | (u, s) :: r, h => by
    cases s <;> first
      | exact addPb_mono (us := r) h
      | (refine addPb_mono (us := r) ?_; simp [h])

theorem addPb_mem {pb : Nat → Bool} {u t off : Nat} : ∀ {us : List (Nat × Slot)}, (u, Slot.path t off) ∈ us → addPb pb us t = true
  | [], h => by simp at h
  | (u', s) :: r, h => by
    simp only [List.mem_cons, Prod.mk.injEq] at h
    rcases h with ⟨rfl, rfl⟩ | h
    · refine addPb_mono (us := r) ?_; simp
    · cases s <;> exact addPb_mem (us := r) h

/-- How a state goes on: the slots that turn are told, all others are as they were. -/
theorem RepSt.next {d : Nat} {G G' : Gh} {w w' : World} {st : St} {tmps : Array Value} (r : RepSt d G w st tmps) (x : Ext G.S w G.μ G'.S w' G'.μ)
    (dst : Option Nat) (v : Value) (hd : ∀ t, dst = some t → t < tmps.size) (hpb : freeDst st.pb dst = true) (us : List (Nat × Slot)) (h' : Heap)
    (hdst : ∀ t, dst = some t → t ∈ us.map Prod.fst)
    (hus : ∀ t s, (t, s) ∈ us → RepSlot G' w' d t s ((putT tmps dst v).getD t undef))
    (hpath : ∀ u t off, (u, Slot.path t off) ∈ us → dst ≠ some t ∧ ∃ b, (putT tmps dst v).getD u undef = .pointer (some ⟨b, off, none⟩) ∧ tmps.getD t undef = .pointer (some ⟨b, 0, none⟩))
    (hsame : ∀ i, i ∉ us.map Prod.fst → ∀ b, b < w.heap.size → (G.O b = .sl d i ∨ ∃ c, G.O b = .sc d i c) → SameB G w G' w' b)
    (hheap : RepHeap G' w' h') (hw : Within G' w') :
    RepSt d G' w' { s := ups st.s us, h := h', pb := addPb st.pb us } (putT tmps dst v) := by
  have hother : ∀ i, i ∉ us.map Prod.fst → (putT tmps dst v).getD i undef = tmps.getD i undef := by
    intro i hi
    cases dst with
    | none => rfl
    | some t =>
      have hne : i ≠ t := fun e => hi (e ▸ hdst t rfl)
      show (tmps.setIfInBounds t v).getD i undef = _
      rw [getD_put _ _ _ _ (hd t rfl), if_neg hne]
  refine ⟨fun i => ?_, fun u t off hu => ?_, hheap, hw⟩
  · by_cases hi : i ∈ us.map Prod.fst
    · obtain ⟨y, hy, e⟩ := ups_mem (s := st.s) hi
      show RepSlot G' w' d i (ups st.s us i) _
      rw [e]; exact hus i y hy
    · show RepSlot G' w' d i (ups st.s us i) _
      rw [ups_not_mem hi, hother i hi]
      have hr := r.slot i
      cases hsi : st.s i with
      | c c =>
        rw [hsi] at hr
        refine RepCell.mono' x (fun b hb ho => hsame i hi b hb (.inl ho)) hr
      | ag cs => rw [hsi] at hr; obtain ⟨arr, e, hf, hb⟩ := hr; exact ⟨arr, e, hf, hb.free_mono x hf⟩
      | loc cs =>
        rw [hsi] at hr
        exact RepSlot.mono' x (fun b hb ho => hsame i hi b hb (.inl ho)) (fun c b hb ho => hsame i hi b hb (.inr ⟨c, ho⟩)) hr
      | path t o => trivial
      | und => rw [hsi] at hr; exact hr
      | dead => trivial
  · have hu' : ups st.s us u = .path t off := hu
    by_cases hi : u ∈ us.map Prod.fst
    · obtain ⟨y, hy, e⟩ := ups_mem (s := st.s) hi
      rw [e] at hu'; subst hu'
      obtain ⟨hne, b, h1, h2⟩ := hpath u t off hy
      refine ⟨addPb_mem hy, b, h1, ?_⟩
      cases dst with
      | none => exact h2
      | some t' =>
        show (tmps.setIfInBounds t' v).getD t undef = _
        rw [getD_put _ _ _ _ (hd t' rfl), if_neg (fun e => hne (by rw [e]))]; exact h2
    · rw [ups_not_mem hi] at hu'
      obtain ⟨hp, b, h1, h2⟩ := r.path u t off hu'
      refine ⟨addPb_mono hp, b, by rw [hother u hi]; exact h1, ?_⟩
      cases dst with
      | none => exact h2
      | some t' =>
        show (tmps.setIfInBounds t' v).getD t undef = _
        have hne : t ≠ t' := by
          rintro rfl
          simp [freeDst, hp] at hpb
        rw [getD_put _ _ _ _ (hd t' rfl), if_neg hne]; exact h2

end Go.Sh

/- The operations that turn no memory: each does what its shadow says. -/
namespace Go.Sh
open Go

/-- Whatever follows the shadow's step follows the machine's. -/
def Goes (P : Program) (d : Nat) (G : Gh) (w : World) (st : St) (a : Act) (o : Oper) (us : List (Nat × Slot)) (h2 : Heap) : Prop :=
  ∀ (next : Act → World → Prop) (Q : Exit → Act → World → Prop),
    (∀ G' w' v, RepSt d G' w' { s := ups st.s us, h := h2, pb := addPb st.pb us } (putT a.tmps o.dst v) → Fr d G w G' w' → next (a.put o.dst v) w') → o.wp P a w next Q

section
variable {E : Env} {H : FHint} {call : Nat → List AV → Heap → R} {d : Nat} {G : Gh} {w : World} {st : St} {a : Act} {o : Oper} {look : Nat → Slot} {h0 h' : Heap} {us : List (Nat × Slot)}

theorem goes_run {h2 : Heap} {v : Value} {w' : World} {G' : Gh} (hrun : (execOp a.eval o).run E.P w = .ok (.value v) w')
    (hr : RepSt d G' w' { s := ups st.s us, h := h2, pb := addPb st.pb us } (putT a.tmps o.dst v)) (hf : Fr d G w G' w') : Goes E.P d G w st a o us h2 := by
  intro next Q hn
  unfold Oper.wp
  rw [hrun, Oper.upon_value]
  exact hn G' w' v hr hf

theorem goes_skip {h2 : Heap} {w' : World} {G' : Gh} (hrun : (execOp a.eval o).run E.P w = .ok .skip w')
    (hr : RepSt d G' w' { s := ups st.s us, h := h2, pb := addPb st.pb us } (putT a.tmps o.dst undef)) (hf : Fr d G w G' w') : Goes E.P d G w st a o us h2 := by
  intro next Q hn
  unfold Oper.wp
  rw [hrun, Oper.upon_skip]
  exact hn G' w' undef hr hf

theorem dstUp_mem {dst : Option Nat} {s : Slot} {t : Nat} {x : Slot} (h : (t, x) ∈ dstUp dst s) : dst = some t ∧ x = s := by
  cases dst with
  | none => simp [dstUp] at h
  | some t' => simp [dstUp] at h; exact ⟨by rw [h.1], h.2⟩

theorem dstUp_keys {dst : Option Nat} {s : Slot} {t : Nat} (h : dst = some t) : t ∈ (dstUp dst s).map Prod.fst := by subst h; simp [dstUp]

theorem goes_pure (r : RepSt d G w st a.tmps) (hd : ∀ t, o.dst = some t → t < a.tmps.size) (hpb : freeDst st.pb o.dst = true) {v : Value} {s : Slot}
    (hrun : (execOp a.eval o).run E.P w = .ok (.value v) w) (hs : ∀ t, RepSlot G w d t s v)
    (hp : ∀ t off, s = .path t off → o.dst ≠ some t ∧ ∃ b, v = .pointer (some ⟨b, off, none⟩) ∧ a.tmps.getD t undef = .pointer (some ⟨b, 0, none⟩)) : Goes E.P d G w st a o (dstUp o.dst s) st.h := by
  have hget : ∀ t, o.dst = some t → (putT a.tmps o.dst v).getD t undef = v := by
    intro t ht
    rw [ht]; show (a.tmps.setIfInBounds t v).getD t undef = v
    rw [getD_put _ _ _ _ (hd t ht), if_pos rfl]
  refine goes_run hrun (r.next (Ext.refl _ _ _) o.dst v hd hpb _ _ (fun t ht => dstUp_keys ht) (fun t x hx => ?_) (fun u t off hx => ?_) (fun _ _ _ _ _ => ⟨rfl, rfl, rfl⟩) r.heap r.within) (Fr.refl _ _ _)
  · obtain ⟨ht, rfl⟩ := dstUp_mem hx
    rw [hget t ht]; exact hs t
  · obtain ⟨ht, hx⟩ := dstUp_mem hx
    obtain ⟨hne, b, hv, hb⟩ := hp t off hx.symm
    exact ⟨hne, b, by rw [hget u ht]; exact hv, hb⟩

theorem goes_val (r : RepSt d G w st a.tmps) (hd : ∀ t, o.dst = some t → t < a.tmps.size) (hpb : freeDst st.pb o.dst = true) {v : Value} {x : AV}
    (hrun : (execOp a.eval o).run E.P w = .ok (.value v) w) (hs : RepA G.S w G.μ x v) : Goes E.P d G w st a o (dstUp o.dst (.c (.v x))) st.h :=
  goes_pure r hd hpb hrun (fun _ => hs) (fun _ _ e => by cases e)

/-- A state's own slots, seen through a mask. -/
theorem look_ok (r : RepSt d G w st a.tmps) (hl : ∀ t, look t = st.s t ∨ look t = .dead) : LookOk G w d look a.tmps := fun t => by
  rcases hl t with h | h
  · rw [h]; exact r.slot t
  · rw [h]; trivial

theorem look_eq (hl : ∀ t, look t = st.s t ∨ look t = .dead) {t : Nat} {s : Slot} (h : look t = s) (hs : s ≠ .dead) : st.s t = s := by
  rcases hl t with e | e
  · rw [← e, h]
  · rw [e] at h; exact absurd h.symm hs

theorem someC {p q : CR} (h : (some p : Option CR) = some q) : p = q := Option.some.inj h

/- tables -/
theorem TyOk.und' {P : Program} {t : TypeId} {i : TI} (h : TyOk P t i) (w : World) : (underlying t).run P w = .ok i.desc w := run_underlying h.und w

theorem TyOk.size {P : Program} {t : TypeId} {i : TI} (h : TyOk P t i) (w : World) : (sizeOf t).run P w = .ok i.size w := by
  obtain ⟨ti, z, h1, h2, _⟩ := h.info
  simp [sizeOf, typeInfo, h1, h2]

theorem TyOk.isAgg {P : Program} {t : TypeId} {i : TI} (h : TyOk P t i) (w : World) : (isAgg t).run P w = .ok i.agg w := by
  unfold Go.isAgg TI.agg
  rw [Sem.run_bind, h.und' w]
  cases i.desc <;> rfl

theorem TyOk.zero {P : Program} {t : TypeId} {i : TI} (h : TyOk P t i) (w : World) : ∃ z, (zeroValue t).run P w = .ok z w ∧ z.cells.toList = i.zero.map Cell.conc ∧ i.zero.all Cell.plain = true ∧ (i.agg = true → z = .agg z.cells) ∧ i.zero.length = i.size := by
  obtain ⟨ti, z, h1, h2, h3, h4, h5, h6, h7, h8⟩ := h.info
  exact ⟨z, by simp [zeroValue, typeInfo, h1, h4], h5, h6, h7, h8⟩

theorem elemSize_ok (ok : E.Ok) {T : TypeId} {n : Nat} (h : elemSize E T = some n) : ∃ e i, E.P.underlying T = some (.slice e) ∧ E.ty e = some i ∧ i.size = n ∧ TyOk E.P e i := by
  unfold elemSize at h
  split at h
  · rename_i i hi
    split at h
    · rename_i e he
      obtain ⟨j, hj, rfl⟩ := Option.map_eq_some_iff.1 h
      exact ⟨e, j, by rw [(ok.ty T i hi).und, he], hj, rfl, ok.ty e j hj⟩
    · simp at h
  · simp at h

theorem isStr_ok (ok : E.Ok) {T : TypeId} (h : isStr E T = true) : E.P.underlying T = some .string := by
  unfold isStr at h
  split at h
  · rename_i i hi
    split at h
    · rename_i hs; rw [(ok.ty T i hi).und, hs]
    · simp at h
  · simp at h

/- taking values apart -/
theorem boolOf_eq {x : AV} {b : Bool} (h : boolOf x = some b) : x = .lit (.bool b) := by
  unfold boolOf at h; split at h <;> simp_all
theorem intOf_eq {x : AV} {n : Int} (h : intOf x = some n) : x = .lit (.int .i64 n) := by
  unfold intOf at h; split at h <;> simp_all
theorem strOf_eq {x : AV} {s : ByteArray} (h : strOf x = some s) : x = .lit (.string s) := by
  unfold strOf at h; split at h <;> simp_all
theorem aggOf_eq {x : AV} {l : List AV} (h : aggOf x = some l) : x = .agg l := by
  unfold aggOf at h; split at h <;> simp_all
theorem tupOf_eq {x : AV} {l : List AV} (h : tupOf x = some l) : x = .tup l := by
  unfold tupOf at h; split at h <;> simp_all
theorem slOf_eq {n : Nat} {x : AV} {es : List (List AV)} (h : slOf n x = some es) : x = .sl n es := by
  unfold slOf at h
  split at h
  · rename_i m es'
    cases e : Nat.beq m n with
    | false => rw [e] at h; simp at h
    | true => rw [e] at h; simp at h; rw [Nat.eq_of_beq_eq_true e, h]
  · simp at h

theorem RepA.litE {S : Nat → Nat} {μ : List Nat} {x v : Value} (h : RepA S w μ (.lit x) v) : v = x := by cases h; rfl

theorem core_move (r : RepSt d G w st a.tmps) (hl : ∀ t, look t = st.s t ∨ look t = .dead) (hd : ∀ t, o.dst = some t → t < a.tmps.size) (hpb : freeDst st.pb o.dst = true) {x : Operand} (ho : o.op = .move x)
    (htr : dstIn H.tr o.dst = false)
    (hc : core E H call o look h0 kD kpD = some (.inl (us, h'))) : Goes E.P d G w st a o us st.h := by
  unfold core at hc
  rw [ho] at hc
  simp only [htr, cond_false] at hc
  rw [Option.bind_eq_some_iff] at hc; obtain ⟨s, hs, hc⟩ := hc
  have hrun : (execOp a.eval o).run E.P w = .ok (.value (a.eval x)) w := by unfold execOp; rw [ho]; rfl
  obtain ⟨i, hr, _⟩ := rdS_rep (look_ok r hl) hs
  split at hc
  · cases someC hc
    exact goes_pure r hd hpb hrun (fun _ => hr) (fun _ _ e => by cases e)
  · rw [Option.bind_eq_some_iff] at hc; obtain ⟨v, hv, hc⟩ := hc
    cases someC hc
    exact goes_val r hd hpb hrun (hr.av hv)

theorem core_pick (r : RepSt d G w st a.tmps) (hl : ∀ t, look t = st.s t ∨ look t = .dead) (hd : ∀ t, o.dst = some t → t < a.tmps.size) (hpb : freeDst st.pb o.dst = true) {c x y : Operand} (ho : o.op = .pick c x y)
    (hc : core E H call o look h0 kD kpD = some (.inl (us, h'))) : Goes E.P d G w st a o us st.h := by
  unfold core at hc
  rw [ho] at hc
  simp only at hc
  rw [Option.bind_eq_some_iff] at hc; obtain ⟨cv, hcv, hc⟩ := hc
  rw [Option.bind_eq_some_iff] at hc; obtain ⟨t, ht, hc⟩ := hc
  have e := boolOf_eq ht; subst e
  have hb := (rdA_rep (look_ok r hl) hcv).litE
  have hrun : (execOp a.eval o).run E.P w = .ok (.value (if t then a.eval x else a.eval y)) w := by unfold execOp; rw [ho]; simp [hb, asBool]
  cases t with
  | true =>
    simp only [cond_true] at hc
    rw [Option.bind_eq_some_iff] at hc; obtain ⟨v, hv, hc⟩ := hc
    cases someC hc
    exact goes_val r hd hpb hrun (rdA_rep (look_ok r hl) hv)
  | false =>
    simp only [cond_false] at hc
    rw [Option.bind_eq_some_iff] at hc; obtain ⟨v, hv, hc⟩ := hc
    cases someC hc
    exact goes_val r hd hpb hrun (rdA_rep (look_ok r hl) hv)

theorem core_extract (r : RepSt d G w st a.tmps) (hl : ∀ t, look t = st.s t ∨ look t = .dead) (hd : ∀ t, o.dst = some t → t < a.tmps.size) (hpb : freeDst st.pb o.dst = true) {x : Operand} {i : Nat} (ho : o.op = .extract x i)
    (hc : core E H call o look h0 kD kpD = some (.inl (us, h'))) : Goes E.P d G w st a o us st.h := by
  unfold core at hc
  rw [ho] at hc
  simp only at hc
  rw [Option.bind_eq_some_iff] at hc; obtain ⟨av, hav, hc⟩ := hc
  rw [Option.bind_eq_some_iff] at hc; obtain ⟨vs, hvs, hc⟩ := hc
  rw [Option.bind_eq_some_iff] at hc; obtain ⟨v, hv, hc⟩ := hc
  have e := tupOf_eq hvs; subst e
  cases someC hc
  have hr := rdA_rep (look_ok r hl) hav
  generalize hx : a.eval x = X at hr
  cases hr with
  | tup hr =>
    rename_i arr
    obtain ⟨y, hy, hry⟩ := hr.get hv
    refine goes_val r hd hpb (v := y) ?_ hry
    unfold execOp; rw [ho]; simp only [hx, Instr.extract]
    rw [show arr[i]? = some y from by simpa using hy]; rfl

theorem core_makeInterface (ok : E.Ok) (r : RepSt d G w st a.tmps) (hl : ∀ t, look t = st.s t ∨ look t = .dead) (hd : ∀ t, o.dst = some t → t < a.tmps.size) (hpb : freeDst st.pb o.dst = true) {T : TypeId} {x : Operand} (ho : o.op = .makeInterface T x)
    (hc : core E H call o look h0 kD kpD = some (.inl (us, h'))) : Goes E.P d G w st a o us st.h := by
  unfold core at hc
  rw [ho] at hc
  simp only at hc
  rw [Option.bind_eq_some_iff] at hc; obtain ⟨i, hi, hc⟩ := hc
  split at hc
  · cases hc
  · rename_i hni
    rw [Option.bind_eq_some_iff] at hc; obtain ⟨v, hv, hc⟩ := hc
    cases someC hc
    have hr := rdA_rep (look_ok r hl) hv
    refine goes_val r hd hpb (v := .iface T (a.eval x)) ?_ (.ifc hr)
    unfold execOp; rw [ho]
    simp only [Instr.makeInterface, Sem.run_bind, (ok.ty T i hi).und' w, Result.andThen_ok]

    cases hdesc : i.desc <;> first
      | rfl
      | exact absurd hdesc (hni _)

theorem core_makeFunc (r : RepSt d G w st a.tmps) (hl : ∀ t, look t = st.s t ∨ look t = .dead) (hd : ∀ t, o.dst = some t → t < a.tmps.size) (hpb : freeDst st.pb o.dst = true) {f : FuncId} {first caps : Array Operand} (ho : o.op = .makeFunc (.func f) first caps)
    (hc : core E H call o look h0 kD kpD = some (.inl (us, h'))) : Goes E.P d G w st a o us st.h := by
  unfold core at hc
  rw [ho] at hc
  simp only at hc
  rw [Option.bind_eq_some_iff] at hc; obtain ⟨l, hl1, hc⟩ := hc
  rw [Option.bind_eq_some_iff] at hc; obtain ⟨m, hm, hc⟩ := hc
  cases someC hc
  have h1 := rdAs_rep (look_ok r hl) _ _ _ hl1
  have h2 := rdAs_rep (look_ok r hl) _ _ _ hm
  refine goes_val r hd hpb (v := .func (.func f) (first.map a.eval) (caps.map a.eval)) ?_ (.fn (by simpa using h1) (by simpa using h2))
  unfold execOp; rw [ho]; rfl

theorem core_convert (ok : E.Ok) (r : RepSt d G w st a.tmps) (hl : ∀ t, look t = st.s t ∨ look t = .dead) (hd : ∀ t, o.dst = some t → t < a.tmps.size) (hpb : freeDst st.pb o.dst = true) {src dst : TypeId} {x : Operand} (ho : o.op = .convert src dst x)
    (hc : core E H call o look h0 kD kpD = some (.inl (us, h'))) : Goes E.P d G w st a o us st.h := by
  unfold core at hc
  rw [ho] at hc
  simp only at hc
  rw [Option.bind_eq_some_iff] at hc; obtain ⟨v, hv, hc⟩ := hc
  rw [Option.bind_eq_some_iff] at hc; obtain ⟨y, hy, hc⟩ := hc
  cases someC hc
  have hr := rdA_rep (look_ok r hl) hv
  unfold convA at hy
  rw [Option.bind_eq_some_iff] at hy; obtain ⟨i, hi, hy⟩ := hy
  rw [Option.bind_eq_some_iff] at hy; obtain ⟨j, hj, hy⟩ := hy
  split at hy
  · rename_i k _ n hk
    cases hy
    have e := hr.litE
    refine goes_val r hd hpb (v := .int k (k.wrap n)) ?_ (.lit rfl)
    unfold execOp; rw [ho]
    simp only [convert, Sem.run_bind, (ok.ty src i hi).und' w, (ok.ty dst j hj).und' w, Result.andThen_ok, e, hk]
    rfl
  · cases hy

theorem core_unOp (r : RepSt d G w st a.tmps) (hl : ∀ t, look t = st.s t ∨ look t = .dead) (hd : ∀ t, o.dst = some t → t < a.tmps.size) (hpb : freeDst st.pb o.dst = true) {op : UnOp} {T : TypeId} {x : Operand} (ho : o.op = .unOp op T x)
    (hc : core E H call o look h0 kD kpD = some (.inl (us, h'))) : Goes E.P d G w st a o us st.h := by
  unfold core at hc
  rw [ho] at hc
  simp only at hc
  rw [Option.bind_eq_some_iff] at hc; obtain ⟨v, hv, hc⟩ := hc
  rw [Option.bind_eq_some_iff] at hc; obtain ⟨y, hy, hc⟩ := hc
  cases someC hc
  have hr := rdA_rep (look_ok r hl) hv
  unfold unAV at hy
  split at hy
  · cases hy
    have e := hr.litE
    exact goes_val r hd hpb (by unfold execOp; rw [ho]; simp [e, Op.unary, Op.intArith]) (.lit rfl)
  · cases hy
    have e := hr.litE
    exact goes_val r hd hpb (by unfold execOp; rw [ho]; simp [e, Op.unary]) (.lit rfl)
  · cases hy

end
end Go.Sh

/- Loads, addresses, parts, comparisons, lengths. -/
namespace Go.Sh
open Go
set_option linter.unusedVariables false

theorem bleE {a b : Nat} (h : Nat.ble a b = true) : a ≤ b := Nat.le_of_ble_eq_true h
theorem beqE {a b : Nat} (h : Nat.beq a b = true) : a = b := Nat.eq_of_beq_eq_true h

theorem condE {ρ : Type} {c : Bool} {x : Option ρ} {y : ρ} (h : (bif c then x else none) = some y) : c = true ∧ x = some y := by
  cases c with
  | true => exact ⟨rfl, h⟩
  | false => cases h

section
variable {E : Env} {H : FHint} {call : Nat → List AV → Heap → R} {d : Nat} {G : Gh} {w : World} {st : St} {a : Act} {o : Oper} {look : Nat → Slot} {h0 h' : Heap} {us : List (Nat × Slot)}

theorem rangeAt_row {w : World} {b o m : Nat} {vals : List Value} (h : row? w b o m = some vals) : w.rangeAt b o vals := fun _ _ hj => row?_cell h hj

theorem load_run (ok : E.Ok) {T : TypeId} {i : TI} (hi : E.ty T = some i) {b o0 m off : Nat} {vals : List Value} {cs : List AV} {v : AV} (hr : row? w b o0 m = some vals) (hv : RepC G.S w G.μ cs vals)
    (hp : partA i.agg i.size off cs = some v) : ∃ X, (Instr.loadAt T (.pointer (some ⟨b, o0 + off, none⟩))).run E.P w = .ok X w ∧ RepA G.S w G.μ v X ∧ off + (if i.agg then i.size else 1) ≤ cs.length := by
  have hm := row?_len hr
  have hlen := hv.length
  have ht := ok.ty T i hi
  unfold partA at hp
  cases hagg : i.agg with
  | true =>
    rw [hagg] at hp
    simp only [cond_true] at hp
    obtain ⟨hle, hp⟩ := condE hp
    have hle := bleE hle
    cases hp
    have hr' := row?_sub hr off i.size (by omega)
    have hsz : ((vals.drop off).take i.size).length = i.size := by simp; omega
    refine ⟨.agg ((vals.drop off).take i.size).toArray, ?_, .agg (by simpa using (hv.drop off).take i.size), by simpa using hle⟩
    obtain ⟨ti, z, e1, e2, _⟩ := ht.info
    refine run_loadAt_mid w b (o0 + off) T _ i.desc (rangeAt_row hr') ht.und ?_ ?_
    · unfold TI.agg at hagg
      cases hd : i.desc <;> simp_all
    · rw [e1, hsz]; simp [e2]
  | false =>
    rw [hagg] at hp
    simp only [cond_false] at hp
    obtain ⟨X, hX, hrep, _⟩ := hv.get hp
    refine ⟨X, ?_, hrep, ?_⟩
    · have hc := row?_cell hr hX
      simp only [Instr.loadAt, Instr.sureAddr, Sem.run_bind, Sem.run_pure, Result.andThen_ok, loadVar, ht.isAgg w, hagg]
      simp [hc]
    · show off + 1 ≤ cs.length
      have : off < cs.length := by
        rcases Nat.lt_or_ge off cs.length with h | h
        · exact h
        · rw [List.getElem?_eq_none h] at hp; simp at hp
      exact this

/-- What an address operand leads to. -/
theorem placeOf_rep (r : RepSt d G w st a.tmps) (hl : ∀ t, look t = st.s t ∨ look t = .dead) {x : Operand} {p : Pl} (h : placeOf look x = some p) :
    match p with
    | .loc t off => (∃ b, a.eval x = .pointer (some ⟨b, off, none⟩) ∧ a.tmps.getD t undef = .pointer (some ⟨b, 0, none⟩)) ∧ (∃ u, x = .tmp u ∧ ((u = t ∧ off = 0 ∧ ∃ cs, look t = .loc cs) ∨ look u = .path t off))
    | .heap i off => RepA G.S w G.μ (.hp i off) (a.eval x) ∧ ∃ u, x = .tmp u
    | .ro cs => RepA G.S w G.μ (.ro cs) (a.eval x) := by
  cases x with
  | tmp u =>
    simp only [placeOf] at h
    have hru := look_ok r hl u
    split at h
    · rename_i cs hu
      cases h
      rw [hu] at hru
      obtain ⟨b, arr, T, hv, _⟩ := hru
      exact ⟨⟨b, hv, hv⟩, u, rfl, .inl ⟨rfl, rfl, cs, hu⟩⟩
    · rename_i t off hu
      cases h
      obtain ⟨_, b, h1, h2⟩ := r.path u t off (look_eq hl hu (by simp))
      exact ⟨⟨b, h1, h2⟩, u, rfl, .inr hu⟩
    · rename_i i off hu
      cases h
      rw [hu] at hru
      exact ⟨hru, u, rfl⟩
    · rename_i cs hu
      cases h
      rw [hu] at hru
      exact hru
    · cases h
  | const v => simp [placeOf] at h
  | global g => simp [placeOf] at h
  | func f => simp [placeOf] at h

theorem heap_get (r : RepHeap G w h0) {i b off : Nat} {v : Value} (hv : RepA G.S w G.μ (.hp i off) v) {cs : List Cell} (hc : h0[i]? = some cs) (hcn : cs ≠ []) :
    ∃ b arr T, v = .pointer (some ⟨b, off, none⟩) ∧ G.μ[i]? = some b ∧ G.O b = .hb i ∧ w.heap[b]? = some (.cells arr T (0, 0)) ∧ G.S b = 0 ∧ RepTail G w (.hc i) cs arr := by
  obtain ⟨b, arr, T, h1, h2, h3, h4, h5⟩ := r.2.1 i cs hc hcn
  cases hv with
  | hp off h => rw [h1] at h; cases h; exact ⟨b, arr, T, rfl, h1, h2, h3, h4, h5⟩

theorem core_load (ok : E.Ok) (r : RepSt d G w st a.tmps) (hl : ∀ t, look t = st.s t ∨ look t = .dead) (hh : h0 = st.h ∨ h0 = []) (hd : ∀ t, o.dst = some t → t < a.tmps.size) (hpb : freeDst st.pb o.dst = true) {T : TypeId} {x : Operand} (ho : o.op = .load T x)
    (htr : dstIn H.tr o.dst = false) (hc : core E H call o look h0 kD kpD = some (.inl (us, h'))) : Goes E.P d G w st a o us st.h := by
  unfold core at hc
  rw [ho] at hc
  simp only [htr, cond_false] at hc
  rw [Option.bind_eq_some_iff] at hc; obtain ⟨i, hi, hc⟩ := hc
  rw [Option.bind_eq_some_iff] at hc; obtain ⟨p, hp, hc⟩ := hc
  have hpl := placeOf_rep r hl hp
  split at hc
  · rename_i t off
    split at hc
    · rename_i cs hcs
      rw [Option.bind_eq_some_iff] at hc; obtain ⟨v, hv, hc⟩ := hc
      cases someC hc
      obtain ⟨⟨b, h1, h2⟩, _⟩ := hpl
      have hrt := look_ok r hl t
      rw [hcs] at hrt
      obtain ⟨b', arr, T', e1, e2, e3, e4, e5⟩ := hrt
      rw [h2] at e1; cases e1
      have hrow : row? w b 0 arr.size = some arr.toList := by rw [row?_of_block e3 0 arr.size (by omega)]; simp [List.take_of_length_le]
      obtain ⟨X, hX, hrep, _⟩ := load_run ok hi hrow e5.gets hv
      rw [Nat.zero_add] at hX
      refine goes_val r hd hpb (v := X) ?_ hrep
      unfold execOp; rw [ho]; simp only [h1, Sem.run_bind, hX]; rfl
    · cases hc
  · rename_i j off
    have hc : ∃ v, hpart i.agg i.size off j h0 = some v ∧ (us, h') = (dstUp o.dst (.c (.v v)), h0) := by
      cases elp : dstIn H.lp o.dst with
      | false =>
        rw [elp, cond_false, Option.bind_eq_some_iff] at hc; obtain ⟨v, hv, hc⟩ := hc
        exact ⟨v, hv, (Sum.inl.inj (Option.some.inj hc)).symm⟩
      | true =>
        rw [elp, cond_true, Option.bind_eq_some_iff] at hc; obtain ⟨v, hv, hc⟩ := hc
        rw [Option.bind_eq_some_iff] at hc; obtain ⟨p, hp, hc⟩ := hc
        exact ⟨v, hv, by rw [hpOfA_eq hp]; exact (Sum.inl.inj (Option.some.inj hc)).symm⟩
    obtain ⟨v, hv, hc⟩ := hc
    cases hc
    unfold hpart at hv
    rw [Option.bind_eq_some_iff] at hv; obtain ⟨cs, hcs, hv⟩ := hv
    obtain ⟨hcn, hv⟩ := partG_eq hv
    have hh' : h0 = st.h := by
      rcases hh with e | e
      · exact e
      · subst e; simp at hcs
    subst hh'
    obtain ⟨b, arr, T', e0, _, e2, e3, e4, e5⟩ := heap_get (b := 0) r.heap hpl.1 hcs hcn
    have hrow : row? w b 0 cs.length = some (arr.toList.take cs.length) := by have := e5.len; rw [row?_of_block e3 0 cs.length (by omega)]; simp
    obtain ⟨X, hX, hrep, _⟩ := load_run ok hi hrow e5.gets hv
    rw [Nat.zero_add] at hX
    refine goes_val r hd hpb (v := X) ?_ hrep
    unfold execOp; rw [ho]; simp only [e0, Sem.run_bind, hX]; rfl
  · rename_i cs
    rw [Option.bind_eq_some_iff] at hc; obtain ⟨v, hv, hc⟩ := hc
    cases someC hc
    generalize hx : a.eval x = Y at hpl
    cases hpl with
    | ro hr hv' hs =>
      obtain ⟨X, hX, hrep, _⟩ := load_run ok hi hr hv' hv
      rw [Nat.add_zero] at hX
      refine goes_val r hd hpb (v := X) ?_ hrep
      unfold execOp; rw [ho]; simp only [hx, Sem.run_bind, hX]; rfl

theorem fieldOf_ok (ok : E.Ok) {T : TypeId} {f : Nat} {q : Nat × TI} (h : fieldOf E T f = some q) : ∃ i fs g, E.ty T = some i ∧ i.desc = .struct fs ∧ fs[f]? = some g ∧ E.ty g.type = some q.2 ∧ g.offset = q.1 := by
  unfold fieldOf at h
  split at h
  · rename_i i hi
    split at h
    · rename_i fs hfs
      split at h
      · rename_i g hg
        split at h
        · rename_i j hj
          cases h
          exact ⟨i, fs, g, hi, hfs, hg, hj, rfl⟩
        · cases h
      · cases h
    · cases h
  · cases h

theorem fieldAt_run (ok : E.Ok) {T : TypeId} {f : Nat} {q : Nat × TI} (h : fieldOf E T f = some q) (hz : Nat.beq q.2.size 0 = false) (b o0 : Nat) (w : World) :
    (Instr.fieldAt T (.pointer (some ⟨b, o0, none⟩)) f).run E.P w = .ok (.pointer (some ⟨b, o0 + q.1, none⟩)) w := by
  obtain ⟨i, fs, g, hi, hfs, hg, hj, ho⟩ := fieldOf_ok ok h
  have hne : q.2.size ≠ 0 := fun e => by rw [e] at hz; simp at hz
  simp only [Instr.fieldAt, Sem.run_bind, (ok.ty T i hi).und' w, Result.andThen_ok, hfs, hg, Instr.sureAddr, Sem.run_pure, fieldPlace, (ok.ty _ _ hj).size w, if_neg hne, Addr.add_mid, ho]

theorem core_fieldAddr (ok : E.Ok) (r : RepSt d G w st a.tmps) (hl : ∀ t, look t = st.s t ∨ look t = .dead) (hd : ∀ t, o.dst = some t → t < a.tmps.size) (hpb : freeDst st.pb o.dst = true) {T : TypeId} {x : Operand} {f : Nat} (ho : o.op = .fieldAddr T x f)
    (hself : ∀ t, x = .tmp t → o.dst ≠ some t) (hc : core E H call o look h0 kD kpD = some (.inl (us, h'))) : Goes E.P d G w st a o us st.h := by
  unfold core at hc
  rw [ho] at hc
  simp only at hc
  rw [Option.bind_eq_some_iff] at hc; obtain ⟨q, hq, hc⟩ := hc
  cases hz : Nat.beq q.2.size 0 with
  | true => rw [hz] at hc; cases hc
  | false =>
    rw [hz] at hc
    simp only [cond_false] at hc
    rw [Option.bind_eq_some_iff] at hc; obtain ⟨p, hp, hc⟩ := hc
    have hpl := placeOf_rep r hl hp
    split at hc
    · rename_i t off
      cases someC hc
      obtain ⟨⟨b, h1, h2⟩, u, hu, hut⟩ := hpl
      refine goes_pure r hd hpb (v := .pointer (some ⟨b, off + q.1, none⟩)) ?_ (fun _ => trivial) ?_
      · unfold execOp; rw [ho]; simp only [h1, Sem.run_bind, fieldAt_run ok hq hz b off w]; rfl
      · intro t' off' e
        cases e
        refine ⟨?_, b, rfl, h2⟩
        rcases hut with ⟨rfl, _, _⟩ | hut
        · exact hself u hu
        · intro hdst
          obtain ⟨hpt, _⟩ := r.path u t off (look_eq hl hut (by simp))
          rw [hdst] at hpb
          simp [freeDst, hpt] at hpb
    · rename_i j off
      cases someC hc
      obtain ⟨hrep, _⟩ := hpl
      generalize hx : a.eval x = Y at hrep
      cases hrep with
      | hp off hm =>
        rename_i b
        refine goes_val r hd hpb (v := .pointer (some ⟨b, off + q.1, none⟩)) ?_ (.hp _ hm)
        unfold execOp; rw [ho]; simp only [hx, Sem.run_bind, fieldAt_run ok hq hz b off w]; rfl
    · rename_i cs
      obtain ⟨hle, hc⟩ := condE hc
      have hle := bleE hle
      cases someC hc
      generalize hx : a.eval x = Y at hpl
      cases hpl with
      | ro hr hv hs =>
        rename_i b o0 vals
        have hlen := hv.length
        have hm := row?_len hr
        refine goes_val r hd hpb (v := .pointer (some ⟨b, o0 + q.1, none⟩)) ?_ (.ro (vals := (vals.drop q.1).take (cs.length - q.1)) ?_ ?_ ?_)
        · unfold execOp; rw [ho]; simp only [hx, Sem.run_bind, fieldAt_run ok hq hz b o0 w]; rfl
        · rw [List.length_drop]
          exact row?_sub hr q.1 _ (by omega)
        · have := (hv.drop q.1).take (cs.length - q.1)
          rwa [List.take_of_length_le (by simp)] at this
        · rw [List.length_drop]; omega

end
end Go.Sh

/- Indexes, comparisons, slicing, lengths, structs that are built. -/
namespace Go.Sh
open Go
set_option linter.unusedVariables false

theorem flatten_len {n : Nat} : ∀ {es : List (List AV)}, (∀ e ∈ es, e.length = n) → es.flatten.length = es.length * n
  | [], _ => by simp
  | e :: r, h => by
    rw [List.flatten_cons, List.length_append, flatten_len (fun x hx => h x (List.mem_cons_of_mem _ hx)), h e List.mem_cons_self, List.length_cons, Nat.succ_mul]
    omega

theorem flatten_seg {n : Nat} : ∀ {es : List (List AV)} (j : Nat), (∀ e ∈ es, e.length = n) → j < es.length → (es.flatten.drop (j * n)).take n = es.getD j []
  | [], _, _, h => by simp at h
  | e :: r, 0, h, _ => by
    have := h e List.mem_cons_self
    rw [List.flatten_cons, Nat.zero_mul, List.drop_zero, List.take_append_of_le_length (by omega), List.take_of_length_le (by omega)]
    rfl
  | e :: r, j + 1, h, hj => by
    have he := h e List.mem_cons_self
    have ih := flatten_seg (n := n) (es := r) j (fun x hx => h x (List.mem_cons_of_mem _ hx)) (by simpa using hj)
    rw [List.flatten_cons, Nat.succ_mul, Nat.add_comm, List.drop_append, List.drop_of_length_le (by omega), he, Nat.add_sub_cancel_left, List.nil_append, ih]
    rfl

section
variable {E : Env} {H : FHint} {call : Nat → List AV → Heap → R} {d : Nat} {G : Gh} {w : World} {st : St} {a : Act} {o : Oper} {look : Nat → Slot} {h0 h' : Heap} {us : List (Nat × Slot)}

theorem core_nilCheck (r : RepSt d G w st a.tmps) (hl : ∀ t, look t = st.s t ∨ look t = .dead) (hd : ∀ t, o.dst = some t → t < a.tmps.size) (hpb : freeDst st.pb o.dst = true) {x : Operand} (ho : o.op = .nilCheck x)
    (hself : ∀ t, x = .tmp t → o.dst ≠ some t) (hc : core E H call o look h0 kD kpD = some (.inl (us, h'))) : Goes E.P d G w st a o us st.h := by
  unfold core at hc
  rw [ho] at hc
  simp only at hc
  split at hc
  · rename_i u
    have hru := look_ok r hl u
    split at hc
    · rename_i cs hu
      cases someC hc
      rw [hu] at hru
      obtain ⟨b, arr, T, hv, _⟩ := hru
      refine goes_pure r hd hpb (v := .pointer (some ⟨b, 0, none⟩)) ?_ (fun _ => trivial) (fun t off e => ?_)
      · unfold execOp; rw [ho]; simp only [show a.eval (.tmp u) = _ from hv]; rfl
      · cases e; exact ⟨hself u rfl, b, rfl, hv⟩
    · rename_i t off hu
      cases someC hc
      obtain ⟨hpt, b, h1, h2⟩ := r.path u t off (look_eq hl hu (by simp))
      refine goes_pure r hd hpb (v := .pointer (some ⟨b, off, none⟩)) ?_ (fun _ => trivial) (fun t' off' e => ?_)
      · unfold execOp; rw [ho]; simp only [show a.eval (.tmp u) = _ from h1]; rfl
      · cases e
        refine ⟨fun hdst => ?_, b, rfl, h2⟩
        rw [hdst] at hpb
        simp [freeDst, hpt] at hpb
    · rename_i j off hu
      cases someC hc
      rw [hu] at hru
      have hru : RepA G.S w G.μ (.hp j off) (a.tmps.getD u undef) := hru
      generalize hx : a.tmps.getD u undef = Y at hru
      cases hru with
      | hp off hm =>
        rename_i b
        refine goes_val r hd hpb (v := .pointer (some ⟨b, off, none⟩)) ?_ (.hp off hm)
        unfold execOp; rw [ho]; simp only [show a.eval (.tmp u) = _ from hx]; rfl
    · rename_i f first caps hu
      cases someC hc
      rw [hu] at hru
      have hru : RepA G.S w G.μ (.fn f first caps) (a.tmps.getD u undef) := hru
      generalize hx : a.tmps.getD u undef = Y at hru
      cases hru with
      | fn h1 h2 =>
        refine goes_val r hd hpb (v := .func (.func f) _ _) ?_ (.fn h1 h2)
        unfold execOp; rw [ho]; simp only [show a.eval (.tmp u) = _ from hx]; rfl
    · cases hc
  · cases hc

theorem indexA_eq {n : Nat} {x y : AV} {e : List AV} (h : indexA n x y = some e) : ∃ es j, x = .sl n es ∧ y = .lit (.int .i64 j) ∧ 0 ≤ j ∧ j.toNat < es.length ∧ e = es.getD j.toNat [] := by
  unfold indexA at h
  rw [Option.bind_eq_some_iff] at h; obtain ⟨es, hes, h⟩ := h
  rw [Option.bind_eq_some_iff] at h; obtain ⟨j, hj, h⟩ := h
  obtain ⟨hb, h⟩ := condE h
  simp only [Bool.and_eq_true, decide_eq_true_eq] at hb
  cases h
  exact ⟨es, j, slOf_eq hes, intOf_eq hj, hb.1, hb.2, rfl⟩

theorem indexH_eq {n : Nat} {x y : AV} {p : Nat × Nat} (h : indexH n x y = some p) : ∃ i off len j, x = .hs n i off len ∧ y = .lit (.int .i64 j) ∧ 0 ≤ j ∧ j.toNat < len ∧ p = (i, off + j.toNat * n) := by
  unfold indexH at h
  split at h
  · rename_i m i off len
    cases e : Nat.beq m n with
    | false => rw [e] at h; simp at h
    | true =>
      rw [e] at h
      simp only [cond_true] at h
      rw [Option.bind_eq_some_iff] at h; obtain ⟨j, hj, h⟩ := h
      obtain ⟨hb, h⟩ := condE h
      simp only [Bool.and_eq_true, decide_eq_true_eq] at hb
      cases h
      rw [Nat.eq_of_beq_eq_true e]
      exact ⟨i, off, len, j, rfl, intOf_eq hj, hb.1, hb.2, rfl⟩
  · cases h

theorem core_indexGlob (ok : E.Ok) (r : RepSt d G w st a.tmps) (hl : ∀ t, look t = st.s t ∨ look t = .dead) (hd : ∀ t, o.dst = some t → t < a.tmps.size) (hpb : freeDst st.pb o.dst = true) {T : TypeId} {g : Nat} {y : Operand} (ho : o.op = .indexAddr T (.global g) y)
    (hc : core E H call o look h0 kD kpD = some (.inl (us, h'))) : Goes E.P d G w st a o us st.h := by
  unfold core at hc
  rw [ho] at hc
  simp only [globOf] at hc
  rw [Option.bind_eq_some_iff] at hc; obtain ⟨ti, hti, hc⟩ := hc
  split at hc
  · rename_i len el hdesc
    rw [Option.bind_eq_some_iff] at hc; obtain ⟨j, hj, hc⟩ := hc
    rw [Option.bind_eq_some_iff] at hc; obtain ⟨l, hgl, hc⟩ := hc
    rw [Option.bind_eq_some_iff] at hc; obtain ⟨jv, hjv, hc⟩ := hc
    rw [Option.bind_eq_some_iff] at hc; obtain ⟨k, hk, hc⟩ := hc
    obtain ⟨hcond, hc9⟩ := condE hc
    clear hc
    simp only [Bool.and_eq_true, decide_eq_true_eq] at hcond
    obtain ⟨⟨⟨c1, c2⟩, c3⟩, c4⟩ := hcond
    cases someC hc9
    have hund := (ok.ty _ _ hti).und
    rw [hdesc] at hund
    have htel := ok.ty _ _ hj
    have hsz := beqE c1
    have hlen := beqE c2
    have e := intOf_eq hk; subst e
    have hrj := (rdA_rep (look_ok r hl) hjv).litE
    have hro := r.heap.2.2 g l hgl
    have hx : a.eval (.global g) = .pointer (some ⟨g, 0, none⟩) := rfl
    cases hro with
    | ro hr hv hs =>
      rename_i vals
      have hnl : (numC l).length = l.length := List.length_map _
      have hvl := hv.length
      refine goes_val r hd hpb (v := .pointer (some ⟨g, k.toNat, none⟩)) ?_ ?_
      · unfold execOp; rw [ho]
        have hjl : k < (len : Int) := by omega
        simp only [Instr.indexAt, hrj, asIntOf, Sem.run_bind, Sem.run_pure, Result.andThen_ok, hx, run_underlying hund w]
        simp [Instr.sureAddr, c3, hjl, run_underlying hund w, htel.size w, hsz, Addr.add_lit]
      · have hrow := row?_cell hr (j := k.toNat) (v := vals[k.toNat]'(by omega)) (by rw [List.getElem?_eq_getElem])
        refine .ro (vals := [vals[k.toNat]'(by omega)]) ?_ ?_ (by rw [hnl] at hs; simp; omega)
        · unfold row? at hr ⊢
          cases hh : w.heap[g]? with
          | none => rw [hh] at hr; cases hr
          | some ob =>
            rw [hh] at hr
            cases ob with
            | cells arr T' fz =>
              simp only at hr ⊢
              split at hr
              · rename_i hle
                have hr := Option.some.inj hr
                rw [hnl] at hle
                rw [if_pos (by simp; omega)]
                congr 1
                have hv' : vals[k.toNat]'(by omega) = (((arr.toList.drop 0).take (numC l).length)[k.toNat]?).getD undef := by rw [hr, List.getElem?_eq_getElem (by omega)]; rfl
                rw [hv', List.drop_zero, List.getElem?_take_of_lt (by omega)]
                have hlt : k.toNat < arr.toList.length := by simp; omega
                rw [List.getElem?_eq_getElem hlt]
                rw [List.drop_eq_getElem_cons hlt]; rfl
              · cases hr
            | _ => simp at hr
        · obtain ⟨v, e1, e2, e3⟩ := hv.get (i := k.toNat) (a := .lit (.int .i64 (l.getD k.toNat 0))) (by
            unfold numC
            rw [List.getElem?_map, List.getElem?_eq_getElem c4, List.getD_eq_getElem?_getD, List.getElem?_eq_getElem c4]; rfl)
          have : vals[k.toNat]'(by omega) = v := by
            rw [List.getElem?_eq_getElem (by omega)] at e1; exact Option.some.inj e1
          rw [this]
          exact .cons e2 e3 .nil
  · cases hc

theorem core_indexAddr (ok : E.Ok) (r : RepSt d G w st a.tmps) (hl : ∀ t, look t = st.s t ∨ look t = .dead) (hd : ∀ t, o.dst = some t → t < a.tmps.size) (hpb : freeDst st.pb o.dst = true) {T : TypeId} {x y : Operand} (ho : o.op = .indexAddr T x y) (hx : globOf x = none)
    (hc : core E H call o look h0 kD kpD = some (.inl (us, h'))) : Goes E.P d G w st a o us st.h := by
  unfold core at hc
  rw [ho] at hc
  simp only [hx] at hc
  rw [Option.bind_eq_some_iff] at hc; obtain ⟨n, hn, hc⟩ := hc
  cases hms : dstIn H.ms o.dst with
  | true =>
    rw [hms, cond_true] at hc
    rw [Option.bind_eq_some_iff] at hc; obtain ⟨va, hva, hc⟩ := hc
    rw [Option.bind_eq_some_iff] at hc; obtain ⟨vj, hvj, hc⟩ := hc
    rw [Option.bind_eq_some_iff] at hc; obtain ⟨p, he, hc⟩ := hc
    cases someC hc
    obtain ⟨i0, off, len, j, rfl, rfl, hj0, hj, rfl⟩ := indexH_eq he
    obtain ⟨el, i, hund, hel, hsz, htel⟩ := elemSize_ok ok hn
    have hra := rdA_rep (look_ok r hl) hva
    have hrj := (rdA_rep (look_ok r hl) hvj).litE
    generalize hx : a.eval x = X at hra
    cases hra with
    | hs _ _ cap hm hcap hz =>
      rename_i b
      refine goes_val r hd hpb (v := .pointer (some ⟨b, off + j.toNat * n, none⟩)) ?_ (.hp _ hm)
      unfold execOp; rw [ho]
      have hjl : j < (len : Int) := by omega
      simp only [Instr.indexAt, hrj, asIntOf, Sem.run_bind, Sem.run_pure, Result.andThen_ok, hx, run_underlying hund w]
      simp [hj0, hjl, htel.size w, hsz, Addr.add_mid]
  | false =>
  rw [hms, cond_false] at hc
  rw [Option.bind_eq_some_iff] at hc; obtain ⟨va, hva, hc⟩ := hc
  rw [Option.bind_eq_some_iff] at hc; obtain ⟨vj, hvj, hc⟩ := hc
  rw [Option.bind_eq_some_iff] at hc; obtain ⟨e, he, hc⟩ := hc
  cases someC hc
  obtain ⟨es, j, rfl, rfl, hj0, hj, rfl⟩ := indexA_eq he
  obtain ⟨el, i, hund, hel, hsz, htel⟩ := elemSize_ok ok hn
  have hra := rdA_rep (look_ok r hl) hva
  have hrj := (rdA_rep (look_ok r hl) hvj).litE
  generalize hx : a.eval x = X at hra
  cases hra with
  | slN => simp at hj
  | slE => simp at hj
  | sl hcap hr hv hs hn' =>
    rename_i b o0 cap vals
    have hfl := flatten_len hn'
    have hle : j.toNat * n + n ≤ es.flatten.length := by
      rw [hfl, ← Nat.succ_mul]; exact Nat.mul_le_mul_right _ hj
    have helen : (es.getD j.toNat []).length = n := hn' _ (by
      rw [List.getD_eq_getElem?_getD, List.getElem?_eq_getElem hj]; exact List.getElem_mem hj)
    refine goes_val r hd hpb (v := .pointer (some ⟨b, o0 + j.toNat * n, none⟩)) ?_ (.ro (vals := (vals.drop (j.toNat * n)).take n) ?_ ?_ ?_)
    · unfold execOp; rw [ho]
      have hjl : j < (es.length : Int) := by omega
      simp only [Instr.indexAt, hrj, asIntOf, Sem.run_bind, Sem.run_pure, Result.andThen_ok, hx, run_underlying hund w]
      simp [hj0, hjl, htel.size w, hsz, Addr.add_mid]
    · rw [helen]; exact row?_sub hr _ _ hle
    · have := (hv.drop (j.toNat * n)).take n
      rwa [flatten_seg j.toNat hn' hj] at this
    · rw [helen]; omega

theorem core_index (ok : E.Ok) (r : RepSt d G w st a.tmps) (hl : ∀ t, look t = st.s t ∨ look t = .dead) (hd : ∀ t, o.dst = some t → t < a.tmps.size) (hpb : freeDst st.pb o.dst = true) {T : TypeId} {x y : Operand} (ho : o.op = .index T x y)
    (hc : core E H call o look h0 kD kpD = some (.inl (us, h'))) : Goes E.P d G w st a o us st.h := by
  unfold core at hc
  rw [ho] at hc
  simp only at hc
  obtain ⟨hs, hc⟩ := condE hc
  rw [Option.bind_eq_some_iff] at hc; obtain ⟨va, hva, hc⟩ := hc
  rw [Option.bind_eq_some_iff] at hc; obtain ⟨vj, hvj, hc⟩ := hc
  rw [Option.bind_eq_some_iff] at hc; obtain ⟨e, he, hc⟩ := hc
  cases someC hc
  unfold indexS at he
  rw [Option.bind_eq_some_iff] at he; obtain ⟨s, hs', he⟩ := he
  rw [Option.bind_eq_some_iff] at he; obtain ⟨j, hj, he⟩ := he
  obtain ⟨hj0, he⟩ := condE he
  simp only [decide_eq_true_eq] at hj0
  obtain ⟨b, hb, rfl⟩ := Option.map_eq_some_iff.1 he
  have e1 := strOf_eq hs'; obtain ⟨kk, e2⟩ := numOf_eq hj; subst e1 e2
  have hra := (rdA_rep (look_ok r hl) hva).litE
  have hrj := (rdA_rep (look_ok r hl) hvj).litE
  refine goes_val r hd hpb (v := .int .u8 b.toNat) ?_ (.lit rfl)
  unfold execOp; rw [ho]
  simp only [Instr.index, hra, hrj, asIntOf, Sem.run_bind, Sem.run_pure, Result.andThen_ok, run_underlying (isStr_ok ok hs) w]
  simp [hj0, hb]

theorem part_run (ok : E.Ok) {T : TypeId} {i : TI} (hi : E.ty T = some i) {off : Nat} {cs : List AV} {arr : Array Value} {v : AV} (hv : RepC G.S w G.μ cs arr.toList) (hp : partA i.agg i.size off cs = some v) :
    ∃ X, (part T arr off).run E.P w = .ok X w ∧ RepA G.S w G.μ v X := by
  have ht := ok.ty T i hi
  have hlen := hv.length
  unfold partA at hp
  cases hagg : i.agg with
  | true =>
    rw [hagg] at hp
    simp only [cond_true] at hp
    obtain ⟨hle, hp⟩ := condE hp
    have hle := bleE hle
    cases hp
    refine ⟨.agg (arr.extract off (off + i.size)), ?_, .agg ?_⟩
    · simp only [part, Sem.run_bind, ht.isAgg w, hagg, Result.andThen_ok, if_true, ht.size w, Sem.run_pure]
    · have := (hv.drop off).take i.size
      rw [Array.toList_extract, List.extract_eq_take_drop]
      simpa using this
  | false =>
    rw [hagg] at hp
    simp only [cond_false] at hp
    obtain ⟨X, hX, hrep, _⟩ := hv.get hp
    refine ⟨X, ?_, hrep⟩
    simp only [part, Sem.run_bind, ht.isAgg w, hagg, Result.andThen_ok, Bool.false_eq_true, if_false]
    rw [show arr[off]? = some X from by simpa using hX]; rfl

theorem core_field (ok : E.Ok) (r : RepSt d G w st a.tmps) (hl : ∀ t, look t = st.s t ∨ look t = .dead) (hd : ∀ t, o.dst = some t → t < a.tmps.size) (hpb : freeDst st.pb o.dst = true) {T : TypeId} {x : Operand} {f : Nat} (ho : o.op = .field T x f)
    (hc : core E H call o look h0 kD kpD = some (.inl (us, h'))) : Goes E.P d G w st a o us st.h := by
  unfold core at hc
  rw [ho] at hc
  simp only at hc
  rw [Option.bind_eq_some_iff] at hc; obtain ⟨q, hq, hc⟩ := hc
  rw [Option.bind_eq_some_iff] at hc; obtain ⟨va, hva, hc⟩ := hc
  rw [Option.bind_eq_some_iff] at hc; obtain ⟨cs, hcs, hc⟩ := hc
  rw [Option.bind_eq_some_iff] at hc; obtain ⟨v, hv, hc⟩ := hc
  cases someC hc
  have e := aggOf_eq hcs; subst e
  have hra := rdA_rep (look_ok r hl) hva
  obtain ⟨i, fs, g, hi, hfs, hg, hj, hoff⟩ := fieldOf_ok ok hq
  generalize hx : a.eval x = X at hra
  cases hra with
  | agg hr =>
    rename_i arr
    obtain ⟨X, hX, hrep⟩ := part_run ok hj hr hv
    refine goes_val r hd hpb (v := X) ?_ hrep
    unfold execOp; rw [ho]
    simp only [Instr.field, Sem.run_bind, (ok.ty T i hi).und' w, Result.andThen_ok, hfs, hg, hx, asAgg, Sem.run_pure, hoff, hX]

theorem core_assign (r : RepSt d G w st a.tmps) (hl : ∀ t, look t = st.s t ∨ look t = .dead) (hd : ∀ t, o.dst = some t → t < a.tmps.size) (hpb : freeDst st.pb o.dst = true) {x : Operand} (ho : o.op = .assign x) {s : Slot}
    (hs : rdS E o.type look x = some s) (hno : ∀ n es, s ≠ .c (.own n es)) (hc : core E H call o look h0 kD kpD = some (.inl (us, h'))) : Goes E.P d G w st a o us st.h := by
  unfold core at hc
  rw [ho] at hc
  simp only [hs, Option.bind_some] at hc
  have hrun : (execOp a.eval o).run E.P w = .ok (.value (a.eval x)) w := by unfold execOp; rw [ho]; rfl
  obtain ⟨i, hr, _⟩ := rdS_rep (look_ok r hl) hs
  split at hc
  · exact absurd rfl (hno _ _)
  · rename_i c _ _
    cases someC hc
    refine goes_pure r hd hpb hrun (fun t => ?_) (fun _ _ e => by cases e)
    cases c with
    | v a => exact hr
    | nil n => exact hr
    | own n es => exact absurd rfl (hno n es)
  · rename_i cs
    cases someC hc
    exact goes_pure r hd hpb hrun (fun t => hr) (fun _ _ e => by cases e)
  · cases hc

theorem lenA_rep (ok : E.Ok) {T t : TypeId} {x : AV} {n : Int} {X : Value} (h : lenA E T x = some n) (hx : RepA G.S w G.μ x X) :
    (Builtin.len_ #[T] t #[X]).run E.P w = .ok (.int .i64 n) w := by
  unfold lenA at h
  cases hs : isStr E T with
  | true =>
    rw [hs] at h
    simp only [cond_true] at h
    obtain ⟨s, hs', rfl⟩ := Option.map_eq_some_iff.1 h
    have e := strOf_eq hs'; subst e
    rw [hx.litE]
    simp [Builtin.len_, run_underlying (isStr_ok ok hs) w, goInt]
  | false =>
    rw [hs] at h
    simp only [cond_false] at h
    rw [Option.bind_eq_some_iff] at h; obtain ⟨m, hm, h⟩ := h
    obtain ⟨k, hk, rfl⟩ := Option.map_eq_some_iff.1 h
    obtain ⟨el, i, hund, _⟩ := elemSize_ok ok hm
    unfold lenOf at hk
    split at hk
    · obtain ⟨hb, hk⟩ := condE hk
      cases hk
      cases hx with
      | slN => simp [Builtin.len_, run_underlying hund w, goInt]
      | slE => simp [Builtin.len_, run_underlying hund w, goInt]
      | sl => simp [Builtin.len_, run_underlying hund w, goInt]
    · obtain ⟨hb, hk⟩ := condE hk
      cases hk
      cases hx with
      | hs => simp [Builtin.len_, run_underlying hund w, goInt]
    · cases hk
      rw [hx.litE]
      simp [Builtin.len_, run_underlying hund w, goInt]
    · cases hk

theorem maxs_rep : ∀ (l : List AV) (x v : AV) (X : Value) (L : List Value), maxs x l = some v → RepA G.S w G.μ x X → RepL G.S w G.μ l L → ∃ V, (L.foldlM Builtin.max2 X).run E.P w = .ok V w ∧ RepA G.S w G.μ v V
  | [], x, v, X, L, h, hx, hl => by
    cases hl
    have : x = v := by unfold maxs at h; exact Option.some.inj h
    subst this
    exact ⟨X, rfl, hx⟩
  | y :: l, x, v, X, L, h, hx, hl => by
    cases hl with
    | cons hy hl =>
      rename_i Y L
      unfold maxs at h
      split at h
      · simp_all
      · rename_i k n k' m r e1
        cases e1
        have e1 := hx.litE; have e2 := hy.litE
        subst e1 e2
        obtain ⟨V, hV, hr⟩ := maxs_rep l _ v _ L h (.lit rfl) hl
        refine ⟨V, ?_, hr⟩
        rw [List.foldlM_cons, Sem.run_bind]
        simp only [Builtin.max2, Sem.run_pure, Result.andThen_ok]
        exact hV
      · cases h

theorem mins_rep : ∀ (l : List AV) (x v : AV) (X : Value) (L : List Value), mins x l = some v → RepA G.S w G.μ x X → RepL G.S w G.μ l L → ∃ V, (L.foldlM Builtin.min2 X).run E.P w = .ok V w ∧ RepA G.S w G.μ v V
  | [], x, v, X, L, h, hx, hl => by
    cases hl
    have : x = v := by unfold mins at h; exact Option.some.inj h
    subst this
    exact ⟨X, rfl, hx⟩
  | y :: l, x, v, X, L, h, hx, hl => by
    cases hl with
    | cons hy hl =>
      rename_i Y L
      unfold mins at h
      split at h
      · simp_all
      · rename_i k n k' m r e1
        cases e1
        have e1 := hx.litE; have e2 := hy.litE
        subst e1 e2
        obtain ⟨V, hV, hr⟩ := mins_rep l _ v _ L h (.lit rfl) hl
        refine ⟨V, ?_, hr⟩
        rw [List.foldlM_cons, Sem.run_bind]
        simp only [Builtin.min2, Sem.run_pure, Result.andThen_ok]
        exact hV
      · cases h

end
end Go.Sh

/- Comparisons of two values; slicing; what the built-in functions that only look tell. -/
namespace Go.Sh
open Go
set_option linter.unusedVariables false

theorem flatten_take_drop {n : Nat} : ∀ {es : List (List AV)}, (∀ e ∈ es, e.length = n) → ∀ (l q : Nat), l ≤ q → q ≤ es.length → ((es.take q).drop l).flatten = (es.flatten.drop (l * n)).take ((q - l) * n)
  | [], _, l, q, h1, h2 => by simp at h2; subst h2; simp
  | e :: r, h, 0, 0, _, _ => by simp
  | e :: r, h, 0, q + 1, _, h2 => by
    have he := h e List.mem_cons_self
    have ih := flatten_take_drop (n := n) (es := r) (fun x hx => h x (List.mem_cons_of_mem _ hx)) 0 q (Nat.zero_le _) (by simpa using h2)
    simp only [List.drop_zero, Nat.zero_mul, Nat.sub_zero] at ih ⊢
    rw [List.take_succ_cons, List.flatten_cons, List.flatten_cons, ih, Nat.succ_mul, Nat.add_comm, List.take_append, List.take_of_length_le (l := e) (by omega), he, Nat.add_sub_cancel_left]
  | e :: r, h, l + 1, 0, h1, _ => by omega
  | e :: r, h, l + 1, q + 1, h1, h2 => by
    have he := h e List.mem_cons_self
    have ih := flatten_take_drop (n := n) (es := r) (fun x hx => h x (List.mem_cons_of_mem _ hx)) l q (by omega) (by simpa using h2)
    rw [List.take_succ_cons, List.drop_succ_cons, ih, List.flatten_cons, Nat.succ_mul, Nat.add_comm (l * n) n, List.drop_append, List.drop_of_length_le (l := e) (by omega), he, Nat.add_sub_cancel_left, List.nil_append]
    congr 2
    omega

section
variable {E : Env} {H : FHint} {call : Nat → List AV → Heap → R} {d : Nat} {G : Gh} {w : World} {st : St} {a : Act} {o : Oper} {look : Nat → Slot} {h0 h' : Heap} {us : List (Nat × Slot)}

theorem eqLit_run (ok : E.Ok) {T : TypeId} {i : TI} (hi : E.ty T = some i) {x y : AV} {X Y : Value} {c : Bool} (h : eqLit i.desc x y = some c) (hx : RepA G.S w G.μ x X) (hy : RepA G.S w G.μ y Y) (n : Nat) :
    (Op.equalIn (n + 1) T X Y).run E.P w = .ok c w := by
  have hu := (ok.ty T i hi).und
  unfold eqLit at h
  split at h
  · rename_i q k p k' p' e
    have h := condE h
    obtain ⟨hk, h2⟩ := h
    simp only [decide_eq_true_eq] at hk; subst hk
    have h3 := Option.some.inj h2; subst h3
    have e1 := hx.litE; have e2 := hy.litE; subst e1 e2
    simp [Op.equalIn, run_underlying hu w, e]
  · rename_i s t e
    have h := Option.some.inj h; subst h
    have e1 := hx.litE; have e2 := hy.litE; subst e1 e2
    simp [Op.equalIn, run_underlying hu w, e]
  · rename_i s t e
    have h := Option.some.inj h; subst h
    have e1 := hx.litE; have e2 := hy.litE; subst e1 e2
    simp [Op.equalIn, run_underlying hu w, e]
  · cases h

theorem part_one (ok : E.Ok) {T : TypeId} {i : TI} (hi : E.ty T = some i) (hagg : i.agg = false) {arr : Array Value} {j : Nat} {X : Value} (hX : arr[j]? = some X) : (part T arr j).run E.P w = .ok X w := by
  simp only [part, Sem.run_bind, (ok.ty T i hi).isAgg w, hagg, Result.andThen_ok, Bool.false_eq_true, if_false]
  rw [hX]; rfl

theorem eqFields1_run (ok : E.Ok) (n : Nat) (xs ys : Array Value) : ∀ (fs : List Field) (j : Nat) (ks : List TypeDesc) (l m : List AV) (c : Bool), kinds1 E j fs = some ks → eqLits ks l m = some c →
    RepC G.S w G.μ l (xs.toList.drop j) → RepC G.S w G.μ m (ys.toList.drop j) →
    ((forIn fs ((none : Option Bool), ()) fun f _ =>
      if f.name ≠ "_" then do
        let p ← part f.type xs f.offset
        let q ← part f.type ys f.offset
        let e ← Op.equalIn (n + 1) f.type p q
        if (!e) = true then pure (ForInStep.done (some false, ())) else pure (ForInStep.yield (none, ()))
      else pure (ForInStep.yield (none, ()))) : Sem (Option Bool × Unit)).run E.P w = .ok ((if c then none else some false), ()) w
  | [], j, ks, l, m, c, hk, he, hx, hy => by
    unfold kinds1 at hk; cases hk
    cases l <;> cases m <;> simp [eqLits] at he
    subst he; rfl
  | f :: r, j, ks, l, m, c, hk, he, hx, hy => by
    unfold kinds1 at hk
    obtain ⟨hf, hk⟩ := condE hk
    simp only [Bool.and_eq_true] at hf
    have hoff := beqE hf.1
    have hname : f.name ≠ "_" := by simpa using hf.2
    split at hk
    · rename_i i hi
      obtain ⟨hs, hk⟩ := condE hk
      simp only [Bool.and_eq_true, Bool.not_eq_true'] at hs
      obtain ⟨ks', hks', rfl⟩ := Option.map_eq_some_iff.1 hk
      unfold eqLits at he
      split at he
      · rename_i h; cases h
      · rename_i k ks'' x l y m hh
        cases hh
        rw [Option.bind_eq_some_iff] at he; obtain ⟨b1, hb1, he⟩ := he
        rw [Option.bind_eq_some_iff] at he; obtain ⟨b2, hb2, he⟩ := he
        cases he
        have gx := hx.get (i := 0) (a := x) rfl
        have gy := hy.get (i := 0) (a := y) rfl
        obtain ⟨X, hX, hrx, _⟩ := gx
        obtain ⟨Y, hY, hry, _⟩ := gy
        have hX' : xs[j]? = some X := by simpa [List.getElem?_drop] using hX
        have hY' : ys[j]? = some Y := by simpa [List.getElem?_drop] using hY
        have htx := hx.drop 1
        have hty := hy.drop 1
        simp only [List.drop_succ_cons, List.drop_zero, List.drop_drop] at htx hty
        rw [List.forIn_cons]
        simp only [Sem.run_bind, hoff]
        rw [if_pos hname]
        simp only [Sem.run_bind, part_one ok hi hs.2 hX', part_one ok hi hs.2 hY', Result.andThen_ok, eqLit_run ok hi hb1 hrx hry n]
        cases b1 with
        | false => rfl
        | true =>
          simp only [Bool.not_true, Bool.false_eq_true, if_false, Sem.run_pure, Result.andThen_ok, Bool.true_and]
          exact eqFields1_run ok n xs ys r (j + 1) _ _ _ _ hks' hb2 htx hty
      · cases he
    · cases hk

theorem equalIn_struct (n : Nat) {P : Program} {T : TypeId} {fs : Array Field} (hu : P.underlying T = some (.struct fs)) (hst : P.stoodInHeld T = false) (xs ys : Array Value) (w : World) (c : Bool)
    (key : ((forIn fs.toList ((none : Option Bool), ()) fun f _ =>
      if f.name ≠ "_" then do
        let p ← part f.type xs f.offset
        let q ← part f.type ys f.offset
        let e ← Op.equalIn n f.type p q
        if (!e) = true then pure (ForInStep.done (some false, ())) else pure (ForInStep.yield (none, ()))
      else pure (ForInStep.yield (none, ()))) : Sem (Option Bool × Unit)).run P w = .ok ((if c then none else some false), ()) w) :
    (Op.equalIn (n + 1) T (.agg xs) (.agg ys)).run P w = .ok c w := by
  simp only [Op.equalIn, Sem.run_bind, run_underlying hu w, Result.andThen_ok, run_program, hst, Bool.false_eq_true, if_false]
  rw [← Array.forIn_toList]
  rw [key]
  cases c <;> rfl

theorem eqLits_append : ∀ (k1 k2 : List TypeDesc) (l m : List AV) (c : Bool), eqLits (k1 ++ k2) l m = some c →
    ∃ c1 c2, eqLits k1 (l.take k1.length) (m.take k1.length) = some c1 ∧ eqLits k2 (l.drop k1.length) (m.drop k1.length) = some c2 ∧ c = (c1 && c2)
  | [], k2, l, m, c, h => ⟨true, c, by rw [List.length_nil, List.take_zero, List.take_zero]; rfl, by simpa using h, by simp⟩
  | k :: k1, k2, [], m, c, h => by simp [eqLits] at h
  | k :: k1, k2, x :: l', [], c, h => by simp [eqLits] at h
  | k :: k1, k2, x :: l', y :: m', c, h => by
    rw [List.cons_append, eqLits] at h
    rw [Option.bind_eq_some_iff] at h; obtain ⟨b1, hb1, h⟩ := h
    rw [Option.bind_eq_some_iff] at h; obtain ⟨b2, hb2, h⟩ := h
    cases h
    obtain ⟨c1, c2, h1, h2, h3⟩ := eqLits_append k1 k2 l' m' b2 hb2
    refine ⟨b1 && c1, c2, ?_, h2, by rw [h3, Bool.and_assoc]⟩
    rw [List.length_cons, List.take_succ_cons, List.take_succ_cons, eqLits, hb1, Option.bind_some, h1]; rfl
theorem part_agg (ok : E.Ok) {T : TypeId} {i : TI} (hi : E.ty T = some i) (hagg : i.agg = true) (arr : Array Value) (j : Nat) : (part T arr j).run E.P w = .ok (.agg (arr.extract j (j + i.size))) w := by
  simp only [part, Sem.run_bind, (ok.ty T i hi).isAgg w, hagg, Result.andThen_ok, if_true, (ok.ty T i hi).size w, Sem.run_pure]
theorem eqFields_run (ok : E.Ok) (n : Nat) (xs ys : Array Value) : ∀ (fs : List Field) (j : Nat) (ks : List TypeDesc) (l m : List AV) (c : Bool), kindsOf E j fs = some ks → eqLits ks l m = some c →
    RepC G.S w G.μ l (xs.toList.drop j) → RepC G.S w G.μ m (ys.toList.drop j) →
    ((forIn fs ((none : Option Bool), ()) fun f _ =>
      if f.name ≠ "_" then do
        let p ← part f.type xs f.offset
        let q ← part f.type ys f.offset
        let e ← Op.equalIn (n + 2) f.type p q
        if (!e) = true then pure (ForInStep.done (some false, ())) else pure (ForInStep.yield (none, ()))
      else pure (ForInStep.yield (none, ()))) : Sem (Option Bool × Unit)).run E.P w = .ok ((if c then none else some false), ()) w
  | [], j, ks, l, m, c, hk, he, hx, hy => by
    unfold kindsOf at hk; cases hk
    cases l <;> cases m <;> simp [eqLits] at he
    subst he; rfl
  | f :: r, j, ks, l, m, c, hk, he, hx, hy => by
    unfold kindsOf at hk
    obtain ⟨hf, hk⟩ := condE hk
    simp only [Bool.and_eq_true] at hf
    have hoff := beqE hf.1
    have hname : f.name ≠ "_" := by simpa using hf.2
    split at hk
    · rename_i i hi
      cases hs : (Nat.beq i.size 1 && !i.agg) with
      | true =>
        rw [hs, cond_true] at hk
        simp only [Bool.and_eq_true, Bool.not_eq_true'] at hs
        obtain ⟨ks', hks', rfl⟩ := Option.map_eq_some_iff.1 hk
        unfold eqLits at he
        split at he
        · rename_i h; cases h
        · rename_i k ks'' x l y m hh
          cases hh
          rw [Option.bind_eq_some_iff] at he; obtain ⟨b1, hb1, he⟩ := he
          rw [Option.bind_eq_some_iff] at he; obtain ⟨b2, hb2, he⟩ := he
          cases he
          have gx := hx.get (i := 0) (a := x) rfl
          have gy := hy.get (i := 0) (a := y) rfl
          obtain ⟨X, hX, hrx, _⟩ := gx
          obtain ⟨Y, hY, hry, _⟩ := gy
          have hX' : xs[j]? = some X := by simpa [List.getElem?_drop] using hX
          have hY' : ys[j]? = some Y := by simpa [List.getElem?_drop] using hY
          have htx := hx.drop 1
          have hty := hy.drop 1
          simp only [List.drop_succ_cons, List.drop_zero, List.drop_drop] at htx hty
          rw [List.forIn_cons]
          simp only [Sem.run_bind, hoff]
          rw [if_pos hname]
          simp only [Sem.run_bind, part_one ok hi hs.2 hX', part_one ok hi hs.2 hY', Result.andThen_ok, eqLit_run ok hi hb1 hrx hry (n + 1)]
          cases b1 with
          | false => rfl
          | true =>
            simp only [Bool.not_true, Bool.false_eq_true, if_false, Sem.run_pure, Result.andThen_ok, Bool.true_and]
            exact eqFields_run ok n xs ys r (j + 1) _ _ _ _ hks' hb2 htx hty
        · cases he
      | false =>
        rw [hs, cond_false] at hk
        split at hk
        · rename_i gs hgs
          obtain ⟨hm, hk⟩ := condE hk
          rw [Bool.and_eq_true] at hm
          rw [Option.bind_eq_some_iff] at hk; obtain ⟨l1, hl1, hk⟩ := hk
          obtain ⟨hlen, hk⟩ := condE hk
          have hlen := beqE hlen
          obtain ⟨ks', hks', rfl⟩ := Option.map_eq_some_iff.1 hk
          obtain ⟨c1, c2, h1, h2, rfl⟩ := eqLits_append l1 ks' l m c he
          have hu := (ok.ty _ i hi).und
          rw [hgs] at hu
          have hst := (ok.eqs _ hm.1).1
          have tk : ∀ (zs : Array Value) (q : List AV), RepC G.S w G.μ q (zs.toList.drop j) → RepC G.S w G.μ (q.take l1.length) ((zs.extract j (j + i.size)).toList.drop 0) := by
            intro zs q hq
            have := hq.take l1.length
            rw [hlen] at this
            rw [hlen, List.drop_zero]
            simpa [Array.toList_extract, List.extract_eq_take_drop] using this
          have k1 := eqFields1_run ok n (xs.extract j (j + i.size)) (ys.extract j (j + i.size)) gs.toList 0 l1 _ _ c1 hl1 h1 (tk xs l hx) (tk ys m hy)
          have e1 := equalIn_struct (n + 1) hu hst _ _ w c1 k1
          have htx := hx.drop l1.length
          have hty := hy.drop l1.length
          rw [List.drop_drop] at htx hty
          rw [List.forIn_cons]
          simp only [Sem.run_bind, hoff]
          rw [if_pos hname]
          simp only [Sem.run_bind, part_agg ok hi hm.2, Result.andThen_ok, e1]
          cases c1 with
          | false => rfl
          | true =>
            simp only [Bool.not_true, Bool.false_eq_true, if_false, Sem.run_pure, Result.andThen_ok, Bool.true_and]
            rw [← hlen] at hks'
            exact eqFields_run ok n xs ys r (j + l1.length) _ _ _ _ hks' h2 htx hty
        · cases hk
    · cases hk

theorem equalIn_bool (n : Nat) {P : Program} {T : TypeId} (hu : P.underlying T = some .bool) (p q : Bool) (w : World) : (Op.equalIn (n + 1) T (.bool p) (.bool q)).run P w = .ok (p == q) w := by
  simp [Op.equalIn, run_underlying hu w]

theorem eqStruct_run (ok : E.Ok) {T : TypeId} {ks : List TypeDesc} {l m : List AV} {c : Bool} (hk : structKinds E T = some ks) (he : eqLits ks l m = some c) {xs ys : Array Value} (hx : RepC G.S w G.μ l xs.toList) (hy : RepC G.S w G.μ m ys.toList) :
    (Op.equal T (.agg xs) (.agg ys)).run E.P w = .ok c w ∧ E.P.eqGuardType E.P.depth T = false := by
  unfold structKinds at hk
  obtain ⟨hm, hk⟩ := condE hk
  obtain ⟨hst, hg⟩ := ok.eqs T hm
  split at hk
  · rename_i i hi
    split at hk
    · rename_i fs hfs
      have hu := (ok.ty T i hi).und
      rw [hfs] at hu
      have key := eqFields_run ok 9997 xs ys fs.toList 0 ks l m c hk he (by simpa using hx) (by simpa using hy)
      exact ⟨equalIn_struct 9999 hu hst xs ys w c key, hg⟩
    · cases hk
  · cases hk

theorem intBin_rep {op : BinOp} {k : IntKind} {p q : Int} {v : AV} (h : intBin op k p q = some v) (T : TypeId) (x y : Operand) :
    ∃ V, (do eqGuard op T x y (.int k p) (.int k q); binOp op T (.int k p) (.int k q) : Sem Value).run E.P w = .ok V w ∧ RepA G.S w G.μ v V := by
  unfold intBin at h
  split at h <;> first
    | (have h := Option.some.inj h; subst h
       exact ⟨_, by simp [eqGuard, binOp, Op.intArith, Op.intCmp]; rfl, .lit rfl⟩)
    | (have h := Option.some.inj h; subst h
       exact ⟨_, by simp [eqGuard, binOp, Op.intArith, Op.intCmp], .lit rfl⟩)
    | (cases hq : decide (q = 0) with
       | true => rw [hq] at h; cases h
       | false =>
         rw [hq] at h
         have h := Option.some.inj h; subst h
         have hq : ¬ q = 0 := by simpa using hq
         exact ⟨_, by first | (simp [eqGuard, binOp, Op.intDiv, hq]; done) | (simp [eqGuard, binOp, Op.intDiv, hq]; rfl), .lit rfl⟩)
    | cases h

theorem strBin_rep {op : BinOp} {p q : ByteArray} {v : AV} (h : strBin op p q = some v) (T : TypeId) (x y : Operand) :
    ∃ V, (do eqGuard op T x y (.string p) (.string q); binOp op T (.string p) (.string q) : Sem Value).run E.P w = .ok V w ∧ RepA G.S w G.μ v V := by
  unfold strBin at h
  split at h <;> first
    | (have h := Option.some.inj h; subst h
       exact ⟨_, by simp [eqGuard, binOp, Op.stringOp]; rfl, .lit rfl⟩)
    | (have h := Option.some.inj h; subst h
       exact ⟨_, by simp [eqGuard, binOp, Op.stringOp], .lit rfl⟩)
    | cases h

def isBool (E : Env) (T : TypeId) : Bool := match E.ty T with | some i => (match i.desc with | .bool => true | _ => false) | none => false

theorem boolBin_rep (ok : E.Ok) {op : BinOp} {p q : Bool} {v : AV} {T : TypeId} (hb : isBool E T = true) (h : (match op with | .eql => some (AV.lit (.bool (p == q))) | .neq => some (.lit (.bool (!(p == q)))) | _ => none) = some v) (x y : Operand) :
    ∃ V, (do eqGuard op T x y (.bool p) (.bool q); binOp op T (.bool p) (.bool q) : Sem Value).run E.P w = .ok V w ∧ RepA G.S w G.μ v V := by
  have hu : E.P.underlying T = some .bool := by
    unfold isBool at hb
    split at hb
    · rename_i i hi
      split at hb
      · rename_i hd; rw [(ok.ty T i hi).und, hd]
      · cases hb
    · cases hb
  have he : (Op.equal T (.bool p) (.bool q)).run E.P w = .ok (p == q) w := equalIn_bool 9999 hu p q w
  split at h
  · have h := Option.some.inj h; subst h
    exact ⟨.bool (p == q), by simp [eqGuard, binOp, he], .lit rfl⟩
  · have h := Option.some.inj h; subst h
    exact ⟨.bool (!(p == q)), by simp [eqGuard, binOp, he], .lit rfl⟩
  · cases h

theorem equalIn_nf (n : Nat) {P : Program} {T : TypeId} {p q : Array TypeId} {r : Bool} (hu : P.underlying T = some (.func p q r)) (w : World) : (Op.equalIn (n + 1) T .nilFunc .nilFunc).run P w = .ok true w := by
  simp [Op.equalIn, run_underlying hu w]
theorem funBin_rep (ok : E.Ok) {op : BinOp} {v : AV} {T : TypeId} (hb : (match E.ty T with | some i => (match i.desc with | .func _ _ _ => true | _ => false) | none => false) = true) (h : (match op with | .eql => some (AV.lit (.bool true)) | .neq => some (.lit (.bool false)) | _ => none) = some v) (x y : Operand) :
    ∃ V, (do eqGuard op T x y .nilFunc .nilFunc; binOp op T .nilFunc .nilFunc : Sem Value).run E.P w = .ok V w ∧ RepA G.S w G.μ v V := by
  obtain ⟨p, q, r, hu⟩ : ∃ p q r, E.P.underlying T = some (.func p q r) := by
    split at hb
    · rename_i i hi
      split at hb
      · rename_i p q r hd; exact ⟨p, q, r, by rw [(ok.ty T i hi).und, hd]⟩
      · cases hb
    · cases hb
  have he : (Op.equal T .nilFunc .nilFunc).run E.P w = .ok true w := by
    exact equalIn_nf 9999 hu w
  split at h
  · have h := Option.some.inj h; subst h
    exact ⟨.bool true, by simp [eqGuard, binOp, he], .lit rfl⟩
  · have h := Option.some.inj h; subst h
    exact ⟨.bool false, by simp [eqGuard, binOp, he], .lit rfl⟩
  · cases h

theorem binAV_rep (ok : E.Ok) {op : BinOp} {T : TypeId} {x y v : AV} {X Y : Value} (h : binAV E op T x y = some v) (hx : RepA G.S w G.μ x X) (hy : RepA G.S w G.μ y Y) (ox oy : Operand) :
    ∃ V, (do eqGuard op T ox oy X Y; binOp op T X Y : Sem Value).run E.P w = .ok V w ∧ RepA G.S w G.μ v V := by
  unfold binAV at h
  split at h
  · rename_i k p k' q
    obtain ⟨hk, h2⟩ := condE h
    simp only [decide_eq_true_eq] at hk; subst hk
    rw [hx.litE, hy.litE]
    exact intBin_rep h2 T ox oy
  · rw [hx.litE, hy.litE]
    exact strBin_rep h T ox oy
  · rw [hx.litE, hy.litE]
    have h := condE h
    exact boolBin_rep ok h.1 h.2 ox oy
  · rw [hx.litE, hy.litE]
    have h := condE h
    exact funBin_rep ok h.1 h.2 ox oy
  · rename_i l m
    rw [Option.bind_eq_some_iff] at h; obtain ⟨ks, hks, h⟩ := h
    cases hx with
    | agg hxs =>
    cases hy with
    | agg hys =>
      split at h
      · rw [Option.bind_eq_some_iff] at h; obtain ⟨c, hc', h⟩ := h
        obtain ⟨hrun, hg⟩ := eqStruct_run ok hks hc' hxs hys
        have h := Option.some.inj h; subst h
        exact ⟨.bool c, by simp [eqGuard, binOp, hg, hrun], .lit rfl⟩
      · rw [Option.bind_eq_some_iff] at h; obtain ⟨c, hc', h⟩ := h
        obtain ⟨hrun, hg⟩ := eqStruct_run ok hks hc' hxs hys
        have h := Option.some.inj h; subst h
        exact ⟨.bool (!c), by simp [eqGuard, binOp, hg, hrun], .lit rfl⟩
      · cases h
  · cases h

theorem core_binOp (ok : E.Ok) (r : RepSt d G w st a.tmps) (hl : ∀ t, look t = st.s t ∨ look t = .dead) (hd : ∀ t, o.dst = some t → t < a.tmps.size) (hpb : freeDst st.pb o.dst = true) {op : BinOp} {T T' : TypeId} {x y : Operand} (ho : o.op = .binOp op T x y T')
    (hc : core E H call o look h0 kD kpD = some (.inl (us, h'))) : Goes E.P d G w st a o us st.h := by
  unfold core at hc
  rw [ho] at hc
  simp only at hc
  rw [Option.bind_eq_some_iff] at hc; obtain ⟨va, hva, hc⟩ := hc
  rw [Option.bind_eq_some_iff] at hc; obtain ⟨vb, hvb, hc⟩ := hc
  rw [Option.bind_eq_some_iff] at hc; obtain ⟨v, hv, hc⟩ := hc
  cases someC hc
  obtain ⟨V, hrun, hrep⟩ := binAV_rep ok hv (rdA_rep (look_ok r hl) hva) (rdA_rep (look_ok r hl) hvb) x y
  refine goes_val r hd hpb (v := V) ?_ hrep
  unfold execOp; rw [ho]
  simp only [Sem.run_bind] at hrun ⊢
  rw [hrun]; rfl

theorem rdO_rep (hl : LookOk G w d look a.tmps) {T : TypeId} {x : Option Operand} {v : Option AV} (h : rdO E T look x = some v) :
    match v with | none => x = none | some u => ∃ y, x = some y ∧ RepA G.S w G.μ u (a.eval y) := by
  cases x with
  | none => simp only [rdO, Option.some.injEq] at h; subst h; rfl
  | some y =>
    simp only [rdO] at h
    obtain ⟨u, hu, rfl⟩ := Option.map_eq_some_iff.1 h
    exact ⟨y, rfl, rdA_rep hl hu⟩

def IsB (l0 l : Int) : Option Value → Prop
  | none => l = l0
  | some u => u = .int .i64 l

theorem sliceBounds_run {P : Program} {w : World} (isS : Bool) (len cap : Nat) (lo hi : Option Value) (l r : Int) (hl : IsB 0 l lo) (hr : IsB len r hi)
    (h0 : 0 ≤ l) (h1 : l ≤ r) (h2 : r ≤ len) (hc : len ≤ cap) : (Instr.sliceBounds isS len cap lo hi none).run P w = .ok (l.toNat, r.toNat, cap) w := by
  have hr0 : 0 ≤ r := by omega
  have hrc : r ≤ cap := by omega
  have hlr : l ≤ (r.toNat : Int) := by omega
  cases lo with
  | none =>
    simp only [IsB] at hl; subst hl
    cases hi with
    | none => simp only [IsB] at hr; subst hr; simp [Instr.sliceBounds]
    | some x => simp only [IsB] at hr; subst hr; simp [Instr.sliceBounds, Instr.sliceBound, asIntOf, hr0, hrc]
  | some y =>
    simp only [IsB] at hl; subst hl
    cases hi with
    | none =>
      simp only [IsB] at hr; subst hr
      simp [Instr.sliceBounds, Instr.sliceBound, asIntOf, h0, h1]
    | some x =>
      simp only [IsB] at hr; subst hr
      simp [Instr.sliceBounds, Instr.sliceBound, asIntOf, hr0, hrc, h0]
      omega

theorem bound_rep (hl : LookOk G w d look a.tmps) {x : Option Operand} {v : Option AV} {l l0 : Int} (h : rdO E 0 look x = some v) (e : bndO l0 v = some l) : IsB l0 l (x.map a.eval) := by
  have hr := rdO_rep hl h
  cases v with
  | none =>
    simp only at hr; subst hr
    simp only [bndO, Option.some.injEq] at e
    exact e.symm
  | some u =>
    obtain ⟨y, rfl, hy⟩ := hr
    have e := intOf_eq e; subst e
    exact hy.litE

theorem core_slice (ok : E.Ok) (r : RepSt d G w st a.tmps) (hl : ∀ t, look t = st.s t ∨ look t = .dead) (hd : ∀ t, o.dst = some t → t < a.tmps.size) (hpb : freeDst st.pb o.dst = true) {T : TypeId} {x : Operand} {lo hi : Option Operand} (ho : o.op = .slice T x lo hi none)
    (hc : core E H call o look h0 kD kpD = some (.inl (us, h'))) : Goes E.P d G w st a o us st.h := by
  unfold core at hc
  rw [ho] at hc
  simp only at hc
  rw [Option.bind_eq_some_iff] at hc; obtain ⟨va, hva, hc⟩ := hc
  rw [Option.bind_eq_some_iff] at hc; obtain ⟨vl, hvl, hc⟩ := hc
  rw [Option.bind_eq_some_iff] at hc; obtain ⟨vh, hvh, hc⟩ := hc
  rw [Option.bind_eq_some_iff] at hc; obtain ⟨v, hv, hc⟩ := hc
  cases someC hc
  have hra := rdA_rep (look_ok r hl) hva
  unfold sliceA at hv
  rw [Option.bind_eq_some_iff] at hv; obtain ⟨l, hlo, hv⟩ := hv
  have hl0 := bound_rep (look_ok r hl) (l0 := 0) hvl hlo
  cases hs : isStr E T with
  | true =>
    rw [hs] at hv
    simp only [cond_true] at hv
    rw [Option.bind_eq_some_iff] at hv; obtain ⟨s, hs', hv⟩ := hv
    rw [Option.bind_eq_some_iff] at hv; obtain ⟨q, hq, hv⟩ := hv
    obtain ⟨hb, hv⟩ := condE hv
    simp only [Bool.and_eq_true, decide_eq_true_eq] at hb
    have hv := Option.some.inj hv; subst hv
    have e := strOf_eq hs'; subst e
    have hq0 := bound_rep (look_ok r hl) hvh hq
    have hbd := sliceBounds_run (P := E.P) (w := w) false s.size s.size (lo.map a.eval) (hi.map a.eval) l q hl0 hq0 hb.1.1 hb.1.2 hb.2 (Nat.le_refl _)
    refine goes_val r hd hpb (v := .string (s.extract l.toNat q.toNat)) ?_ (.lit rfl)
    unfold execOp; rw [ho]
    simp only [Instr.sliceAt, Sem.run_bind, run_underlying (isStr_ok ok hs) w, Result.andThen_ok, Instr.slice, hra.litE, Option.map_none, Option.isSome_none, Bool.false_eq_true, if_false, hbd, Sem.run_pure]
  | false =>
    rw [hs] at hv
    simp only [cond_false] at hv
    rw [Option.bind_eq_some_iff] at hv; obtain ⟨n, hn, hv⟩ := hv
    split at hv
    · rename_i m i0 off len
      rw [Option.bind_eq_some_iff] at hv; obtain ⟨q, hq, hv⟩ := hv
      obtain ⟨hb, hv⟩ := condE hv
      simp only [Bool.and_eq_true, decide_eq_true_eq] at hb
      obtain ⟨⟨⟨hmn, hl1⟩, hb1⟩, hb2⟩ := hb
      have hv := Option.some.inj hv; subst hv
      have hq0 := bound_rep (look_ok r hl) hvh hq
      obtain ⟨el, i, hund, hel, hsz, htel⟩ := elemSize_ok ok hn
      generalize hx : a.eval x = X at hra
      cases hra with
      | hs _ _ cap hμ hcap hz =>
        rename_i b
        have hbd := sliceBounds_run (P := E.P) (w := w) true len cap (lo.map a.eval) (hi.map a.eval) l q hl0 hq0 (by omega) (by omega) hb2 hcap
        subst hl1
        refine goes_val r hd hpb (v := .slice (some ⟨b, off, none⟩) q.toNat cap) ?_ (.hs off q.toNat cap hμ (by omega) hz)
        unfold execOp; rw [ho]
        simp only [Instr.sliceAt, Sem.run_bind, run_underlying hund w, Result.andThen_ok, Instr.slice, hx, Option.map_none, hbd, Sem.run_pure, htel.size w]
        by_cases hc0 : cap = 0
        · subst hc0; rfl
        · simp [Addr.add_mid, hc0]
    rw [Option.bind_eq_some_iff] at hv; obtain ⟨es, hes, hv⟩ := hv
    rw [Option.bind_eq_some_iff] at hv; obtain ⟨q, hq, hv⟩ := hv
    obtain ⟨hb, hv⟩ := condE hv
    simp only [Bool.and_eq_true, decide_eq_true_eq] at hb
    obtain ⟨⟨hb0, hb1⟩, hb2⟩ := hb
    have hv := Option.some.inj hv; subst hv
    have e := slOf_eq hes; subst e
    have hq0 := bound_rep (look_ok r hl) hvh hq
    obtain ⟨el, i, hund, hel, hsz, htel⟩ := elemSize_ok ok hn
    generalize hx : a.eval x = X at hra
    cases hra with
    | slN =>
      have hbd := sliceBounds_run (P := E.P) (w := w) true 0 0 (lo.map a.eval) (hi.map a.eval) l q hl0 hq0 hb0 hb1 hb2 (Nat.le_refl _)
      refine goes_val r hd hpb (v := .slice none 0 0) ?_ (by simpa using RepA.slN n)
      have hq' : q = 0 := by simp at hb2; omega
      have hl' : l = 0 := by omega
      subst hq' hl'
      unfold execOp; rw [ho]
      simp only [Instr.sliceAt, Sem.run_bind, run_underlying hund w, Result.andThen_ok, Instr.slice, hx, Option.map_none, hbd, Sem.run_pure, htel.size w]
      rfl
    | slE _ a0 =>
      have hbd := sliceBounds_run (P := E.P) (w := w) true 0 0 (lo.map a.eval) (hi.map a.eval) l q hl0 hq0 hb0 hb1 hb2 (Nat.le_refl _)
      refine goes_val r hd hpb (v := .slice (some a0) 0 0) ?_ (by simpa using RepA.slE n a0)
      have hq' : q = 0 := by simp at hb2; omega
      have hl' : l = 0 := by omega
      subst hq' hl'
      unfold execOp; rw [ho]
      simp only [Instr.sliceAt, Sem.run_bind, run_underlying hund w, Result.andThen_ok, Instr.slice, hx, Option.map_none, hbd, Sem.run_pure, htel.size w]
      rfl
    | sl hcap hr hv hs hn' =>
      rename_i b o0 cap vals
      have hbd := sliceBounds_run (P := E.P) (w := w) true es.length cap (lo.map a.eval) (hi.map a.eval) l q hl0 hq0 hb0 hb1 hb2 hcap
      have hfl := flatten_len hn'
      have hl1 : l.toNat ≤ q.toNat := by omega
      have hl2 : q.toNat ≤ es.length := by omega
      have hsub : ((es.take q.toNat).drop l.toNat).flatten = (es.flatten.drop (l.toNat * n)).take ((q.toNat - l.toNat) * n) := by
        have h1 := flatten_take_drop (es := es) hn' l.toNat q.toNat hl1 hl2
        exact h1
      have hlen2 : ((es.take q.toNat).drop l.toNat).length = q.toNat - l.toNat := by simp; omega
      have hmul : l.toNat * n + (q.toNat - l.toNat) * n ≤ es.length * n := by
        rw [← Nat.add_mul]; exact Nat.mul_le_mul_right _ (by omega)
      have hflen : ((es.take q.toNat).drop l.toNat).flatten.length = (q.toNat - l.toNat) * n := by
        rw [hsub, List.length_take, List.length_drop]; omega
      by_cases hcl : cap = l.toNat
      · have hq1 : q.toNat = l.toNat := by omega
        have hemp : (es.take q.toNat).drop l.toNat = [] := by
          apply List.eq_nil_of_length_eq_zero; omega
        refine goes_val r hd hpb (v := .slice (some ⟨b, o0, none⟩) (q.toNat - l.toNat) (cap - l.toNat)) ?_ ?_
        · unfold execOp; rw [ho]
          simp only [Instr.sliceAt, Sem.run_bind, run_underlying hund w, Result.andThen_ok, Instr.slice, hx, Option.map_none, hbd, Sem.run_pure, htel.size w]
          rw [if_pos hcl]
        · rw [hemp, hq1, Nat.sub_self]
          exact .sl (es := []) (vals := []) (by simp) (by
            have := row?_sub hr 0 0 (by omega)
            simpa using this) .nil (by simp; omega) (by simp)
      · refine goes_val r hd hpb (v := .slice (some ⟨b, o0 + l.toNat * n, none⟩) (q.toNat - l.toNat) (cap - l.toNat)) ?_ ?_
        · unfold execOp; rw [ho]
          simp only [Instr.sliceAt, Sem.run_bind, run_underlying hund w, Result.andThen_ok, Instr.slice, hx, Option.map_none, hbd, Sem.run_pure, htel.size w, hcl, if_false, Option.map_some, Addr.add_mid, hsz]
        · have key : RepA G.S w G.μ (.sl n ((es.take q.toNat).drop l.toNat)) (.slice (some ⟨b, o0 + l.toNat * n, none⟩) ((es.take q.toNat).drop l.toNat).length (cap - l.toNat)) := by
            refine .sl (vals := (vals.drop (l.toNat * n)).take ((q.toNat - l.toNat) * n)) (by rw [hlen2]; omega) ?_ ?_ ?_ ?_
            · rw [hflen]; exact row?_sub hr _ _ (by omega)
            · rw [hsub]; exact (hv.drop _).take _
            · rw [hflen]; omega
            · intro e he; exact hn' e (List.mem_of_mem_take (List.mem_of_mem_drop he))
          rw [hlen2] at key
          exact key

end
end Go.Sh

/- Memory: new blocks, stores; a slice's tail that changes hands. -/
namespace Go.Sh
open Go
set_option linter.unusedVariables false

def setO (G : Gh) (b : Nat) (p : Owner) : Gh := { S := G.S, O := fun c => if c = b then p else G.O c, μ := G.μ }

theorem setO_other {G : Gh} {b c : Nat} {p : Owner} (h : c ≠ b) : (setO G b p).O c = G.O c := by simp [setO, h]
theorem setO_self {G : Gh} {b : Nat} {p : Owner} : (setO G b p).O b = p := by simp [setO]

theorem Within.zero {G : Gh} {w : World} (h : Within G w) {b : Nat} (hb : w.heap.size ≤ b) : G.S b = 0 := by
  rcases Nat.eq_zero_or_pos (G.S b) with e | e
  · exact e
  · obtain ⟨arr, T, fz, hh, _⟩ := h b (by omega)
    have := lt_of_heap hh
    omega

section
variable {E : Env} {H : FHint} {call : Nat → List AV → Heap → R} {d : Nat} {G : Gh} {w : World} {st : St} {a : Act} {o : Oper} {look : Nat → Slot} {h0 h' : Heap} {us : List (Nat × Slot)}

/-- A slot's tail changes hands: the slot tells no more. -/
theorem release {tmps : Array Value} (r : RepSt d G w st tmps) {u n : Nat} {es : List (List AV)} (hu : st.s u = .c (.own n es)) (p : Owner) :
    ∃ G1, RepSt d G1 w { s := upd st.s u .dead, h := st.h, pb := st.pb } tmps ∧ RepCell G1 w p (.own n es) (tmps.getD u undef) ∧ Fr d G w G1 w ∧ G1.S = G.S ∧ G1.μ = G.μ ∧ (tmps.getD u undef).oneCell' = true := by
  have hr := r.slot u
  rw [hu] at hr
  have hslot : ∀ (G1 : Gh), (∀ i s v, i ≠ u → RepSlot G w d i s v → RepSlot G1 w d i s v) → ∀ i, RepSlot G1 w d i (upd st.s u .dead i) (tmps.getD i undef) := by
    intro G1 h i
    unfold upd
    by_cases e : i = u
    · subst e; rw [show Nat.beq i i = true from by simp]; trivial
    · rw [beqF (fun h => e h.symm)]
      exact h i _ _ e (r.slot i)
  have hpath : ∀ v t off, upd st.s u .dead v = .path t off → st.pb t = true ∧ ∃ b, tmps.getD v undef = .pointer (some ⟨b, off, none⟩) ∧ tmps.getD t undef = .pointer (some ⟨b, 0, none⟩) := by
    intro v t off hv
    unfold upd at hv
    by_cases e : v = u
    · subst e; rw [show Nat.beq v v = true from by simp] at hv; cases hv
    · rw [beqF (fun h => e h.symm)] at hv
      exact r.path v t off hv
  rcases hr with ⟨hx, he⟩ | ⟨b, cap, arr, T, hv, ho, hh, ha, hc, hS, hrc, hn⟩
  · exact ⟨G, ⟨hslot G (fun _ _ _ _ h => h), hpath, r.heap, r.within⟩, .inl ⟨hx, he⟩, Fr.refl _ _ _, rfl, rfl, by rw [hx]; rfl⟩
  · have hext : Ext G.S w G.μ (setO G b p).S w (setO G b p).μ := Ext.refl _ _ _
    have hsame : ∀ c, c < w.heap.size → G.O c ≠ .sl d u → SameB G w (setO G b p) w c := fun c _ hne => ⟨rfl, rfl, setO_other (fun e => hne (e ▸ ho))⟩
    refine ⟨setO G b p, ⟨hslot _ (fun i s v hi h => ?_), hpath, r.heap.mono' hext rfl (fun i c hb hc => hsame c hb (by rw [hc]; simp)) (fun i k c hb hc => hsame c hb (by rw [hc]; simp)), r.within⟩,
      .inr ⟨b, cap, arr, T, hv, setO_self, hh, ha, hc, hS, hrc, hn⟩, ⟨rfl, rfl, rfl, Nat.le_refl _, hext, fun c hb hq => hsame c hb (by intro e; rw [e] at hq; simp [quiet] at hq)⟩, rfl, rfl, by rw [hv]; rfl⟩
    exact h.mono' hext (fun c hb hc => hsame c hb (by rw [hc]; simpa using hi)) (fun k c hb hc => hsame c hb (by rw [hc]; simp))

theorem zero_box {P : Program} {T : TypeId} {i : TI} (ht : TyOk P T i) {z : Array Value} (hz : z.toList = i.zero.map Cell.conc) (hp : i.zero.all Cell.plain = true) (pf : Nat → Owner) : RepBox G w pf i.zero z := by
  have hl : i.zero.length = z.size := by
    have := congrArg List.length hz
    simpa using this.symm
  refine ⟨hl, fun j c hc => ?_⟩
  have hpc := List.all_eq_true.1 hp c (List.mem_of_getElem? hc)
  have hzj : z.toList[j]? = some c.conc := by rw [hz, List.getElem?_map, hc]; rfl
  refine ⟨c.conc, by simpa using hzj, ?_, ?_⟩
  · cases c with
    | v x => cases x <;> first | exact RepA.lit hpc | simp [Cell.plain] at hpc
    | nil n => rfl
    | own n es => simp [Cell.plain] at hpc
  · cases c with
    | v x =>
      cases x with
      | lit v => cases v <;> first | rfl | simp [Cell.plain, scalar] at hpc
      | _ => simp [Cell.plain] at hpc
    | nil n => rfl
    | own n es => simp [Cell.plain] at hpc

theorem RepCell.norm {p : Owner} {c : Cell} {x : Value} (h : RepCell G w p c x) : RepCell G w p c.norm x := by
  cases c with
  | v a => exact h
  | nil n => exact .inl ⟨h, rfl⟩
  | own n es => exact h

theorem RepBox.norm {pf : Nat → Owner} {cs : List Cell} {arr : Array Value} (h : RepBox G w pf cs arr) : RepBox G w pf (cs.map Cell.norm) arr := by
  refine ⟨by simpa using h.1, fun i c hc => ?_⟩
  rw [List.getElem?_map] at hc
  obtain ⟨c0, h0, rfl⟩ := Option.map_eq_some_iff.1 hc
  obtain ⟨x, hx, hr, ho⟩ := h.2 i c0 h0
  exact ⟨x, hx, hr.norm, ho⟩

theorem frame_alloc (hw : Within G w) (x : Obj) (p : Owner) : Fr d G w (setO G w.heap.size p) (w.alloc x) ∧ Within (setO G w.heap.size p) (w.alloc x) ∧ (∀ b, b < w.heap.size → SameB G w (setO G w.heap.size p) (w.alloc x) b) := by
  have hs : ∀ b, b < w.heap.size → SameB G w (setO G w.heap.size p) (w.alloc x) b := fun b hb => ⟨heap_alloc_lt w x hb, rfl, setO_other (by omega)⟩
  refine ⟨⟨rfl, rfl, rfl, by rw [size_alloc]; omega, ⟨fun _ => Nat.le_refl _, fun _ _ _ _ _ h => row?_alloc w x h, fun _ _ h => h, fun b => szB_le fun arr T fz h => ⟨arr, T, fz, heap_alloc_old w x h, Nat.le_refl _⟩⟩, fun b hb _ => hs b hb⟩, fun b hb => ?_, hs⟩
  obtain ⟨arr, T, fz, h1, h2⟩ := hw b hb
  exact ⟨arr, T, fz, heap_alloc_old w x h1, h2⟩

/-- A new block that is a slot's own. -/
theorem new_loc (r : RepSt d G w st a.tmps) {t : Nat} (ht : t < a.tmps.size) (hpb : st.pb t = false) {cs : List Cell} {arr : Array Value} (T : TypeId) (hb : RepBox G w (.sc d t) cs arr) :
    RepSt d (setO G w.heap.size (.sl d t)) (w.alloc (.cells arr T)) { s := ups st.s [(t, .loc cs)], h := st.h, pb := addPb st.pb [(t, .loc cs)] } (putT a.tmps (some t) (.pointer (some ⟨w.heap.size, 0, none⟩))) ∧
      Fr d G w (setO G w.heap.size (.sl d t)) (w.alloc (.cells arr T)) := by
  obtain ⟨hf, hwi, hs⟩ := frame_alloc (d := d) r.within (.cells arr T) (.sl d t)
  refine ⟨r.next hf.ext (some t) _ (fun _ e => by cases e; exact ht) (by simp [freeDst, hpb]) _ _ (fun _ e => by cases e; simp) (fun t' s hm => ?_) (fun _ _ _ hm => by simp at hm) (fun _ _ b hb' _ => hs b hb')
    (r.heap.mono' hf.ext rfl (fun _ b hb' _ => hs b hb') (fun _ _ b hb' _ => hs b hb')) hwi, hf⟩
  simp only [List.mem_cons, Prod.mk.injEq, List.not_mem_nil, or_false] at hm
  obtain ⟨rfl, rfl⟩ := hm
  refine ⟨w.heap.size, arr, T, ?_, setO_self, heap_alloc_new w _, r.within.zero (Nat.le_refl _), hb.mono' hf.ext (fun i b hb' _ => hs b hb')⟩
  show (a.tmps.setIfInBounds t' _).getD t' undef = _
  rw [getD_put _ _ _ _ ht, if_pos rfl]

def pushH (G : Gh) (b : Nat) (p : Owner) : Gh := { S := G.S, O := fun c => if c = b then p else G.O c, μ := G.μ ++ [b] }

/-- A new block of the heap, and what tells of it. -/
theorem new_heapX (r : RepSt d G w st a.tmps) {t : Nat} (ht : t < a.tmps.size) (hpb : st.pb t = false) {cs : List Cell} {arr : Array Value} (T : TypeId) (hb : RepTail G w (.hc st.h.length) cs arr) {x : AV} {v : Value} (hx : RepA (pushH G w.heap.size (.hb st.h.length)).S (w.alloc (.cells arr T)) (pushH G w.heap.size (.hb st.h.length)).μ x v) :
    RepSt d (pushH G w.heap.size (.hb st.h.length)) (w.alloc (.cells arr T)) { s := ups st.s [(t, .c (.v x))], h := st.h ++ [cs], pb := addPb st.pb [(t, .c (.v x))] }
      (putT a.tmps (some t) v) ∧ Fr d G w (pushH G w.heap.size (.hb st.h.length)) (w.alloc (.cells arr T)) := by
  have hμl : G.μ.length = st.h.length := r.heap.1
  have hμ : ∀ (i b : Nat), G.μ[i]? = some b → (G.μ ++ [w.heap.size])[i]? = some b := fun i b h => by
    have hi : i < G.μ.length := by
      rcases Nat.lt_or_ge i G.μ.length with h' | h'
      · exact h'
      · rw [List.getElem?_eq_none h'] at h; cases h
    rw [List.getElem?_append_left hi]; exact h
  have hs : ∀ b, b < w.heap.size → SameB G w (pushH G w.heap.size (.hb st.h.length)) (w.alloc (.cells arr T)) b := fun b hb => ⟨heap_alloc_lt w _ hb, rfl, by
    show (if b = w.heap.size then _ else G.O b) = _
    rw [if_neg (by omega)]⟩
  have hext : Ext G.S w G.μ (pushH G w.heap.size (.hb st.h.length)).S (w.alloc (.cells arr T)) (pushH G w.heap.size (.hb st.h.length)).μ := ⟨fun _ => Nat.le_refl _, fun _ _ _ _ _ h => row?_alloc w _ h, hμ, fun b => szB_le fun arr T fz h => ⟨arr, T, fz, heap_alloc_old w _ h, Nat.le_refl _⟩⟩
  have hf : Fr d G w (pushH G w.heap.size (.hb st.h.length)) (w.alloc (.cells arr T)) := ⟨rfl, rfl, rfl, by rw [size_alloc]; omega, hext, fun b hb _ => hs b hb⟩
  have hwi : Within (pushH G w.heap.size (.hb st.h.length)) (w.alloc (.cells arr T)) := fun b hb => by
    obtain ⟨arr', T', fz, h1, h2⟩ := r.within b hb
    exact ⟨arr', T', fz, heap_alloc_old w _ h1, h2⟩
  have hheap : RepHeap (pushH G w.heap.size (.hb st.h.length)) (w.alloc (.cells arr T)) (st.h ++ [cs]) := by
    refine ⟨by simp [pushH, hμl], fun i c hc hcn => ?_, fun g l e => RepA.mono hext (r.heap.2.2 g l e)⟩
    rcases Nat.lt_or_ge i st.h.length with hi | hi
    · rw [List.getElem?_append_left hi] at hc
      obtain ⟨b, arr', T', h1, h2, h3, h4, h5⟩ := r.heap.2.1 i c hc hcn
      obtain ⟨e1, e2, e3⟩ := hs b (lt_of_heap h3)
      exact ⟨b, arr', T', hμ i b h1, e3.trans h2, e1.trans h3, e2.trans h4, h5.mono' hext (fun k b' hb' _ => hs b' hb')⟩
    · rw [List.getElem?_append_right hi] at hc
      have hi' : i = st.h.length := by
        rcases Nat.eq_zero_or_pos (i - st.h.length) with e | e
        · omega
        · rw [List.getElem?_eq_none (by simp; omega)] at hc; cases hc
      subst hi'
      simp at hc; subst hc
      refine ⟨w.heap.size, arr, T, by simp [pushH, ← hμl], by simp [pushH], heap_alloc_new w _, r.within.zero (Nat.le_refl _), hb.mono' hext (fun k b' hb' _ => hs b' hb')⟩
  refine ⟨r.next hext (some t) _ (fun _ e => by cases e; exact ht) (by simp [freeDst, hpb]) _ _ (fun _ e => by cases e; simp) (fun t' s hm => ?_) (fun _ _ _ hm => by simp at hm) (fun _ _ b hb' _ => hs b hb') hheap hwi, hf⟩
  simp only [List.mem_cons, Prod.mk.injEq, List.not_mem_nil, or_false] at hm
  obtain ⟨rfl, rfl⟩ := hm
  have e : (putT a.tmps (some t') v).getD t' undef = v := by
    show (a.tmps.setIfInBounds t' _).getD t' undef = _
    rw [getD_put _ _ _ _ ht, if_pos rfl]
  rw [e]
  exact hx

/-- A new block of the heap. -/
theorem new_heap (r : RepSt d G w st a.tmps) {t : Nat} (ht : t < a.tmps.size) (hpb : st.pb t = false) {cs : List Cell} {arr : Array Value} (T : TypeId) (hb : RepBox G w (.hc st.h.length) cs arr) :
    RepSt d (pushH G w.heap.size (.hb st.h.length)) (w.alloc (.cells arr T)) { s := ups st.s [(t, .c (.v (.hp st.h.length 0)))], h := st.h ++ [cs], pb := addPb st.pb [(t, .c (.v (.hp st.h.length 0)))] }
      (putT a.tmps (some t) (.pointer (some ⟨w.heap.size, 0, none⟩))) ∧ Fr d G w (pushH G w.heap.size (.hb st.h.length)) (w.alloc (.cells arr T)) :=
  new_heapX r ht hpb T hb.tail (RepA.hp 0 (by have hμl : G.μ.length = st.h.length := r.heap.1; simp [pushH, ← hμl]))

theorem core_alloc (ok : E.Ok) (r : RepSt d G w st a.tmps) (hh : memN H.hb (o.dst.getD 0) = true → h0 = st.h) (hd : ∀ t, o.dst = some t → t < a.tmps.size) (hpb : freeDst st.pb o.dst = true) {T : TypeId} (ho : o.op = .alloc T)
    (hc : core E H call o look h0 kD kpD = some (.inl (us, h'))) : Goes E.P d G w st a o us (bif dstIn H.hb o.dst then h' else st.h) := by
  unfold core at hc
  rw [ho] at hc
  simp only at hc
  rw [Option.bind_eq_some_iff] at hc; obtain ⟨i, hi, hc⟩ := hc
  have htI := ok.ty T i hi
  obtain ⟨z, hz, hzc, hzp, _, _⟩ := htI.zero w
  have hrun : (execOp a.eval o).run E.P w = .ok (.value (.pointer (some ⟨w.heap.size, 0, none⟩))) (w.alloc (.cells z.cells T)) := by
    unfold execOp; rw [ho]
    simp only [Instr.alloc, Sem.run_bind, hz, Result.andThen_ok, newVar, newRow, run_newObj, Sem.run_pure]
    rfl
  split at hc
  · rename_i t hdt
    have hpb' : st.pb t = false := by rw [hdt] at hpb; simpa [freeDst] using hpb
    cases hm : memN H.hb t with
    | true =>
      rw [hm] at hc
      simp only [cond_true] at hc
      have := hh (by rw [hdt]; exact hm)
      subst this
      cases someC hc
      obtain ⟨hr, hf⟩ := new_heap (a := a) r (hd t hdt) hpb' T ((zero_box htI hzc hzp (.hc st.h.length)).norm)
      rw [show dstIn H.hb o.dst = true from by rw [hdt]; exact hm]
      refine goes_run hrun ?_ hf
      rw [hdt]; exact hr
    | false =>
      rw [hm] at hc
      simp only [cond_false] at hc
      cases someC hc
      obtain ⟨hr, hf⟩ := new_loc (a := a) r (hd t hdt) hpb' T (zero_box htI hzc hzp (.sc d t))
      rw [show dstIn H.hb o.dst = false from by rw [hdt]; exact hm]
      refine goes_run hrun ?_ hf
      rw [hdt]; exact hr
  · cases hc

end
end Go.Sh

/- What is laid into memory: variables that are made with a value, stores. -/
namespace Go.Sh
open Go
set_option linter.unusedVariables false

theorem RepA.one {S : Nat → Nat} {w : World} {μ : List Nat} {x : AV} {X : Value} (h : RepA S w μ x X) (ho : x.one = true) : X.oneCell' = true := by
  cases h with
  | lit h => cases X <;> first | rfl | simp [scalar] at h
  | agg => simp [AV.one] at ho
  | tup => simp [AV.one] at ho
  | dead => simp [AV.one] at ho
  | _ => rfl

theorem cells_one {X : Value} (h : X.oneCell' = true) : X.cells = #[X] := by cases X <;> first | rfl | simp [Value.oneCell'] at h

section
variable {ρ : Type} {E : Env} {H : FHint} {call : Nat → List AV → Heap → R} {d : Nat} {G : Gh} {w : World} {st : St} {a : Act} {o : Oper} {look : Nat → Slot} {h0 h' : Heap} {us : List (Nat × Slot)}

theorem RepC.box {l : List AV} {arr : Array Value} (h : RepC G.S w G.μ l arr.toList) (pf : Nat → Owner) : RepBox G w pf ((List.range l.length).map fun j => .v (l.getD j .dead)) arr := by
  refine ⟨by simpa using h.length, fun i c hc => ?_⟩
  rw [List.getElem?_map] at hc
  obtain ⟨j, hj, rfl⟩ := Option.map_eq_some_iff.1 hc
  obtain ⟨hil, hj⟩ := List.getElem?_eq_some_iff.1 hj
  have hil : i < l.length := by simpa using hil
  have hj : i = j := by simpa using hj
  subst hj
  have hli : l[i]? = some (l.getD i .dead) := by rw [List.getD_eq_getElem?_getD, List.getElem?_eq_getElem hil]; rfl
  obtain ⟨x, hx, hr, ho⟩ := h.get hli
  exact ⟨x, by simpa using hx, hr, ho⟩

theorem explode_rep {i : TI} {x : AV} {X : Value} {K : List Cell → Option ρ} {res : ρ} (h : explodeK i x K = some res) (hx : RepA G.S w G.μ x X) :
    ∃ cs, K cs = some res ∧ cs.all Cell.free = true ∧ cs.length = i.size ∧ X.cells.size = i.size ∧ ∀ pf, RepBox G w pf cs X.cells := by
  unfold explodeK at h
  cases hagg : i.agg with
  | true =>
    rw [hagg] at h
    simp only [cond_true] at h
    rw [Option.bind_eq_some_iff] at h; obtain ⟨l, hl, h⟩ := h
    obtain ⟨hs, h⟩ := condE h
    have hs := beqE hs
    have e := aggOf_eq hl; subst e
    cases hx with
    | agg hr =>
      rename_i arr
      have hlen := hr.length
      refine ⟨_, h, ?_, by simp, ?_, fun pf => ?_⟩
      · rw [List.all_eq_true]
        intro c hc
        obtain ⟨j, _, rfl⟩ := List.mem_map.1 hc
        rfl
      · show arr.size = _
        rw [← hs, hlen]; simp
      · rw [← hs]; exact hr.box pf
  | false =>
    rw [hagg] at h
    simp only [cond_false] at h
    obtain ⟨hs, h⟩ := condE h
    simp only [Bool.and_eq_true] at hs
    have h1 := beqE hs.1
    have hone := hx.one hs.2
    have hc := cells_one hone
    refine ⟨_, h, rfl, by simp [h1], by rw [hc, h1]; rfl, fun pf => ?_⟩
    rw [hc]
    refine ⟨rfl, fun j c hj => ?_⟩
    cases j with
    | zero => simp at hj; subst hj; exact ⟨X, rfl, hx, hone⟩
    | succ j => simp at hj

/-- What comes to lie in memory: nobody's, or a slot's tail with it. -/
theorem take_rep {i : TI} {s : Slot} {src : Operand} {X : Value} {k : Nat} {K : List Cell → List (Nat × Slot) → Option ρ} {res : ρ} (h : takeK i s src K = some res) (hs : RepSlot G w d k s X) (hsrc : ∀ t, src = .tmp t → k = t ∧ s = look t) :
    (∃ cs, K cs [] = some res ∧ cs.all Cell.free = true ∧ cs.length = i.size ∧ X.cells.size = i.size ∧ ∀ pf, RepBox G w pf cs X.cells) ∨
    (∃ n es t, K [.own n es] [(t, .dead)] = some res ∧ src = .tmp t ∧ look t = .c (.own n es) ∧ i.size = 1) := by
  unfold takeK at h
  split at h
  · rename_i n es
    right
    cases hagg : i.agg with
    | true => rw [hagg] at h; cases h
    | false =>
      rw [hagg] at h
      simp only [cond_false] at h
      split at h
      · rename_i t
        obtain ⟨h1, h⟩ := condE h
        obtain ⟨rfl, e⟩ := hsrc t rfl
        exact ⟨n, es, k, h, rfl, e.symm, beqE h1⟩
      · cases h
  · rename_i n
    left
    cases hagg : i.agg with
    | true => rw [hagg] at h; cases h
    | false =>
      rw [hagg] at h
      simp only [cond_false] at h
      obtain ⟨h1, h⟩ := condE h
      have h1 := beqE h1
      have hX : X = .slice none 0 0 := hs
      subst hX
      refine ⟨_, h, rfl, by simp [h1], by rw [h1]; rfl, fun pf => ⟨rfl, fun j c hj => ?_⟩⟩
      cases j with
      | zero => simp at hj; subst hj; exact ⟨_, rfl, rfl, rfl⟩
      | succ j => simp at hj
  · left
    obtain ⟨cs, hK, hf, hl, hz, hb⟩ := explode_rep h hs
    exact ⟨cs, hK, hf, hl, hz, hb⟩
  · rename_i cs
    left
    obtain ⟨hsz, h⟩ := condE h
    simp only [Bool.and_eq_true] at hsz
    obtain ⟨arr, rfl, hf, hb⟩ := hs
    exact ⟨cs, h, hf, beqE hsz.2, by show arr.size = _; rw [← hb.1]; exact beqE hsz.2, fun pf => hb.free_mono (Ext.refl _ _ _) hf⟩
  · cases h

theorem rel_lookmono {u : Nat} (hl : ∀ t, look t = st.s t ∨ look t = .dead) {s : Slot} (h : look u = s) (hs : s ≠ .dead) : st.s u = s := look_eq hl h hs

theorem core_box (ok : E.Ok) (r : RepSt d G w st a.tmps) (hl : ∀ t, look t = st.s t ∨ look t = .dead) (hh : dstIn H.hb o.dst = true → h0 = st.h) (hd : ∀ t, o.dst = some t → t < a.tmps.size) (hpb : freeDst st.pb o.dst = true) {T : TypeId} {x : Operand} (ho : o.op = .box T x)
    (hc : core E H call o look h0 kD kpD = some (.inl (us, h'))) : Goes E.P d G w st a o us (bif dstIn H.hb o.dst then h' else st.h) := by
  unfold core at hc
  rw [ho] at hc
  simp only at hc
  rw [Option.bind_eq_some_iff] at hc; obtain ⟨i, hi, hc⟩ := hc
  rw [Option.bind_eq_some_iff] at hc; obtain ⟨s, hs, hc⟩ := hc
  obtain ⟨k, hrs, hsrc⟩ := rdS_rep (look_ok r hl) hs
  have hrun : (execOp a.eval o).run E.P w = .ok (.value (.pointer (some ⟨w.heap.size, 0, none⟩))) (w.alloc (.cells (a.eval x).cells T)) := by
    unfold execOp; rw [ho]
    simp only [Instr.box, Sem.run_bind, newVar, newRow, run_newObj, Result.andThen_ok, Sem.run_pure]
    rfl
  cases hdt : o.dst with
  | none =>
    exfalso
    rcases take_rep hc hrs hsrc with ⟨cs, hK, _⟩ | ⟨n, es, t, hK, _⟩ <;> (rw [hdt] at hK; cases hK)
  | some t =>
    have hpb' : st.pb t = false := by rw [hdt] at hpb; simpa [freeDst] using hpb
    have ht := hd t hdt
    rcases take_rep hc hrs hsrc with ⟨cs, hK, hf, hlen, hsz, hb⟩ | ⟨n, es, u, hK, hu, hlu, h1⟩
    · rw [hdt] at hK
      simp only at hK
      cases hm : memN H.hb t with
      | true =>
        rw [hm] at hK
        simp only [cond_true] at hK
        have := hh (by rw [hdt]; exact hm)
        subst this
        cases someC hK
        obtain ⟨hr, hfr⟩ := new_heap (a := a) r ht hpb' T ((hb (.hc st.h.length)).norm)
        rw [show dstIn H.hb (some t) = true from hm]
        refine goes_run hrun ?_ hfr
        rw [hdt]; exact hr
      | false =>
        rw [hm] at hK
        simp only [cond_false] at hK
        cases someC hK
        obtain ⟨hr, hfr⟩ := new_loc (a := a) r ht hpb' T (hb (.sc d t))
        rw [show dstIn H.hb (some t) = false from hm]
        refine goes_run hrun ?_ hfr
        rw [hdt]; exact hr
    · rw [hdt] at hK
      simp only at hK
      have hsu := look_eq hl hlu (by simp)
      have hxu : a.eval x = a.tmps.getD u undef := by rw [hu]; rfl
      have hbox : ∀ {G1 : Gh} {pf : Nat → Owner}, RepCell G1 w (pf 0) (.own n es) (a.tmps.getD u undef) → (a.tmps.getD u undef).oneCell' = true → RepBox G1 w pf [.own n es] (a.eval x).cells := by
        intro G1 pf hrc hone
        rw [hxu, cells_one hone]
        refine ⟨rfl, fun j c hj => ?_⟩
        cases j with
        | zero => simp at hj; subst hj; exact ⟨_, rfl, hrc, hone⟩
        | succ j => simp at hj
      cases hm : memN H.hb t with
      | true =>
        rw [hm] at hK
        simp only [cond_true] at hK
        have := hh (by rw [hdt]; exact hm)
        subst this
        cases someC hK
        obtain ⟨G1, r1, hrc, hf1, _, _, hone⟩ := release r hsu (.hc st.h.length 0)
        obtain ⟨hr, hfr⟩ := new_heap (a := a) r1 ht hpb' T (hbox (pf := .hc st.h.length) hrc hone)
        rw [show dstIn H.hb (some t) = true from hm]
        refine goes_run hrun ?_ (hf1.trans hfr)
        rw [hdt]; exact hr
      | false =>
        rw [hm] at hK
        simp only [cond_false] at hK
        cases someC hK
        obtain ⟨G1, r1, hrc, hf1, _, _, hone⟩ := release r hsu (.sc d t 0)
        obtain ⟨hr, hfr⟩ := new_loc (a := a) r1 ht hpb' T (hbox (pf := .sc d t) hrc hone)
        rw [show dstIn H.hb (some t) = false from hm]
        refine goes_run hrun ?_ (hf1.trans hfr)
        rw [hdt]; exact hr

theorem splice_get {cs new : List Cell} {off : Nat} {l : List Cell} (h : splice cs off l = some new) : off + l.length ≤ cs.length ∧ new.length = cs.length ∧
    ∀ j, new[j]? = if j < off then cs[j]? else if j < off + l.length then l[j - off]? else cs[j]? := by
  unfold splice at h
  obtain ⟨hle, h⟩ := condE h
  have hle := bleE hle
  have h := Option.some.inj h; subst h
  refine ⟨hle, by simp; omega, fun j => ?_⟩
  have l2 : (cs.take off).length = off := by simp; omega
  rw [List.append_assoc]
  by_cases hj : j < off
  · rw [if_pos hj, List.getElem?_append_left (by omega), List.getElem?_take, if_pos hj]
  · rw [if_neg hj, List.getElem?_append_right (by omega), l2]
    by_cases hj2 : j < off + l.length
    · rw [if_pos hj2, List.getElem?_append_left (by omega)]
    · rw [if_neg hj2, List.getElem?_append_right (by omega), List.getElem?_drop]
      congr 1; omega

/-- A part of a block is written over. -/
theorem box_splice {G' : Gh} {w' : World} {pf : Nat → Owner} {cs new l : List Cell} {off : Nat} {arr arr' V : Array Value} (x : Ext G.S w G.μ G'.S w' G'.μ) (hb : RepBox G w pf cs arr) (hs : splice cs off l = some new)
    (hl : RepBox G' w' (fun j => pf (off + j)) l V) (harr : arr'.toList = spliceV arr.toList off V.toList) (hsame : ∀ j b, b < w.heap.size → (j < off ∨ off + l.length ≤ j) → G.O b = pf j → SameB G w G' w' b) : RepBox G' w' pf new arr' := by
  obtain ⟨hle, hlen, hget⟩ := splice_get hs
  have hVl : l.length = V.size := hl.1
  have hle' : off + V.toList.length ≤ arr.toList.length := by
    have := hb.1
    simp; omega
  refine ⟨?_, fun j c hc => ?_⟩
  · have := congrArg List.length harr
    rw [spliceV_length hle'] at this
    have h2 := hb.1
    simp at this
    omega
  · rw [hget] at hc
    have ha : arr'[j]? = (spliceV arr.toList off V.toList)[j]? := by rw [← harr]; simp
    rw [ha, spliceV_get hle']
    have hVl' : V.toList.length = l.length := by simp [hVl]
    by_cases hj : j < off
    · rw [if_pos hj] at hc ⊢
      obtain ⟨y, hy, hr, ho⟩ := hb.2 j c hc
      exact ⟨y, by simpa using hy, hr.mono' x (fun b hb' e => hsame j b hb' (.inl hj) e), ho⟩
    · rw [if_neg hj] at hc ⊢
      by_cases hj2 : j < off + l.length
      · rw [if_pos hj2] at hc
        rw [if_pos (by omega)]
        obtain ⟨y, hy, hr, ho⟩ := hl.2 _ c hc
        refine ⟨y, by simpa using hy, ?_, ho⟩
        have e : off + (j - off) = j := by omega
        have hr : RepCell G' w' (pf (off + (j - off))) c y := hr
        rw [e] at hr; exact hr
      · rw [if_neg hj2] at hc
        rw [if_neg (by omega)]
        obtain ⟨y, hy, hr, ho⟩ := hb.2 j c hc
        exact ⟨y, by simpa using hy, hr.mono' x (fun b hb' e => hsame j b hb' (.inr (by omega)) e), ho⟩

/-- Likewise where the last cells may hold whatever. -/
theorem tail_splice {G' : Gh} {w' : World} {pf : Nat → Owner} {cs new l : List Cell} {off : Nat} {arr arr' V : Array Value} (x : Ext G.S w G.μ G'.S w' G'.μ) (hb : RepTail G w pf cs arr) (hs : splice cs off l = some new)
    (hl : RepBox G' w' (fun j => pf (off + j)) l V) (harr : arr'.toList = spliceV arr.toList off V.toList) (hsame : ∀ j b, b < w.heap.size → (j < off ∨ off + l.length ≤ j) → G.O b = pf j → SameB G w G' w' b) : RepTail G' w' pf new arr' := by
  obtain ⟨hle, hlen, hget⟩ := splice_get hs
  have hVl : l.length = V.size := hl.1
  have hle' : off + V.toList.length ≤ arr.toList.length := by
    have := hb.1
    simp; omega
  refine ⟨?_, fun j c hc => ?_⟩
  · have := congrArg List.length harr
    rw [spliceV_length hle'] at this
    have h2 := hb.1
    simp at this
    omega
  · rw [hget] at hc
    have ha : arr'[j]? = (spliceV arr.toList off V.toList)[j]? := by rw [← harr]; simp
    rw [ha, spliceV_get hle']
    have hVl' : V.toList.length = l.length := by simp [hVl]
    by_cases hj : j < off
    · rw [if_pos hj] at hc ⊢
      obtain ⟨y, hy, hr, ho⟩ := hb.2 j c hc
      exact ⟨y, by simpa using hy, hr.mono' x (fun b hb' e => hsame j b hb' (.inl hj) e), ho⟩
    · rw [if_neg hj] at hc ⊢
      by_cases hj2 : j < off + l.length
      · rw [if_pos hj2] at hc
        rw [if_pos (by omega)]
        obtain ⟨y, hy, hr, ho⟩ := hl.2 _ c hc
        refine ⟨y, by simpa using hy, ?_, ho⟩
        have e : off + (j - off) = j := by omega
        have hr : RepCell G' w' (pf (off + (j - off))) c y := hr
        rw [e] at hr; exact hr
      · rw [if_neg hj2] at hc
        rw [if_neg (by omega)]
        obtain ⟨y, hy, hr, ho⟩ := hb.2 j c hc
        exact ⟨y, by simpa using hy, hr.mono' x (fun b hb' e => hsame j b hb' (.inr (by omega)) e), ho⟩

end
end Go.Sh

/- Stores. -/
namespace Go.Sh
open Go
set_option linter.unusedVariables false

section
variable {ρ : Type} {E : Env} {H : FHint} {call : Nat → List AV → Heap → R} {d : Nat} {G : Gh} {w : World} {st : St} {a : Act} {o : Oper} {look : Nat → Slot} {h0 h' : Heap} {us : List (Nat × Slot)}

theorem store_run (ok : E.Ok) {T : TypeId} {i : TI} (hi : E.ty T = some i) {b off : Nat} {arr : Array Value} {T' : TypeId} (hb : w.heap[b]? = some (.cells arr T' (0, 0))) {X : Value} (hsz : X.cells.size = i.size) (hle : off + X.cells.size ≤ arr.size)
    (h1 : ∀ v ∈ X.cells.toList, v.oneCell' = true) : (Instr.storeAt T (.pointer (some ⟨b, off, none⟩)) X).run E.P w = .ok () (w.setCells b off X.cells.toList) := by
  have ht := there_block hb off X.cells.size hle
  have key := run_storeCells_cells (P := E.P) b off X.cells.toList 0 w (fun j hj => by simpa using (ht j (by simpa using hj)).1) (fun j hj => by simpa using (ht j (by simpa using hj)).2) h1
  simp only [Nat.add_zero] at key
  simp only [Instr.storeAt, Instr.sureAddr, Sem.run_bind, Sem.run_pure, Result.andThen_ok, storeVar, (ok.ty T i hi).size w]
  rw [if_neg (by omega)]
  exact key

theorem RepBox.ones {pf : Nat → Owner} {cs : List Cell} {arr : Array Value} (h : RepBox G w pf cs arr) : ∀ v ∈ arr.toList, v.oneCell' = true := by
  intro v hv
  obtain ⟨i, hi⟩ := List.mem_iff_getElem?.1 hv
  have hlt : i < arr.size := by
    rcases Nat.lt_or_ge i arr.toList.length with h' | h'
    · simpa using h'
    · rw [List.getElem?_eq_none h'] at hi; cases hi
  obtain ⟨x, hx, _, ho⟩ := h.2 i _ (List.getElem?_eq_getElem (by rw [h.1]; exact hlt))
  rw [show arr[i]? = some v from by simpa using hi] at hx
  cases hx; exact ho

theorem within_setCells {b off : Nat} {vs : List Value} {arr : Array Value} {T : TypeId} {fz : Nat × Nat} (hw : Within G w) (hb : w.heap[b]? = some (.cells arr T fz)) (hle : off + vs.length ≤ arr.size) : Within G (w.setCells b off vs) := by
  intro c hc
  obtain ⟨arr', T', fz', h1, h2⟩ := hw c hc
  by_cases e : c = b
  · subst e
    obtain ⟨arr2, e1, e2, e3⟩ := heap_setCells c vs off w arr hb hle
    rw [hb] at h1; cases h1
    exact ⟨arr2, T, fz, e1, by omega⟩
  · exact ⟨arr', T', fz', by rw [heap_setCells_other b vs off w e]; exact h1, h2⟩

theorem frame_setCells {b off : Nat} {vs : List Value} {arr : Array Value} {T : TypeId} {fz : Nat × Nat} (hb : w.heap[b]? = some (.cells arr T fz)) (hle : off + vs.length ≤ arr.size) (hS : G.S b ≤ off) (hq : quiet d (G.O b) = false) :
    Fr d G w G (w.setCells b off vs) ∧ (∀ c, c ≠ b → SameB G w G (w.setCells b off vs) c) := by
  obtain ⟨s1, s2, s3⟩ := same_setCells b vs off w
  have hs : ∀ c, c ≠ b → SameB G w G (w.setCells b off vs) c := fun c hc => ⟨heap_setCells_other b vs off w hc, rfl, rfl⟩
  refine ⟨⟨s1, s2, s3, by rw [size_setCells]; exact Nat.le_refl _, ext_setCells hb hle hS, fun c hc hqc => hs c (fun e => ?_)⟩, hs⟩
  subst e; rw [hq] at hqc; cases hqc

theorem quiet_sl (d t : Nat) : quiet d (.sl d t) = false := by
  simp only [quiet]
  cases e : Nat.blt d d with
  | false => rfl
  | true => rw [Nat.blt_eq] at e; omega

theorem store_loc (r : RepSt d G w st a.tmps) {t off b : Nat} {old new cs : List Cell} {V : Array Value} (hst : st.s t = .loc old) (hv : a.tmps.getD t undef = .pointer (some ⟨b, 0, none⟩)) (hs : splice old off cs = some new)
    (hb : RepBox G w (fun j => .sc d t (off + j)) cs V) :
    ∃ arr T, w.heap[b]? = some (.cells arr T (0, 0)) ∧ off + V.size ≤ arr.size ∧ RepSt d G (w.setCells b off V.toList) { s := ups st.s [(t, .loc new)], h := st.h, pb := addPb st.pb [(t, .loc new)] } a.tmps ∧ Fr d G w G (w.setCells b off V.toList) := by
  have hrt := r.slot t
  rw [hst] at hrt
  obtain ⟨b', arr, T, e1, e2, e3, e4, e5⟩ := hrt
  rw [hv] at e1; cases e1
  obtain ⟨hle, hlen, _⟩ := splice_get hs
  have hVl : cs.length = V.size := hb.1
  have hle' : off + V.toList.length ≤ arr.size := by have := e5.1; simp; omega
  obtain ⟨hf, hsame⟩ := frame_setCells (G := G) (d := d) (off := off) (vs := V.toList) e3 hle' (by omega) (by rw [e2]; exact quiet_sl d t)
  obtain ⟨arr', a1, a2, a3⟩ := heap_setCells b V.toList off w arr e3 hle'
  refine ⟨arr, T, e3, by simpa using hle', ?_, hf⟩
  have hne : ∀ (c : Nat) (p : Owner), G.O c = p → p ≠ .sl d t → c ≠ b := fun c p hc hp e => hp (by rw [← hc, e, e2])
  refine r.next hf.ext none undef (fun _ e => by cases e) rfl _ _ (fun _ e => by cases e) (fun t' s hm => ?_) (fun _ _ _ hm => by simp at hm) (fun i hi c hc hown => hsame c ?_) (r.heap.mono' hf.ext rfl (fun i c _ hc => hsame c (hne c _ hc (by simp))) (fun i k c _ hc => hsame c (hne c _ hc (by simp))))
    (within_setCells r.within e3 hle')
  · simp only [List.mem_cons, Prod.mk.injEq, List.not_mem_nil, or_false] at hm
    obtain ⟨rfl, rfl⟩ := hm
    refine ⟨b, arr', T, hv, e2, a1, e4, box_splice hf.ext e5 hs (hb.mono' hf.ext (fun i c hc ho => hsame c (hne c _ ho (by simp)))) a2 (fun j c hc _ ho => hsame c (hne c _ ho (by simp)))⟩
  · simp only [List.map_cons, List.map_nil, List.mem_cons, List.not_mem_nil, or_false] at hi
    rcases hown with ho | ⟨k, ho⟩
    · exact hne c _ ho (by simpa using hi)
    · exact hne c _ ho (by simp)

theorem store_heap (r : RepSt d G w st a.tmps) {j off b : Nat} {cs : List Cell} {V : Array Value} {h2 : Heap} (hμ : G.μ[j]? = some b) (hs : hstore st.h j off cs = some h2) (hb : RepBox G w (fun k => .hc j (off + k)) cs V) :
    ∃ arr T, w.heap[b]? = some (.cells arr T (0, 0)) ∧ off + V.size ≤ arr.size ∧ RepSt d G (w.setCells b off V.toList) { s := st.s, h := h2, pb := st.pb } a.tmps ∧ Fr d G w G (w.setCells b off V.toList) := by
  unfold hstore at hs
  rw [Option.bind_eq_some_iff] at hs; obtain ⟨old, hold, hs⟩ := hs
  obtain ⟨hone, hs⟩ := ne_of_cond hs
  obtain ⟨new, hnew, rfl⟩ := Option.map_eq_some_iff.1 hs
  obtain ⟨b', arr, T, e0, e2, e3, e4, e5⟩ := r.heap.2.1 j old hold hone
  rw [hμ] at e0; cases e0
  obtain ⟨hle, hlen, _⟩ := splice_get hnew
  have hVl : cs.length = V.size := hb.1
  have hle' : off + V.toList.length ≤ arr.size := by have := e5.len; simp; omega
  obtain ⟨hf, hsame⟩ := frame_setCells (G := G) (d := d) (off := off) (vs := V.toList) e3 hle' (by omega) (by rw [e2]; simp [quiet])
  obtain ⟨arr', a1, a2, a3⟩ := heap_setCells b V.toList off w arr e3 hle'
  refine ⟨arr, T, e3, by simpa using hle', ?_, hf⟩
  have hne : ∀ (c : Nat) (p : Owner), G.O c = p → p ≠ .hb j → c ≠ b := fun c p hc hp e => hp (by rw [← hc, e, e2])
  have hheap : RepHeap G (w.setCells b off V.toList) (st.h.set j new) := by
    refine ⟨by rw [List.length_set]; exact r.heap.1, fun i c hc hcn => ?_, fun g l e => RepA.mono hf.ext (r.heap.2.2 g l e)⟩
    by_cases hij : j = i
    · subst hij
      have hjl : j < st.h.length := by
        rcases Nat.lt_or_ge j st.h.length with h' | h'
        · exact h'
        · rw [List.getElem?_eq_none h'] at hold; cases hold
      rw [List.getElem?_set_self hjl] at hc; cases hc
      exact ⟨b, arr', T, hμ, e2, a1, e4, tail_splice hf.ext e5 hnew (hb.mono' hf.ext (fun i c hc ho => hsame c (hne c _ ho (by simp)))) a2 (fun k c hc _ ho => hsame c (hne c _ ho (by simp)))⟩
    · rw [List.getElem?_set_ne hij] at hc
      obtain ⟨b', arr2, T2, f1, f2, f3, f4, f5⟩ := r.heap.2.1 i c hc hcn
      obtain ⟨g1, g2, g3⟩ := hsame b' (hne b' _ f2 (by simpa using fun e => hij e.symm))
      exact ⟨b', arr2, T2, f1, g3.trans f2, g1.trans f3, g2.trans f4, f5.mono' hf.ext (fun k c _ ho => hsame c (hne c _ ho (by simp)))⟩
  exact r.next hf.ext none undef (fun _ e => by cases e) rfl [] _ (fun _ e => by cases e) (fun _ _ hm => by cases hm) (fun _ _ _ hm => by cases hm) (fun i _ c _ hown => hsame c (by
    rcases hown with ho | ⟨k, ho⟩ <;> exact hne c _ ho (by simp))) hheap (within_setCells r.within e3 hle')


theorem core_store (ok : E.Ok) (r : RepSt d G w st a.tmps) (hl : ∀ t, look t = st.s t ∨ look t = .dead) {T : TypeId} {x y : Operand} (ho : o.op = .store T x y)
    (hh : isHp H x = true → h0 = st.h) (hhp : isHp H x = false → h0 = []) (hc : core E H call o look h0 kD kpD = some (.inl (us, h'))) : Goes E.P d G w st a o us (bif isHp H x then h' else st.h) := by
  unfold core at hc
  rw [ho] at hc
  simp only at hc
  cases hdt : o.dst with
  | some t => rw [hdt] at hc; cases hc
  | none =>
  rw [hdt] at hc
  simp only [Option.isSome_none, cond_false] at hc
  rw [Option.bind_eq_some_iff] at hc; obtain ⟨i, hi, hc⟩ := hc
  rw [Option.bind_eq_some_iff] at hc; obtain ⟨s, hs, hc⟩ := hc
  obtain ⟨k, hrs, hsrc⟩ := rdS_rep (look_ok r hl) hs
  have hput : ∀ v, putT a.tmps o.dst v = a.tmps := fun v => by rw [hdt]; rfl
  have fin : ∀ {b off : Nat} {arr : Array Value} {T' : TypeId} {G1 : Gh} {us2 : List (Nat × Slot)} {h2 : Heap}, w.heap[b]? = some (.cells arr T' (0, 0)) → off + (a.eval y).cells.size ≤ arr.size → (a.eval y).cells.size = i.size → (∀ v ∈ (a.eval y).cells.toList, v.oneCell' = true) →
      a.eval x = .pointer (some ⟨b, off, none⟩) → RepSt d G1 (w.setCells b off (a.eval y).cells.toList) { s := ups st.s us2, h := h2, pb := addPb st.pb us2 } a.tmps → Fr d G w G1 (w.setCells b off (a.eval y).cells.toList) → Goes E.P d G w st a o us2 h2 := by
    intro b off arr T' G1 us2 h2 e1 e2 e3 e4 e5 e6 e7
    refine goes_skip (w' := w.setCells b off (a.eval y).cells.toList) ?_ (by rw [hput]; exact e6) e7
    unfold execOp; rw [ho]
    simp only [e5, Sem.run_bind, store_run ok hi e1 e3 e2 e4]
    rfl
  have nheap : ∀ {j off : Nat} {cs : List Cell} {h2 : Heap}, hstore h0 j off cs = some h2 → isHp H x = true := fun e => by
    cases e2 : isHp H x with
    | true => rfl
    | false => rw [hhp e2] at e; simp [hstore] at e
  have hloc : (bif isHp H x then h0 else st.h) = st.h := by
    cases e : isHp H x with
    | false => rfl
    | true => exact hh e
  rcases take_rep hc hrs hsrc with ⟨cs, hK, hf, hlen, hsz, hb⟩ | ⟨n, es, u, hK, hu, hlu, h1⟩
  · rw [Option.bind_eq_some_iff] at hK; obtain ⟨p, hp, hK⟩ := hK
    have hpl := placeOf_rep r hl hp
    split at hK
    · rename_i t off
      split at hK
      · rename_i old hold
        rw [Option.bind_eq_some_iff] at hK; obtain ⟨new, hnew, hK⟩ := hK
        cases someC hK
        obtain ⟨⟨b, h2, h3⟩, v, hv, hvt⟩ := hpl
        obtain ⟨arr, T', g1, g2, g3, g4⟩ := store_loc r (look_eq hl hold (by simp)) h3 hnew (hb (fun j => .sc d t (off + j)))
        rw [hloc]
        exact fin g1 g2 hsz (hb (fun _ => .none)).ones h2 g3 g4
      · cases hK
    · rename_i j off
      rw [Option.bind_eq_some_iff] at hK; obtain ⟨h2, hst, hK⟩ := hK
      cases someC hK
      have e := nheap hst
      rw [e]
      rw [hh e] at hst
      obtain ⟨hrp, _⟩ := hpl
      unfold hstore at hst
      rw [Option.bind_eq_some_iff] at hst; obtain ⟨old, hold, hst⟩ := hst
      obtain ⟨hone9, _⟩ := ne_of_cond hst
      obtain ⟨b, arr, T', e1, e2, e3, e4, e5, e6⟩ := heap_get (b := 0) r.heap hrp hold hone9
      obtain ⟨arr, T', g1, g2, g3, g4⟩ := store_heap (a := a) r e2 (h2 := h') (by unfold hstore; rw [hold]; exact hst) ((hb (fun k => .hc j (off + k))).norm)
      exact fin g1 g2 hsz (hb (fun _ => .none)).ones e1 g3 g4
    · cases hK
  · rw [Option.bind_eq_some_iff] at hK; obtain ⟨p, hp, hK⟩ := hK
    have hpl := placeOf_rep r hl hp
    have hsu := look_eq hl hlu (by simp)
    have hyu : a.eval y = a.tmps.getD u undef := by rw [hu]; rfl
    have hbox : ∀ {G1 : Gh} {pf : Nat → Owner}, RepCell G1 w (pf 0) (.own n es) (a.tmps.getD u undef) → (a.tmps.getD u undef).oneCell' = true → RepBox G1 w pf [.own n es] (a.eval y).cells := by
      intro G1 pf hrc hone
      rw [hyu, cells_one hone]
      refine ⟨rfl, fun j c hj => ?_⟩
      cases j with
      | zero => simp at hj; subst hj; exact ⟨_, rfl, hrc, hone⟩
      | succ j => simp at hj
    split at hK
    · rename_i t off
      split at hK
      · rename_i old hold
        rw [Option.bind_eq_some_iff] at hK; obtain ⟨new, hnew, hK⟩ := hK
        cases someC hK
        obtain ⟨⟨b, h2, h3⟩, v, hv, hvt⟩ := hpl
        obtain ⟨G1, r1, hrc, hf1, _, _, hone⟩ := release r hsu (.sc d t off)
        have hst0 := look_eq hl hold (by simp)
        have htu : u ≠ t := fun e => by subst e; rw [hsu] at hst0; cases hst0
        obtain ⟨arr, T', g1, g2, g3, g4⟩ := store_loc (a := a) r1 (t := t) (off := off) (by simp only [upd, beqF htu, cond_false]; exact hst0) h3 hnew (hbox (pf := fun j => .sc d t (off + j)) hrc hone)
        rw [hloc]
        exact fin g1 g2 (by rw [hyu, cells_one hone]; exact h1.symm) (hbox (pf := fun j => .sc d t (off + j)) hrc hone).ones h2 g3 (hf1.trans g4)
      · cases hK
    · rename_i j off
      rw [Option.bind_eq_some_iff] at hK; obtain ⟨h2, hst, hK⟩ := hK
      cases someC hK
      have e := nheap hst
      rw [e]
      rw [hh e] at hst
      obtain ⟨hrp, _⟩ := hpl
      obtain ⟨G1, r1, hrc, hf1, hS1, hμ1, hone⟩ := release r hsu (.hc j off)
      have hst' := hst
      unfold hstore at hst
      rw [Option.bind_eq_some_iff] at hst; obtain ⟨old, hold, hst⟩ := hst
      obtain ⟨hone9, _⟩ := ne_of_cond hst
      obtain ⟨b, arr, T', e1, e2, e3, e4, e5, e6⟩ := heap_get (b := 0) r.heap hrp hold hone9
      obtain ⟨arr, T', g1, g2, g3, g4⟩ := store_heap (a := a) (j := j) (off := off) (h2 := h') r1 (by rw [hμ1]; exact e2) hst' (hbox (pf := fun k => .hc j (off + k)) hrc hone)
      exact fin g1 g2 (by rw [hyu, cells_one hone]; exact h1.symm) (hbox (pf := fun k => .hc j (off + k)) hrc hone).ones e1 g3 (hf1.trans g4)
    · cases hK

end
end Go.Sh

/- What one place owns, handed to another. -/
namespace Go.Sh
open Go
set_option linter.unusedVariables false

section
variable {ρ : Type} {E : Env} {H : FHint} {call : Nat → List AV → Heap → R} {d : Nat} {G : Gh} {w : World} {st : St} {a : Act} {o : Oper} {look : Nat → Slot} {h0 h' : Heap} {us : List (Nat × Slot)}

theorem quiet_sc (d t k : Nat) : quiet d (.sc d t k) = false := by
  simp only [quiet]
  cases e : Nat.blt d d with
  | false => rfl
  | true => rw [Nat.blt_eq] at e; omega

theorem reown {p : Owner} (q : Owner) {c : Cell} {x : Value} (h : RepCell G w p c x) : ∃ G1, RepCell G1 w q c x ∧ G1.S = G.S ∧ G1.μ = G.μ ∧ (∀ b, G.O b ≠ p → SameB G w G1 w b) := by
  cases c with
  | v a => exact ⟨G, h, rfl, rfl, fun _ _ => ⟨rfl, rfl, rfl⟩⟩
  | nil n => exact ⟨G, h, rfl, rfl, fun _ _ => ⟨rfl, rfl, rfl⟩⟩
  | own n es =>
    rcases h with h | ⟨b, cap, arr, T, hv, ho, hh, ha, hc, hS, hr, hn⟩
    · exact ⟨G, .inl h, rfl, rfl, fun _ _ => ⟨rfl, rfl, rfl⟩⟩
    · exact ⟨setO G b q, .inr ⟨b, cap, arr, T, hv, setO_self, hh, ha, hc, hS, hr, hn⟩, rfl, rfl, fun c hc => ⟨rfl, rfl, setO_other (fun e => hc (e ▸ ho))⟩⟩

theorem box_dead {G1 : Gh} {pf : Nat → Owner} {cs : List Cell} {arr : Array Value} (hb : RepBox G w pf cs arr) (x : Ext G.S w G.μ G1.S w G1.μ) {off : Nat} (hs : ∀ i b, i ≠ off → G.O b = pf i → SameB G w G1 w b) : RepBox G1 w pf (cs.set off (.v .dead)) arr := by
  refine ⟨by rw [List.length_set]; exact hb.1, fun i c hc => ?_⟩
  by_cases e : off = i
  · subst e
    have hlt : off < cs.length := by
      rcases Nat.lt_or_ge off cs.length with h | h
      · exact h
      · rw [List.getElem?_eq_none (by rw [List.length_set]; exact h)] at hc; cases hc
    rw [List.getElem?_set_self hlt] at hc; cases hc
    obtain ⟨x, hx, _, ho⟩ := hb.2 off _ (List.getElem?_eq_getElem hlt)
    exact ⟨x, hx, .dead _, ho⟩
  · rw [List.getElem?_set_ne e] at hc
    obtain ⟨v, hv, hr, ho⟩ := hb.2 i c hc
    exact ⟨v, hv, hr.mono x (fun b hb' => hs i b (fun h => e h.symm) hb'), ho⟩

theorem box_get {G1 : Gh} {pf : Nat → Owner} {cs : List Cell} {arr : Array Value} (hb : RepBox G w pf cs arr) (x : Ext G.S w G.μ G1.S w G1.μ) {off : Nat} {c0 : Cell} (h0 : cs[off]? = some c0) (hs : ∀ i b, i ≠ off → G.O b = pf i → SameB G w G1 w b) : RepBox G1 w pf (cs.set off (.v c0.get)) arr := by
  refine ⟨by rw [List.length_set]; exact hb.1, fun i c hc => ?_⟩
  by_cases e : off = i
  · subst e
    have hlt : off < cs.length := by
      rcases Nat.lt_or_ge off cs.length with h | h
      · exact h
      · rw [List.getElem?_eq_none (by rw [List.length_set]; exact h)] at hc; cases hc
    rw [List.getElem?_set_self hlt] at hc; cases hc
    obtain ⟨v, hx, hr, ho⟩ := hb.2 off _ h0
    exact ⟨v, hx, RepA.mono x hr.get, ho⟩
  · rw [List.getElem?_set_ne e] at hc
    obtain ⟨v, hv, hr, ho⟩ := hb.2 i c hc
    exact ⟨v, hv, hr.mono x (fun b hb' => hs i b (fun h => e h.symm) hb'), ho⟩

theorem tail_get {G1 : Gh} {pf : Nat → Owner} {cs : List Cell} {arr : Array Value} (hb : RepTail G w pf cs arr) (x : Ext G.S w G.μ G1.S w G1.μ) {off : Nat} {c0 : Cell} (h0 : cs[off]? = some c0) (hs : ∀ i b, i ≠ off → G.O b = pf i → SameB G w G1 w b) : RepTail G1 w pf (cs.set off (.v c0.get)) arr := by
  refine ⟨by rw [List.length_set]; exact hb.1, fun i c hc => ?_⟩
  by_cases e : off = i
  · subst e
    have hlt : off < cs.length := by
      rcases Nat.lt_or_ge off cs.length with h | h
      · exact h
      · rw [List.getElem?_eq_none (by rw [List.length_set]; exact h)] at hc; cases hc
    rw [List.getElem?_set_self hlt] at hc; cases hc
    obtain ⟨v, hx, hr, ho⟩ := hb.2 off _ h0
    exact ⟨v, hx, RepA.mono x hr.get, ho⟩
  · rw [List.getElem?_set_ne e] at hc
    obtain ⟨v, hv, hr, ho⟩ := hb.2 i c hc
    exact ⟨v, hv, hr.mono x (fun b hb' => hs i b (fun h => e h.symm) hb'), ho⟩
theorem release_loc {tmps : Array Value} (r : RepSt d G w st tmps) {t off : Nat} {cs : List Cell} {c : Cell} (hst : st.s t = .loc cs) (hc : cs[off]? = some c) (q : Owner) :
    ∃ G1 b arr T x, tmps.getD t undef = .pointer (some ⟨b, 0, none⟩) ∧ w.heap[b]? = some (.cells arr T (0, 0)) ∧ arr[off]? = some x ∧
      RepSt d G1 w { s := upd st.s t (.loc (cs.set off (.v .dead))), h := st.h, pb := st.pb } tmps ∧ RepCell G1 w q c x ∧ Fr d G w G1 w := by
  have hr := r.slot t
  rw [hst] at hr
  obtain ⟨b, arr, T, e1, e2, e3, e4, e5⟩ := hr
  obtain ⟨x, hx, hrx, hone⟩ := e5.2 off c hc
  obtain ⟨G1, k1, k2, k3, k4⟩ := reown q hrx
  have hext : Ext G.S w G.μ G1.S w G1.μ := by rw [k2, k3]; exact Ext.refl _ _ _
  refine ⟨G1, b, arr, T, x, e1, e3, hx, ?_, k1, ⟨rfl, rfl, rfl, Nat.le_refl _, hext, fun c _ hq => k4 c (fun e => by rw [e, quiet_sc] at hq; cases hq)⟩⟩
  refine r.next hext none undef (fun _ e => by cases e) rfl [(t, .loc (cs.set off (.v .dead)))] _ (fun _ e => by cases e) (fun t' s hm => ?_) (fun _ _ _ hm => by simp at hm) (fun i hi c _ hown => k4 c ?_)
    (r.heap.mono' hext k3 (fun i c _ hc => k4 c (by rw [hc]; simp)) (fun i k c _ hc => k4 c (by rw [hc]; simp))) (fun c hc => by rw [k2] at hc ⊢; exact r.within c hc)
  · simp only [List.mem_cons, Prod.mk.injEq, List.not_mem_nil, or_false] at hm
    obtain ⟨rfl, rfl⟩ := hm
    exact ⟨b, arr, T, e1, (k4 b (by rw [e2]; simp)).2.2.trans e2, e3, by rw [k2]; exact e4, box_dead e5 hext (fun i c hi hc => k4 c (by rw [hc]; simpa using hi))⟩
  · have hi : i ≠ t := by simpa using hi
    rcases hown with ho | ⟨k, ho⟩
    · rw [ho]; simp
    · rw [ho]; simp [hi]

theorem release_heap {tmps : Array Value} (r : RepSt d G w st tmps) {j off b : Nat} {cs : List Cell} {c : Cell} (hst : st.h[j]? = some cs) (hμ : G.μ[j]? = some b) (hc0 : cs[off]? = some c) (q : Owner) :
    ∃ G1 arr T x, w.heap[b]? = some (.cells arr T (0, 0)) ∧ arr[off]? = some x ∧
      RepSt d G1 w { s := st.s, h := st.h.set j (cs.set off (.v c.get)), pb := st.pb } tmps ∧ RepCell G1 w q c x ∧ Fr d G w G1 w := by
  obtain ⟨b', arr, T, e1, e2, e3, e4, e5⟩ := r.heap.2.1 j cs hst (by intro e; rw [e] at hc0; simp at hc0)
  rw [hμ] at e1; cases e1
  obtain ⟨x, hx, hrx, hone⟩ := e5.get hc0
  obtain ⟨G1, k1, k2, k3, k4⟩ := reown q hrx
  have hext : Ext G.S w G.μ G1.S w G1.μ := by rw [k2, k3]; exact Ext.refl _ _ _
  refine ⟨G1, arr, T, x, e3, hx, ?_, k1, ⟨rfl, rfl, rfl, Nat.le_refl _, hext, fun c _ hq => k4 c (fun e => by rw [e] at hq; cases hq)⟩⟩
  have hheap : RepHeap G1 w (st.h.set j (cs.set off (.v c.get))) := by
    refine ⟨by rw [List.length_set, k3]; exact r.heap.1, fun i c hc hcn => ?_, fun g l e => RepA.mono hext (r.heap.2.2 g l e)⟩
    by_cases hij : j = i
    · subst hij
      have hjl : j < st.h.length := by
        rcases Nat.lt_or_ge j st.h.length with h' | h'
        · exact h'
        · rw [List.getElem?_eq_none h'] at hst; cases hst
      rw [List.getElem?_set_self hjl] at hc; cases hc
      exact ⟨b, arr, T, by rw [k3]; exact hμ, (k4 b (by rw [e2]; simp)).2.2.trans e2, e3, by rw [k2]; exact e4, tail_get e5 hext hc0 (fun i c hi hc => k4 c (by rw [hc]; simpa using hi))⟩
    · rw [List.getElem?_set_ne hij] at hc
      obtain ⟨b', arr2, T2, f1, f2, f3, f4, f5⟩ := r.heap.2.1 i c hc hcn
      exact ⟨b', arr2, T2, by rw [k3]; exact f1, (k4 b' (by rw [f2]; simp)).2.2.trans f2, f3, by rw [k2]; exact f4, f5.mono' hext (fun k c _ ho => k4 c (by rw [ho]; simp; intro e; exact absurd e.symm hij))⟩
  exact r.next hext none undef (fun _ e => by cases e) rfl [] _ (fun _ e => by cases e) (fun _ _ hm => by cases hm) (fun _ _ _ hm => by cases hm) (fun i _ c _ hown => k4 c (by
    rcases hown with ho | ⟨k, ho⟩ <;> (rw [ho]; simp))) hheap (fun c hc => by rw [k2] at hc ⊢; exact r.within c hc)

/-- A cell laid into a slot. -/
theorem goes_give {G1 : Gh} {st1 : St} (r1 : RepSt d G1 w st1 a.tmps) (hf : Fr d G w G1 w) {t : Nat} (ht : o.dst = some t) (hd : t < a.tmps.size) (hpb : st1.pb t = false) {c : Cell} {v : Value}
    (hrun : (execOp a.eval o).run E.P w = .ok (.value v) w) (hc : RepCell G1 w (.sl d t) c v) {us : List (Nat × Slot)} {h2 : Heap} (hs : ups st.s us = upd st1.s t (.c c)) (hh : h2 = st1.h) (hp : addPb st.pb us = st1.pb) : Goes E.P d G w st a o us h2 := by
  refine goes_run hrun ?_ hf
  have := r1.next (Ext.refl _ _ _) (some t) v (fun _ e => by cases e; exact hd) (by simp [freeDst, hpb]) [(t, .c c)] st1.h (fun _ e => by cases e; simp) (fun t' s hm => by
      simp only [List.mem_cons, Prod.mk.injEq, List.not_mem_nil, or_false] at hm
      obtain ⟨rfl, rfl⟩ := hm
      show RepCell G1 w (.sl d t') c ((a.tmps.setIfInBounds t' v).getD t' undef)
      rw [getD_put _ _ _ _ hd, if_pos rfl]; exact hc) (fun _ _ _ hm => by simp at hm) (fun _ _ _ _ _ => ⟨rfl, rfl, rfl⟩) r1.heap r1.within
  rw [hs, hh, hp, ht]
  exact this

theorem core_move_tr (r : RepSt d G w st a.tmps) (hl : ∀ t, look t = st.s t ∨ look t = .dead) (hd : ∀ t, o.dst = some t → t < a.tmps.size) (hpb : freeDst st.pb o.dst = true) {x : Operand} (ho : o.op = .move x)
    (htr : dstIn H.tr o.dst = true)
    (hc : core E H call o look h0 kD kpD = some (.inl (us, h'))) : Goes E.P d G w st a o us st.h := by
  unfold core at hc
  rw [ho] at hc
  simp only [htr, cond_true] at hc
  have hrun : (execOp a.eval o).run E.P w = .ok (.value (a.eval x)) w := by unfold execOp; rw [ho]; rfl
  cases hdt : o.dst with
  | none => rw [hdt] at htr; cases htr
  | some t =>
  rw [hdt] at hpb
  have hpb' : st.pb t = false := by simpa [freeDst] using hpb
  split at hc
  · rename_i u
    split at hc
    · rename_i c hcu
      cases someC hc
      have hsu := look_eq hl hcu (by simp)
      cases c with
      | own n es =>
        obtain ⟨G1, r1, k1, k2, _⟩ := release r hsu (.sl d t)
        exact goes_give r1 k2 hdt (hd t hdt) hpb' hrun k1 (by rw [hdt]; rfl) rfl (by rw [hdt]; rfl)
      | v y =>
        have hr := r.slot u
        rw [hsu] at hr
        have r1 := r.next (Ext.refl _ _ _) none undef (fun _ e => by cases e) rfl [(u, .dead)] st.h (fun _ e => by cases e) (fun t' s hm => by
          simp only [List.mem_cons, Prod.mk.injEq, List.not_mem_nil, or_false] at hm
          obtain ⟨rfl, rfl⟩ := hm; trivial) (fun _ _ _ hm => by simp at hm) (fun _ _ _ _ _ => ⟨rfl, rfl, rfl⟩) r.heap r.within
        exact goes_give (c := .v y) r1 (Fr.refl _ _ _) hdt (hd t hdt) hpb' hrun hr (by rw [hdt]; rfl) rfl (by rw [hdt]; rfl)
      | nil y =>
        have hr := r.slot u
        rw [hsu] at hr
        have r1 := r.next (Ext.refl _ _ _) none undef (fun _ e => by cases e) rfl [(u, .dead)] st.h (fun _ e => by cases e) (fun t' s hm => by
          simp only [List.mem_cons, Prod.mk.injEq, List.not_mem_nil, or_false] at hm
          obtain ⟨rfl, rfl⟩ := hm; trivial) (fun _ _ _ hm => by simp at hm) (fun _ _ _ _ _ => ⟨rfl, rfl, rfl⟩) r.heap r.within
        exact goes_give (c := .nil y) r1 (Fr.refl _ _ _) hdt (hd t hdt) hpb' hrun hr (by rw [hdt]; rfl) rfl (by rw [hdt]; rfl)
    · cases hc
  · cases hc

theorem core_assign_own (r : RepSt d G w st a.tmps) (hl : ∀ t, look t = st.s t ∨ look t = .dead) (hd : ∀ t, o.dst = some t → t < a.tmps.size) (hpb : freeDst st.pb o.dst = true) {x : Operand} (ho : o.op = .assign x) {n : Nat} {es : List (List AV)}
    (hs : rdS E o.type look x = some (.c (.own n es))) (hc : core E H call o look h0 kD kpD = some (.inl (us, h'))) : Goes E.P d G w st a o us st.h := by
  unfold core at hc
  rw [ho] at hc
  simp only [hs, Option.bind_some] at hc
  have hrun : (execOp a.eval o).run E.P w = .ok (.value (a.eval x)) w := by unfold execOp; rw [ho]; rfl
  split at hc
  · rename_i u
    cases someC hc
    have hsu := look_eq hl (Option.some.inj hs) (by simp)
    cases hdt : o.dst with
    | none =>
      obtain ⟨G1, r1, k1, k2, _⟩ := release r hsu .none
      refine goes_run hrun ?_ k2
      rw [hdt]; exact r1
    | some t =>
      rw [hdt] at hpb
      have hpb' : st.pb t = false := by simpa [freeDst] using hpb
      obtain ⟨G1, r1, k1, k2, _⟩ := release r hsu (.sl d t)
      exact goes_give r1 k2 hdt (hd t hdt) hpb' hrun k1 rfl rfl rfl
  · cases hc

theorem core_load_tr (ok : E.Ok) (r : RepSt d G w st a.tmps) (hl : ∀ t, look t = st.s t ∨ look t = .dead) (hd : ∀ t, o.dst = some t → t < a.tmps.size) (hpb : freeDst st.pb o.dst = true) {T : TypeId} {x : Operand} (ho : o.op = .load T x)
    (htr : dstIn H.tr o.dst = true) (hh : isHp H x = true → h0 = st.h) (hhp : isHp H x = false → h0 = []) (hc : core E H call o look h0 kD kpD = some (.inl (us, h'))) : Goes E.P d G w st a o us (bif isHp H x && dstIn H.tr o.dst then h' else st.h) := by
  unfold core at hc
  rw [ho] at hc
  simp only [htr, cond_true] at hc
  rw [Option.bind_eq_some_iff] at hc; obtain ⟨i, hi, hc⟩ := hc
  rw [Option.bind_eq_some_iff] at hc; obtain ⟨p, hp, hc⟩ := hc
  have ht := ok.ty T i hi
  have hpl := placeOf_rep r hl hp
  cases hdt : o.dst with
  | none => rw [hdt] at htr; cases htr
  | some u =>
  have htr' : dstIn H.tr (some u) = true := by rw [← hdt]; exact htr
  rw [htr', Bool.and_true]
  rw [hdt] at hpb
  have hpb' : st.pb u = false := by simpa [freeDst] using hpb
  have hrun : ∀ {b off : Nat} {arr : Array Value} {T' : TypeId} {X : Value}, i.agg = false → w.heap[b]? = some (.cells arr T' (0, 0)) → arr[off]? = some X → a.eval x = .pointer (some ⟨b, off, none⟩) → (execOp a.eval o).run E.P w = .ok (.value X) w := by
    intro b off arr T' X hagg e1 e2 e3
    have hlt : off < arr.size := by
      rcases Nat.lt_or_ge off arr.size with h | h
      · exact h
      · rw [Array.getElem?_eq_none h] at e2; cases e2
    have hrow : row? w b 0 arr.size = some arr.toList := by rw [row?_of_block e1 0 arr.size (by omega)]; simp [List.take_of_length_le]
    have hc := row?_cell hrow (j := off) (v := X) (by simpa using e2)
    rw [Nat.zero_add] at hc
    unfold execOp; rw [ho]
    simp only [e3, Sem.run_bind, Instr.loadAt, Instr.sureAddr, Sem.run_pure, Result.andThen_ok, loadVar, ht.isAgg w, hagg]
    simp [hc]
  split at hc
  · rename_i t off
    split at hc
    · rename_i cs hcs
      split at hc
      · rename_i c hco
        cases hagg : i.agg || !Nat.beq i.size 1 with
        | true => rw [hagg] at hc; cases hc
        | false =>
        rw [hagg] at hc
        have hag : i.agg = false := by cases e : i.agg with | false => rfl | true => rw [e] at hagg; cases hagg
        cases someC hc
        obtain ⟨⟨b, h1, h2⟩, _⟩ := hpl
        obtain ⟨G1, b', arr, T', X, e1, e3, e4, r1, k1, k2⟩ := release_loc r (look_eq hl hcs (by simp)) hco (.sl d u)
        rw [h2] at e1; cases e1
        have : (bif isHp H x then h0 else st.h) = st.h := by
          cases e : isHp H x with
          | false => rfl
          | true => exact hh e
        rw [this]
        exact goes_give r1 k2 hdt (hd u hdt) hpb' (hrun hag e3 e4 h1) k1 (by rw [hdt]; rfl) rfl (by rw [hdt]; rfl)
      · cases hc
    · cases hc
  · rename_i j off
    rw [Option.bind_eq_some_iff] at hc; obtain ⟨q, hq, hc⟩ := hc
    cases hagg : i.agg || !Nat.beq i.size 1 with
    | true => rw [hagg] at hc; cases hc
    | false =>
    rw [hagg] at hc
    have hag : i.agg = false := by cases e : i.agg with | false => rfl | true => rw [e] at hagg; cases hagg
    cases someC hc
    have e : isHp H x = true := by
      cases e : isHp H x with
      | true => rfl
      | false => rw [hhp e] at hq; simp [htake] at hq
    rw [e]
    rw [hh e] at hq
    unfold htake at hq
    rw [Option.bind_eq_some_iff] at hq; obtain ⟨cs, hcs, hq⟩ := hq
    split at hq
    · rename_i n es hce
      have hq := Option.some.inj hq; subst hq
      obtain ⟨b, arr, T', f1, f2, f3, f4, f5, f6⟩ := heap_get (b := 0) r.heap hpl.1 hcs (by intro e; rw [e] at hce; simp at hce)
      obtain ⟨G1, arr, T', X, e3, e4, r1, k1, k2⟩ := release_heap r hcs f2 hce (.sl d u)
      exact goes_give r1 k2 hdt (hd u hdt) hpb' (hrun hag e3 e4 f1) k1 (by rw [hdt]; rfl) rfl (by rw [hdt]; rfl)
    · cases hq
  · cases hc

end
end Go.Sh
