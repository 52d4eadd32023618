/- The states, operations and conditions of a small program logic: plain definitions that the other texts use. -/
import Derived.Calls
import Derived.Laws.Entries
set_option linter.unusedVariables false
namespace Go.Vc

/-- a cell of a map's key -/
inductive KA
  | int (k : IntKind) (n : Int)
  | bool (b : Bool)
  | str (s : ByteArray)
  deriving DecidableEq

/-- what keys of a map look like -/
inductive KSh
  | int (k : IntKind)
  | bool
  | str
  | no
  deriving DecidableEq

/-- deep read-only data -/
inductive DV : Type 1
  | int (k : IntKind) (n : Int)
  | bool (b : Bool)
  | str (s : ByteArray)
  | raw (v : Value)
  | nil
  | list (size : Nat) (α : Type) (z : α) (enc : α → List DV) (xs : List α)
  | map (kt vt : TypeId) (ks : KSh) (β : Type) (z : β) (enc : β → List DV) (clock : Nat) (es : List (Nat × List KA × β))

/-- how a reference leads into an object of the further kinds: to the whole of it; to a row of rows, a cell of it, a row in it, an element's cell in such a row -/
inductive XRef
  | self
  | whole
  | cell (i : Nat)
  | inn (i : Nat)
  | inel (i size k j : Nat)

/-- the content of one cell -/
inductive AC : Type 1
  | junk
  | int (k : IntKind) (n : Int)
  | bool (b : Bool)
  | str (s : ByteArray)
  | raw (v : Value)
  | nil
  | rd (size : Nat) (α : Type) (z : α) (enc : α → List DV) (xs : List α)
  | re (ds : List DV)
  | ptr (o off : Nat)
  | sl (o : Nat)
  | sub (o size lo len : Nat)
  | el (o size i j : Nat)
  | xr (o : Nat) (r : XRef)
  | fn (f : FuncId) (caps : List (Nat × Nat))
  | md (kt vt : TypeId) (ks : KSh) (β : Type) (z : β) (enc : β → List DV) (clock : Nat) (es : List (Nat × List KA × β))

/-- the content of a temporary -/
inductive AV : Type 1
  | c (x : AC)
  | agg (cs : List AC)
  | tup (vs : List (Bool × List AC))
  | on (g : Bool) (x : AC)

/-- objects of further kinds: rows of own rows; maps (their entries' numbers, keys and values); what a range over a map stands at -/
inductive XObj : Type 1
  | rows (ty ety : TypeId) (size : Nat) (α : Type) (z : α) (enc : α → List DV) (xss : List (List α))
  | map (kt vt : TypeId) (ks : KSh) (agg : Bool) (β : Type) (z : β) (enc : β → List DV) (clock : Nat) (es : List (Nat × List KA × β))
  | iter (m : AC) (since : Nat) (seen : List Nat) (last : Nat)

inductive AObj : Type 1
  | gone
  | cells (ty : TypeId) (cs : List AC)
  | row (ty : TypeId) (size : Nat) (α : Type) (z : α) (enc : α → List DV) (xs : List α)
  | ext (x : XObj)

structure ASt : Type 1 where
  slots : List AV
  objs : List AObj
  n0 : Nat

inductive Sh
  | none | int (k : IntKind) | bool | str | slice (e : TypeId) | array (n : Nat) (e : TypeId)
  | struct (fs : List (Nat × TypeId)) | ptr (e : TypeId) | map (k v : TypeId) | iface | func

structure Enc : Type 1 where
  α : Type
  z : α
  enc : α → List DV

structure TI : Type 1 where
  sh : Sh
  size : Nat
  bytes : Nat
  zero : List AC
  enc : Option Enc

abbrev Tab := TypeId → TI

def DV.ac : DV → AC
  | .int k n => .int k n
  | .bool b => .bool b
  | .str s => .str s
  | .raw v => .raw v
  | .nil => .nil
  | .list size α z enc xs => .rd size α z enc xs
  | .map kt vt ks β z enc clock es => .md kt vt ks β z enc clock es

def acOf : Value → AC
  | .int k n => .int k n
  | .bool b => .bool b
  | .string s => .str s
  | .slice a n c => match a with
    | none => bif n == 0 && c == 0 then .nil else .raw (.slice none n c)
    | some a => .raw (.slice (some a) n c)
  | v => .raw v

def avOf : Value → AV
  | .agg cs => .agg (cs.toList.map acOf)
  | v => .c (acOf v)

def ASt.eval (st : ASt) : Operand → AV
  | .tmp t => st.slots.getD t (.c .junk)
  | .const v => avOf v
  | .global g => .c (.raw (.pointer (some ⟨g, 0, none⟩)))
  | .func f => .c (.fn f [])

def ASt.obj (st : ASt) (o : Nat) : AObj := st.objs.getD o .gone

def AV.ac : AV → AC
  | .c x => x
  | .on _ x => x
  | _ => .junk
def AV.need (g : Bool) : AV → Prop
  | .on h _ => g = true → h = true
  | _ => True
def AV.cells : AV → List AC
  | .c x => [x]
  | .on _ x => [x]
  | .agg cs => cs
  | .tup _ => []
def AV.isTup : AV → Bool
  | .tup _ => true
  | _ => false

def ASt.put (st : ASt) (d : Option Tmp) (v : AV) : ASt :=
  match d with
  | some d => { st with slots := st.slots.set d v }
  | none => st

def TI.isAgg (i : TI) : Bool := match i.sh with | .struct _ | .array _ _ => true | _ => false
def ofCells (agg : Bool) (cs : List AC) : AV :=
  match agg with
  | true => .agg cs
  | false => .c (cs.headD .junk)

def bits (op : BinOp) (k : IntKind) (x y : Int) : Int := Go.bits op k x y
def shl (k : IntKind) (x y : Int) : Int := k.wrap (x * 2 ^ (min y.toNat k.bits))
def shr (k : IntKind) (x y : Int) : Int := x.fdiv (2 ^ (min y.toNat k.bits))
def bt (s : ByteArray) (i : Int) : Int := if h : i.toNat < s.size then ((s[i.toNat]'h).toNat : Int) else 0

def binInt (op : BinOp) (k k2 : IntKind) (a b : Int) : Prop × AC :=
  match op with
  | .add => (k = k2, .int k (k.wrap (a + b)))
  | .sub => (k = k2, .int k (k.wrap (a - b)))
  | .mul => (k = k2, .int k (k.wrap (a * b)))
  | .quo => (k = k2 ∧ ¬ b = 0, .int k (k.wrap (a.tdiv b)))
  | .rem => (k = k2 ∧ ¬ b = 0, .int k (a.tmod b))
  | .and => (k = k2, .int k (bits .and k a b))
  | .or => (k = k2, .int k (bits .or k a b))
  | .xor => (k = k2, .int k (bits .xor k a b))
  | .andNot => (k = k2, .int k (bits .andNot k a b))
  | .shl => (0 ≤ b, .int k (shl k a b))
  | .shr => (0 ≤ b, .int k (shr k a b))
  | .eql => (k = k2, .bool (decide (a = b)))
  | .neq => (k = k2, .bool (!decide (a = b)))
  | .lss => (k = k2, .bool (decide (a < b)))
  | .leq => (k = k2, .bool (decide (a ≤ b)))
  | .gtr => (k = k2, .bool (decide (b < a)))
  | .geq => (k = k2, .bool (decide (b ≤ a)))
def binStr (op : BinOp) (a b : ByteArray) : Prop × AC :=
  match op with
  | .add => (a.size + b.size ≤ 9223372036854775807, .str (a ++ b))
  | .eql => (True, .bool (a.toList == b.toList))
  | .neq => (True, .bool !(a.toList == b.toList))
  | .lss => (True, .bool (Op.bytesLess a.toList b.toList))
  | .leq => (True, .bool (Op.bytesLess a.toList b.toList || a.toList == b.toList))
  | .gtr => (True, .bool !(Op.bytesLess a.toList b.toList || a.toList == b.toList))
  | .geq => (True, .bool !Op.bytesLess a.toList b.toList)
  | _ => (False, .junk)
def binBool (op : BinOp) (a b : Bool) : Prop × AC :=
  match op with
  | .eql => (True, .bool (a == b))
  | .neq => (True, .bool !(a == b))
  | _ => (False, .junk)
/-- x is of type t -/
def qbin (T : Tab) (t : TypeId) (op : BinOp) (x y : AC) : Prop × AC :=
  match x with
  | .int k a => match y with
    | .int k2 b => binInt op k k2 a b
    | _ => (False, .junk)
  | .str a => match y with
    | .str b => binStr op a b
    | _ => (False, .junk)
  | .bool a => match y with
    | .bool b => match (T t).sh with
      | .bool => binBool op a b
      | _ => (False, .junk)
    | _ => (False, .junk)
  | _ => (False, .junk)

def qpick0 (c : Bool) (a b : AC) : AC :=
  match a with
  | .int k n => match b with
    | .int k2 m => match decide (k = k2) with
      | true => .int k (bif c then n else m)
      | false => .junk
    | _ => .junk
  | .bool n => match b with
    | .bool m => .bool (bif c then n else m)
    | _ => .junk
  | .str n => match b with
    | .str m => .str (bif c then n else m)
    | _ => .junk
  | _ => .junk

/-- where one of the two is not there -/
def qpick (c : Bool) (a b : AC) : AC :=
  match b with
  | .junk => match c with
    | true => a
    | false => .junk
  | _ => match a with
    | .junk => match c with
      | true => .junk
      | false => b
    | _ => qpick0 c a b

def qun (op : UnOp) (x : AC) : Prop × AC :=
  match op with
  | .not => match x with
    | .bool b => (True, .bool !b)
    | _ => (False, .junk)
  | .neg => match x with
    | .int k n => (True, .int k (k.wrap (0 - n)))
    | _ => (False, .junk)
  | .xor => match x with
    | .int k n => (True, .int k (bits .xor k (if k.signed then -1 else k.max) n))
    | _ => (False, .junk)
  | _ => (False, .junk)

def qlen (st : ASt) (x : AC) : Prop × AC :=
  match x with
  | .nil => (True, .int .i64 0)
  | .rd _ _ _ _ xs => (True, .int .i64 xs.length)
  | .sl o => match st.obj o with
    | .row _ _ _ _ _ xs => (True, .int .i64 xs.length)
    | _ => (False, .junk)
  | .sub _ _ _ n => (True, .int .i64 n)
  | .xr o r => match st.obj o with
    | .ext xo => match xo with
      | .rows _ _ _ _ _ _ xss => match r with
        | .whole => (True, .int .i64 xss.length)
        | .inn i => (i < xss.length, .int .i64 (xss.getD i []).length)
        | _ => (False, .junk)
      | _ => (False, .junk)
    | _ => (False, .junk)
  | _ => (False, .junk)
/-- a map's length -/
def qmlen (st : ASt) (x : AC) : Prop × AC :=
  match x with
  | .md _ _ _ _ _ _ _ es => (True, .int .i64 es.length)
  | .xr o r => match r with
    | .self => match st.obj o with
      | .ext xo => match xo with
        | .map _ _ _ _ _ _ _ _ es => (True, .int .i64 es.length)
        | _ => (False, .junk)
      | _ => (False, .junk)
    | _ => (False, .junk)
  | _ => (False, .junk)

/-! ### maps -/
def mfind {β : Type} (k : List KA) : List (Nat × List KA × β) → Option β
  | [] => none
  | e :: es => if e.2.1 = k then some e.2.2 else mfind k es
def mget {β : Type} (z : β) (es : List (Nat × List KA × β)) (k : List KA) : β := (mfind k es).getD z
def mhas {β : Type} (es : List (Nat × List KA × β)) (k : List KA) : Bool := (mfind k es).isSome
/-- an entry is told anew, where there is one -/
def mset {β : Type} (k : List KA) (v : β) : List (Nat × List KA × β) → List (Nat × List KA × β)
  | [] => []
  | e :: es => if e.2.1 = k then (e.1, k, v) :: es else e :: mset k v es
def mput {β : Type} (clock : Nat) (es : List (Nat × List KA × β)) (k : List KA) (v : β) : List (Nat × List KA × β) :=
  if mhas es k = true then mset k v es else es ++ [(clock, k, v)]
def mtick {β : Type} (clock : Nat) (es : List (Nat × List KA × β)) (k : List KA) : Nat := if mhas es k = true then clock else clock + 1
def mdel {β : Type} (k : List KA) : List (Nat × List KA × β) → List (Nat × List KA × β)
  | [] => []
  | e :: es => if e.2.1 = k then es else e :: mdel k es
def KA.ac : KA → AC
  | .int k n => .int k n
  | .bool b => .bool b
  | .str s => .str s
def kshOf (T : Tab) (kt : TypeId) : KSh :=
  match (T kt).sh with
  | .int k => .int k
  | .bool => .bool
  | .str => .str
  | _ => .no
/-- a key of a map -/
def keyOf (ks : KSh) (x : AV) : Prop × List KA :=
  match ks with
  | .int k => match x.ac with
    | .int k2 n => (k = k2, [.int k n])
    | _ => (False, [])
  | .bool => match x.ac with
    | .bool b => (True, [.bool b])
    | _ => (False, [])
  | .str => match x.ac with
    | .str s => (True, [.str s])
    | _ => (False, [])
  | .no => (False, [])
/-- a kind of elements is this one -/
def encIs (E : Option Enc) (β : Type) (z : β) (enc : β → List DV) : Prop :=
  match E with
  | some E => ∃ h : E.α = β, HEq E.z z ∧ HEq E.enc enc
  | none => False
def lookRes {β : Type} (agg : Bool) (z : β) (enc : β → List DV) (es : List (Nat × List KA × β)) (k : List KA) (ok : Bool) : AV :=
  match ok with
  | true => .tup [(agg, (enc (mget z es k)).map DV.ac), (false, [.bool (mhas es k)])]
  | false => ofCells agg ((enc (mget z es k)).map DV.ac)
def qlookup (T : Tab) (st : ASt) (t : TypeId) (m : AC) (k : AV) (ok : Bool) : Prop × AV :=
  match (T t).sh with
  | .map kt vt => match m with
    | .md kt2 vt2 ks β z enc _ es => ((keyOf ks k).1 ∧ kt2 = kt ∧ vt2 = vt ∧ kshOf T kt = ks ∧ (T vt).isAgg = false ∧ ¬ (T vt).size = 0 ∧ encIs (T vt).enc β z enc, lookRes false z enc es (keyOf ks k).2 ok)
    | .xr o r => match r with
      | .self => match st.obj o with
        | .ext xo => match xo with
          | .map kt2 vt2 ks agg β z enc _ es => ((keyOf ks k).1 ∧ kt2 = kt ∧ vt2 = vt ∧ kshOf T kt = ks ∧ agg = (T vt).isAgg ∧ ¬ (T vt).size = 0 ∧ encIs (T vt).enc β z enc, lookRes agg z enc es (keyOf ks k).2 ok)
          | _ => (False, .c .junk)
        | _ => (False, .c .junk)
      | _ => (False, .c .junk)
    | _ => (False, .c .junk)
  | _ => (False, .c .junk)

/-- the entry at which a range stands -/
def qentry (st : ASt) (x : AC) : Prop × AV :=
  match x with
  | .xr i r => match r with
    | .self => match st.obj i with
      | .ext xi => match xi with
        | .iter m _ seen last => match m with
          | .xr o r2 => match r2 with
            | .self => match st.obj o with
              | .ext xo => match xo with
                | .map _ _ _ agg _ _ enc clock es => match seen.getLast? with
                  | some s => match es.find? (fun x => x.1 == s) with
                    | some e => (clock = last, .tup [(false, e.2.1.map KA.ac), (agg, (enc e.2.2).map DV.ac)])
                    | none => (False, .c .junk)
                  | none => (False, .c .junk)
                | _ => (False, .c .junk)
              | _ => (False, .c .junk)
            | _ => (False, .c .junk)
          | _ => (False, .c .junk)
        | _ => (False, .c .junk)
      | _ => (False, .c .junk)
    | _ => (False, .c .junk)
  | _ => (False, .c .junk)

def qmax (x y : AC) : Prop × AC :=
  match x with
  | .int k a => match y with
    | .int k2 b => (k = k2, .int k (if b > a then b else a))
    | _ => (False, .junk)
  | _ => (False, .junk)
def qmin (x y : AC) : Prop × AC :=
  match x with
  | .int k a => match y with
    | .int k2 b => (k = k2, .int k (if b < a then b else a))
    | _ => (False, .junk)
  | _ => (False, .junk)

def qindexAddr (T : Tab) (t : TypeId) (st : ASt) (x ix : AC) : Prop × AC :=
  match ix with
  | .int _ i => match (T t).sh with
    | .slice e => match x with
      | .rd size _ z enc xs => (size = (T e).size ∧ 0 ≤ i ∧ i < xs.length, .re (enc (xs.getD i.toNat z)))
      | .sl o => match st.obj o with
        | .row _ size _ _ _ xs => (size = (T e).size ∧ 0 ≤ i ∧ i < xs.length, .el o size i.toNat 0)
        | _ => (False, .junk)
      | .sub o size lo n => (size = (T e).size ∧ 0 ≤ i ∧ i < n, .el o size (lo + i.toNat) 0)
      | .xr o r => match st.obj o with
        | .ext xo => match xo with
          | .rows _ _ size _ _ _ xss => match r with
            | .whole => (1 = (T e).size ∧ 0 ≤ i ∧ i < xss.length, .xr o (.cell i.toNat))
            | .inn a => (size = (T e).size ∧ a < xss.length ∧ 0 ≤ i ∧ i < (xss.getD a []).length, .xr o (.inel a size i.toNat 0))
            | _ => (False, .junk)
          | _ => (False, .junk)
        | _ => (False, .junk)
      | _ => (False, .junk)
    | .array n e => match x with
      | .ptr o j => (0 ≤ i ∧ i < n, .ptr o (j + i.toNat * (T e).size))
      | .re ds => (0 ≤ i ∧ i < n, .re (ds.drop (i.toNat * (T e).size)))
      | .el o size a j => (0 ≤ i ∧ i < n, .el o size a (j + i.toNat * (T e).size))
      | .xr o r => match r with
        | .inel a size k j => (0 ≤ i ∧ i < n, .xr o (.inel a size k (j + i.toNat * (T e).size)))
        | _ => (False, .junk)
      | _ => (False, .junk)
    | _ => (False, .junk)
  | _ => (False, .junk)

def qfieldAddr (T : Tab) (s : TypeId) (x : AC) (f : Nat) : Prop × AC :=
  match (T s).sh with
  | .struct fs => match fs[f]? with
    | some p => match x with
      | .ptr o j => (¬ (T p.2).size = 0, .ptr o (j + p.1))
      | .re ds => (¬ (T p.2).size = 0, .re (ds.drop p.1))
      | .el o size i j => (¬ (T p.2).size = 0, .el o size i (j + p.1))
      | .xr o r => match r with
        | .inel a size k j => (¬ (T p.2).size = 0, .xr o (.inel a size k (j + p.1)))
        | _ => (False, .junk)
      | _ => (False, .junk)
    | none => (False, .junk)
  | _ => (False, .junk)

def qfield (T : Tab) (s : TypeId) (x : List AC) (f : Nat) : Prop × AV :=
  match (T s).sh with
  | .struct fs => match fs[f]? with
    | some p => (p.1 + (T p.2).size ≤ x.length, ofCells (T p.2).isAgg ((x.drop p.1).take (T p.2).size))
    | none => (False, .c .junk)
  | _ => (False, .c .junk)

def qindex (T : Tab) (t : TypeId) (x : AV) (ix : AC) : Prop × AV :=
  match ix with
  | .int _ i => match (T t).sh with
    | .str => match x.ac with
      | .str s => (0 ≤ i ∧ i < s.size, .c (.int .u8 (bt s i)))
      | _ => (False, .c .junk)
    | .array n e => match x with
      | .agg cs => (0 ≤ i ∧ i < n ∧ (i.toNat + 1) * (T e).size ≤ cs.length, ofCells (T e).isAgg ((cs.drop (i.toNat * (T e).size)).take (T e).size))
      | _ => (False, .c .junk)
    | _ => (False, .c .junk)
  | _ => (False, .c .junk)

def qload (T : Tab) (st : ASt) (t : TypeId) (x : AC) : Prop × AV :=
  match x with
  | .ptr o j => match st.obj o with
    | .cells _ cs => (¬ (T t).size = 0 ∧ j + (T t).size ≤ cs.length, ofCells (T t).isAgg ((cs.drop j).take (T t).size))
    | _ => (False, .c .junk)
  | .re ds => (¬ (T t).size = 0 ∧ (T t).size ≤ ds.length, ofCells (T t).isAgg ((ds.take (T t).size).map DV.ac))
  | .el o size i j => match st.obj o with
    | .row _ sz _ z enc xs => (size = sz ∧ i < xs.length ∧ ¬ (T t).size = 0 ∧ j + (T t).size ≤ size, ofCells (T t).isAgg ((((enc (xs.getD i z)).drop j).take (T t).size).map DV.ac))
    | _ => (False, .c .junk)
  | .xr o r => match st.obj o with
    | .ext xo => match xo with
      | .rows _ _ sz _ z enc xss => match r with
        | .cell i => (i < xss.length ∧ ¬ (T t).size = 0 ∧ (T t).isAgg = false, .c (.xr o (.inn i)))
        | .inel a size k j => (size = sz ∧ a < xss.length ∧ k < (xss.getD a []).length ∧ ¬ (T t).size = 0 ∧ j + (T t).size ≤ size, ofCells (T t).isAgg ((((enc ((xss.getD a []).getD k z)).drop j).take (T t).size).map DV.ac))
        | _ => (False, .c .junk)
      | _ => (False, .c .junk)
    | _ => (False, .c .junk)
  | _ => (False, .c .junk)

def qconvert (T : Tab) (src dst : TypeId) (x : AC) : Prop × AC :=
  match (T src).sh with
  | .int _ => match (T dst).sh with
    | .int k => match x with
      | .int _ n => (True, .int k (k.wrap n))
      | _ => (False, .junk)
    | _ => (False, .junk)
  | .str => match (T dst).sh with
    | .str => match x with
      | .str s => (True, .str s)
      | _ => (False, .junk)
    | _ => (False, .junk)
  | _ => (False, .junk)

/-- bounds of a cut -/
def cutLo (lo : Option AC) : Option Int :=
  match lo with
  | none => some 0
  | some x => match x with
    | .int _ i => some i
    | _ => none
def cutHi (len : Nat) (hi : Option AC) : Option Int :=
  match hi with
  | none => some len
  | some x => match x with
    | .int _ i => some i
    | _ => none
/-- a bound of a part's cut: within the part, or within its row -/
def within (st : ASt) (o a : Nat) (h : Int) (n : Nat) : Prop :=
  h ≤ n ∨ match st.obj o with
    | .row _ _ _ _ _ xs => (a : Int) + h ≤ xs.length ∧ a < xs.length
    | _ => False
def qslice (T : Tab) (t : TypeId) (st : ASt) (x : AC) (lo hi : Option AC) : Prop × AC :=
  match cutLo lo with
  | none => (False, .junk)
  | some l => match (T t).sh with
    | .str => match x with
      | .str s => match cutHi s.size hi with
        | some h => (0 ≤ l ∧ l ≤ h ∧ h ≤ s.size, .str (s.extract l.toNat h.toNat))
        | none => (False, .junk)
      | _ => (False, .junk)
    | .slice e => match x with
      | .nil => match cutHi 0 hi with
        | some h => (l = 0 ∧ h = 0, .nil)
        | none => (False, .junk)
      | .rd size α z enc xs => match cutHi xs.length hi with
        | some h => (size = (T e).size ∧ 0 ≤ l ∧ l ≤ h ∧ h ≤ xs.length, .rd size α z enc ((xs.drop l.toNat).take (h.toNat - l.toNat)))
        | none => (False, .junk)
      | .sl o => match st.obj o with
        | .row _ size _ _ _ xs => match cutHi xs.length hi with
          | some h => (size = (T e).size ∧ 0 ≤ l ∧ l ≤ h ∧ h ≤ xs.length, .sub o size l.toNat (h.toNat - l.toNat))
          | none => (False, .junk)
        | _ => (False, .junk)
      | .sub o size a n => match cutHi n hi with
        | some h => (size = (T e).size ∧ 0 ≤ l ∧ l ≤ h ∧ within st o a h n, .sub o size (a + l.toNat) (h.toNat - l.toNat))
        | none => (False, .junk)
      | _ => (False, .junk)
    | _ => (False, .junk)

/-- a cut with three bounds: that it does not panic -/
def qslice3 (T : Tab) (t : TypeId) (st : ASt) (x : AC) (lo hi : Option AC) (m : AC) : Prop :=
  match cutLo lo with
  | none => False
  | some l => match m with
    | .int _ mx => match (T t).sh with
      | .slice _ => match x with
        | .sub _ _ _ n => match hi with
          | some y => match y with
            | .int _ h => 0 ≤ l ∧ l ≤ h ∧ h ≤ mx ∧ mx ≤ n
            | _ => False
          | none => False
        | .rd _ _ _ _ xs => match hi with
          | some y => match y with
            | .int _ h => 0 ≤ l ∧ l ≤ h ∧ h ≤ mx ∧ mx ≤ xs.length
            | _ => False
          | none => False
        | _ => False
      | _ => False
    | _ => False

/-- a cut with three bounds that keeps a row's end -/
def qslice3v (T : Tab) (t : TypeId) (st : ASt) (x : AC) (lo hi : Option AC) (m : AC) : AC :=
  match x with
  | .sub o sz a n => match cutLo lo with
    | some l => match hi with
      | some y => match y with
        | .int _ h => match m with
          | .int _ mx => match (T t).sh with
            | .slice e => match st.obj o with
              | .row _ _ _ _ _ xs => match decide (sz = (T e).size ∧ a + mx.toNat = xs.length) with
                | true => .sub o sz (a + l.toNat) (h.toNat - l.toNat)
                | false => .junk
              | _ => .junk
            | _ => .junk
          | _ => .junk
        | _ => .junk
      | none => .junk
    | none => .junk
  | _ => .junk

def qextract (x : AV) (i : Nat) : Prop × AV :=
  match x with
  | .tup vs => match vs[i]? with
    | some p => match p.1 with
      | true => (True, .agg p.2)
      | false => (p.2.length = 1, .c (p.2.headD .junk))
    | none => (False, .c .junk)
  | _ => (False, .c .junk)

def splice {β : Type _} (l : List β) (j : Nat) (new : List β) : List β := l.take j ++ new ++ l.drop (j + new.length)

/-- parts laid into the cells of a zero value -/
def fillParts (place : Nat → Option (Nat × Nat)) : List (Nat × List AC) → List AC → Prop × List AC
  | [], cs => (True, cs)
  | p :: ps, cs => match place p.1 with
    | some q => (p.2.length = q.2 ∧ q.1 + p.2.length ≤ cs.length ∧ (fillParts place ps (splice cs q.1 p.2)).1, (fillParts place ps (splice cs q.1 p.2)).2)
    | none => (False, cs)
def structPlace (T : Tab) (fs : List (Nat × TypeId)) (i : Nat) : Option (Nat × Nat) :=
  match fs[i]? with
  | some p => some (p.1, (T p.2).size)
  | none => none
def qbuild (T : Tab) (t : TypeId) (parts : List (Nat × List AC)) : Prop × AV :=
  match (T t).sh with
  | .struct fs => (¬ (T t).size = 0 ∧ (fillParts (structPlace T fs) parts (T t).zero).1, .agg (fillParts (structPlace T fs) parts (T t).zero).2)
  | .array _ e => (¬ (T t).size = 0 ∧ (fillParts (fun i => some (i * (T e).size, (T e).size)) parts (T t).zero).1, .agg (fillParts (fun i => some (i * (T e).size, (T e).size)) parts (T t).zero).2)
  | _ => (False, .c .junk)

def capsOf : List AV → Option (List (Nat × Nat))
  | [] => some []
  | v :: vs => match v with
    | .c x => match x with
      | .ptr o j => match capsOf vs with
        | some l => some ((o, j) :: l)
        | none => none
      | _ => none
    | _ => none

def needAll (g : Bool) : List AV → Prop
  | [] => True
  | v :: vs => v.need g ∧ v.isTup = false ∧ needAll g vs

def partsOf (st : ASt) (ps : List (Nat × Operand)) : List (Nat × List AC) := ps.map fun p => (p.1, (st.eval p.2).cells)

/-- may be laid into a cell -/
def AC.fits : AC → Bool
  | .junk => false
  | .raw v => v.oneCell'
  | _ => true

def fitAll : List (Nat × List AC) → Bool
  | [] => true
  | p :: ps => p.2.all AC.fits && fitAll ps

/-- operations that only look: what they ask, what they give -/
def qop (T : Tab) (st : ASt) (g : Bool) (o : Oper) : Prop × AV :=
  match o.op with
  | .move x => ((st.eval x).need g, st.eval x)
  | .assign x => ((st.eval x).need g, st.eval x)
  | .pick c a b => match (st.eval c).ac with
    | .bool cb => ((st.eval c).need g ∧ (st.eval a).need (g && cb) ∧ (st.eval b).need (g && !cb), .c (qpick cb (st.eval a).ac (st.eval b).ac))
    | _ => (False, .c .junk)
  | .binOp op t x y _ => ((st.eval x).need g ∧ (st.eval y).need g ∧ (qbin T t op (st.eval x).ac (st.eval y).ac).1, .c (qbin T t op (st.eval x).ac (st.eval y).ac).2)
  | .unOp op _ x => ((st.eval x).need g ∧ (qun op (st.eval x).ac).1, .c (qun op (st.eval x).ac).2)
  | .convert src dst x => ((st.eval x).need g ∧ (qconvert T src dst (st.eval x).ac).1, .c (qconvert T src dst (st.eval x).ac).2)
  | .call { callee := .builtin b, args, argTypes } => match args.toList with
    | [x] => match b with
      | .len => match argTypes.toList with
        | t :: _ => match (T t).sh with
          | .str => match (st.eval x).ac with
            | .str s => ((st.eval x).need g, .c (.int .i64 s.size))
            | _ => (False, .c .junk)
          | .slice _ => ((st.eval x).need g ∧ (qlen st (st.eval x).ac).1, .c (qlen st (st.eval x).ac).2)
          | .map _ _ => ((st.eval x).need g ∧ (qmlen st (st.eval x).ac).1, .c (qmlen st (st.eval x).ac).2)
          | _ => (False, .c .junk)
        | _ => (False, .c .junk)
      | _ => (False, .c .junk)
    | [x, y] => match b with
      | .max => ((st.eval x).need g ∧ (st.eval y).need g ∧ (qmax (st.eval x).ac (st.eval y).ac).1, .c (qmax (st.eval x).ac (st.eval y).ac).2)
      | .min => ((st.eval x).need g ∧ (st.eval y).need g ∧ (qmin (st.eval x).ac (st.eval y).ac).1, .c (qmin (st.eval x).ac (st.eval y).ac).2)
      | _ => (False, .c .junk)
    | [x, y, z] => match b with
      | .max => ((st.eval x).need g ∧ (st.eval y).need g ∧ (st.eval z).need g ∧ (qmax (st.eval x).ac (st.eval y).ac).1 ∧ (qmax (qmax (st.eval x).ac (st.eval y).ac).2 (st.eval z).ac).1, .c (qmax (qmax (st.eval x).ac (st.eval y).ac).2 (st.eval z).ac).2)
      | .min => ((st.eval x).need g ∧ (st.eval y).need g ∧ (st.eval z).need g ∧ (qmin (st.eval x).ac (st.eval y).ac).1 ∧ (qmin (qmin (st.eval x).ac (st.eval y).ac).2 (st.eval z).ac).1, .c (qmin (qmin (st.eval x).ac (st.eval y).ac).2 (st.eval z).ac).2)
      | _ => (False, .c .junk)
    | _ => (False, .c .junk)
  | .indexAddr t x ix => ((st.eval x).need g ∧ (st.eval ix).need g ∧ (qindexAddr T t st (st.eval x).ac (st.eval ix).ac).1, .c (qindexAddr T t st (st.eval x).ac (st.eval ix).ac).2)
  | .fieldAddr s x f => ((st.eval x).need g ∧ (qfieldAddr T s (st.eval x).ac f).1, .c (qfieldAddr T s (st.eval x).ac f).2)
  | .field s x f => match st.eval x with
    | .agg cs => ((qfield T s cs f).1, (qfield T s cs f).2)
    | _ => (False, .c .junk)
  | .index t x ix => ((st.eval x).need g ∧ (st.eval ix).need g ∧ (qindex T t (st.eval x) (st.eval ix).ac).1, (qindex T t (st.eval x) (st.eval ix).ac).2)
  | .load t a => ((st.eval a).need g ∧ (qload T st t (st.eval a).ac).1, (qload T st t (st.eval a).ac).2)
  | .lookup t m k ok => ((st.eval m).need g ∧ (st.eval k).need g ∧ (qlookup T st t (st.eval m).ac (st.eval k) ok).1, (qlookup T st t (st.eval m).ac (st.eval k) ok).2)
  | .entry x => ((st.eval x).need g ∧ (qentry st (st.eval x).ac).1, (qentry st (st.eval x).ac).2)
  | .slice t x lo hi mx => match mx with
    | none => ((st.eval x).need g ∧ needAll g (lo.toList.map st.eval) ∧ needAll g (hi.toList.map st.eval) ∧ (qslice T t st (st.eval x).ac (lo.map fun y => (st.eval y).ac) (hi.map fun y => (st.eval y).ac)).1,
        .c (qslice T t st (st.eval x).ac (lo.map fun y => (st.eval y).ac) (hi.map fun y => (st.eval y).ac)).2)
    | some m => ((st.eval x).need g ∧ needAll g (lo.toList.map st.eval) ∧ needAll g (hi.toList.map st.eval) ∧ (st.eval m).need g ∧ (qslice3 T t st (st.eval x).ac (lo.map fun y => (st.eval y).ac) (hi.map fun y => (st.eval y).ac) (st.eval m).ac),
        .c (qslice3v T t st (st.eval x).ac (lo.map fun y => (st.eval y).ac) (hi.map fun y => (st.eval y).ac) (st.eval m).ac))
  | .extract x i => ((qextract (st.eval x) i).1, (qextract (st.eval x) i).2)
  | .build t ps => (needAll g (ps.toList.map fun p => st.eval p.2) ∧ fitAll (partsOf st ps.toList) = true ∧ (qbuild T t (partsOf st ps.toList)).1, (qbuild T t (partsOf st ps.toList)).2)
  | .nilCheck x => match (st.eval x).ac with
    | .ptr o j => ((st.eval x).need g, .c (.ptr o j))
    | .fn f caps => ((st.eval x).need g, .c (.fn f caps))
    | _ => (False, .c .junk)
  | .makeFunc f first caps => match f with
    | .func f => match first.toList with
      | [] => match capsOf (caps.toList.map st.eval) with
        | some l => (True, .c (.fn f l))
        | none => (False, .c .junk)
      | _ => (False, .c .junk)
    | _ => (False, .c .junk)
  | _ => (False, .c .junk)

def leD1 : DV → DV → Prop
  | .nil, .list _ _ _ _ xs => xs = []
  | d, e => d = e
def leD : List DV → List DV → Prop
  | [], [] => True
  | d :: ds, e :: es => leD1 d e ∧ leD ds es
  | _, _ => False

/-- as data -/
def AC.dv : AC → Option DV
  | .int k n => some (.int k n)
  | .bool b => some (.bool b)
  | .str s => some (.str s)
  | .nil => some .nil
  | .rd size α z enc xs => some (.list size α z enc xs)
  | .md kt vt ks β z enc clock es => some (.map kt vt ks β z enc clock es)
  | _ => none
def dvs : List AC → Option (List DV)
  | [] => some []
  | c :: cs => match c.dv with
    | some d => match dvs cs with
      | some ds => some (d :: ds)
      | none => none
    | none => none
/-- lists as elements -/
def encL (size : Nat) (α : Type) (z : α) (enc : α → List DV) : List α → List DV := fun xs => [.list size α z enc xs]
/-- the object's references become others -/
def AC.frz (o : Nat) (ob : AObj) : AC → AC
  | .sl p => bif p == o then (match ob with
    | .row _ size α z enc xs => .rd size α z enc xs
    | _ => .junk) else .sl p
  | .sub p s lo n => bif p == o then (match ob with
    | .row _ size α z enc xs => bif s == size then .rd size α z enc ((xs.drop lo).take n) else .junk
    | _ => .junk) else .sub p s lo n
  | .el p s i j => bif p == o then .junk else .el p s i j
  | .xr p r => bif p == o then (match ob with
    | .ext xo => match xo with
      | .rows _ _ size α z enc xss => match r with
        | .whole => .rd 1 (List α) [] (encL size α z enc) xss
        | .inn i => .rd size α z enc (xss.getD i [])
        | _ => .junk
      | .map kt vt ks agg β z enc clock es => match agg with
        | false => match r with
          | .self => .md kt vt ks β z enc clock es
          | _ => .junk
        | true => .junk
      | _ => .junk
    | _ => .junk) else .xr p r
  | x => x
def AC.kill (o : Nat) : AC → AC
  | .sl p => bif p == o then .junk else .sl p
  | .sub p s lo n => bif p == o then .junk else .sub p s lo n
  | .el p s i j => bif p == o then .junk else .el p s i j
  | .xr p r => bif p == o then .junk else .xr p r
  | x => x
/-- an own row p has come into the row of rows o, at i -/
def AC.absorb (p o i : Nat) : AC → AC
  | .sl q => bif q == p then .xr o (.inn i) else .sl q
  | .sub q s lo n => bif q == p then .junk else .sub q s lo n
  | .el q s k j => bif q == p then .xr o (.inel i s k j) else .el q s k j
  | .xr q r => bif q == o then (match r with
    | .self => .xr q .self
    | .whole => .xr q .whole
    | .cell k => .xr q (.cell k)
    | .inn k => bif k == i then .junk else .xr q (.inn k)
    | .inel k s a j => bif k == i then .junk else .xr q (.inel k s a j)) else (bif q == p then .junk else .xr q r)
  | x => x
/-- the rows of a row of rows are no longer its own -/
def AC.shallow (o : Nat) (size : Nat) (α : Type) (z : α) (enc : α → List DV) (xss : List (List α)) : AC → AC
  | .xr p r => bif p == o then (match r with
    | .whole => .sl p
    | .cell i => .el p 1 i 0
    | .inn i => .rd size α z enc (xss.getD i [])
    | _ => .junk) else .xr p r
  | x => x
def AV.map (f : AC → AC) : AV → AV
  | .c x => .c (f x)
  | .agg cs => .agg (cs.map f)
  | .tup vs => .tup (vs.map fun p => (p.1, p.2.map f))
  | .on g x => .on g (f x)
def XObj.amap (f : AC → AC) : XObj → XObj
  | .iter m a b c => .iter (f m) a b c
  | x => x
def AObj.map (f : AC → AC) : AObj → AObj
  | .cells ty cs => .cells ty (cs.map f)
  | .ext x => .ext (x.amap f)
  | ob => ob
def ASt.map (f : AC → AC) (st : ASt) : ASt := { st with slots := st.slots.map (AV.map f), objs := st.objs.map (AObj.map f) }
def ASt.setObj (st : ASt) (o : Nat) (ob : AObj) : ASt := { st with objs := st.objs.set o ob }
/-- an own row becomes read-only data -/
def ASt.freeze (st : ASt) (o : Nat) : ASt := match st.obj o with
  | .row ty size α z enc xs => (st.map (AC.frz o (.row ty size α z enc xs))).setObj o .gone
  | .ext xo => match xo with
    | .rows ty ety size α z enc xss => (st.map (AC.frz o (.ext (.rows ty ety size α z enc xss)))).setObj o .gone
    | .map kt vt ks agg β z enc clock es => match agg with
      | false => (st.map (AC.frz o (.ext (.map kt vt ks false β z enc clock es)))).setObj o .gone
      | true => st
    | _ => st
  | _ => st
def ASt.shallow (st : ASt) (o : Nat) : ASt := match st.obj o with
  | .ext xo => match xo with
    | .rows ty ety size α z enc xss => (st.map (AC.shallow o size α z enc xss)).setObj o (.row ty 1 (List α) [] (encL size α z enc) xss)
    | _ => st
  | _ => st
def frzRefs (n0 : Nat) : List AC → ASt → ASt
  | [], st => st
  | c :: cs, st => match c with
    | .sl o => frzRefs n0 cs (bif n0 ≤ o then st.freeze o else st)
    | .sub o _ _ _ => frzRefs n0 cs (bif n0 ≤ o then st.freeze o else st)
    | .xr o _ => frzRefs n0 cs (bif n0 ≤ o then st.freeze o else st)
    | _ => frzRefs n0 cs st

def astore (T : Tab) (st : ASt) (t : TypeId) (a : AC) (v : AV) (K : ASt → Prop) : Prop :=
  match a with
  | .ptr o j => match st.obj o with
    | .cells ty cs => v.cells.length = (T t).size ∧ (v.cells.all AC.fits) = true ∧ j + v.cells.length ≤ cs.length ∧ K (st.setObj o (.cells ty (splice cs j v.cells)))
    | _ => False
  | .el o size i j => match st.obj o with
    | .row ty sz α z enc xs => match dvs v.cells with
      | some ds => v.cells.length = (T t).size ∧ size = sz ∧ i < xs.length ∧ j + v.cells.length ≤ size ∧ ∃ y, leD (splice (enc (xs.getD i z)) j ds) (enc y) ∧ K (st.setObj o (.row ty sz α z enc (xs.set i y)))
      | none => False
    | _ => False
  | _ => False

def newObj (st : ASt) (ob : AObj) : ASt := { st with objs := st.objs ++ [ob] }
/-- an element's cell in a row of rows -/
def xstore (T : Tab) (st : ASt) (t : TypeId) (o a size k j : Nat) (v : AV) (K : ASt → Prop) : Prop :=
  match st.obj o with
  | .ext xo => match xo with
    | .rows ty ety sz α z enc xss => match dvs v.cells with
      | some ds => v.cells.length = (T t).size ∧ size = sz ∧ a < xss.length ∧ k < (xss.getD a []).length ∧ j + v.cells.length ≤ size ∧
          ∃ y, leD (splice (enc ((xss.getD a []).getD k z)) j ds) (enc y) ∧ K (st.setObj o (.ext (.rows ty ety sz α z enc (xss.set a ((xss.getD a []).set k y)))))
      | none => False
    | _ => False
  | _ => False
/-- an own row comes into a row of rows -/
def xabsorb (T : Tab) (st : ASt) (t : TypeId) (o i p : Nat) (K : ASt → Prop) : Prop :=
  match st.obj o with
  | .ext xo => match xo with
    | .rows ty ety sz α z enc xss => match st.obj p with
      | .row ty2 sz2 β _ enc2 ys => ¬ p = o ∧ st.n0 ≤ o ∧ st.n0 ≤ p ∧ i < xss.length ∧ (T t).size = 1 ∧ ty2 = ety ∧ sz2 = sz ∧
          ∃ h : β = α, HEq enc2 enc ∧ K (((st.map (AC.absorb p o i)).setObj p .gone).setObj o (.ext (.rows ty ety sz α z enc (xss.set i (cast (congrArg List h) ys)))))
      | _ => False
    | _ => False
  | _ => False
/-- a store through a cell of a row of rows -/
def isRows (st : ASt) (p : Nat) : Bool :=
  match st.obj p with
  | .ext xo => match xo with
    | .rows .. => true
    | _ => false
  | _ => false
def ownSl : AV → Option Nat
  | .c x => match x with
    | .sl p => some p
    | _ => none
  | _ => none

/-- the zero value is nil -/
def nilZero (l : List AC) : Prop :=
  match l with
  | [x] => match x with
    | .nil => True
    | _ => False
  | _ => False
/-- a new row's elements -/
def zeros {α : Type} (n : Nat) (z : α) : List α := List.replicate n z
def amakePlain (T : Tab) (st : ASt) (dst : Option Tmp) (e : TypeId) (E : Enc) (l c : AC) (K : ASt → Prop) : Prop :=
  match l with
  | .int _ n => match c with
    | .int _ m => ¬ (T e).size = 0 ∧ 0 ≤ n ∧ n ≤ m ∧ m * (T e).bytes ≤ 140737488355328 ∧ m ≤ 140737488355328 ∧
        K ((newObj st (.row e (T e).size E.α E.z E.enc (zeros n.toNat E.z))).put dst (.c (.sl st.objs.length)))
    | _ => False
  | _ => False
def amake (T : Tab) (st : ASt) (dst : Option Tmp) (t : TypeId) (l c : AC) (K : ASt → Prop) : Prop :=
  match (T t).sh with
  | .slice e => match (T e).enc with
    | some E => match (T e).sh with
     | .slice e2 => match (T e2).enc with
      | some E2 => match l with
        | .int _ n => match c with
          | .int _ m => (T e).size = 1 ∧ nilZero (T e).zero ∧ 0 ≤ n ∧ n ≤ m ∧ m * (T e).bytes ≤ 140737488355328 ∧ m ≤ 140737488355328 ∧
              K ((newObj st (.ext (.rows e e2 (T e2).size E2.α E2.z E2.enc (zeros n.toNat [])))).put dst (.c (.xr st.objs.length .whole)))
          | _ => False
        | _ => False
      | none => False
     | _ => amakePlain T st dst e E l c K
    | none => False
  | _ => False

/-- maps as elements -/
abbrev MapD (β : Type) := Nat × List (Nat × List KA × β)
def encM (kt vt : TypeId) (ks : KSh) (β : Type) (z : β) (enc : β → List DV) : MapD β → List DV := fun p => [.map kt vt ks β z enc p.1 p.2]
/-- elements of a literal, one by one -/
def elems {α : Type} (enc : α → List DV) : List (List AC) → (List α → Prop) → Prop
  | [], K => K []
  | c :: cs, K => match dvs c with
    | some ds => ∃ y, leD ds (enc y) ∧ elems enc cs fun ys => K (y :: ys)
    | none => False
def setPart (els : List (List AC)) (size : Nat) : List (Nat × List AC) → Prop × List (List AC)
  | [] => (True, els)
  | p :: ps => (p.1 < els.length ∧ p.2.length = size ∧ (setPart (els.set p.1 p.2) size ps).1, (setPart (els.set p.1 p.2) size ps).2)

def abuildSlice (T : Tab) (st : ASt) (dst : Option Tmp) (t : TypeId) (len : Nat) (parts : List (Nat × List AC)) (K : ASt → Prop) : Prop :=
  match (T t).sh with
  | .slice e => match (T e).enc with
    | some E => ¬ (T e).size = 0 ∧ (setPart (List.replicate len (T e).zero) (T e).size parts).1 ∧ len * (T e).size ≤ 16777216 ∧
        elems E.enc (setPart (List.replicate len (T e).zero) (T e).size parts).2 fun ys =>
          K ((newObj st (.row e (T e).size E.α E.z E.enc ys)).put dst (.c (.sl st.objs.length)))
    | none => match (T e).sh with
      | .map _ _ => match len with
        | 1 => match parts with
          | [p] => match p.2 with
            | [x] => match x with
              | .md kt vt ks β z enc clock es => p.1 = 0 ∧ (T e).size = 1 ∧
                  K ((newObj st (.row e 1 (MapD β) (0, []) (encM kt vt ks β z enc) [(clock, es)])).put dst (.c (.sl st.objs.length)))
              | _ => False
            | _ => False
          | _ => False
        | _ => False
      | _ => False
  | _ => False

/-- a literal of one own row: a row of rows -/
def ownPart (st : ASt) (n : Nat) (ps : List (Nat × Operand)) : Option Nat :=
  match ps with
  | [p] => match n with
    | 1 => match ownSl (st.eval p.2) with
      | some q => bif decide (st.n0 ≤ q) && decide (p.1 = 0) then some q else none
      | none => none
    | _ => none
  | _ => none
def abuildRows (T : Tab) (st : ASt) (dst : Option Tmp) (t : TypeId) (q : Nat) (K : ASt → Prop) : Prop :=
  match (T t).sh with
  | .slice e => match (T e).sh with
    | .slice e2 => match st.obj q with
      | .row ty size α z enc ys => (T e).size = 1 ∧ ty = e2 ∧ size = (T e2).size ∧ ¬ size = 0 ∧
          K ((newObj ((st.map (AC.absorb q st.objs.length 0)).setObj q .gone) (.ext (.rows e e2 size α z enc [ys]))).put dst (.c (.xr st.objs.length .whole)))
      | _ => False
    | _ => False
  | _ => False

/-! ### maps -/
def amakeMap (T : Tab) (st : ASt) (dst : Option Tmp) (t : TypeId) (K : ASt → Prop) : Prop :=
  match (T t).sh with
  | .map kt vt => match (T vt).enc with
    | some E => ¬ kshOf T kt = .no ∧ ¬ (T vt).size = 0 ∧ K ((newObj st (.ext (.map kt vt (kshOf T kt) (T vt).isAgg E.α E.z E.enc 0 []))).put dst (.c (.xr st.objs.length .self)))
    | none => False
  | _ => False
def AV.isA : AV → Bool
  | .agg _ => true
  | _ => false
def amapUpdate (T : Tab) (st : ASt) (t : TypeId) (m : AC) (k v : AV) (K : ASt → Prop) : Prop :=
  match (T t).sh with
  | .map kt vt => match m with
    | .xr o r => match r with
      | .self => match st.obj o with
        | .ext xo => match xo with
          | .map kt2 vt2 ks agg β z enc clock es => match dvs v.cells with
            | some ds => (keyOf ks k).1 ∧ kt2 = kt ∧ vt2 = vt ∧ kshOf T kt = ks ∧ v.isA = agg ∧
                ∃ y, leD ds (enc y) ∧ K (st.setObj o (.ext (.map kt2 vt2 ks agg β z enc (mtick clock es (keyOf ks k).2) (mput clock es (keyOf ks k).2 y))))
            | none => False
          | _ => False
        | _ => False
      | _ => False
    | _ => False
  | _ => False
def amapDelete (T : Tab) (st : ASt) (t : TypeId) (m : AC) (k : AV) (K : ASt → Prop) : Prop :=
  match (T t).sh with
  | .map kt vt => match m with
    | .xr o r => match r with
      | .self => match st.obj o with
        | .ext xo => match xo with
          | .map kt2 vt2 ks agg β z enc clock es => (keyOf ks k).1 ∧ kt2 = kt ∧ vt2 = vt ∧ kshOf T kt = ks ∧ K (st.setObj o (.ext (.map kt2 vt2 ks agg β z enc clock (mdel (keyOf ks k).2 es))))
          | _ => False
        | _ => False
      | _ => False
    | _ => False
  | _ => False
/-- a map's entries: their numbers and keys differ -/
def mwf {β : Type} (clock : Nat) (es : List (Nat × List KA × β)) : Prop :=
  (∀ e ∈ es, e.1 < clock) ∧ es.Pairwise (fun a b => a.1 ≠ b.1) ∧ es.Pairwise (fun a b => a.2.1 ≠ b.2.1)
def arange (T : Tab) (st : ASt) (dst : Option Tmp) (t : TypeId) (m : AC) (K : ASt → Prop) : Prop :=
  match (T t).sh with
  | .map _ _ => match m with
    | .xr o r => match r with
      | .self => match st.obj o with
        | .ext xo => match xo with
          | .map _ _ _ _ _ _ _ clock _ => K ((newObj st (.ext (.iter (.xr o .self) clock [] clock))).put dst (.c (.xr st.objs.length .self)))
          | _ => False
        | _ => False
      | _ => False
    | _ => False
  | _ => False
def anext (st : ASt) (dst : Option Tmp) (x : AC) (K : ASt → Prop) : Prop :=
  match x with
  | .xr i r => match r with
    | .self => match st.obj i with
      | .ext xi => match xi with
        | .iter m since seen last => match m with
          | .xr o r2 => match r2 with
            | .self => match st.obj o with
              | .ext xo => match xo with
                | .map _ _ _ agg _ _ enc clock es => mwf clock es →
                    (∀ e ∈ es, e.1 < since) ∧ since ≤ last ∧
                    (∀ e ∈ es, e.1 ∉ seen → es.find? (fun x => x.1 == e.1) = some e →
                      K ((st.setObj i (.ext (.iter (.xr o .self) since (seen ++ [e.1]) clock))).put dst (.tup [(false, [.bool true]), (false, e.2.1.map KA.ac), (agg, (enc e.2.2).map DV.ac)]))) ∧
                    ((∀ e ∈ es, e.1 ∈ seen) → K (st.put dst (.tup [(false, [.bool false])])))
                | _ => False
              | _ => False
            | _ => False
          | _ => False
        | _ => False
      | _ => False
    | _ => False
  | _ => False

def u8s (s : ByteArray) : List Int := s.data.toList.map fun b => (b.toNat : Int)
def encU8 : Int → List DV := fun n => [.int .u8 n]

/-- what an append takes: the elements, of the row's own kind -/
def appSrc {α : Type} (st : ASt) (size : Nat) (enc : α → List DV) (x : AC) (K : List α → Prop) : Prop :=
  match x with
  | .nil => K []
  | .rd sz β _ enc' ys => sz = size ∧ ∃ h : β = α, HEq enc' enc ∧ K (cast (congrArg List h) ys)
  | .sl o => match st.obj o with
    | .row _ sz β _ enc' ys => sz = size ∧ ∃ h : β = α, HEq enc' enc ∧ K (cast (congrArg List h) ys)
    | _ => False
  | .sub o sz0 lo n => match st.obj o with
    | .row _ sz β _ enc' ys => sz = size ∧ sz0 = size ∧ lo + n ≤ ys.length ∧ ∃ h : β = α, HEq enc' enc ∧ K (cast (congrArg List h) ((ys.drop lo).take n))
    | _ => False
  | .str s => size = 1 ∧ ∃ h : Int = α, HEq encU8 enc ∧ K (cast (congrArg List h) (u8s s))
  | _ => False

def aappend (T : Tab) (st : ASt) (dst : Option Tmp) (t : TypeId) (s x : AC) (K : ASt → Prop) : Prop :=
  match (T t).sh with
  | .slice e => match s with
    | .nil => match (T e).enc with
      | some E => ¬ (T e).size = 0 ∧ appSrc st (T e).size E.enc x fun ys => (ys.length * (T e).bytes ≤ 140737488355328 ∨ (ys.length + ys.length / 4 + 192) * (T e).bytes ≤ 281474976710656) ∧ ys.length ≤ 281474976710656 ∧
          K ((newObj st (.row e (T e).size E.α E.z E.enc ys)).put dst (.c (.sl st.objs.length)))
      | none => False
    | .sl o => match st.obj o with
      | .row ty size α z enc xs => st.n0 ≤ o ∧ ty = e ∧ size = (T e).size ∧ ¬ (T e).size = 0 ∧
          appSrc st size enc x fun ys => ((xs.length + ys.length) * (T e).bytes ≤ 140737488355328 ∨ (xs.length + ys.length + (xs.length + ys.length) / 4 + 192) * (T e).bytes ≤ 281474976710656) ∧ xs.length + ys.length ≤ 281474976710656 ∧
          K (((st.map (AC.kill o)).setObj o (.row ty size α z enc (xs ++ ys))).put dst (.c (.sl o)))
      | _ => False
    | .sub o sz0 lo n => match st.obj o with
      | .row ty size α z enc xs => ty = e ∧ size = (T e).size ∧ sz0 = size ∧ ¬ size = 0 ∧
          appSrc st size enc x fun ys => lo + n + ys.length ≤ xs.length ∧ lo < xs.length ∧
          K ((st.setObj o (.row ty size α z enc (splice xs (lo + n) ys))).put dst (.c (.sub o size lo (n + ys.length))))
      | _ => False
    | _ => False
  | _ => False
/-- zeros behind a nil slice -/
def aappZeros (T : Tab) (st : ASt) (dst : Option Tmp) (t : TypeId) (s x : AC) (K : ASt → Prop) : Prop :=
  match (T t).sh with
  | .slice e => match s with
    | .nil => match x with
      | .int _ n => match (T e).enc with
        | some E => ¬ (T e).size = 0 ∧ 0 < n ∧ n * (T e).bytes ≤ 140737488355328 ∧ n ≤ 140737488355328 ∧
            K ((newObj st (.row e (T e).size E.α E.z E.enc (zeros n.toNat E.z))).put dst (.c (.sl st.objs.length)))
        | none => False
      | _ => False
    | _ => False
  | _ => False
/-- rows of own rows, one behind the other -/
def AC.merge (o p n : Nat) : AC → AC
  | .xr q r => bif q == p then (match r with
    | .inn i => .xr o (.inn (n + i))
    | .inel i s k j => .xr o (.inel (n + i) s k j)
    | _ => .junk) else bif q == o then (match r with
    | .inn i => .xr o (.inn i)
    | .inel i s k j => .xr o (.inel i s k j)
    | _ => .junk) else .xr q r
  | x => x
def appRows (st : ASt) (x : AC) : Option Nat :=
  match x with
  | .xr p r => match r with
    | .whole => match st.obj p with
      | .ext _ => some p
      | _ => none
    | _ => none
  | _ => none
def aappRows (T : Tab) (st : ASt) (dst : Option Tmp) (t : TypeId) (s : AC) (p : Nat) (K : ASt → Prop) : Prop :=
  match (T t).sh with
  | .slice e => match st.obj p with
    | .ext xo => match xo with
      | .rows ty ety size α z enc yss => ty = e ∧ (T e).size = 1 ∧ st.n0 ≤ p ∧ (match s with
        | .nil => (yss.length * (T e).bytes ≤ 140737488355328 ∨ (yss.length + yss.length / 4 + 192) * (T e).bytes ≤ 281474976710656) ∧ yss.length ≤ 281474976710656 ∧
            K ((newObj ((st.map (AC.merge st.objs.length p 0)).setObj p .gone) (.ext (.rows ty ety size α z enc yss))).put dst (.c (.xr st.objs.length .whole)))
        | .xr o r => match r with
          | .whole => match st.obj o with
            | .ext yo => match yo with
              | .rows ty1 ety1 size1 α1 z1 enc1 xss => ¬ o = p ∧ st.n0 ≤ o ∧ ty1 = e ∧ ety1 = ety ∧ size1 = size ∧ ((xss.length + yss.length) * (T e).bytes ≤ 140737488355328 ∨ (xss.length + yss.length + (xss.length + yss.length) / 4 + 192) * (T e).bytes ≤ 281474976710656) ∧ xss.length + yss.length ≤ 281474976710656 ∧
                  ∃ h : α = α1, HEq enc enc1 ∧
                    K ((((st.map (AC.merge o p xss.length)).setObj p .gone).setObj o (.ext (.rows ty1 ety1 size1 α1 z1 enc1 (xss ++ cast (congrArg (fun a => List (List a)) h) yss)))).put dst (.c (.xr o .whole)))
              | _ => False
            | _ => False
          | _ => False
        | _ => False)
      | _ => False
    | _ => False
  | _ => False
/-- elements go over into a row, as many as both have -/
def acopy (T : Tab) (st : ASt) (dst : Option Tmp) (t : TypeId) (s x : AC) (K : ASt → Prop) : Prop :=
  match (T t).sh with
  | .slice e => match s with
    | .sub o sz0 lo n => match st.obj o with
      | .row ty size α z enc xs => size = (T e).size ∧ sz0 = size ∧ ¬ (T e).size = 0 ∧ lo + n ≤ xs.length ∧
          appSrc st size enc x fun ys => K ((st.setObj o (.row ty size α z enc (splice xs lo (ys.take n)))).put dst (.c (.int .i64 ((min ys.length n : Nat) : Int))))
      | _ => False
    | .sl o => match st.obj o with
      | .row ty size α z enc xs => size = (T e).size ∧ ¬ (T e).size = 0 ∧
          appSrc st size enc x fun ys => K ((st.setObj o (.row ty size α z enc (splice xs 0 (ys.take xs.length)))).put dst (.c (.int .i64 ((min ys.length xs.length : Nat) : Int))))
      | _ => False
    | _ => False
  | _ => False
/-- elements of a part become zero -/
def aclear (T : Tab) (st : ASt) (t : TypeId) (x : AC) (K : ASt → Prop) : Prop :=
  match (T t).sh with
  | .slice e => match x with
    | .sub o sz lo n => match st.obj o with
      | .row ty size α z enc xs => sz = size ∧ size = (T e).size ∧ ¬ size = 0 ∧ lo + n ≤ xs.length ∧ encIs (T e).enc α z enc ∧ K (st.setObj o (.row ty size α z enc (splice xs lo (zeros n z))))
      | _ => False
    | _ => False
  | _ => False

/-- arrays of numbers compared -/
def intsEq : List AC → List AC → Prop × Bool
  | [], [] => (True, true)
  | x :: xs, y :: ys => match x with
    | .int k a => match y with
      | .int k' b => (k = k' ∧ (intsEq xs ys).1, (a == b) && (intsEq xs ys).2)
      | _ => (False, false)
    | _ => (False, false)
  | _, _ => (False, false)

/-- a slice held against nil: whether it is nil is known where it has elements -/
def nilTest (st : ASt) (x : AC) (K : Bool → Prop) : Prop :=
  match x with
  | .nil => K true
  | .rd _ _ _ _ xs => ∀ b, (b = true → xs.length = 0) → K b
  | .sl o => match st.obj o with
    | .row _ _ _ _ _ xs => ∀ b, (b = true → xs.length = 0) → K b
    | _ => False
  | .sub _ _ _ n => ∀ b, (b = true → n = 0) → K b
  | _ => False

def strOf (xs : List Int) : ByteArray := ⟨(xs.map fun n => UInt8.ofNat n.toNat).toArray⟩
/-- bytes to a string and back -/
def aconv (T : Tab) (st : ASt) (dst : Option Tmp) (src t : TypeId) (x : AC) (K : ASt → Prop) : Prop :=
  match (T src).sh with
  | .slice e => match (T e).sh with
    | .int .u8 => match (T t).sh with
      | .str => match x with
        | .str _ => False
        | _ => appSrc st 1 encU8 x fun ys => K (st.put dst (.c (.str (strOf ys))))
      | .slice _ => match x with
        | .sl o => match st.obj o with
          | .row _ size α z enc xs => src = t ∧ 0 < xs.length ∧ K ((st.freeze o).put dst (.c (.rd size α z enc xs)))
          | _ => False
        | _ => False
      | _ => False
    | _ => False
  | .str => match (T t).sh with
    | .slice e => match (T e).sh with
      | .int .u8 => match x with
        | .str s => s.size ≤ 140737488355328 ∧ K (st.put dst (.c (.rd 1 Int 0 encU8 (u8s s))))
        | _ => False
      | _ => False
    | _ => False
  | _ => False

def isScalar (T : Tab) (t : TypeId) : Bool := match (T t).sh with | .int _ | .bool | .str => true | _ => false

def isQuiet (T : Tab) : Op → Bool
  | .lookup .. => true
  | .entry _ => true
  | .move _ | .assign _ | .pick .. | .unOp .. | .indexAddr .. | .fieldAddr .. | .field .. | .index .. | .load .. | .slice .. | .extract .. | .build .. | .nilCheck _ | .makeFunc .. => true
  | .binOp _ t _ _ _ => isScalar T t
  | .convert src dst _ => isScalar T src && isScalar T dst
  | .call { callee := .builtin b, .. } => match b with | .len | .max | .min => true | _ => false
  | _ => false

/-- an operand's value, known to be there -/
def AV.strip : AV → AV
  | .on _ x => .c x
  | v => v
def ned (st : ASt) : List Operand → Prop
  | [] => True
  | x :: xs => (st.eval x).need true ∧ (st.eval x).isTup = false ∧ ned st xs
def ASt.ev (st : ASt) (x : Operand) : AV := (st.eval x).strip

section
variable (C : FuncId → List AV → ASt → (AV → ASt → Prop) → Prop)
variable (L : Code → (Exit → ASt → Prop) → ASt → Prop)
variable (D : Nat → Array Oper → ASt → (ASt → Prop) → Prop)

/-- operations that make or write memory, and calls -/
def aop (T : Tab) (o : Oper) (st : ASt) (K : ASt → Prop) : Prop :=
  match o.op with
  | .store t a v => ned st [a, v] ∧ ¬ (T t).size = 0 ∧ (match (st.eval a).ac with
    | .xr p r => (match r with
      | .inel i s k j => xstore T (frzRefs st.n0 (st.eval v).cells st) t p i s k j ((frzRefs st.n0 (st.eval v).cells st).ev v) (fun st' => K (st'.put o.dst (.c .junk)))
      | .cell i => (match ownSl (st.eval v) with
        | some q => xabsorb T st t p i q (fun st' => K (st'.put o.dst (.c .junk)))
        | none => isRows st p = true ∧ st.n0 ≤ p ∧ astore T (frzRefs st.n0 (st.eval v).cells (st.shallow p)) t (.el p 1 i 0) ((frzRefs st.n0 (st.eval v).cells (st.shallow p)).ev v) (fun st' => K (st'.put o.dst (.c .junk))))
      | _ => False)
    | .el p s i j => astore T (frzRefs st.n0 (st.eval v).cells st) t (.el p s i j) ((frzRefs st.n0 (st.eval v).cells st).ev v) (fun st' => K (st'.put o.dst (.c .junk)))
    | x => astore T st t x (st.ev v) (fun st' => K (st'.put o.dst (.c .junk))))
  | .makeSlice t l c => ned st [l, c] ∧ amake T st o.dst t (st.eval l).ac (st.eval c).ac K
  | .buildSlice t n ps => match ownPart st n ps.toList with
    | some q => abuildRows T st o.dst t q K
    | none => needAll true (ps.toList.map fun p => st.eval p.2) ∧
      fitAll (partsOf (frzRefs st.n0 (ps.toList.flatMap fun p => (st.eval p.2).cells) st) ps.toList) = true ∧
      abuildSlice T (frzRefs st.n0 (ps.toList.flatMap fun p => (st.eval p.2).cells) st) o.dst t n
      (partsOf (frzRefs st.n0 (ps.toList.flatMap fun p => (st.eval p.2).cells) st) ps.toList) K
  | .box t v => ned st [v] ∧ (st.eval v).cells.length = (T t).size ∧ ((st.eval v).cells.all AC.fits) = true ∧
      K ((newObj st (.cells t (st.eval v).cells)).put o.dst (.c (.ptr st.objs.length 0)))
  | .makeMap t r => (match r with
    | none => True
    | some h => (st.eval h).need true ∧ (match (st.eval h).ac with
      | .int _ _ => True
      | _ => False)) ∧ amakeMap T st o.dst t K
  | .mapUpdate t m k v => ned st [m, k, v] ∧ amapUpdate T (frzRefs st.n0 (st.eval v).cells st) t (st.eval m).ac ((frzRefs st.n0 (st.eval v).cells st).ev k) ((frzRefs st.n0 (st.eval v).cells st).ev v) (fun st' => K (st'.put o.dst (.c .junk)))
  | .insert t m k v => ned st [m, k, v] ∧ amapUpdate T (frzRefs st.n0 (st.eval v).cells st) t (st.eval m).ac ((frzRefs st.n0 (st.eval v).cells st).ev k) ((frzRefs st.n0 (st.eval v).cells st).ev v) (fun st' => K (st'.put o.dst (.c .junk)))
  | .range t x => ned st [x] ∧ arange T st o.dst t (st.eval x).ac K
  | .next x isS => ned st [x] ∧ isS = false ∧ anext st o.dst (st.eval x).ac K
  | .alloc t => ¬ (T t).size = 0 ∧ K ((newObj st (.cells t (T t).zero)).put o.dst (.c (.ptr st.objs.length 0)))
  | .convert src t x => ned st [x] ∧ aconv T st o.dst src t (st.eval x).ac K
  | .binOp op t x y _ => ned st [x, y] ∧ (match (T t).sh with
    | .slice _ => match (st.eval y).ac with
      | .nil => match op with
        | .eql => nilTest st (st.eval x).ac fun b => K (st.put o.dst (.c (.bool b)))
        | .neq => nilTest st (st.eval x).ac fun b => K (st.put o.dst (.c (.bool (!b))))
        | _ => False
      | _ => False
    | .array n e => match (T e).sh with
      | .int _ => match st.eval x with
        | .agg xs => match st.eval y with
          | .agg ys => xs.length = n ∧ (intsEq xs ys).1 ∧ (match op with
            | .eql => K (st.put o.dst (.c (.bool (intsEq xs ys).2)))
            | .neq => K (st.put o.dst (.c (.bool (!(intsEq xs ys).2))))
            | _ => False)
          | _ => False
        | _ => False
      | _ => False
    | _ => False)
  | .call { callee := .builtin b, args, argTypes } => match args.toList with
    | [x] => match b with
      | .clear => match argTypes.toList with
        | [t] => ned st [x] ∧ aclear T st t (st.eval x).ac (fun st' => K (st'.put o.dst (.tup [])))
        | _ => False
      | .cap => match argTypes.toList with
        | [t] => ned st [x] ∧ (match (T t).sh with
          | .slice _ => match (st.eval x).ac with
            | .nil => K (st.put o.dst (.c (.int .i64 0)))
            | _ => False
          | _ => False)
        | _ => False
      | _ => False
    | [s, x] => match b with
      | .delete => match argTypes.toList with
        | [t, _] => ned st [s, x] ∧ amapDelete T st t (st.eval s).ac (st.ev x) (fun st' => K (st'.put o.dst (.tup [])))
        | _ => False
      | .copy => match argTypes.toList with
        | [t, _] => ned st [s, x] ∧ acopy T st o.dst t (st.eval s).ac (st.eval x).ac K
        | _ => False
      | .append => match argTypes.toList with
        | [t, u] => ned st [s, x] ∧ (match (T u).sh with
          | .slice _ => match appRows st (st.eval x).ac with
            | some p => aappRows T st o.dst t (st.eval s).ac p K
            | none => aappend T st o.dst t (st.eval s).ac (st.eval x).ac K
          | .str => aappend T st o.dst t (st.eval s).ac (st.eval x).ac K
          | .int _ => aappZeros T st o.dst t (st.eval s).ac (st.eval x).ac K
          | _ => False)
        | _ => False
      | _ => False
    | _ => False
  | .call { callee := .value f, args, .. } => ned st args.toList ∧ (match f with
    | .func f => C f (args.toList.map st.ev) st (fun r st' => K (st'.put o.dst r))
    | .tmp t => (st.eval (.tmp t)).need true ∧ (match (st.eval (.tmp t)).ac with
      | .fn f caps => C f (args.toList.map st.ev ++ caps.map fun p => .c (.ptr p.1 p.2)) st (fun r st' => K (st'.put o.dst r))
      | _ => False)
    | _ => False)
  | _ => False

def onG (g : Bool) (v : AV) : AV := match v with
  | .agg cs => cond g (.agg cs) (.c .junk)
  | .c x => .on g x
  | .on h x => .on g (AV.ac (.on h x))
  | .tup vs => .on g (AV.ac (.tup vs))

def guardOf (ops : Array Oper) (st : ASt) (j : Nat) (want : Bool) : Option Bool :=
  match ((ops.toList[j]?).bind (·.dst)) with
  | some d => match st.slots.getD d (.c .junk) with
    | .c x => match x with
      | .bool b => some (b == want)
      | _ => none
    | .on h x => match x with
      | .bool b => some (h && (b == want))
      | _ => match h with
        | true => none
        | false => some false
    | _ => none
  | none => none

def aops (T : Tab) (ops : Array Oper) : List Oper → ASt → (ASt → Prop) → Prop
  | [], st, K => K st
  | o :: os, st, K =>
    match o.guard with
    | none => match isQuiet T o.op with
      | true => (qop T st true o).1 ∧ aops T ops os (st.put o.dst (qop T st true o).2) K
      | false => aop C T o st (fun st' => aops T ops os st' K)
    | some w => match guardOf ops st w.1 w.2 with
      | some g => match isQuiet T o.op with
        | true => (g = true → (qop T st g o).1) ∧ aops T ops os (st.put o.dst (onG g (qop T st g o).2)) K
        | false => (g = true → aop C T o st (fun st' => aops T ops os st' K)) ∧ (g = false → aops T ops os (st.put o.dst (.c .junk)) K)
      | none => False

def VC (T : Tab) : Code → (Exit → ASt → Prop) → ASt → Prop
  | .skip, Q, st => Q .normal st
  | .label _, Q, st => Q .normal st
  | .region id ops draw, Q, st => match draw with
    | false => aops C T ops ops.toList st (Q .normal)
    | true => D id ops st (Q .normal)
  | .seq a b, Q, st => VC T a (fun e st' => match e with
    | .normal => VC T b Q st'
    | .exit i => Q (.exit i) st'
    | .ret => Q .ret st'
    | _ => False) st
  | .cond c a b, Q, st => match (st.eval c) with
    | .c x => match x with
      | .bool t => (t = true → VC T a Q st) ∧ (t = false → VC T b Q st)
      | _ => False
    | _ => False
  | .block id body, Q, st => VC T body (fun e st' => match e with
    | .normal => Q .normal st'
    | .exit i => if i = id then Q .normal st' else Q (.exit i) st'
    | .ret => Q .ret st'
    | _ => False) st
  | .loop body, Q, st => L body Q st
  | .exit i, Q, st => Q (.exit i) st
  | .ret, Q, st => Q .ret st
  | _, _, _ => False
end
end Go.Vc
