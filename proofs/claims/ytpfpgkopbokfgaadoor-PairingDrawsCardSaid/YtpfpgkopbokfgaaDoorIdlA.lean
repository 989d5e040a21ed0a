/-
  The ideal values and what an operation does to them. Own work: a small calculus over the model's wp, in which slices that nobody writes any more are lists, and the blocks that a function makes for itself are a list of rows.
-/
import Derived.Calls
import Derived.Laws.Entries
namespace Go.Idl
set_option linter.all false

inductive IV where
  | bool (b : Bool)
  | int (k : IntKind) (n : Int)
  | str (s : ByteArray)
  | nilp
  | ptr (b tot i o : Nat)
  | fptr (s : Nat) (rows : List (List IV)) (i o : Nat)
  | nils
  | sl (b tot i len : Nat) (cap : Option Nat)
  | fz (s : Nat) (rows : List (List IV))
  | nilm
  | map (b : Nat)
  | iter (b : Nat)
  | nilf
  | func (fn : Fn) (first captured : List IV)
  | agg (cells : List IV)
  | tup (vs : List IV)
  | opt (g : Bool) (v : IV)
  deriving Inhabited

/-- What is known of a frame's slots: x: whether capacities are kept exactly; n: how many there are; m: the first scratch slot; ex: scratch slots that are read behind their region; nm: the named slots, tm: the scratch slots of the region under way; gl: what package-level variables hold. -/
structure Env where
  x : Bool
  n : Nat
  m : Nat
  ex : List Nat
  gl : List (Nat × IV)
  nm : List (Nat × IV)
  tm : List (Nat × IV)

inductive IObj where
  | rows (s : Nat) (rs : List (List IV))
  | map (es : List (IV × IV))
  /-- A walk over a map: the map's block (none: a nil map), its entries, the one that it is at, those that are still to come. -/
  | iter (b : Option Nat) (es : List (IV × IV)) (cur : Option (IV × IV)) (todo : List (IV × IV))
  /-- A loop over a function that is under way: its record, and the frame's slots at its head. -/
  | yrec (l : Nat) (r : Loop) (e : Env)
  | dead
  | hole
  deriving Inhabited

abbrev Heap := List IObj

def hput : Heap → Nat → IObj → Heap
  | [], 0, o => [o]
  | [], n + 1, o => .hole :: hput [] n o
  | _ :: l, 0, o => o :: l
  | x :: l, n + 1, o => x :: hput l n o

def IObj.isHole : IObj → Bool
  | .hole => true
  | _ => false

def eget : List (Nat × IV) → Nat → Option IV
  | [], _ => none
  | (k, v) :: l, j => bif k == j then some v else eget l j

def eput : List (Nat × IV) → Nat → IV → List (Nat × IV)
  | [], j, v => [(j, v)]
  | (k, u) :: l, j, v => bif k == j then (k, v) :: l else (k, u) :: eput l j v

def isNamed (m : Nat) (ex : List Nat) (t : Nat) : Bool := Nat.blt t m || ex.elem t
def Env.get (e : Env) (t : Nat) : Option IV := bif isNamed e.m e.ex t then eget e.nm t else eget e.tm t
def Env.put (e : Env) (t : Nat) (v : IV) : Env :=
  bif Nat.blt t e.n then (bif isNamed e.m e.ex t then { e with nm := eput e.nm t v } else { e with tm := (t, v) :: e.tm }) else e
def Env.putO (e : Env) (d : Option Nat) (v : IV) : Env := match d with | some t => e.put t v | none => e
def Env.clean (e : Env) : Env := { e with tm := [] }

/-- A constant's cell. -/
def ofC : Value → Option IV
  | .bool b => some (.bool b)
  | .int k n => some (.int k n)
  | .string s => some (.str s)
  | .pointer none => some .nilp
  | .slice none 0 0 => some .nils
  | .map none => some .nilm
  | .nilFunc => some .nilf
  | _ => none
def ofCs : List Value → Option (List IV)
  | [] => some []
  | v :: l => match ofC v, ofCs l with | some a, some b => some (a :: b) | _, _ => none
def ofV : Value → Option IV
  | .agg cs => (ofCs cs.toList).map .agg
  | .tuple cs => (ofCs cs.toList).map .tup
  | v => ofC v

def Env.opnd (e : Env) : Operand → Option IV
  | .tmp t => e.get t
  | .const v => ofV v
  | .global g => eget e.gl g
  | .func f => some (.func (.func f) [] [])

def IV.strip : IV → IV
  | .opt _ v => v
  | v => v

/-- Under which condition the value is there at all. -/
def IV.when : IV → Bool
  | .opt g _ => g
  | _ => true

structure Out where
  pre : Prop
  v : IV
  w : Option (Nat × IObj)

def ok (v : IV) : Option Out := some ⟨True, v, none⟩
def okIf (p : Prop) (v : IV) : Option Out := some ⟨p, v, none⟩

def bitsOf (op : BinOp) (k : IntKind) (x y : Int) : Int :=
  let a := BitVec.ofInt k.bits x
  let b := BitVec.ofInt k.bits y
  match op with
  | .and => k.wrap (a &&& b).toNat
  | .or => k.wrap (a ||| b).toNat
  | .xor => k.wrap (a ^^^ b).toNat
  | _ => k.wrap (a &&& ~~~b).toNat

def binI (op : BinOp) (k : IntKind) (a b : Int) : Option Out :=
  match op with
  | .add => ok (.int k (k.wrap (a + b)))
  | .sub => ok (.int k (k.wrap (a - b)))
  | .mul => ok (.int k (k.wrap (a * b)))
  | .quo => okIf (b ≠ 0) (.int k (k.wrap (a.tdiv b)))
  | .rem => okIf (b ≠ 0) (.int k (a.tmod b))
  | .and => ok (.int k (bitsOf .and k a b))
  | .or => ok (.int k (bitsOf .or k a b))
  | .xor => ok (.int k (bitsOf .xor k a b))
  | .andNot => ok (.int k (bitsOf .andNot k a b))
  | .eql => ok (.bool (a == b))
  | .neq => ok (.bool (a != b))
  | .lss => ok (.bool (decide (a < b)))
  | .leq => ok (.bool (decide (a ≤ b)))
  | .gtr => ok (.bool (decide (a > b)))
  | .geq => ok (.bool (decide (a ≥ b)))
  | _ => none

/-- '==' of two scalars. -/
def ceq : IV → IV → Option Bool
  | .int k a, .int k' b => bif k == k' then some (a == b) else none
  | .bool a, .bool b => some (a == b)
  | .str a, .str b => some (a == b)
  | _, _ => none
def ceqs : List IV → List IV → Option Bool
  | [], [] => some true
  | a :: l, b :: m => match ceq a b, ceqs l m with | some x, some y => some (x && y) | _, _ => none
  | _, _ => none

def sizeOK (P : Program) (t : TypeId) (n : Nat) : Bool := match P.info? t with | some i => i.size == n | none => false

/-- The kinds of the cells of fields: offsets one behind the other. -/
def flatFs (P : Program) (g : TypeId → Option (List TypeDesc)) : List Field → Nat → Option (List TypeDesc)
  | [], _ => some []
  | f :: fs, off => match g f.type with
    | none => none
    | some l => match flatFs P g fs (off + l.length) with
      | none => none
      | some l' => if f.name ≠ "_" ∧ f.offset = off ∧ sizeOK P f.type l.length = true then some (l ++ l') else none

/-- The kinds of the cells of a flat type of ints, bools and strings. -/
def flatK (P : Program) : Nat → TypeId → Option (List TypeDesc)
  | 0, _ => none
  | d + 1, t =>
    match P.underlying t with
    | some (.int k) => some [.int k]
    | some .bool => some [.bool]
    | some .string => some [.string]
    | some (.struct fs) => if P.stoodInHeld t = true then none else flatFs P (flatK P d) fs.toList 0
    | some (.array n e) => match flatK P d e with
        | some l => if sizeOK P e l.length = true then some (List.replicate n l).flatten else none
        | none => none
    | _ => none

def sizeP (P : Program) (t : TypeId) : Nat := match P.info? t with | some i => i.size | none => 0
def aggP (P : Program) (t : TypeId) : Bool := match P.underlying t with | some (.struct _) | some (.array _ _) => true | _ => false

/-- The kinds of the cells of a struct or an array whose values '==' compares cell by cell. -/
def flatP (P : Program) (t : TypeId) : Option (List TypeDesc) := if aggP P t = true ∧ P.eqGuardType P.depth t = false then flatK P 8 t else none

/-- Whether cells are of these kinds. -/
def kindsOK : List TypeDesc → List IV → Bool
  | [], [] => true
  | .int k :: ks, .int k' _ :: cs => k == k' && kindsOK ks cs
  | .bool :: ks, .bool _ :: cs => kindsOK ks cs
  | .string :: ks, .str _ :: cs => kindsOK ks cs
  | _, _ => false

def bin (P : Program) (op : BinOp) (t : TypeId) (x y : IV) : Option Out :=
  match x, y with
  | .int k a, .int k' b =>
    match op with
    | .shl => okIf (0 ≤ b) (.int k (k.wrap (a * 2 ^ (min b.toNat k.bits))))
    | .shr => okIf (0 ≤ b) (.int k (a.fdiv (2 ^ (min b.toNat k.bits))))
    | _ => bif k == k' then binI op k a b else none
  | .bool a, .bool b => match P.underlying t with
    | some .bool => match op with
      | .eql => ok (.bool (a == b))
      | .neq => ok (.bool (a != b))
      | _ => none
    | _ => none
  | .agg cs, .agg ds => match flatP P t with
    | some ks => bif kindsOK ks cs && kindsOK ks ds then match ceqs cs ds with
      | some b => match op with
        | .eql => ok (.bool b)
        | .neq => ok (.bool (!b))
        | _ => none
      | none => none else none
    | none => none
  | .fz _ (_ :: _), .nils => match P.underlying t with
    | some (.slice _) => match op with
      | .eql => ok (.bool false)
      | .neq => ok (.bool true)
      | _ => none
    | _ => none
  | .nils, .nils => match P.underlying t with
    | some (.slice _) => match op with
      | .eql => ok (.bool true)
      | .neq => ok (.bool false)
      | _ => none
    | _ => none
  | _, _ => none

def un (op : UnOp) (x : IV) : Option Out :=
  match op, x with
  | .not, .bool b => ok (.bool (!b))
  | .neg, .int k n => ok (.int k (k.wrap (0 - n)))
  | _, _ => none

def cut (s o : Nat) (row : List IV) : List IV := (row.drop o).take s
def splice {α : Type} (o : Nat) (new row : List α) : List α := row.take o ++ new ++ row.drop (o + new.length)

def loadAt (agg : Bool) (s : Nat) (row : List IV) (o : Nat) : IV :=
  bif agg then .agg (cut s o row) else row.getD o (.tup [])

def IV.cells : IV → List IV
  | .agg cs => cs
  | v => [v]
def IV.one : IV → Bool
  | .agg _ | .tup _ | .opt _ _ => false
  | _ => true

def zeroV : Value → Option (List IV)
  | .agg cs => ofCs cs.toList
  | v => (ofC v).map ([·])
def zeroP (P : Program) (t : TypeId) : Option (List IV) := match P.info? t with
  | some i => i.zero.bind zeroV
  | none => none
def zeroOK (P : Program) (t : TypeId) : Bool := match zeroP P t with | some z => Nat.beq z.length (sizeP P t) | none => false
def zeroI (P : Program) (t : TypeId) : Option IV := match P.info? t with
  | some i => i.zero.bind ofV
  | none => none
def hasP (P : Program) (t : TypeId) : Bool := (P.info? t).isSome && (P.underlying t).isSome

/-- The parts of a composite put into its cells. -/
def fillP : (Nat → Option (Nat × Nat)) → List IV → List (Nat × IV) → Option (List IV)
  | _, cells, [] => some cells
  | place, cells, (i, v) :: rest => match place i with
    | none => none
    | some (off, size) => bif v.cells.length == size && Nat.ble (off + size) cells.length && v.cells.all IV.one then fillP place (splice off v.cells cells) rest else none

def placeS (P : Program) (fs : List Field) (i : Nat) : Option (Nat × Nat) := match fs[i]? with | some f => some (f.offset, sizeP P f.type) | none => none

def loV (ρ : Operand → Option IV) : Option Operand → Option Int
  | none => some 0
  | some x => match ρ x with | some (.int _ n) => some n | _ => none
def hiV (ρ : Operand → Option IV) : Option Operand → Nat → Option Int
  | none, n => some n
  | some x, _ => match ρ x with | some (.int _ n) => some n | _ => none

/-- The rows of a slice. -/
def srcRows (h : Heap) : IV → Option (Prop × List (List IV))
  | .fz _ rows => some (True, rows)
  | .nils => some (True, [])
  | .sl b tot i len _ => match h[b]? with
     | some (.rows _ rs) => some (tot = rs.length ∧ i + len ≤ rs.length, (rs.drop i).take len)
     | _ => none
  | _ => none

def capX (x : Bool) (c : Nat) : Option Nat := bif x then some c else none

def bytesP (P : Program) (t : TypeId) : Nat := match P.info? t with | some i => i.bytes | none => 0

def mm (max : Bool) : IV → IV → Option IV
  | .int k a, .int _ b => some (.int k (bif max then (if b > a then b else a) else (if b < a then b else a)))
  | _, _ => none
def mms (max : Bool) : IV → List IV → Option IV
  | a, [] => some a
  | a, b :: l => match mm max a b with | some c => mms max c l | none => none

/-! ### maps -/
def IV.isAgg : IV → Bool
  | .agg _ => true
  | _ => false
/-- The kinds of a map's keys' cells. -/
def keyK (P : Program) (t : TypeId) : Option (List TypeDesc) := match P.underlying t with
  | some (.int k) => some [.int k]
  | some .bool => some [.bool]
  | some .string => some [.string]
  | _ => flatP P t
def keyOK (P : Program) (t : TypeId) (ks : List TypeDesc) (k : IV) : Bool := (k.isAgg == aggP P t) && kindsOK ks k.cells
def keq (k k' : IV) : Bool := match ceqs k.cells k'.cells with | some b => b | none => false
def mget (k : IV) : List (IV × IV) → Option IV
  | [] => none
  | (k', v) :: l => if keq k k' = true then some v else mget k l
def mset (k v : IV) : List (IV × IV) → List (IV × IV)
  | [] => [(k, v)]
  | (k', v') :: l => if keq k k' = true then (k', v) :: l else (k', v') :: mset k v l
def mkV (agg : Bool) (cs : List IV) : IV := bif agg then .agg cs else cs.getD 0 (.tup [])
/-- The entries of a map. -/
def mapOf (h : Heap) : IV → Option (List (IV × IV))
  | .nilm => some []
  | .map b => match h[b]? with
    | some (.map es) => some es
    | _ => none
  | _ => none
def found (cok : Bool) (z : IV) (r : Option IV) : IV := bif cok then .tup [r.getD z, .bool r.isSome] else r.getD z

def opsnd (ρ : Operand → Option IV) : List Operand → Option (List IV)
  | [] => some []
  | x :: l => match ρ x, opsnd ρ l with | some a, some b => some (a :: b) | _, _ => none
def partsV (ρ : Operand → Option IV) : List (Nat × Operand) → Option (List (Nat × IV))
  | [] => some []
  | p :: l => match ρ p.2, partsV ρ l with | some a, some b => some ((p.1, a) :: b) | _, _ => none

/-- A builtin. -/
def ibuiltin (P : Program) (b : Builtin) (ts : List TypeId) (args : List IV) (h : Heap) (nb : Nat) : Option Out :=
  match b, ts, args with
  | .len, [t], [.fz _ rows] => match P.underlying t with
     | some (.slice _) => ok (.int .i64 rows.length)
     | _ => none
  | .len, [t], [.sl b tot _ len _] => match P.underlying t, h[b]? with
     | some (.slice _), some (.rows _ rs) => okIf (tot = rs.length) (.int .i64 len)
     | _, _ => none
  | .len, [t], [.nils] => match P.underlying t with
     | some (.slice _) => ok (.int .i64 0)
     | _ => none
  | .len, [t], [.map b] => match P.underlying t, h[b]? with
     | some (.map _ _), some (.map es) => ok (.int .i64 es.length)
     | _, _ => none
  | .len, [t], [.agg _] => match P.underlying t with
     | some (.array n _) => ok (.int .i64 n)
     | _ => none
  | .min, _, a :: l => match mms false a l with | some v => ok v | none => none
  | .max, _, a :: l => match mms true a l with | some v => ok v | none => none
  | .append, [t, tx], [d, y] => match P.underlying t, P.underlying tx, srcRows h y with
     | some (.slice e), some (.slice _), some (pre, src) => bif hasP P e && Nat.blt 0 (sizeP P e) && Nat.ble (bytesP P e) 1024 && zeroOK P e then match d with
        | .nils => some ⟨pre ∧ src.length ≤ 2 ^ 32 ∧ ∀ r ∈ src, r.length = sizeP P e ∧ r.all IV.one = true, .sl nb src.length 0 src.length none, some (nb, .rows (sizeP P e) src)⟩
        | .sl b tot i len none => match h[b]? with
           | some (.rows s rs) => bif Nat.beq (sizeP P e) s then
               some ⟨pre ∧ tot = rs.length ∧ i = 0 ∧ len = rs.length ∧ len + src.length ≤ 2 ^ 32 ∧ ∀ r ∈ src, r.length = s ∧ r.all IV.one = true, .sl b (len + src.length) 0 (len + src.length) none, some (b, .rows s (rs ++ src))⟩ else none
           | _ => none
        | .sl b tot i len (some c) => match h[b]? with
           | some (.rows s rs) => bif Nat.beq (sizeP P e) s then bif Nat.ble (len + src.length) c then
               some ⟨pre ∧ tot = rs.length ∧ i + c ≤ rs.length ∧ ∀ r ∈ src, r.length = s ∧ r.all IV.one = true, .sl b tot i (len + src.length) (some c), some (b, .rows s (rs.take (i + len) ++ src ++ rs.drop (i + len + src.length)))⟩
               else some ⟨pre ∧ tot = rs.length ∧ i + len ≤ rs.length ∧ len + src.length ≤ 2 ^ 32 ∧ ∀ r ∈ src, r.length = s ∧ r.all IV.one = true, .sl nb (len + src.length) 0 (len + src.length) none, some (nb, .rows s ((rs.drop i).take len ++ src))⟩ else none
           | _ => none
        | _ => none else none
     | _, _, _ => none
  | _, _, _ => none

/-- What an operation that enters no Go function does: its value, and the one block that it writes or makes (nb: the number of a new one). -/
def iop (P : Program) (x : Bool) (op : Op) (ρ : Operand → Option IV) (h : Heap) (nb : Nat) : Option Out :=
  match op with
  | .move x | .assign x => (ρ x).bind ok
  | .binOp op t x y _ => match ρ x, ρ y with
     | some a, some b => bin P op t a b
     | _, _ => none
  | .unOp op _ x => (ρ x).bind (un op)
  | .pick c x y => match ρ c, ρ x, ρ y with
     | some (.bool c), some (.bool a), some (.bool b) => ok (.bool (bif c then a else b))
     | _, _, _ => none
  | .convert src dst x => match ρ x, P.underlying src, P.underlying dst with
     | some (.int _ n), some _, some (.int k) => ok (.int k (k.wrap n))
     | _, _, _ => none
  | .extract x i => match ρ x with
     | some (.tup vs) => vs[i]?.bind ok
     | _ => none
  | .nilCheck x => match ρ x with
     | some (.ptr b tot i o) => match h[b]? with
        | some (.rows _ rs) => okIf (tot = rs.length ∧ i < rs.length) (.ptr b tot i o)
        | _ => none
     | some (.fptr s r i o) => ok (.fptr s r i o)
     | _ => none
  | .makeFunc fn first captured => match opsnd ρ first.toList, opsnd ρ captured.toList with
     | some a, some b => ok (.func fn a b)
     | _, _ => none
  | .field t x f => match ρ x, P.underlying t with
     | some (.agg cs), some (.struct fs) => match fs.toList[f]? with
        | some fd => bif hasP P fd.type && Nat.ble (fd.offset + sizeP P fd.type) cs.length && (aggP P fd.type || Nat.beq (sizeP P fd.type) 1) then ok (loadAt (aggP P fd.type) (sizeP P fd.type) cs fd.offset) else none
        | none => none
     | _, _ => none
  | .fieldAddr t x f => match ρ x, P.underlying t with
     | some (.fptr s rows i o), some (.struct fs) => match fs.toList[f]? with
        | some fd => bif hasP P fd.type && Nat.blt 0 (sizeP P fd.type) then ok (.fptr s rows i (o + fd.offset)) else none
        | none => none
     | some (.ptr b tot i o), some (.struct fs) => match fs.toList[f]?, h[b]? with
        | some fd, some (.rows _ rs) => bif hasP P fd.type && Nat.blt 0 (sizeP P fd.type) then okIf (tot = rs.length ∧ i < rs.length) (.ptr b tot i (o + fd.offset)) else none
        | _, _ => none
     | _, _ => none
  | .indexAddr t x i => match P.underlying t, ρ x, ρ i with
     | some (.slice e), some (.fz s rows), some (.int _ n) => bif hasP P e && Nat.beq (sizeP P e) s then okIf (0 ≤ n ∧ n < rows.length) (.fptr s rows n.toNat 0) else none
     | some (.slice e), some (.sl b tot j len _), some (.int _ n) => bif hasP P e then match h[b]? with
        | some (.rows s rs) => bif Nat.beq (sizeP P e) s then okIf (0 ≤ n ∧ n < len ∧ tot = rs.length ∧ j + len ≤ rs.length) (.ptr b tot (j + n.toNat) 0) else none
        | _ => none else none
     | some (.array len e), some (.fptr s rows j o), some (.int _ n) => bif hasP P e then okIf (0 ≤ n ∧ n < (len : Int)) (.fptr s rows j (o + n.toNat * sizeP P e)) else none
     | some (.array len e), some (.ptr b tot j o), some (.int _ n) => match h[b]? with
        | some (.rows _ rs) => bif hasP P e then okIf (0 ≤ n ∧ n < (len : Int) ∧ tot = rs.length ∧ j < rs.length) (.ptr b tot j (o + n.toNat * sizeP P e)) else none
        | _ => none
     | _, _, _ => none
  | .index t x i => match P.underlying t, ρ x, ρ i with
     | some (.array len e), some (.agg cs), some (.int _ n) => bif hasP P e && Nat.beq cs.length (len * sizeP P e) && (aggP P e || Nat.beq (sizeP P e) 1) then okIf (0 ≤ n ∧ n < (len : Int)) (loadAt (aggP P e) (sizeP P e) cs (n.toNat * sizeP P e)) else none
     | _, _, _ => none
  | .load t a => bif hasP P t && (aggP P t || Nat.beq (sizeP P t) 1) then match ρ a with
     | some (.fptr s rows i o) => okIf (i < rows.length ∧ o + sizeP P t ≤ s) (loadAt (aggP P t) (sizeP P t) (rows.getD i []) o)
     | some (.ptr b tot i o) => match h[b]? with
        | some (.rows s rs) => okIf (tot = rs.length ∧ i < rs.length ∧ o + sizeP P t ≤ s) (loadAt (aggP P t) (sizeP P t) (rs.getD i []) o)
        | _ => none
     | _ => none else none
  | .store t a x => bif hasP P t then match ρ a, ρ x with
     | some (.ptr b tot i o), some v => match h[b]? with
        | some (.rows s rs) => bif Nat.beq v.cells.length (sizeP P t) && v.cells.all IV.one then
            some ⟨tot = rs.length ∧ i < rs.length ∧ o + v.cells.length ≤ s, .tup [], some (b, .rows s (rs.set i (splice o v.cells (rs.getD i []))))⟩ else none
        | _ => none
     | _, _ => none else none
  | .alloc t => match zeroP P t with
     | some z => bif Nat.blt 0 z.length then some ⟨True, .ptr nb 1 0 0, some (nb, .rows z.length [z])⟩ else none
     | none => none
  | .box _ x => match ρ x with
     | some v => bif v.cells.all IV.one && Nat.blt 0 v.cells.length then some ⟨True, .ptr nb 1 0 0, some (nb, .rows v.cells.length [v.cells])⟩ else none
     | none => none
  | .build t parts => match P.underlying t, zeroP P t, partsV ρ parts.toList with
     | some (.struct fs), some z, some ps => bif fs.toList.all (fun f => hasP P f.type) then match fillP (placeS P fs.toList) z ps with | some cs => ok (.agg cs) | none => none else none
     | some (.array _ e), some z, some ps => bif hasP P e then match fillP (fun i => some (i * sizeP P e, sizeP P e)) z ps with | some cs => ok (.agg cs) | none => none else none
     | _, _, _ => none
  | .buildSlice t len parts => match P.underlying t, partsV ρ parts.toList with
     | some (.slice e), some ps => match zeroP P e with
        | some z => bif hasP P e && Nat.beq z.length (sizeP P e) && Nat.blt 0 (sizeP P e) && Nat.ble (len * sizeP P e) (2 ^ 24) && ps.all (fun p => Nat.blt p.1 len && Nat.beq p.2.cells.length (sizeP P e) && p.2.cells.all IV.one) then
            some ⟨True, .sl nb len 0 len (capX x len), some (nb, .rows (sizeP P e) (ps.foldl (fun rs p => rs.set p.1 p.2.cells) (List.replicate len z)))⟩ else none
        | none => none
     | _, _ => none
  | .makeMap _ none => some ⟨True, .map nb, some (nb, .map [])⟩
  | .makeSlice t l c => match P.underlying t, ρ l, ρ c with
     | some (.slice e), some (.int _ n), some (.int _ m) => match zeroP P e with
        | some z => bif hasP P e && Nat.beq z.length (sizeP P e) && Nat.blt 0 (sizeP P e) then
            some ⟨0 ≤ n ∧ n ≤ m ∧ m ≤ 2 ^ 40 ∧ ((P.info? e).map (·.bytes)).getD 0 ≤ 256, .sl nb (bif x then m.toNat else n.toNat) 0 n.toNat (capX x m.toNat), some (nb, .rows (sizeP P e) (List.replicate (bif x then m.toNat else n.toNat) z))⟩ else none
        | none => none
     | _, _, _ => none
  | .slice t x lo hi none => match P.underlying t, ρ x, loV ρ lo with
     | some (.slice e), some (.fz s rows), some l => bif hasP P e && Nat.beq (sizeP P e) s then match hiV ρ hi rows.length with
        | some u => okIf (0 ≤ l ∧ l ≤ u ∧ u ≤ rows.length) (.fz s ((rows.take u.toNat).drop l.toNat))
        | none => none else none
     | some (.slice e), some (.sl b tot i len cap), some l => bif hasP P e then match h[b]? with
        | some (.rows s rs) => bif Nat.beq (sizeP P e) s then match hiV ρ hi len with
          | some u => okIf (0 ≤ l ∧ l ≤ u ∧ u ≤ len ∧ tot = rs.length ∧ i + len ≤ rs.length) (.sl b tot (i + l.toNat) (u.toNat - l.toNat) (cap.map (· - l.toNat)))
          | none => none else none
        | _ => none else none
     | _, _, _ => none
  | .call c => match c.callee, opsnd ρ c.args.toList with
     | .builtin b, some args => ibuiltin P b c.argTypes.toList args h nb
     | _, _ => none
  | .lookup t x k cok => match P.underlying t, ρ x, ρ k with
     | some (.map kt et), some m, some kv => match keyK P kt, zeroI P et, mapOf h m with
        | some ks, some z, some es => bif keyOK P kt ks kv then some ⟨∀ e ∈ es, keyOK P kt ks e.1 = true, found cok z (mget kv es), none⟩ else none
        | _, _, _ => none
     | _, _, _ => none
  | .mapUpdate t m k v | .insert t m k v => match P.underlying t, ρ m, ρ k, ρ v with
     | some (.map kt _), some (.map b), some kv, some vv => match keyK P kt, h[b]? with
        | some ks, some (.map es) => bif keyOK P kt ks kv then some ⟨∀ e ∈ es, keyOK P kt ks e.1 = true, .tup [], some (b, .map (mset kv vv es))⟩ else none
        | _, _ => none
     | _, _, _, _ => none
  | _ => none

def gslot (ops : List Oper) (j : Nat) : Option Tmp := match ops[j]? with | some o => o.dst | none => none
end Go.Idl
