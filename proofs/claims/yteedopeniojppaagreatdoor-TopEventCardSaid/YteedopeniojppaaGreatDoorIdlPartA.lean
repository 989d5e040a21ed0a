import Derived.Calls
import Derived.Laws.Entries
import Derived.Below
import Derived.Laws.Tables
import Derived.Laws.CopyRow
import Derived.Laws.MakeOwn
import Derived.Deep.MidRow
import Derived.Deep.AppendSrc
import Derived.WalkLawsBesides
set_option linter.all false
namespace Go.Idl
inductive IV where
 | bool (b : Bool)
 | int (k : IntKind) (n : Int)
 | str (s : ByteArray)
 | nilp
 | ptr (b tot i o : Nat)
 | fptr (s : Nat) (rows : List (List IV)) (i o : Nat)
 | nils
 | sl (b tot i len : Nat) (cap : Option Nat)
 | fz (s : Nat) (rows : List (List IV))
 | nilm
 | map (b : Nat)
  | fm (es : List (IV × IV))
 | iter (b : Nat)
 | nilf
 | func (fn : Fn) (first captured : List IV)
 | agg (cells : List IV)
 | tup (vs : List IV)
 | opt (g : Bool) (v : IV)
 | junk
 deriving Inhabited
structure Env where
 x : Bool
 n : Nat
 m : Nat
 ex : List Nat
 gl : List (Nat × IV)
 nm : List (Nat × IV)
 tm : List (Nat × IV)
inductive IObj where
 | rows (s : Nat) (rs : List (List IV))
 | map (es : List (IV × IV))
  | iter (b : Option Nat) (es : List (IV × IV)) (cur : Option (IV × IV)) (todo : List (IV × IV))
  | yrec (l : Nat) (r : Loop) (e : Env)
 | dead
 | hole
 deriving Inhabited
abbrev Heap := List IObj
def hput : Heap → Nat → IObj → Heap
 | [], 0, o => [o]
 | [], n + 1, o => .hole :: hput [] n o
 | _ :: l, 0, o => o :: l
 | x :: l, n + 1, o => x :: hput l n o
def IObj.isHole : IObj → Bool
 | .hole => true
 | _ => false
def eget : List (Nat × IV) → Nat → Option IV
 | [], _ => none
 | (k, v) :: l, j => bif k == j then some v else eget l j
def eput : List (Nat × IV) → Nat → IV → List (Nat × IV)
 | [], j, v => [(j, v)]
 | (k, u) :: l, j, v => bif k == j then (k, v) :: l else (k, u) :: eput l j v
def isNamed (m : Nat) (ex : List Nat) (t : Nat) : Bool := Nat.blt t m || ex.elem t
def Env.get (e : Env) (t : Nat) : Option IV := bif isNamed e.m e.ex t then eget e.nm t else eget e.tm t
def Env.put (e : Env) (t : Nat) (v : IV) : Env :=
 bif Nat.blt t e.n then (bif isNamed e.m e.ex t then { e with nm := eput e.nm t v } else { e with tm := (t, v) :: e.tm }) else e
def Env.putO (e : Env) (d : Option Nat) (v : IV) : Env := match d with | some t => e.put t v | none => e
def Env.clean (e : Env) : Env := { e with tm := [] }
def ofC : Value → Option IV
 | .bool b => some (.bool b)
 | .int k n => some (.int k n)
 | .string s => some (.str s)
 | .pointer none => some .nilp
 | .slice none 0 0 => some .nils
 | .map none => some .nilm
 | .nilFunc => some .nilf
 | _ => none
def ofCs : List Value → Option (List IV)
 | [] => some []
 | v :: l => match ofC v, ofCs l with | some a, some b => some (a :: b) | _, _ => none
def ofV : Value → Option IV
 | .agg cs => (ofCs cs.toList).map .agg
 | .tuple cs => (ofCs cs.toList).map .tup
 | v => ofC v
def Env.opnd (e : Env) : Operand → Option IV
 | .tmp t => e.get t
 | .const v => ofV v
 | .global g => eget e.gl g
 | .func f => some (.func (.func f) [] [])
def IV.strip : IV → IV
 | .opt _ v => v
 | v => v
def IV.when : IV → Bool
 | .opt g _ => g
 | _ => true
structure Out where
 pre : Prop
 v : IV
 w : Option (Nat × IObj)
def ok (v : IV) : Option Out := some ⟨True, v, none⟩
def okIf (p : Prop) (v : IV) : Option Out := some ⟨p, v, none⟩
def bitsOf (op : BinOp) (k : IntKind) (x y : Int) : Int :=
 let a := BitVec.ofInt k.bits x
 let b := BitVec.ofInt k.bits y
 match op with
 | .and => k.wrap (a &&& b).toNat
 | .or => k.wrap (a ||| b).toNat
 | .xor => k.wrap (a ^^^ b).toNat
 | _ => k.wrap (a &&& ~~~b).toNat
def binI (op : BinOp) (k : IntKind) (a b : Int) : Option Out :=
 match op with
 | .add => ok (.int k (k.wrap (a + b)))
 | .sub => ok (.int k (k.wrap (a - b)))
 | .mul => ok (.int k (k.wrap (a * b)))
 | .quo => okIf (b ≠ 0) (.int k (k.wrap (a.tdiv b)))
 | .rem => okIf (b ≠ 0) (.int k (a.tmod b))
 | .and => ok (.int k (bitsOf .and k a b))
 | .or => ok (.int k (bitsOf .or k a b))
 | .xor => ok (.int k (bitsOf .xor k a b))
 | .andNot => ok (.int k (bitsOf .andNot k a b))
 | .eql => ok (.bool (a == b))
 | .neq => ok (.bool (a != b))
 | .lss => ok (.bool (decide (a < b)))
 | .leq => ok (.bool (decide (a ≤ b)))
 | .gtr => ok (.bool (decide (a > b)))
 | .geq => ok (.bool (decide (a ≥ b)))
 | _ => none
def ceq : IV → IV → Option Bool
 | .int k a, .int k' b => bif k == k' then some (a == b) else none
 | .bool a, .bool b => some (a == b)
 | .str a, .str b => some (a == b)
 | _, _ => none
def ceqs : List IV → List IV → Option Bool
 | [], [] => some true
 | a :: l, b :: m => match ceq a b, ceqs l m with | some x, some y => some (x && y) | _, _ => none
 | _, _ => none
def sizeOK (P : Program) (t : TypeId) (n : Nat) : Bool := match P.info? t with | some i => i.size == n | none => false
def flatFs (P : Program) (g : TypeId → Option (List TypeDesc)) : List Field → Nat → Option (List TypeDesc)
 | [], _ => some []
 | f :: fs, off => match g f.type with
  | none => none
  | some l => match flatFs P g fs (off + l.length) with
   | none => none
   | some l' => if f.name ≠ "_" ∧ f.offset = off ∧ sizeOK P f.type l.length = true then some (l ++ l') else none
def flatK (P : Program) : Nat → TypeId → Option (List TypeDesc)
 | 0, _ => none
 | d + 1, t =>
  match P.underlying t with
  | some (.int k) => some [.int k]
  | some .bool => some [.bool]
  | some .string => some [.string]
  | some (.struct fs) => if P.stoodInHeld t = true then none else flatFs P (flatK P d) fs.toList 0
  | some (.array n e) => match flatK P d e with
    | some l => if sizeOK P e l.length = true then some (List.replicate n l).flatten else none
    | none => none
  | _ => none
def sizeP (P : Program) (t : TypeId) : Nat := match P.info? t with | some i => i.size | none => 0
def aggP (P : Program) (t : TypeId) : Bool := match P.underlying t with | some (.struct _) | some (.array _ _) => true | _ => false
def flatP (P : Program) (t : TypeId) : Option (List TypeDesc) := if aggP P t = true ∧ P.eqGuardType P.depth t = false then flatK P 8 t else none
def kindsOK : List TypeDesc → List IV → Bool
 | [], [] => true
 | .int k :: ks, .int k' _ :: cs => k == k' && kindsOK ks cs
 | .bool :: ks, .bool _ :: cs => kindsOK ks cs
 | .string :: ks, .str _ :: cs => kindsOK ks cs
 | _, _ => false
def bin (P : Program) (op : BinOp) (t : TypeId) (x y : IV) : Option Out :=
 match x, y with
 | .int k a, .int k' b =>
  match op with
  | .shl => okIf (0 ≤ b) (.int k (k.wrap (a * 2 ^ (min b.toNat k.bits))))
  | .shr => okIf (0 ≤ b) (.int k (a.fdiv (2 ^ (min b.toNat k.bits))))
  | _ => bif k == k' then binI op k a b else none
 | .bool a, .bool b => match P.underlying t with
  | some .bool => match op with
   | .eql => ok (.bool (a == b))
   | .neq => ok (.bool (a != b))
   | _ => none
  | _ => none
 | .agg cs, .agg ds => match flatP P t with
  | some ks => bif kindsOK ks cs && kindsOK ks ds then match ceqs cs ds with
   | some b => match op with
    | .eql => ok (.bool b)
    | .neq => ok (.bool (!b))
    | _ => none
   | none => none else none
  | none => none
 | .fz _ (_ :: _), .nils => match P.underlying t with
  | some (.slice _) => match op with
   | .eql => ok (.bool false)
   | .neq => ok (.bool true)
   | _ => none
  | _ => none
 | .nils, .nils => match P.underlying t with
  | some (.slice _) => match op with
   | .eql => ok (.bool true)
   | .neq => ok (.bool false)
   | _ => none
  | _ => none
 | _, _ => none
def un (op : UnOp) (x : IV) : Option Out :=
 match op, x with
 | .not, .bool b => ok (.bool (!b))
 | .neg, .int k n => ok (.int k (k.wrap (0 - n)))
 | _, _ => none
def cut (s o : Nat) (row : List IV) : List IV := (row.drop o).take s
def splice {α : Type} (o : Nat) (new row : List α) : List α := row.take o ++ new ++ row.drop (o + new.length)
def loadAt (agg : Bool) (s : Nat) (row : List IV) (o : Nat) : IV :=
 bif agg then .agg (cut s o row) else row.getD o (.tup [])
def IV.cells : IV → List IV
 | .agg cs => cs
 | v => [v]
def IV.one : IV → Bool
 | .agg _ | .tup _ | .opt _ _ | .junk => false
 | _ => true
def flt1 : IV → Bool
 | .int _ _ | .bool _ | .str _ => true
 | _ => false
def flt : IV → Bool
 | .agg cs => cs.all flt1
 | v => flt1 v
def fltM (es : List (IV × IV)) : Bool := es.all fun p => flt p.1 && flt p.2
def toV1 : IV → Value
 | .int k n => .int k n
 | .bool b => .bool b
 | .str s => .string s
 | _ => undef
def toV : IV → Value
 | .agg cs => .agg (cs.map toV1).toArray
 | v => toV1 v
def zeroV : Value → Option (List IV)
 | .agg cs => ofCs cs.toList
 | v => (ofC v).map ([·])
def zeroP (P : Program) (t : TypeId) : Option (List IV) := match P.info? t with
 | some i => i.zero.bind zeroV
 | none => none
def zeroOK (P : Program) (t : TypeId) : Bool := match zeroP P t with | some z => Nat.beq z.length (sizeP P t) | none => false
def zeroI (P : Program) (t : TypeId) : Option IV := match P.info? t with
 | some i => i.zero.bind ofV
 | none => none
def hasP (P : Program) (t : TypeId) : Bool := (P.info? t).isSome && (P.underlying t).isSome
def fillP : (Nat → Option (Nat × Nat)) → List IV → List (Nat × IV) → Option (List IV)
 | _, cells, [] => some cells
 | place, cells, (i, v) :: rest => match place i with
  | none => none
  | some (off, size) => bif v.cells.length == size && Nat.ble (off + size) cells.length && v.cells.all IV.one then fillP place (splice off v.cells cells) rest else none
def placeS (P : Program) (fs : List Field) (i : Nat) : Option (Nat × Nat) := match fs[i]? with | some f => some (f.offset, sizeP P f.type) | none => none
def loV (ρ : Operand → Option IV) : Option Operand → Option Int
 | none => some 0
 | some x => match ρ x with | some (.int _ n) => some n | _ => none
def hiV (ρ : Operand → Option IV) : Option Operand → Nat → Option Int
 | none, n => some n
 | some x, _ => match ρ x with | some (.int _ n) => some n | _ => none
def arrR (z : Nat) (row : List IV) (o : Nat) : Nat → Nat → List (List IV)
 | _, 0 => []
 | l, n + 1 => cut z (o + l * z) row :: arrR z row o (l + 1) n
def srcRows (h : Heap) : IV → Option (Prop × List (List IV))
 | .fz _ rows => some (True, rows)
 | .nils => some (True, [])
 | .sl b tot i len _ => match h[b]? with
   | some (.rows _ rs) => some (tot = rs.length ∧ i + len ≤ rs.length, (rs.drop i).take len)
   | _ => none
 | _ => none
def capX (x : Bool) (c : Nat) : Option Nat := bif x then some c else none
def bytesP (P : Program) (t : TypeId) : Nat := match P.info? t with | some i => i.bytes | none => 0
def mm (max : Bool) : IV → IV → Option IV
 | .int k a, .int _ b => some (.int k (bif max then (if b > a then b else a) else (if b < a then b else a)))
 | _, _ => none
def mms (max : Bool) : IV → List IV → Option IV
 | a, [] => some a
 | a, b :: l => match mm max a b with | some c => mms max c l | none => none
def IV.isAgg : IV → Bool
 | .agg _ => true
 | _ => false
def keyK (P : Program) (t : TypeId) : Option (List TypeDesc) := match P.underlying t with
 | some (.int k) => some [.int k]
 | some .bool => some [.bool]
 | some .string => some [.string]
 | _ => flatP P t
def keyOK (P : Program) (t : TypeId) (ks : List TypeDesc) (k : IV) : Bool := (k.isAgg == aggP P t) && kindsOK ks k.cells
def keq (k k' : IV) : Bool := match ceqs k.cells k'.cells with | some b => b | none => false
def mget (k : IV) : List (IV × IV) → Option IV
 | [] => none
 | (k', v) :: l => if keq k k' = true then some v else mget k l
def mset (k v : IV) : List (IV × IV) → List (IV × IV)
 | [] => [(k, v)]
 | (k', v') :: l => if keq k k' = true then (k', v) :: l else (k', v') :: mset k v l
def mkV (agg : Bool) (cs : List IV) : IV := bif agg then .agg cs else cs.getD 0 (.tup [])
def mapOf (h : Heap) : IV → Option (List (IV × IV))
 | .nilm => some []
 | .fm es => some es
 | .map b => match h[b]? with
  | some (.map es) => some es
  | _ => none
 | _ => none
def found (cok : Bool) (z : IV) (r : Option IV) : IV := bif cok then .tup [r.getD z, .bool r.isSome] else r.getD z
def opsnd (ρ : Operand → Option IV) : List Operand → Option (List IV)
 | [] => some []
 | x :: l => match ρ x, opsnd ρ l with | some a, some b => some (a :: b) | _, _ => none
def partsV (ρ : Operand → Option IV) : List (Nat × Operand) → Option (List (Nat × IV))
 | [] => some []
 | p :: l => match ρ p.2, partsV ρ l with | some a, some b => some ((p.1, a) :: b) | _, _ => none
def appZ (P : Program) (h : Heap) (nb : Nat) (e : TypeId) : IV → IV → Option Out
 | .sl b tot i len none, .int _ n => match h[b]?, zeroP P e with
   | some (.rows s rs), some z => bif hasP P e && Nat.beq (sizeP P e) s && Nat.beq z.length s && Nat.ble (bytesP P e) 1024 then
     some ⟨1 ≤ n ∧ tot = rs.length ∧ i = 0 ∧ len = rs.length ∧ (len : Int) + n ≤ 2 ^ 32, .sl b (len + n.toNat) 0 (len + n.toNat) none, some (b, .rows s (rs ++ List.replicate n.toNat z))⟩ else none
   | _, _ => none
 | .sl b tot i len (some c), .int _ n => match h[b]?, zeroP P e with
   | some (.rows s rs), some z => bif hasP P e && Nat.beq (sizeP P e) s && Nat.beq z.length s && Nat.ble (bytesP P e) 1024 then
     some ⟨1 ≤ n ∧ tot = rs.length ∧ i = 0 ∧ len = rs.length ∧ c = len ∧ (len : Int) + n ≤ 2 ^ 32, .sl nb (len + n.toNat) 0 (len + n.toNat) none, some (nb, .rows s (rs ++ List.replicate n.toNat z))⟩ else none
   | _, _ => none
 | _, _ => none
def ibuiltin (P : Program) (b : Builtin) (ts : List TypeId) (args : List IV) (h : Heap) (nb : Nat) : Option Out :=
 match b, ts, args with
 | .len, [t], [.fz _ rows] => match P.underlying t with
   | some (.slice _) => ok (.int .i64 rows.length)
   | _ => none
 | .len, [t], [.sl b tot _ len _] => match P.underlying t, h[b]? with
   | some (.slice _), some (.rows _ rs) => okIf (tot = rs.length) (.int .i64 len)
   | _, _ => none
 | .len, [t], [.nils] => match P.underlying t with
   | some (.slice _) => ok (.int .i64 0)
   | _ => none
 | .len, [t], [.map b] => match P.underlying t, h[b]? with
   | some (.map _ _), some (.map es) => ok (.int .i64 es.length)
   | _, _ => none
 | .len, [t], [.fm es] => match P.underlying t with
   | some (.map _ _) => ok (.int .i64 es.length)
   | _ => none
 | .len, [t], [.agg _] => match P.underlying t with
   | some (.array n _) => ok (.int .i64 n)
   | _ => none
 | .cap, [t], [.sl b tot _ _ (some c)] => match P.underlying t, h[b]? with
   | some (.slice _), some (.rows _ rs) => okIf (tot = rs.length ∧ c ≤ rs.length) (.int .i64 c)
   | _, _ => none
 | .clear, [t], [.sl b tot i len _] => match P.underlying t, h[b]? with
   | some (.slice e), some (.rows s rs) => match zeroP P e with
    | some z => bif hasP P e && Nat.beq (sizeP P e) s && Nat.beq z.length s then some ⟨tot = rs.length ∧ i + len ≤ rs.length, .tup [], some (b, .rows s (rs.take i ++ List.replicate len z ++ rs.drop (i + len)))⟩ else none
    | none => none
   | _, _ => none
 | .min, _, a :: l => match mms false a l with | some v => ok v | none => none
 | .max, _, a :: l => match mms true a l with | some v => ok v | none => none
 | .append, [t, tx], [d, y] => match P.underlying t, P.underlying tx, srcRows h y with
   | some (.slice e), some (.slice _), some (pre, src) => bif hasP P e && Nat.blt 0 (sizeP P e) && Nat.ble (bytesP P e) 1024 && zeroOK P e then match d with
    | .nils => some ⟨pre ∧ src.length ≤ 2 ^ 32 ∧ ∀ r ∈ src, r.length = sizeP P e ∧ r.all IV.one = true, .sl nb src.length 0 src.length none, some (nb, .rows (sizeP P e) src)⟩
    | .sl b tot i len none => match h[b]? with
      | some (.rows s rs) => bif Nat.beq (sizeP P e) s then
        some ⟨pre ∧ tot = rs.length ∧ i = 0 ∧ len = rs.length ∧ len + src.length ≤ 2 ^ 32 ∧ ∀ r ∈ src, r.length = s ∧ r.all IV.one = true, .sl b (len + src.length) 0 (len + src.length) none, some (b, .rows s (rs ++ src))⟩ else none
      | _ => none
    | .sl b tot i len (some c) => match h[b]? with
      | some (.rows s rs) => bif Nat.beq (sizeP P e) s then bif Nat.ble (len + src.length) c then
        some ⟨pre ∧ tot = rs.length ∧ i + c ≤ rs.length ∧ ∀ r ∈ src, r.length = s ∧ r.all IV.one = true, .sl b tot i (len + src.length) (some c), some (b, .rows s (rs.take (i + len) ++ src ++ rs.drop (i + len + src.length)))⟩
        else some ⟨pre ∧ tot = rs.length ∧ i + len ≤ rs.length ∧ len + src.length ≤ 2 ^ 32 ∧ ∀ r ∈ src, r.length = s ∧ r.all IV.one = true, .sl nb (len + src.length) 0 (len + src.length) none, some (nb, .rows s ((rs.drop i).take len ++ src))⟩ else none
      | _ => none
    | _ => none else none
   | some (.slice e), some (.int _), none => appZ P h nb e d y
   | _, _, _ => none
 | _, _, _ => none
def iop (P : Program) (x : Bool) (op : Op) (ρ : Operand → Option IV) (h : Heap) (nb : Nat) : Option Out :=
 match op with
 | .move x | .assign x => (ρ x).bind ok
 | .binOp op t x y _ => match ρ x, ρ y with
   | some a, some b => bin P op t a b
   | _, _ => none
 | .unOp op _ x => (ρ x).bind (un op)
 | .pick c x y => match ρ c, ρ x, ρ y with
   | some (.bool c), some (.bool a), some (.bool b) => ok (.bool (bif c then a else b))
   | _, _, _ => none
 | .convert src dst x => match ρ x, P.underlying src, P.underlying dst with
   | some (.int _ n), some _, some (.int k) => ok (.int k (k.wrap n))
   | _, _, _ => none
 | .extract x i => match ρ x with
   | some (.tup vs) => vs[i]?.bind ok
   | _ => none
 | .nilCheck x => match ρ x with
   | some (.ptr b tot i o) => match h[b]? with
    | some (.rows _ rs) => okIf (tot = rs.length ∧ i < rs.length) (.ptr b tot i o)
    | _ => none
   | some (.fptr s r i o) => ok (.fptr s r i o)
   | _ => none
 | .makeFunc fn first captured => match opsnd ρ first.toList, opsnd ρ captured.toList with
   | some a, some b => ok (.func fn a b)
   | _, _ => none
 | .field t x f => match ρ x, P.underlying t with
   | some (.agg cs), some (.struct fs) => match fs.toList[f]? with
    | some fd => bif hasP P fd.type && Nat.ble (fd.offset + sizeP P fd.type) cs.length && (aggP P fd.type || Nat.beq (sizeP P fd.type) 1) then ok (loadAt (aggP P fd.type) (sizeP P fd.type) cs fd.offset) else none
    | none => none
   | _, _ => none
 | .fieldAddr t x f => match ρ x, P.underlying t with
   | some (.fptr s rows i o), some (.struct fs) => match fs.toList[f]? with
    | some fd => bif hasP P fd.type && Nat.blt 0 (sizeP P fd.type) then ok (.fptr s rows i (o + fd.offset)) else none
    | none => none
   | some (.ptr b tot i o), some (.struct fs) => match fs.toList[f]?, h[b]? with
    | some fd, some (.rows _ rs) => bif hasP P fd.type && Nat.blt 0 (sizeP P fd.type) then okIf (tot = rs.length ∧ i < rs.length) (.ptr b tot i (o + fd.offset)) else none
    | _, _ => none
   | _, _ => none
 | .indexAddr t x i => match P.underlying t, ρ x, ρ i with
   | some (.slice e), some (.fz s rows), some (.int _ n) => bif hasP P e && Nat.beq (sizeP P e) s then okIf (0 ≤ n ∧ n < rows.length) (.fptr s rows n.toNat 0) else none
   | some (.slice e), some (.sl b tot j len _), some (.int _ n) => bif hasP P e then match h[b]? with
    | some (.rows s rs) => bif Nat.beq (sizeP P e) s then okIf (0 ≤ n ∧ n < len ∧ tot = rs.length ∧ j + len ≤ rs.length) (.ptr b tot (j + n.toNat) 0) else none
    | _ => none else none
   | some (.array len e), some (.fptr s rows j o), some (.int _ n) => bif hasP P e then okIf (0 ≤ n ∧ n < (len : Int)) (.fptr s rows j (o + n.toNat * sizeP P e)) else none
   | some (.array len e), some (.ptr b tot j o), some (.int _ n) => match h[b]? with
    | some (.rows _ rs) => bif hasP P e then okIf (0 ≤ n ∧ n < (len : Int) ∧ tot = rs.length ∧ j < rs.length) (.ptr b tot j (o + n.toNat * sizeP P e)) else none
    | _ => none
   | _, _, _ => none
 | .index t x i => match P.underlying t, ρ x, ρ i with
   | some (.array len e), some (.agg cs), some (.int _ n) => bif hasP P e && Nat.beq cs.length (len * sizeP P e) && (aggP P e || Nat.beq (sizeP P e) 1) then okIf (0 ≤ n ∧ n < (len : Int)) (loadAt (aggP P e) (sizeP P e) cs (n.toNat * sizeP P e)) else none
   | _, _, _ => none
 | .load t a => bif hasP P t && (aggP P t || Nat.beq (sizeP P t) 1) then match ρ a with
   | some (.fptr s rows i o) => okIf (i < rows.length ∧ o + sizeP P t ≤ s) (loadAt (aggP P t) (sizeP P t) (rows.getD i []) o)
   | some (.ptr b tot i o) => match h[b]? with
    | some (.rows s rs) => okIf (tot = rs.length ∧ i < rs.length ∧ o + sizeP P t ≤ s) (loadAt (aggP P t) (sizeP P t) (rs.getD i []) o)
    | _ => none
   | _ => none else none
 | .store t a x => bif hasP P t then match ρ a, ρ x with
   | some (.ptr b tot i o), some v => match h[b]? with
    | some (.rows s rs) => bif Nat.beq v.cells.length (sizeP P t) && v.cells.all IV.one then
      some ⟨tot = rs.length ∧ i < rs.length ∧ o + v.cells.length ≤ s, .tup [], some (b, .rows s (rs.set i (splice o v.cells (rs.getD i []))))⟩ else none
    | _ => none
   | _, _ => none else none
 | .alloc t => match zeroP P t with
   | some z => bif Nat.blt 0 z.length then some ⟨True, .ptr nb 1 0 0, some (nb, .rows z.length [z])⟩ else none
   | none => none
 | .box _ x => match ρ x with
   | some v => bif v.cells.all IV.one && Nat.blt 0 v.cells.length then some ⟨True, .ptr nb 1 0 0, some (nb, .rows v.cells.length [v.cells])⟩ else none
   | none => none
 | .build t parts => match P.underlying t, zeroP P t, partsV ρ parts.toList with
   | some (.struct fs), some z, some ps => bif fs.toList.all (fun f => hasP P f.type) then match fillP (placeS P fs.toList) z ps with | some cs => ok (.agg cs) | none => none else none
   | some (.array _ e), some z, some ps => bif hasP P e then match fillP (fun i => some (i * sizeP P e, sizeP P e)) z ps with | some cs => ok (.agg cs) | none => none else none
   | _, _, _ => none
 | .buildSlice t len parts => match P.underlying t, partsV ρ parts.toList with
   | some (.slice e), some ps => match zeroP P e with
    | some z => bif hasP P e && Nat.beq z.length (sizeP P e) && Nat.blt 0 (sizeP P e) && Nat.ble (len * sizeP P e) (2 ^ 24) && ps.all (fun p => Nat.blt p.1 len && Nat.beq p.2.cells.length (sizeP P e) && p.2.cells.all IV.one) then
      some ⟨True, .sl nb len 0 len (capX x len), some (nb, .rows (sizeP P e) (ps.foldl (fun rs p => rs.set p.1 p.2.cells) (List.replicate len z)))⟩ else none
    | none => none
   | _, _ => none
 | .makeMap _ none => some ⟨True, .map nb, some (nb, .map [])⟩
 | .makeSlice t l c => match P.underlying t, ρ l, ρ c with
   | some (.slice e), some (.int _ n), some (.int _ m) => match zeroP P e with
    | some z => bif hasP P e && Nat.beq z.length (sizeP P e) && Nat.blt 0 (sizeP P e) then
      some ⟨0 ≤ n ∧ n ≤ m ∧ m ≤ 2 ^ 40 ∧ ((P.info? e).map (·.bytes)).getD 0 ≤ 256, .sl nb (bif x then m.toNat else n.toNat) 0 n.toNat (capX x m.toNat), some (nb, .rows (sizeP P e) (List.replicate (bif x then m.toNat else n.toNat) z))⟩ else none
    | none => none
   | _, _, _ => none
 | .slice t x lo hi none => match P.underlying t, ρ x, loV ρ lo with
   | some (.slice e), some (.fz s rows), some l => bif hasP P e && Nat.beq (sizeP P e) s then match hiV ρ hi rows.length with
    | some u => okIf (0 ≤ l ∧ l ≤ u ∧ u ≤ rows.length) (.fz s ((rows.take u.toNat).drop l.toNat))
    | none => none else none
   | some (.slice e), some (.sl b tot i len cap), some l => bif hasP P e then match h[b]? with
    | some (.rows s rs) => bif Nat.beq (sizeP P e) s then match hiV ρ hi len with
     | some u => okIf (0 ≤ l ∧ l ≤ u ∧ u ≤ (cap.getD len : Nat) ∧ tot = rs.length ∧ i + cap.getD len ≤ rs.length) (.sl b tot (i + l.toNat) (u.toNat - l.toNat) (cap.map (· - l.toNat)))
     | none => none else none
    | _ => none else none
   | some (.array n e), some (.fptr s rows i o), some l => bif hasP P e && Nat.blt 0 (sizeP P e) then match hiV ρ hi n with
    | some u => okIf (0 ≤ l ∧ l ≤ u ∧ u ≤ (n : Int) ∧ i < rows.length ∧ o + n * sizeP P e ≤ s) (.fz (sizeP P e) (arrR (sizeP P e) (rows.getD i []) o l.toNat (u.toNat - l.toNat)))
    | none => none else none
   | _, _, _ => none
 | .slice t x lo (some y) (some mx) => match P.underlying t, ρ x, loV ρ lo, ρ y, ρ mx with
   | some (.slice e), some (.sl b tot i len cap), some l, some (.int _ u), some (.int _ m) => bif hasP P e then match h[b]? with
    | some (.rows s rs) => bif Nat.beq (sizeP P e) s then okIf (0 ≤ l ∧ l ≤ u ∧ u ≤ m ∧ m ≤ (cap.getD len : Nat) ∧ tot = rs.length ∧ i + cap.getD len ≤ rs.length) (.sl b tot (i + l.toNat) (u.toNat - l.toNat) (some (m.toNat - l.toNat))) else none
    | _ => none else none
   | _, _, _, _, _ => none
 | .call c => match c.callee, opsnd ρ c.args.toList with
   | .builtin b, some args => ibuiltin P b c.argTypes.toList args h nb
   | _, _ => none
 | .lookup t x k cok => match P.underlying t, ρ x, ρ k with
   | some (.map kt et), some m, some kv => match keyK P kt, zeroI P et, mapOf h m with
    | some ks, some z, some es => bif keyOK P kt ks kv then some ⟨∀ e ∈ es, keyOK P kt ks e.1 = true, found cok z (mget kv es), none⟩ else none
    | _, _, _ => none
   | _, _, _ => none
 | .mapUpdate t m k v | .insert t m k v => match P.underlying t, ρ m, ρ k, ρ v with
   | some (.map kt _), some (.map b), some kv, some vv => match keyK P kt, h[b]? with
    | some ks, some (.map es) => bif keyOK P kt ks kv then some ⟨∀ e ∈ es, keyOK P kt ks e.1 = true, .tup [], some (b, .map (mset kv vv es))⟩ else none
    | _, _ => none
   | _, _, _, _ => none
 | _ => none
def gslot (ops : List Oper) (j : Nat) : Option Tmp := match ops[j]? with | some o => o.dst | none => none
end Go.Idl
namespace Go.Idl
open Go.RowKit
inductive Place where
 | dead
 | empty
 | at_ (g off : Nat)
structure Mu where
 u : Nat → Prop
 sz : Nat → Nat
 len : Nat → Nat
 cp : Nat → Nat
 pl : Nat → Place
def Mu.le (μ μ' : Mu) : Prop :=
 ∀ b, μ.u b → μ'.u b ∧ μ'.sz b = μ.sz b ∧ μ.len b ≤ μ'.len b ∧ (μ.len b = μ'.len b → (μ'.pl b = μ.pl b ∧ μ'.cp b = μ.cp b) ∨ μ'.pl b = .dead) ∧ (μ.sz b = 0 → μ.len b = μ'.len b)
structure Fz where
 f : Nat → Prop
 u : Nat → Prop
 sub : ∀ g, f g → u g
def SlOK (p : Place) (s cp i len : Nat) (cap : Option Nat) (v : Value) : Prop :=
 match p with
 | .dead => True
 | .empty => v = .slice none 0 0 ∧ len = 0
 | .at_ g off => ∃ a c, v = .slice a len c ∧ len ≤ c ∧ i + c ≤ cp ∧ (c = 0 ∨ a = some ⟨g, off + i * s, none⟩) ∧ ∀ c', cap = some c' → c = c'
def PtrOK (p : Place) (s i o : Nat) (v : Value) : Prop :=
 match p with
 | .at_ g off => v = .pointer (some ⟨g, off + i * s + o, none⟩)
 | _ => True
def MapOK (p : Place) (v : Value) : Prop :=
 match p with
 | .at_ g _ => v = .map (some g)
 | _ => True
def IterOK (p : Place) (v : Value) : Prop :=
 match p with
 | .at_ g _ => v = .pointer (some ⟨g, 0, none⟩)
 | _ => True
inductive VR (μ : Mu) (F : Fz) (w : World) : Value → IV → Prop where
 | bool (b : Bool) : VR μ F w (.bool b) (.bool b)
 | int (k : IntKind) (n : Int) : VR μ F w (.int k n) (.int k n)
 | str (s : ByteArray) : VR μ F w (.string s) (.str s)
 | nilp : VR μ F w (.pointer none) .nilp
 | ptr (v : Value) (b tot i o : Nat) (hk : v.oneCell' = true) (hb : μ.u b) (ht : tot ≤ μ.len b) (h : tot = μ.len b → PtrOK (μ.pl b) (μ.sz b) i o v) : VR μ F w v (.ptr b tot i o)
 | fptr (g off s : Nat) (rows : List (List IV)) (i o : Nat) (us : Nat → Nat → Value) (hF : F.f g) (hrow : ∀ (i : Nat) (row : List IV), rows[i]? = some row → row.length = s)
   (hcell : ∀ (i : Nat) (row : List IV) (j : Nat), rows[i]? = some row → j < s → w.cell? ⟨g, off + i * s + j, none⟩ = some (us i j))
   (hv : ∀ (i : Nat) (row : List IV) (j : Nat) (c : IV), rows[i]? = some row → row[j]? = some c → VR μ F w (us i j) c) :
   VR μ F w (.pointer (some ⟨g, off + i * s + o, none⟩)) (.fptr s rows i o)
 | nils : VR μ F w (.slice none 0 0) .nils
 | sl (v : Value) (b tot i len : Nat) (cap : Option Nat) (hk : v.oneCell' = true) (hb : μ.u b) (ht : tot ≤ μ.len b) (h : tot = μ.len b → SlOK (μ.pl b) (μ.sz b) (μ.cp b) i len cap v) : VR μ F w v (.sl b tot i len cap)
 | fz (g off s : Nat) (rows : List (List IV)) (cap : Nat) (us : Nat → Nat → Value) (hF : F.f g) (hrow : ∀ (i : Nat) (row : List IV), rows[i]? = some row → row.length = s)
   (hcell : ∀ (i : Nat) (row : List IV) (j : Nat), rows[i]? = some row → j < s → w.cell? ⟨g, off + i * s + j, none⟩ = some (us i j))
   (hv : ∀ (i : Nat) (row : List IV) (j : Nat) (c : IV), rows[i]? = some row → row[j]? = some c → VR μ F w (us i j) c) (hcap : rows.length ≤ cap) :
   VR μ F w (.slice (some ⟨g, off, none⟩) rows.length cap) (.fz s rows)
 | fz0 (a : Option Addr) (cap s : Nat) : VR μ F w (.slice a 0 cap) (.fz s [])
 | nilm : VR μ F w (.map none) .nilm
 | map (v : Value) (b : Nat) (hk : v.oneCell' = true) (hb : μ.u b) (h : MapOK (μ.pl b) v) (hl : μ.sz b = 0) : VR μ F w v (.map b)
 | fm (g : Nat) (es : List (IV × IV)) (es' : Array MapEntry) (cl : Nat) (hF : F.f g) (hg : w.heap[g]? = some (.map es' cl)) (hfl : fltM es = true) (hen : es'.toList.map (fun e => (e.key, e.val)) = es.map (fun p => (toV p.1, toV p.2)))
   (hnd : (es'.toList.map (·.born)).Nodup) (hcl : ∀ e ∈ es'.toList, e.born < cl) : VR μ F w (.map (some g)) (.fm es)
 | iter (v : Value) (b : Nat) (hk : v.oneCell' = true) (hb : μ.u b) (h : IterOK (μ.pl b) v) (hl : μ.sz b = 0) : VR μ F w v (.iter b)
 | nilf : VR μ F w .nilFunc .nilf
 | func (fn : Fn) (fs cs : List Value) (fs' cs' : List IV) (hf : fs.length = fs'.length) (hc : cs.length = cs'.length)
   (h1 : ∀ (j : Nat) (v : Value) (c : IV), fs[j]? = some v → fs'[j]? = some c → VR μ F w v c)
   (h2 : ∀ (j : Nat) (v : Value) (c : IV), cs[j]? = some v → cs'[j]? = some c → VR μ F w v c) : VR μ F w (.func fn fs.toArray cs.toArray) (.func fn fs' cs')
 | agg (vs : List Value) (cs : List IV) (hl : vs.length = cs.length) (h : ∀ (j : Nat) (v : Value) (c : IV), vs[j]? = some v → cs[j]? = some c → VR μ F w v c) : VR μ F w (.agg vs.toArray) (.agg cs)
 | tup (vs : List Value) (cs : List IV) (hl : vs.length = cs.length) (h : ∀ (j : Nat) (v : Value) (c : IV), vs[j]? = some v → cs[j]? = some c → VR μ F w v c) : VR μ F w (.tuple vs.toArray) (.tup cs)
 | opt (g : Bool) (v : Value) (c : IV) (h1 : g = true → VR μ F w v c) (h0 : g = false → v = undef) : VR μ F w v (.opt g c)
 | junk (v : Value) : VR μ F w v .junk
def VRs (μ : Mu) (F : Fz) (w : World) (vs : List Value) (cs : List IV) : Prop :=
 vs.length = cs.length ∧ ∀ (j : Nat) (v : Value) (c : IV), vs[j]? = some v → cs[j]? = some c → VR μ F w v c
theorem World.cell?_of_heap {w w' : World} {a : Addr} (h : w'.heap[a.block]? = w.heap[a.block]?) : w'.cell? a = w.cell? a := by
 simp only [World.cell?, h]
theorem VR.mono {μ μ' : Mu} {F F' : Fz} {w w' : World} (hμ : μ.le μ') (hF : ∀ g, F.f g → F'.f g) (hw : ∀ g, F.f g → w'.heap[g]? = w.heap[g]?) {v : Value} {c : IV} (h : VR μ F w v c) : VR μ' F' w' v c := by
 induction h with
 | bool b => exact .bool b
 | int k n => exact .int k n
 | str s => exact .str s
 | nilp => exact .nilp
 | ptr v b tot i o hk hb ht h =>
  obtain ⟨hu, h1, h2, h3, h5⟩ := hμ b hb
  refine .ptr v b tot i o hk hu (Nat.le_trans ht h2) fun e => ?_
  have e' : μ.len b = μ'.len b := by omega
  rcases h3 e' with ⟨h4, _⟩ | h4
  ·rw [h4, h1]; exact h (by omega)
  ·rw [h4]; trivial
 | fptr g off s rows i o us hf hrow hcell hv ih =>
  exact .fptr g off s rows i o us (hF _ hf) hrow (fun i row j hi hj => by rw [World.cell?_of_heap (hw g hf)]; exact hcell i row j hi hj) ih
 | nils => exact .nils
 | sl v b tot i len cap hk hb ht h =>
  obtain ⟨hu, h1, h2, h3, h5⟩ := hμ b hb
  refine .sl v b tot i len cap hk hu (Nat.le_trans ht h2) fun e => ?_
  have e' : μ.len b = μ'.len b := by omega
  rcases h3 e' with ⟨h4, h6⟩ | h4
  ·rw [h4, h1, h6]; exact h (by omega)
  ·rw [h4]; trivial
 | fz g off s rows cap us hf hrow hcell hv hcap ih =>
  exact .fz g off s rows cap us (hF _ hf) hrow (fun i row j hi hj => by rw [World.cell?_of_heap (hw g hf)]; exact hcell i row j hi hj) ih hcap
 | fz0 a cap s => exact .fz0 a cap s
 | nilm => exact .nilm
 | junk v => exact .junk v
 | map v b hk hb h hl =>
  obtain ⟨hu, h1, h2, h3, h5⟩ := hμ b hb
  refine .map v b hk hu ?_ (by omega)
  rcases h3 (h5 hl) with ⟨h4, _⟩ | h4
  ·rw [h4]; exact h
  ·rw [h4]; trivial
 | fm g es es' cl h1 hg hfl hen hnd hcl => exact .fm g es es' cl (hF _ h1) ((hw g h1).trans hg) hfl hen hnd hcl
 | iter v b hk hb h hl =>
  obtain ⟨hu, h1, h2, h3, h5⟩ := hμ b hb
  refine .iter v b hk hu ?_ (by omega)
  rcases h3 (h5 hl) with ⟨h4, _⟩ | h4
  ·rw [h4]; exact h
  ·rw [h4]; trivial
 | nilf => exact .nilf
 | func fn fs cs fs' cs' hf hc _ _ ih1 ih2 => exact .func fn fs cs fs' cs' hf hc ih1 ih2
 | agg vs cs hl _ ih => exact .agg vs cs hl ih
 | tup vs cs hl _ ih => exact .tup vs cs hl ih
 | opt g v c _ h0 ih => exact .opt g v c ih h0
theorem Mu.le_refl (μ : Mu) : μ.le μ := fun _ h => ⟨h, rfl, Nat.le_refl _, fun _ => .inl ⟨rfl, rfl⟩, fun _ => rfl⟩
theorem Mu.le_trans {a b c : Mu} (h : a.le b) (k : b.le c) : a.le c := by
 intro i hi
 obtain ⟨h0, h1, h2, h3, h4⟩ := h i hi
 obtain ⟨k0, k1, k2, k3, k4⟩ := k i h0
 refine ⟨k0, k1.trans h1, Nat.le_trans h2 k2, fun e => ?_, fun e => (h4 e).trans (k4 (by omega))⟩
 rcases k3 (by omega) with ⟨k3, k5⟩ | k3
 ·rcases h3 (by omega) with ⟨h3, h5⟩ | h3
  ·exact .inl ⟨k3.trans h3, k5.trans h5⟩
  ·exact .inr (k3.trans h3)
 ·exact .inr k3
theorem flt1_vr {μ : Mu} {F : Fz} {w : World} {c : IV} (h : flt1 c = true) : VR μ F w (toV1 c) c := by
 cases c <;> first | (simp [flt1] at h; done) | (simp only [toV1]; constructor)
theorem flt_vr {μ : Mu} {F : Fz} {w : World} {c : IV} (h : flt c = true) : VR μ F w (toV c) c := by
 cases c with
 | agg cs =>
  refine .agg _ _ (by simp) fun j v c e1 e2 => ?_
  rw [List.getElem?_map, e2] at e1
  simp only [Option.map_some, Option.some.injEq] at e1
  subst e1
  exact flt1_vr (List.all_eq_true.1 h c (List.mem_of_getElem? e2))
 | _ => first | (simp [flt, flt1] at h; done) | (simp only [toV, toV1]; constructor)
theorem vr_flt1 {μ : Mu} {F : Fz} {w : World} {v : Value} {c : IV} (h : flt1 c = true) (hv : VR μ F w v c) : v = toV1 c := by
 cases c <;> first | (simp [flt1] at h; done) | (cases hv; rfl)
theorem vr_flt {μ : Mu} {F : Fz} {w : World} {v : Value} {c : IV} (h : flt c = true) (hv : VR μ F w v c) : v = toV c := by
 cases c with
 | agg cs =>
  cases hv with
  | agg vs _ hl hc =>
   simp only [toV]
   refine congrArg (fun l : List Value => Value.agg l.toArray) (?_ : vs = cs.map toV1)
   apply List.ext_getElem?
   intro j
   rw [List.getElem?_map]
   cases e : vs[j]? with
   | none =>
    have : cs[j]? = none := by rw [List.getElem?_eq_none_iff] at e ⊢; omega
    rw [this]; rfl
   | some v =>
    have hj := (List.getElem?_eq_some_iff.1 e).1
    have e2 : cs[j]? = some cs[j] := List.getElem?_eq_getElem (by omega)
    rw [e2]
    simp only [Option.map_some, Option.some.injEq]
    exact vr_flt1 (List.all_eq_true.1 h _ (List.mem_of_getElem? e2)) (hc j v _ e e2)
 | _ => first | (simp [flt, flt1] at h; done) | (cases hv; rfl)
theorem fltM_mem {es : List (IV × IV)} (h : fltM es = true) {p : IV × IV} (hp : p ∈ es) : flt p.1 = true ∧ flt p.2 = true := by
 have := List.all_eq_true.1 h p hp
 simpa using this
structure EnvR (μ : Mu) (F : Fz) (w : World) (tmps : Array Value) (e : Env) : Prop where
 size : tmps.size = e.n
 slot : ∀ (t : Nat) (c : IV), e.get t = some c → ∃ v, tmps[t]? = some v ∧ VR μ F w v c
 glob : ∀ (g : Nat) (c : IV), eget e.gl g = some c → VR μ F w (.pointer (some ⟨g, 0, none⟩)) c
def EntsR (μ : Mu) (F : Fz) (w : World) (es' : List MapEntry) (es : List (IV × IV)) : Prop :=
 es'.length = es.length ∧ ∀ (j : Nat) (e : MapEntry) (p : IV × IV), es'[j]? = some e → es[j]? = some p → VR μ F w e.key p.1 ∧ VR μ F w e.val p.2
def EntsV (es' : List MapEntry) (es : List (IV × IV)) : Prop := es'.map (fun e => (e.key, e.val)) = es.map (fun p => (toV p.1, toV p.2)) ∧ fltM es = true
def FzIter (F : Fz) (w : World) (es : List (IV × IV)) (cur : Option (IV × IV)) (todo : List (IV × IV)) (g : Nat) : Prop :=
 ∃ gm es' cl since seen, F.f gm ∧ w.heap[gm]? = some (.map es' cl) ∧ w.heap[g]? = some (.mapIter (some gm) since seen cl) ∧ since ≤ cl ∧ (∀ e ∈ es'.toList, e.born < since) ∧ (es'.toList.map (·.born)).Nodup ∧
  EntsV es'.toList es ∧ EntsV (es'.toList.filter fun e => !seen.contains e.born) todo ∧ ∀ kv, cur = some kv → ∃ e ∈ es'.toList, seen.back? = some e.born ∧ e.key = toV kv.1 ∧ e.val = toV kv.2 ∧ flt kv.1 = true ∧ flt kv.2 = true
def IterR (μ : Mu) (F : Fz) (w : World) : Option Nat → List (IV × IV) → Option (IV × IV) → List (IV × IV) → Nat → Prop
 | none, es, cur, todo, g => (todo = [] ∧ cur = none ∧ ∃ s q c, w.heap[g]? = some (.mapIter none s q c)) ∨ FzIter F w es cur todo g
 | some b, es, cur, todo, g => μ.u b ∧ μ.sz b = 0 ∧ ∃ gm es' cl since seen, μ.pl b = .at_ gm 0 ∧ w.heap[gm]? = some (.map es' cl) ∧ w.heap[g]? = some (.mapIter (some gm) since seen cl) ∧ since ≤ cl ∧ (∀ e ∈ es'.toList, e.born < since) ∧ (es'.toList.map (·.born)).Nodup ∧
   EntsR μ F w es'.toList es ∧ EntsR μ F w (es'.toList.filter fun e => !seen.contains e.born) todo ∧ ∀ kv, cur = some kv → ∃ e ∈ es'.toList, seen.back? = some e.born ∧ VR μ F w e.key kv.1 ∧ VR μ F w e.val kv.2
def ObjR (μ : Mu) (F : Fz) (w : World) (b : Nat) : IObj → Prop
 | .rows s rs => μ.u b ∧ 0 < s ∧ μ.sz b = s ∧ μ.len b = rs.length ∧ (∀ (i : Nat) (row : List IV), rs[i]? = some row → row.length = s) ∧
   ((μ.pl b = .empty ∧ rs = []) ∨ ∃ g off cs T, μ.pl b = .at_ g off ∧ w.heap[g]? = some (.cells cs T (0, 0)) ∧ rs.length ≤ μ.cp b ∧ off + μ.cp b * s ≤ cs.size ∧
    ∀ (i : Nat) (row : List IV) (j : Nat) (c : IV), rs[i]? = some row → row[j]? = some c → ∃ v, cs[off + i * s + j]? = some v ∧ VR μ F w v c)
 | .map es => μ.u b ∧ μ.sz b = 0 ∧ ∃ g es' cl, μ.pl b = .at_ g 0 ∧ w.heap[g]? = some (.map es' cl) ∧ EntsR μ F w es'.toList es ∧ (es'.toList.map (·.born)).Nodup ∧ ∀ e ∈ es'.toList, e.born < cl
 | .iter b' es cur todo => μ.u b ∧ μ.sz b = 0 ∧ ∃ g, μ.pl b = .at_ g 0 ∧ IterR μ F w b' es cur todo g
 | .yrec l r e => ¬ μ.u b ∧ ¬ F.u l ∧ (∀ b' off, μ.u b' → μ.pl b' ≠ .at_ l off) ∧ w.heap[l]? = some (.loop r) ∧ EnvR μ F w r.tmps e
 | .dead => True
 | .hole => True
theorem EntsV.ents {μ : Mu} {F : Fz} {w : World} {es' : List MapEntry} {es : List (IV × IV)} (h : EntsV es' es) : EntsR μ F w es' es := by
 obtain ⟨h1, h2⟩ := h
 refine ⟨by simpa using congrArg List.length h1, fun j e p e1 e2 => ?_⟩
 have e3 := congrArg (·[j]?) h1
 simp only [List.getElem?_map, e1, e2, Option.map_some, Option.some.injEq, Prod.mk.injEq] at e3
 have h3 := fltM_mem h2 (List.mem_of_getElem? e2)
 rw [e3.1, e3.2]
 exact ⟨flt_vr h3.1, flt_vr h3.2⟩
theorem EntsR.entsV {μ : Mu} {F : Fz} {w : World} {es' : List MapEntry} {es : List (IV × IV)} (h : EntsR μ F w es' es) (hf : fltM es = true) : EntsV es' es := by
 refine ⟨?_, hf⟩
 apply List.ext_getElem?
 intro j
 rw [List.getElem?_map, List.getElem?_map]
 cases e : es'[j]? with
 | none =>
  have : es[j]? = none := by have := h.1; rw [List.getElem?_eq_none_iff] at e ⊢; omega
  rw [this]; rfl
 | some e1 =>
  have hj := (List.getElem?_eq_some_iff.1 e).1
  have hl := h.1
  have e2 : es[j]? = some es[j] := List.getElem?_eq_getElem (by omega)
  rw [e2]
  have h3 := fltM_mem hf (List.mem_of_getElem? e2)
  obtain ⟨v1, v2⟩ := h.2 j e1 _ e e2
  simp only [Option.map_some, Option.some.injEq, Prod.mk.injEq]
  exact ⟨vr_flt h3.1 v1, vr_flt h3.2 v2⟩
structure HR (μ : Mu) (F : Fz) (σ : Heap) (w : World) : Prop where
 n : ∀ b, μ.u b → ∃ o, σ[b]? = some o ∧ o.isHole = false
 obj : ∀ (b : Nat) (o : IObj), σ[b]? = some o → ObjR μ F w b o
 inj : ∀ b b' g off off', μ.u b → μ.u b' → μ.pl b = .at_ g off → μ.pl b' = .at_ g off' → b = b'
 fro : ∀ b g off, μ.u b → μ.pl b = .at_ g off → ¬ F.u g
 lt : ∀ b g off, μ.u b → μ.pl b = .at_ g off → g < w.heap.size
 flt : ∀ g, F.u g → g < w.heap.size
 yin : ∀ (b b' l : Nat) (r r' : Loop) (e e' : Env), σ[b]? = some (.yrec l r e) → σ[b']? = some (.yrec l r' e') → b = b'
 itd : ∀ (x b : Nat) (es : List (IV × IV)) (cur : Option (IV × IV)) (todo : List (IV × IV)) (o : IObj), σ[x]? = some (.iter (some b) es cur todo) → σ[b]? = some o → o = .dead
theorem EntsR.mono {μ μ' : Mu} {F F' : Fz} {w w' : World} {es' : List MapEntry} {es : List (IV × IV)} (h : EntsR μ F w es' es) (hv : ∀ {v : Value} {c : IV}, VR μ F w v c → VR μ' F' w' v c) : EntsR μ' F' w' es' es :=
 ⟨h.1, fun j e p e1 e2 => let ⟨v1, v2⟩ := h.2 j e p e1 e2; ⟨hv v1, hv v2⟩⟩
theorem IterR.mono {μ μ' : Mu} {F F' : Fz} {w w' : World} {b : Option Nat} {es : List (IV × IV)} {cur : Option (IV × IV)} {todo : List (IV × IV)} {g : Nat} (h : IterR μ F w b es cur todo g) (hv : ∀ {v : Value} {c : IV}, VR μ F w v c → VR μ' F' w' v c)
  (hF : ∀ g, F.f g → F'.f g) (hf : ∀ g, F.f g → w'.heap[g]? = w.heap[g]?) (hg : w'.heap[g]? = w.heap[g]?) (hb : ∀ b', b = some b' → μ.u b' → μ'.u b' ∧ μ'.sz b' = μ.sz b' ∧ μ'.pl b' = μ.pl b' ∧ ∀ gm off, μ.pl b' = .at_ gm off → w'.heap[gm]? = w.heap[gm]?) : IterR μ' F' w' b es cur todo g := by
 cases b with
 | none =>
  rcases h with ⟨h1, h3, s, q, c, h2⟩ | ⟨gm, es', cl, since, seen, q0, q2, q3, q4⟩
  ·exact .inl ⟨h1, h3, s, q, c, hg.trans h2⟩
  ·exact .inr ⟨gm, es', cl, since, seen, hF gm q0, (hf gm q0).trans q2, hg.trans q3, q4⟩
 | some b =>
  obtain ⟨h1, h2, gm, es', cl, since, seen, q1, q2, q3, q4, q5, q6, q7, q8, q9⟩ := h
  obtain ⟨k1, k2, k3, k4⟩ := hb b rfl h1
  exact ⟨k1, k2.trans h2, gm, es', cl, since, seen, k3.trans q1, (k4 gm 0 q1).trans q2, hg.trans q3, q4, q5, q6, q7.mono hv, q8.mono hv, fun kv e => let ⟨e, a, b, c, d⟩ := q9 kv e; ⟨e, a, b, hv c, hv d⟩⟩
structure OutD (w' w : World) : Prop where
 o : w'.output = w.output
 d : w.drawn ≤ w'.drawn
theorem OutD.trans {a b c : World} (h : OutD a b) (k : OutD b c) : OutD a c := ⟨h.o.trans k.o, Nat.le_trans k.d h.d⟩
structure Ext (μ : Mu) (F : Fz) (w : World) (μ' : Mu) (F' : Fz) (w' : World) : Prop where
 mu : μ.le μ'
 fr : ∀ g, F.f g → F'.f g
 fu : ∀ g, F.u g → F'.u g
 same : ∀ g, F.u g → w'.heap[g]? = w.heap[g]?
 size : w.heap.size ≤ w'.heap.size
 os : w'.os = w.os
 tape : w'.tape = w.tape
 output : OutD w' w
 new : ∀ g, F'.f g → F.f g ∨ ¬ F.u g
theorem Ext.refl (μ : Mu) (F : Fz) (w : World) : Ext μ F w μ F w :=
 ⟨Mu.le_refl _, fun _ h => h, fun _ h => h, fun _ _ => rfl, Nat.le_refl _, rfl, rfl, ⟨rfl, Nat.le_refl _⟩, fun _ h => .inl h⟩
theorem Ext.trans {μ μ' μ'' : Mu} {F F' F'' : Fz} {w w' w'' : World} (h : Ext μ F w μ' F' w') (k : Ext μ' F' w' μ'' F'' w'') : Ext μ F w μ'' F'' w'' :=
 ⟨Mu.le_trans h.mu k.mu, fun g hg => k.fr g (h.fr g hg), fun g hg => k.fu g (h.fu g hg), fun g hg => (k.same g (h.fu g hg)).trans (h.same g hg), Nat.le_trans h.size k.size, k.os.trans h.os, k.tape.trans h.tape, k.output.trans h.output, fun g hg => (k.new g hg).elim (h.new g) fun hn => .inr fun hu => hn (h.fu g hu)⟩
theorem Ext.vr {μ μ' : Mu} {F F' : Fz} {w w' : World} (h : Ext μ F w μ' F' w') {v : Value} {c : IV} (hv : VR μ F w v c) : VR μ' F' w' v c := hv.mono h.mu h.fr fun g hg => h.same g (F.sub g hg)
theorem Ext.env {μ μ' : Mu} {F F' : Fz} {w w' : World} (h : Ext μ F w μ' F' w') {t : Array Value} {e : Env} (he : EnvR μ F w t e) : EnvR μ' F' w' t e :=
 ⟨he.size, fun t c hc => let ⟨v, h1, h2⟩ := he.slot t c hc; ⟨v, h1, h.vr h2⟩, fun g c hc => h.vr (he.glob g c hc)⟩
theorem eget_eput (l : List (Nat × IV)) (j : Nat) (v : IV) (t : Nat) : eget (eput l j v) t = if j = t then some v else eget l t := by
 induction l with
 | nil =>
  simp only [eput, eget]
  by_cases h : j = t
  ·simp [h]
  ·have : (j == t) = false := by simpa using h
   simp [h, this]
 | cons p l ih =>
  obtain ⟨k, u⟩ := p
  simp only [eput]
  by_cases h : k = j
  ·subst h
   simp only [BEq.rfl, cond_true, eget]
   by_cases h : k = t
   ·simp [h]
   ·have : (k == t) = false := by simpa using h
    simp [h, this]
  ·have : (k == j) = false := by simpa using h
   simp only [this, cond_false, eget, ih]
   by_cases h2 : k = t
   ·subst h2; simp [Ne.symm h]
   ·have : (k == t) = false := by simpa using h2
    simp [this]
theorem Env.get_put (e : Env) (j : Nat) (v : IV) (t : Nat) (c : IV) (h : (e.put j v).get t = some c) : (j = t ∧ c = v ∧ t < e.n) ∨ (j ≠ t ∧ e.get t = some c) ∨ (e.n ≤ j ∧ e.get t = some c) := by
 unfold Env.put at h
 cases hn : Nat.blt j e.n with
 | false =>
  rw [hn] at h
  exact .inr (.inr ⟨by simp [Nat.blt_eq, ← Bool.not_eq_true] at hn; exact hn, h⟩)
 | true =>
  have hlt : j < e.n := by simpa [Nat.blt_eq] using hn
  rw [hn] at h
  simp only [cond_true] at h
  cases hm : isNamed e.m e.ex j with
  | true =>
   rw [hm] at h
   simp only [cond_true, Env.get] at h
   cases ht : isNamed e.m e.ex t with
   | true =>
    rw [ht] at h
    simp only [cond_true, eget_eput] at h
    by_cases e1 : j = t
    ·subst e1; simp at h; exact .inl ⟨rfl, h.symm, hlt⟩
    ·rw [if_neg e1] at h; exact .inr (.inl ⟨e1, by simp [Env.get, ht, h]⟩)
   | false =>
    rw [ht] at h
    exact .inr (.inl ⟨fun e1 => (by subst e1; rw [hm] at ht; cases ht), by simpa [Env.get, ht] using h⟩)
  | false =>
   rw [hm] at h
   simp only [cond_false, Env.get] at h
   cases ht : isNamed e.m e.ex t with
   | true =>
    rw [ht] at h
    exact .inr (.inl ⟨fun e1 => (by subst e1; rw [hm] at ht; cases ht), by simpa [Env.get, ht] using h⟩)
   | false =>
    rw [ht] at h
    simp only [cond_false, eget] at h
    by_cases e1 : j = t
    ·subst e1; simp at h; exact .inl ⟨rfl, h.symm, hlt⟩
    ·have : (j == t) = false := by simpa using e1
     rw [this] at h; exact .inr (.inl ⟨e1, by simpa [Env.get, ht] using h⟩)
@[simp] theorem Env.put_n (e : Env) (j : Nat) (v : IV) : (e.put j v).n = e.n := by
 unfold Env.put; cases Nat.blt j e.n <;> cases isNamed e.m e.ex j <;> rfl
@[simp] theorem Env.put_gl (e : Env) (j : Nat) (v : IV) : (e.put j v).gl = e.gl := by
 unfold Env.put; cases Nat.blt j e.n <;> cases isNamed e.m e.ex j <;> rfl
theorem EnvR.put {μ : Mu} {F : Fz} {w : World} {t : Array Value} {e : Env} (h : EnvR μ F w t e) (j : Nat) {v : Value} {c : IV} (hv : VR μ F w v c) :
  EnvR μ F w (t.setIfInBounds j v) (e.put j c) := by
 refine ⟨by simpa using h.size, fun k c' hk => ?_, fun g c' hg => h.glob g c' (by simpa using hg)⟩
 rcases Env.get_put e j c k c' hk with ⟨rfl, rfl, hlt⟩ | ⟨hne, hk⟩ | ⟨hle, hk⟩
 ·exact ⟨v, by simp [h.size, hlt], hv⟩
 ·obtain ⟨u, h1, h2⟩ := h.slot k c' hk
  exact ⟨u, by rw [Array.getElem?_setIfInBounds_ne hne]; exact h1, h2⟩
 ·obtain ⟨u, h1, h2⟩ := h.slot k c' hk
  exact ⟨u, by rw [Array.setIfInBounds_eq_of_size_le (by rw [h.size]; exact hle)]; exact h1, h2⟩
theorem EnvR.putO {μ : Mu} {F : Fz} {w : World} {a : Act} {e : Env} (h : EnvR μ F w a.tmps e) (d : Option Nat) {v : Value} {c : IV} (hv : VR μ F w v c) :
  EnvR μ F w (a.put d v).tmps (e.putO d c) := by
 cases d with
 | none => exact h
 | some j => exact h.put j hv
theorem EnvR.clean {μ : Mu} {F : Fz} {w : World} {t : Array Value} {e : Env} (h : EnvR μ F w t e) : EnvR μ F w t e.clean := by
 refine ⟨h.size, fun k c hk => h.slot k c ?_, h.glob⟩
 unfold Env.get at *
 cases hn : isNamed e.m e.ex k with
 | true => simp only [Env.clean, hn, cond_true] at hk ⊢; exact hk
 | false => simp [Env.clean, hn, eget] at hk
theorem ofC_vr {μ : Mu} {F : Fz} {w : World} {v : Value} {c : IV} (h : ofC v = some c) : VR μ F w v c := by
 unfold ofC at h
 split at h <;> cases h
 ·exact .bool _
 ·exact .int _ _
 ·exact .str _
 ·exact .nilp
 ·exact .nils
 ·exact .nilm
 ·exact .nilf
theorem ofCs_vr {μ : Mu} {F : Fz} {w : World} : ∀ (vs : List Value) (cs : List IV), ofCs vs = some cs → VRs μ F w vs cs
 | [], cs, h => by simp [ofCs] at h; subst h; exact ⟨rfl, by simp⟩
 | v :: vs, cs, h => by
  simp only [ofCs] at h
  split at h
  ·rename_i a b h1 h2
   cases h
   have ih := ofCs_vr (μ := μ) (F := F) (w := w) vs b h2
   refine ⟨by simp [ih.1], fun j v' c' e1 e2 => ?_⟩
   cases j with
   | zero => simp at e1 e2; subst e1; subst e2; exact ofC_vr h1
   | succ j => exact ih.2 j v' c' (by simpa using e1) (by simpa using e2)
  ·cases h
theorem ofV_vr {μ : Mu} {F : Fz} {w : World} {v : Value} {c : IV} (h : ofV v = some c) : VR μ F w v c := by
 unfold ofV at h
 split at h
 ·rename_i cs
  cases h1 : ofCs cs.toList with
  | none => rw [h1] at h; cases h
  | some l =>
   rw [h1] at h; cases h
   have := ofCs_vr (μ := μ) (F := F) (w := w) _ _ h1
   have hx := VR.agg (μ := μ) (F := F) (w := w) cs.toList l this.1 this.2
   simpa using hx
 ·rename_i cs
  cases h1 : ofCs cs.toList with
  | none => rw [h1] at h; cases h
  | some l =>
   rw [h1] at h; cases h
   have := ofCs_vr (μ := μ) (F := F) (w := w) _ _ h1
   have hx := VR.tup (μ := μ) (F := F) (w := w) cs.toList l this.1 this.2
   simpa using hx
 ·exact ofC_vr h
theorem EnvR.opnd {μ : Mu} {F : Fz} {w : World} {a : Act} {e : Env} (h : EnvR μ F w a.tmps e) (x : Operand) (c : IV) (hx : e.opnd x = some c) : VR μ F w (a.eval x) c := by
 cases x with
 | tmp t =>
  obtain ⟨v, h1, h2⟩ := h.slot t c hx
  have : a.eval (.tmp t) = v := by simp [Act.eval, h1]
  rw [this]; exact h2
 | const v => exact ofV_vr hx
 | global g => exact h.glob g c hx
 | func f =>
  simp only [Env.opnd, Option.some.injEq] at hx
  subst hx
  exact .func (.func f) [] [] [] [] rfl rfl (by simp) (by simp)
end Go.Idl
namespace Go.Idl
open Go.RowKit
def upd (σ : Heap) : Option (Nat × IObj) → Heap
 | none => σ
 | some (b, o) => hput σ b o
def Goes (μ : Mu) (F : Fz) (w : World) (σ : Heap) (r : Out) (res : Result Next) : Prop :=
 ∃ u w' μ', (res = .ok (.value u) w' ∨ (res = .ok .skip w' ∧ u = undef)) ∧ VR μ' F w' u r.v ∧ HR μ' F (upd σ r.w) w' ∧ Ext μ F w μ' F w'
section
variable {P : Program} {μ : Mu} {F : Fz} {w : World} {σ : Heap}
theorem Goes.pure {r : Out} {res : Result Next} {u : Value} (hH : HR μ F σ w) (hres : res = .ok (.value u) w) (hv : VR μ F w u r.v) (hw : r.w = none) : Goes μ F w σ r res :=
 ⟨u, w, μ, .inl hres, hv, by rw [hw]; exact hH, Ext.refl _ _ _⟩
theorem hasP_spec {t : TypeId} (h : hasP P t = true) : ∃ i d, P.info? t = some i ∧ P.underlying t = some d ∧ sizeP P t = i.size ∧ (∀ w, (sizeOf t).run P w = .ok i.size w) ∧ (∀ w, (isAgg t).run P w = .ok (aggP P t) w) := by
 unfold hasP at h
 simp only [Bool.and_eq_true, Option.isSome_iff_exists] at h
 obtain ⟨⟨i, hi⟩, ⟨d, hd⟩⟩ := h
 refine ⟨i, d, hi, hd, by simp [sizeP, hi], fun w => by simp [sizeOf, typeInfo, hi], fun w => ?_⟩
 unfold isAgg aggP
 rw [Sem.run_bind, run_underlying hd]
 simp only [hd]
 cases d <;> rfl
theorem ofCs_one : ∀ (l : List Value) (m : List IV), ofCs l = some m → m.all IV.one = true
 | [], m, h => by simp [ofCs] at h; subst h; rfl
 | u :: l, m, h => by
  simp only [ofCs] at h
  split at h
  ·rename_i a b h1 h2
   cases h
   simp only [List.all_cons, ofCs_one l b h2, Bool.and_true]
   unfold ofC at h1
   split at h1 <;> cases h1 <;> rfl
  ·cases h
theorem zeroP_spec {t : TypeId} {z : List IV} (h : zeroP P t = some z) : ∃ i v, P.info? t = some i ∧ i.zero = some v ∧ VRs μ F w v.cells.toList z ∧ z.all IV.one = true := by
 unfold zeroP at h
 cases hi : P.info? t with
 | none => simp [hi] at h
 | some i =>
  cases hz : i.zero with
  | none => simp [hi, hz] at h
  | some v =>
   simp only [hi, hz, Option.bind_some] at h
   refine ⟨i, v, rfl, hz, ?_⟩
   unfold zeroV at h
   split at h
   ·exact ⟨ofCs_vr _ _ h, ofCs_one _ _ h⟩
   ·simp only [Option.map_eq_some_iff] at h
    obtain ⟨a, ha, rfl⟩ := h
    have hv := ofC_vr (μ := μ) (F := F) (w := w) ha
    have h1 : a.one = true := by unfold ofC at ha; split at ha <;> cases ha <;> rfl
    have h2 : v.cells = #[v] := by unfold ofC at ha; split at ha <;> cases ha <;> rfl
    rw [h2]
    refine ⟨⟨rfl, fun j v' c' e1 e2 => ?_⟩, by simp [h1]⟩
    cases j with
    | zero => simp at e1 e2; subst e1; subst e2; exact hv
    | succ j => simp at e1
theorem VR.one {v : Value} {c : IV} (h : VR μ F w v c) (h1 : c.one = true) : v.oneCell' = true := by
 cases h <;> first | rfl | assumption | (simp [IV.one] at h1)
theorem VR.cells {v : Value} {c : IV} (h : VR μ F w v c) (h1 : c.cells.all IV.one = true) : VRs μ F w v.cells.toList c.cells ∧ ∀ u ∈ v.cells.toList, u.oneCell' = true := by
 have key : ∀ {v : Value} {c : IV}, VR μ F w v c → c.one = true → v.cells = #[v] := fun {v c} h h1 => by
  have := VR.one h h1
  cases v <;> first | rfl | (simp [Value.oneCell'] at this)
 have fin : ∀ {v : Value} {c : IV}, VR μ F w v c → c.one = true → c.cells = [c] → VRs μ F w v.cells.toList c.cells ∧ ∀ u ∈ v.cells.toList, u.oneCell' = true := fun {v c} h h1 h2 => by
  rw [key h h1, h2]
  refine ⟨⟨rfl, fun j v' c' e1 e2 => ?_⟩, fun u hu => ?_⟩
  ·cases j with
   | zero => simp at e1 e2; subst e1; subst e2; exact h
   | succ j => simp at e1
  ·simp at hu; subst hu; exact VR.one h h1
 cases c with
 | agg cs =>
  cases h with
  | agg vs _ hl h =>
   refine ⟨⟨by simpa [Value.cells, IV.cells] using hl, fun j v c e1 e2 => h j v c (by simpa [Value.cells] using e1) (by simpa [IV.cells] using e2)⟩, fun u hu => ?_⟩
   simp only [Value.cells, List.toList_toArray] at hu
   obtain ⟨j, hj, rfl⟩ := List.getElem_of_mem hu
   have hj' : j < cs.length := by omega
   have := h j vs[j] cs[j] (by simp) (by simp)
   exact VR.one this ((List.all_eq_true.1 h1) cs[j] (by simp [IV.cells]))
 | tup vs => simp [IV.cells, IV.one] at h1
 | opt g v => simp [IV.cells, IV.one] at h1
 | junk => simp [IV.cells, IV.one] at h1
 | _ => exact fin h rfl rfl
theorem getElem?_hput (σ : Heap) (b : Nat) (o : IObj) (x : Nat) : (hput σ b o)[x]? = if x = b then some o else if x < σ.length then σ[x]? else if x < b then some .hole else none := by
 induction σ generalizing b x with
 | nil =>
  induction b generalizing x with
  | zero => cases x <;> simp [hput]
  | succ b ih =>
   cases x with
   | zero => simp [hput]
   | succ x => simpa [hput] using ih x
 | cons y l ih =>
  cases b with
  | zero =>
   cases x with
   | zero => simp [hput]
   | succ x =>
    simp [hput]
    try (by_cases h : x < l.length <;> simp [h])
  | succ b =>
   cases x with
   | zero => simp [hput]
   | succ x => simpa [hput] using ih b x
theorem ObjR.mono {μ' : Mu} {F' : Fz} {w' : World} {x : Nat} {o : IObj} (h : ObjR μ F w x o) (hle : μ.le μ') (hF : ∀ g, F.f g → F'.f g) (hf : ∀ g, F.f g → w'.heap[g]? = w.heap[g]?)
  (hx : μ'.sz x = μ.sz x ∧ μ'.len x = μ.len x ∧ μ'.pl x = μ.pl x ∧ μ'.cp x = μ.cp x ∧ (μ.u x → μ'.u x)) (hr : ∀ g off, μ.u x → μ.pl x = .at_ g off → w'.heap[g]? = w.heap[g]?)
  (hy : ∀ l r e, o = .yrec l r e → ¬ μ.u x → ¬ F.u l → (∀ b' off, μ.u b' → μ.pl b' ≠ .at_ l off) → l < w.heap.size → ¬ μ'.u x ∧ ¬ F'.u l ∧ (∀ b' off, μ'.u b' → μ'.pl b' ≠ .at_ l off) ∧ w'.heap[l]? = w.heap[l]?)
  (hi : ∀ b es cur todo, o = .iter (some b) es cur todo → μ.u b → μ'.u b ∧ μ'.sz b = μ.sz b ∧ μ'.pl b = μ.pl b ∧ ∀ gm off, μ.pl b = .at_ gm off → w'.heap[gm]? = w.heap[gm]?) : ObjR μ' F' w' x o := by
 obtain ⟨x1, x2, x3, x5, x4⟩ := hx
 cases o with
 | rows s rs =>
  obtain ⟨h0, h1, h2, h3, h4, h5⟩ := h
  refine ⟨x4 h0, h1, x1.trans h2, x2.trans h3, h4, ?_⟩
  rcases h5 with ⟨h5, h6⟩ | ⟨g, off, cs, T, h5, h6, h8, h9, h7⟩
  ·exact .inl ⟨x3.trans h5, h6⟩
  ·exact .inr ⟨g, off, cs, T, x3.trans h5, (hr g off h0 h5).trans h6, x5 ▸ h8, x5 ▸ h9, fun i row j c e1 e2 => let ⟨v, v1, v2⟩ := h7 i row j c e1 e2; ⟨v, v1, v2.mono hle hF hf⟩⟩
 | map es =>
  obtain ⟨h0, h1, g, es', cl, h2, h3, h4, h5⟩ := h
  exact ⟨x4 h0, x1.trans h1, g, es', cl, x3.trans h2, (hr g 0 h0 h2).trans h3, ⟨h4.1, fun j e p e1 e2 => let ⟨v1, v2⟩ := h4.2 j e p e1 e2; ⟨v1.mono hle hF hf, v2.mono hle hF hf⟩⟩, h5⟩
 | iter b es cur todo =>
  obtain ⟨h0, h1, g, h2, h3⟩ := h
  exact ⟨x4 h0, x1.trans h1, g, x3.trans h2, h3.mono (fun hv => hv.mono hle hF hf) hF hf (hr g 0 h0 h2) fun b' e hu => hi b' es cur todo (by rw [e]) hu⟩
 | yrec l r e =>
  obtain ⟨h1, h2, h3, h4, h5⟩ := h
  obtain ⟨k1, k2, k3, k4⟩ := hy l r e rfl h1 h2 h3 (Array.getElem?_eq_some_iff.1 h4).1
  exact ⟨k1, k2, k3, k4.trans h4, ⟨h5.size, fun t c hc => let ⟨v, v1, v2⟩ := h5.slot t c hc; ⟨v, v1, v2.mono hle hF hf⟩, fun g c hc => (h5.glob g c hc).mono hle hF hf⟩⟩
 | dead => trivial
 | hole => trivial
theorem HR.still_same (hH : HR μ F σ w) {b : Nat} {w' : World} (hw : ∀ g, g < w.heap.size → (μ.u b → ∀ off, μ.pl b ≠ .at_ g off) → w'.heap[g]? = w.heap[g]?) : ∀ g, F.u g → w'.heap[g]? = w.heap[g]? :=
 fun g hg => hw g (hH.flt g hg) fun hu off e => hH.fro b g off hu e hg
theorem HR.frozen_same (hH : HR μ F σ w) {b : Nat} {w' : World} (hw : ∀ g, g < w.heap.size → (μ.u b → ∀ off, μ.pl b ≠ .at_ g off) → w'.heap[g]? = w.heap[g]?) : ∀ g, F.f g → w'.heap[g]? = w.heap[g]? :=
 fun g hg => hH.still_same hw g (F.sub g hg)
theorem HR.notIt (hH : HR μ F σ w) {b : Nat} {o : IObj} (hb : σ[b]? = some o) (ho : o ≠ .dead) : ∀ (x b' : Nat) (es : List (IV × IV)) (cur : Option (IV × IV)) (todo : List (IV × IV)), σ[x]? = some (.iter (some b') es cur todo) → b' ≠ b :=
 fun x b' es cur todo h e => ho (by subst e; exact hH.itd x b' es cur todo o h hb)
theorem HR.notItN (hH : HR μ F σ w) {b : Nat} (hb : ¬ μ.u b) : ∀ (x b' : Nat) (es : List (IV × IV)) (cur : Option (IV × IV)) (todo : List (IV × IV)), σ[x]? = some (.iter (some b') es cur todo) → b' ≠ b :=
 fun x b' es cur todo h e => hb (by subst e; obtain ⟨_, _, _, _, h3⟩ := hH.obj x _ h; exact h3.1)
theorem HR.change {b : Nat} {o' : IObj} {μ' : Mu} {w' : World} (hH : HR μ F σ w) (hle : μ.le μ')
  (hag : ∀ x, x ≠ b → μ'.sz x = μ.sz x ∧ μ'.len x = μ.len x ∧ μ'.pl x = μ.pl x ∧ μ'.cp x = μ.cp x ∧ (μ'.u x ↔ μ.u x))
  (hw : ∀ g, g < w.heap.size → (μ.u b → ∀ off, μ.pl b ≠ .at_ g off) → w'.heap[g]? = w.heap[g]?)
  (hpl : ∀ g off, μ'.u b → μ'.pl b = .at_ g off → (w.heap.size ≤ g ∨ (μ.u b ∧ ∃ off', μ.pl b = .at_ g off')) ∧ g < w'.heap.size)
  (hsz : w.heap.size ≤ w'.heap.size) (hos : w'.os = w.os) (htape : w'.tape = w.tape) (hout : OutD w' w)
  (hit : ∀ (x b' : Nat) (es : List (IV × IV)) (cur : Option (IV × IV)) (todo : List (IV × IV)), σ[x]? = some (.iter (some b') es cur todo) → b' ≠ b) (ho : ObjR μ' F w' b o') (hno : o'.isHole = false := by rfl) (hny : ∀ l r e, o' ≠ .yrec l r e := by intros; intro h; cases h) (hni : ∀ y es cur todo o, o' = .iter (some y) es cur todo → (hput σ b o')[y]? = some o → o = .dead := by intro _ _ _ _ _ h; cases h) : HR μ' F (hput σ b o') w' ∧ Ext μ F w μ' F w' := by
 have hf := hH.frozen_same hw
 refine ⟨⟨fun x hx => ?_, fun x o hx => ?_, fun x y g off off' hx hy ex ey => ?_, fun x g off hx ex => ?_, fun x g off hx ex => ?_, fun g hg => Nat.lt_of_lt_of_le (hH.flt g hg) hsz, fun x y l r r' e e' hx hy => ?_, fun x y es cur todo o hx hy => ?_⟩, ⟨hle, fun _ h => h, fun _ h => h, hH.still_same hw, hsz, hos, htape, hout, fun _ h => .inl h⟩⟩
 ·by_cases e : x = b
  ·subst e; exact ⟨o', by rw [getElem?_hput, if_pos rfl], hno⟩
  ·obtain ⟨o, h1, h2⟩ := hH.n x ((hag x e).2.2.2.2.1 hx)
   exact ⟨o, by rw [getElem?_hput, if_neg e, if_pos (List.getElem?_eq_some_iff.1 h1).1]; exact h1, h2⟩
 ·rw [getElem?_hput] at hx
  split at hx
  ·rename_i e; subst e; cases hx; exact ho
  ·rename_i e
   split at hx
   ·have := hH.obj x o hx
    refine this.mono hle (fun _ h => h) hf ⟨(hag x e).1, (hag x e).2.1, (hag x e).2.2.1, (hag x e).2.2.2.1, (hag x e).2.2.2.2.2⟩ (fun g off hu hp => hw g (hH.lt x g off hu hp) fun hb off' eb => e (hH.inj x b g off off' hu hb hp eb)) ?_ ?_
    rotate_left
    ·intro b' es cur todo eo hu
     subst eo
     have hne := hit x b' es cur todo hx
     exact ⟨(hag b' hne).2.2.2.2.2 hu, (hag b' hne).1, (hag b' hne).2.2.1, fun gm off hp => hw gm (hH.lt b' gm off hu hp) fun hb off' eb => hne (hH.inj b' b gm off off' hu hb hp eb)⟩
    refine fun l _ _ _ k1 k2 k3 k4 => ⟨fun hu => k1 ((hag x e).2.2.2.2.1 hu), k2, fun b' off hu hp => ?_, hw l k4 fun hu off hp => k3 b off hu hp⟩
    by_cases e' : b' = b
    ·subst e'
     rcases (hpl l off hu hp).1 with h | ⟨hb, o2, h⟩
     ·omega
     ·exact k3 b' o2 hb h
    ·exact k3 b' off ((hag b' e').2.2.2.2.1 hu) ((hag b' e').2.2.1 ▸ hp)
   ·split at hx
    ·cases hx; trivial
    ·cases hx
 ·by_cases e1 : x = b
  ·by_cases e2 : y = b
   ·rw [e1, e2]
   ·subst e1
    have hy' := (hag y e2).2.2.2.2.1 hy
    have ey' : μ.pl y = .at_ g off' := (hag y e2).2.2.1 ▸ ey
    rcases (hpl g off hx ex).1 with h | ⟨hb, o2, h⟩
    ·exact absurd (hH.lt y g off' hy' ey') (by omega)
    ·exact hH.inj x y g o2 off' hb hy' h ey'
  ·have hx' := (hag x e1).2.2.2.2.1 hx
   have ex' : μ.pl x = .at_ g off := (hag x e1).2.2.1 ▸ ex
   by_cases e2 : y = b
   ·subst e2
    rcases (hpl g off' hy ey).1 with h | ⟨hb, o2, h⟩
    ·exact absurd (hH.lt x g off hx' ex') (by omega)
    ·exact hH.inj x y g off o2 hx' hb ex' h
   ·exact hH.inj x y g off off' hx' ((hag y e2).2.2.2.2.1 hy) ex' ((hag y e2).2.2.1 ▸ ey)
 ·by_cases e : x = b
  ·subst e
   rcases (hpl g off hx ex).1 with h | ⟨hb, o2, h⟩
   ·exact fun hg => absurd (hH.flt g hg) (by omega)
   ·exact hH.fro x g o2 hb h
  ·exact hH.fro x g off ((hag x e).2.2.2.2.1 hx) ((hag x e).2.2.1 ▸ ex)
 ·by_cases e : x = b
  ·subst e; exact (hpl g off hx ex).2
  ·exact Nat.lt_of_lt_of_le (hH.lt x g off ((hag x e).2.2.2.2.1 hx) ((hag x e).2.2.1 ▸ ex)) hsz
 ·have key : ∀ (z : Nat) (r : Loop) (e : Env), (hput σ b o')[z]? = some (.yrec l r e) → σ[z]? = some (.yrec l r e) := fun z r e h => by
   rw [getElem?_hput] at h
   split at h
   ·simp only [Option.some.injEq] at h; exact absurd h (hny l r e)
   ·split at h
    ·exact h
    ·split at h <;> cases h
  exact hH.yin x y l r r' e e' (key _ _ _ hx) (key _ _ _ hy)
 ·by_cases hxb : x = b
  ·rw [getElem?_hput, if_pos hxb] at hx
   simp only [Option.some.injEq] at hx
   exact hni y es cur todo o hx hy
  have h1 : σ[x]? = some (.iter (some y) es cur todo) := by
   rw [getElem?_hput, if_neg hxb] at hx
   split at hx
   ·exact hx
   ·split at hx <;> cases hx
  have hne := hit x y es cur todo h1
  rw [getElem?_hput, if_neg hne] at hy
  split at hy
  ·exact hH.itd x y es cur todo o h1 hy
  ·exfalso
   obtain ⟨_, _, _, _, h3⟩ := hH.obj x _ h1
   obtain ⟨o2, o3, _⟩ := hH.n y h3.1
   have := (List.getElem?_eq_some_iff.1 o3).1
   omega
def Mu.add (μ : Mu) (b s n c : Nat) (p : Place) : Mu :=
 { u := fun x => x = b ∨ μ.u x, sz := fun x => if x = b then s else μ.sz x, len := fun x => if x = b then n else μ.len x, cp := fun x => if x = b then c else μ.cp x, pl := fun x => if x = b then p else μ.pl x }
theorem Mu.le_add {b s n c : Nat} {p : Place} (h : ¬ μ.u b) : μ.le (μ.add b s n c p) := by
 intro x hx
 have e : x ≠ b := fun e => h (e ▸ hx)
 simp [Mu.add, e, hx]
theorem Mu.add_other {b s n c : Nat} {p : Place} (x : Nat) (e : x ≠ b) : (μ.add b s n c p).sz x = μ.sz x ∧ (μ.add b s n c p).len x = μ.len x ∧ (μ.add b s n c p).pl x = μ.pl x ∧ (μ.add b s n c p).cp x = μ.cp x ∧ ((μ.add b s n c p).u x ↔ μ.u x) := by
 simp [Mu.add, e]
theorem HR.newRows (hH : HR μ F σ w) {nb s c : Nat} {rs : List (List IV)} {cs : Array Value} {T : TypeId} (hnb : ¬ μ.u nb) (hs : 0 < s) (hrow : ∀ (i : Nat) (row : List IV), rs[i]? = some row → row.length = s)
  (hrc : rs.length ≤ c) (hc : c * s ≤ cs.size) (hcs : ∀ (i : Nat) (row : List IV) (j : Nat) (c : IV), rs[i]? = some row → row[j]? = some c → ∃ v, cs[i * s + j]? = some v ∧ VR μ F w v c) :
  HR (μ.add nb s rs.length c (.at_ w.heap.size 0)) F (hput σ nb (.rows s rs)) (w.alloc (.cells cs T)) ∧ Ext μ F w (μ.add nb s rs.length c (.at_ w.heap.size 0)) F (w.alloc (.cells cs T)) := by
 have hle : μ.le (μ.add nb s rs.length c (.at_ w.heap.size 0)) := Mu.le_add hnb
 have hw : ∀ g, g < w.heap.size → (μ.u nb → ∀ off, μ.pl nb ≠ .at_ g off) → (w.alloc (.cells cs T)).heap[g]? = w.heap[g]? := fun g hg _ => Below.heap_alloc _ _ _ hg
 refine hH.change hle (fun x e => Mu.add_other x e) hw (fun g off _ e => ?_) (by simp) rfl rfl ⟨rfl, Nat.le_refl _⟩ (hH.notItN hnb) ?_
 ·simp [Mu.add] at e; obtain ⟨rfl, rfl⟩ := e; simp
 ·refine ⟨.inl rfl, hs, by simp [Mu.add], by simp [Mu.add], hrow, .inr ⟨w.heap.size, 0, cs, T, by simp [Mu.add], heap_alloc_new _ _, by simpa [Mu.add] using hrc, by simpa [Mu.add] using hc, fun i row j c e1 e2 => ?_⟩⟩
  obtain ⟨v, h1, h2⟩ := hcs i row j c e1 e2
  exact ⟨v, by simpa using h1, h2.mono hle (fun _ h => h) (hH.frozen_same hw)⟩
variable {ev : Operand → Value} {ρ : Operand → Option IV}
theorem binI_run {op : BinOp} {k : IntKind} {a b : Int} {r : Out} {t : TypeId} (h : binI op k a b = some r) (hp : r.pre) (w : World) :
  ∃ z, (binOp op t (.int k a) (.int k b)).run P w = .ok z w ∧ VR μ F w z r.v ∧ r.w = none := by
 cases op <;> simp only [binI, ok, okIf, Option.some.injEq, reduceCtorEq] at h <;> subst h
 case add => exact ⟨_, by rw [binOp_add]; rfl, .int _ _, rfl⟩
 case sub => exact ⟨_, by rw [binOp_sub]; rfl, .int _ _, rfl⟩
 case mul => exact ⟨_, by rw [binOp_mul]; rfl, .int _ _, rfl⟩
 case quo => exact ⟨_, by rw [binOp_quo]; simp only [Op.intDiv, if_neg hp]; rfl, .int _ _, rfl⟩
 case rem => exact ⟨_, by rw [binOp_rem]; simp only [Op.intDiv, if_neg hp]; rfl, .int _ _, rfl⟩
 case and => exact ⟨_, by rw [binOp_and]; rfl, .int _ _, rfl⟩
 case or => exact ⟨_, by rw [binOp_or]; rfl, .int _ _, rfl⟩
 case xor => exact ⟨_, by rw [binOp_xor]; rfl, .int _ _, rfl⟩
 case andNot => exact ⟨_, by rw [binOp_andNot]; rfl, .int _ _, rfl⟩
 case eql => exact ⟨_, by rw [binOp_eql]; rfl, .bool _, rfl⟩
 case neq => exact ⟨_, by rw [binOp_neq]; rfl, .bool _, rfl⟩
 case lss => exact ⟨_, by rw [binOp_lss]; rfl, .bool _, rfl⟩
 case leq => exact ⟨_, by rw [binOp_leq]; rfl, .bool _, rfl⟩
 case gtr => exact ⟨_, by rw [binOp_gtr]; rfl, .bool _, rfl⟩
 case geq => exact ⟨_, by rw [binOp_geq]; rfl, .bool _, rfl⟩
theorem part_run {t : TypeId} {vs : List Value} {cs : List IV} {o : Nat} (hv : VRs μ F w vs cs) (ht : hasP P t = true) (hl : o + sizeP P t ≤ cs.length) (h1 : aggP P t = true ∨ sizeP P t = 1) :
  ∃ z, (part t vs.toArray o).run P w = .ok z w ∧ VR μ F w z (loadAt (aggP P t) (sizeP P t) cs o) := by
 obtain ⟨i, d, hi, hd, hs, hsz, hagg⟩ := hasP_spec ht
 unfold part
 cases ha : aggP P t with
 | true =>
  refine ⟨.agg ((vs.drop o).take (sizeP P t)).toArray, ?_, ?_⟩
  ·simp [hagg, ha, hsz, hs]
   try (apply Array.ext'; simp [List.take_drop, Nat.add_comm])
  ·simp only [loadAt, cond_true, cut]
   refine .agg _ _ (by simp [hv.1]) fun j v c e1 e2 => ?_
   rw [List.getElem?_take] at e1 e2
   split at e1
   ·rename_i hj
    rw [if_pos hj] at e2
    rw [List.getElem?_drop] at e1 e2
    exact hv.2 _ v c e1 e2
   ·cases e1
 | false =>
  have hsz1 : sizeP P t = 1 := by rcases h1 with h | h; rw [ha] at h; cases h; exact h
  have ho : o < cs.length := by omega
  have ho' : o < vs.length := by rw [hv.1]; exact ho
  refine ⟨vs[o], ?_, ?_⟩
  ·simp [hagg, ha, ho']
  ·simp only [loadAt, cond_false]
   exact hv.2 o _ _ (by simp [ho']) (by simp [List.getD, ho])
theorem kindsOK_length : ∀ {ks : List TypeDesc} {cs : List IV}, kindsOK ks cs = true → cs.length = ks.length
 | [], [], _ => rfl
 | .int _ :: ks, .int _ _ :: cs, h => by simp only [kindsOK, Bool.and_eq_true] at h; simp [kindsOK_length h.2]
 | .bool :: ks, .bool _ :: cs, h => by simp only [kindsOK] at h; simp [kindsOK_length h]
 | .string :: ks, .str _ :: cs, h => by simp only [kindsOK] at h; simp [kindsOK_length h]
theorem kindsOK_append : ∀ {ks ls : List TypeDesc} {cs : List IV}, kindsOK (ks ++ ls) cs = true → kindsOK ks (cs.take ks.length) = true ∧ kindsOK ls (cs.drop ks.length) = true
 | [], ls, cs, h => by simpa [kindsOK] using h
 | k :: ks, ls, c :: cs, h => by
  cases k <;> cases c <;> simp only [List.cons_append, kindsOK, Bool.and_eq_true, reduceCtorEq] at h
  ·have := kindsOK_append h; simpa [kindsOK] using this
  ·have := kindsOK_append h.2; simpa [kindsOK, h.1] using this
  ·have := kindsOK_append h; simpa [kindsOK] using this
 | k :: ks, ls, [], h => by cases k <;> simp [kindsOK] at h
theorem ceqs_append : ∀ {a b c d : List IV} {r : Bool}, a.length = b.length → ceqs (a ++ c) (b ++ d) = some r → ∃ p q, ceqs a b = some p ∧ ceqs c d = some q ∧ r = (p && q)
 | [], [], c, d, r, _, h => ⟨true, r, rfl, h, by simp⟩
 | x :: a, y :: b, c, d, r, hl, h => by
  simp only [List.cons_append, ceqs] at h
  cases hx : ceq x y with
  | none => rw [hx] at h; cases h
  | some p =>
   rw [hx] at h
   cases hr : ceqs (a ++ c) (b ++ d) with
   | none => rw [hr] at h; cases h
   | some q =>
    rw [hr] at h
    obtain ⟨p', q', h1, h2, h3⟩ := ceqs_append (by simpa using hl) hr
    cases h
    exact ⟨p && p', q', by simp [ceqs, hx, h1], h2, by rw [h3, Bool.and_assoc]⟩
def EqOK (P : Program) (μ : Mu) (F : Fz) (w : World) (d : Nat) (t : TypeId) (ks : List TypeDesc) : Prop :=
 ∀ (cs ds : List IV) (u v : Value) (r : Bool), kindsOK ks cs = true → kindsOK ks ds = true → VR μ F w u (mkV (aggP P t) cs) → VR μ F w v (mkV (aggP P t) ds) → ceqs cs ds = some r → (Op.equalIn d t u v).run P w = .ok r w
theorem sizeOK_spec {t : TypeId} {n : Nat} (h : sizeOK P t n = true) : sizeP P t = n := by
 unfold sizeOK at h
 unfold sizeP
 cases hi : P.info? t with
 | none => rw [hi] at h; cases h
 | some i => rw [hi] at h; simpa using h
theorem eq_part {d : Nat} {t : TypeId} {ks : List TypeDesc} {us vs : List Value} {cs ds : List IV} {o : Nat} {r : Bool} (hE : EqOK P μ F w d t ks) (hu : VRs μ F w us cs) (hv : VRs μ F w vs ds) (ht : hasP P t = true) (hsz : sizeP P t = ks.length)
  (h1 : aggP P t = true ∨ sizeP P t = 1) (hc : kindsOK ks ((cs.drop o).take ks.length) = true) (hd : kindsOK ks ((ds.drop o).take ks.length) = true) (hr : ceqs ((cs.drop o).take ks.length) ((ds.drop o).take ks.length) = some r) (ho : o + ks.length ≤ cs.length) (ho' : o + ks.length ≤ ds.length) :
  ∃ a b, (part t us.toArray o).run P w = .ok a w ∧ (part t vs.toArray o).run P w = .ok b w ∧ (Op.equalIn d t a b).run P w = .ok r w := by
 obtain ⟨a, a1, a2⟩ := part_run (o := o) hu ht (by omega) h1
 obtain ⟨b, b1, b2⟩ := part_run (o := o) hv ht (by omega) h1
 have key : ∀ (l : List IV), o + ks.length ≤ l.length → loadAt (aggP P t) (sizeP P t) l o = mkV (aggP P t) ((l.drop o).take ks.length) := fun l hl => by
  unfold loadAt mkV
  cases ha : aggP P t with
  | true => simp [cut, hsz]
  | false =>
   have : ks.length = 1 := by rw [ha] at h1; simpa [hsz] using h1
   rw [this]
   simp [List.getD]
 exact ⟨a, b, a1, b1, hE _ _ a b r hc hd (by rw [← key cs ho]; exact a2) (by rw [← key ds ho']; exact b2) hr⟩
theorem flat_one {d : Nat} {t : TypeId} {ks : List TypeDesc} (h : flatK P d t = some ks) (hs : sizeOK P t ks.length = true) : hasP P t = true ∧ (aggP P t = true ∨ sizeP P t = 1) := by
 have hsz := sizeOK_spec hs
 cases d with
 | zero => simp [flatK] at h
 | succ d =>
  unfold flatK at h
  have hi : (P.info? t).isSome = true := by
   unfold sizeOK at hs
   cases hi : P.info? t with
   | none => rw [hi] at hs; cases hs
   | some i => rfl
  cases hu : P.underlying t with
  | none => rw [hu] at h; cases h
  | some k =>
   refine ⟨by simp [hasP, hi, hu], ?_⟩
   rw [hu] at h
   cases k <;> simp only [Option.some.injEq, reduceCtorEq] at h
   case int => subst h; right; simpa using hsz
   case bool => subst h; right; simpa using hsz
   case string => subst h; right; simpa using hsz
   case struct => left; simp [aggP, hu]
   case array => left; simp [aggP, hu]
theorem eq_fields {d : Nat} {g : TypeId → Option (List TypeDesc)} {us vs : List Value} {cs ds : List IV} (hu : VRs μ F w us cs) (hv : VRs μ F w vs ds) (hg : ∀ t ks, g t = some ks → EqOK P μ F w d t ks) (hg2 : ∀ t ks, g t = some ks → sizeOK P t ks.length = true → hasP P t = true ∧ (aggP P t = true ∨ sizeP P t = 1)) :
  ∀ (fs : List Field) (off : Nat) (ks : List TypeDesc) (r : Bool), flatFs P g fs off = some ks → kindsOK ks (cs.drop off) = true → kindsOK ks (ds.drop off) = true → ceqs (cs.drop off) (ds.drop off) = some r → off ≤ cs.length → off ≤ ds.length →
   (Op.eqFields d us.toArray vs.toArray fs).run P w = .ok r w
 | [], off, ks, r, hf, hc, hd, hr, hoc, hod => by
  simp only [flatFs, Option.some.injEq] at hf
  subst hf
  have e1 := kindsOK_length hc
  have e2 := kindsOK_length hd
  rw [List.eq_nil_of_length_eq_zero e1, List.eq_nil_of_length_eq_zero e2] at hr
  cases hr
  simp [Op.eqFields]
 | f :: fs, off, ks, r, hf, hc, hd, hr, hoc, hod => by
  simp only [flatFs] at hf
  cases h1 : g f.type with
  | none => rw [h1] at hf; cases hf
  | some l =>
   rw [h1] at hf
   simp only at hf
   cases h2 : flatFs P g fs (off + l.length) with
   | none => rw [h2] at hf; cases hf
   | some l' =>
    rw [h2] at hf
    simp only at hf
    split at hf
    ·rename_i hcond
     obtain ⟨hn, hoff, hsz⟩ := hcond
     cases hf
     obtain ⟨c1, c2⟩ := kindsOK_append hc
     obtain ⟨d1, d2⟩ := kindsOK_append hd
     have lc := kindsOK_length hc
     have ld := kindsOK_length hd
     simp only [List.length_append, List.length_drop] at lc ld
     obtain ⟨hhas, hone⟩ := hg2 _ _ h1 hsz
     have e0 : cs.drop off = (cs.drop off).take l.length ++ cs.drop (off + l.length) := by rw [← List.drop_drop, List.take_append_drop]
     have e0' : ds.drop off = (ds.drop off).take l.length ++ ds.drop (off + l.length) := by rw [← List.drop_drop, List.take_append_drop]
     rw [e0, e0'] at hr
     obtain ⟨p, q, hp, hq, rfl⟩ := ceqs_append (by simp; omega) hr
     obtain ⟨a, b, a1, b1, ab⟩ := eq_part (hg _ _ h1) hu hv hhas (sizeOK_spec hsz) hone c1 d1 hp (by omega) (by omega)
     have ih := eq_fields hu hv hg hg2 fs (off + l.length) l' q h2 (by rw [← List.drop_drop]; exact c2) (by rw [← List.drop_drop]; exact d2) hq (by omega) (by omega)
     simp only [Op.eqFields]
     rw [if_pos hn, hoff]
     simp only [Sem.run_bind, a1, b1, ab, Result.andThen_ok]
     cases p with
     | false => simp
     | true => simpa using ih
    ·cases hf
theorem eq_items {d : Nat} {e : TypeId} {l : List TypeDesc} {us vs : List Value} {cs ds : List IV} (hu : VRs μ F w us cs) (hv : VRs μ F w vs ds) (hE : EqOK P μ F w d e l) (hhas : hasP P e = true) (hone : aggP P e = true ∨ sizeP P e = 1) (hsz : sizeP P e = l.length) :
  ∀ (n k : Nat) (r : Bool), kindsOK (List.replicate n l).flatten (cs.drop (k * l.length)) = true → kindsOK (List.replicate n l).flatten (ds.drop (k * l.length)) = true → ceqs (cs.drop (k * l.length)) (ds.drop (k * l.length)) = some r → k * l.length ≤ cs.length → k * l.length ≤ ds.length →
   (Op.eqItems d e (P.cellsOf e) us.toArray vs.toArray (List.range' k n)).run P w = .ok r w
 | 0, k, r, hc, hd, hr, hoc, hod => by
  simp only [List.replicate_zero, List.flatten_nil] at hc hd
  have e1 := kindsOK_length hc
  have e2 := kindsOK_length hd
  rw [List.eq_nil_of_length_eq_zero e1, List.eq_nil_of_length_eq_zero e2] at hr
  cases hr
  simp [Op.eqItems]
 | n + 1, k, r, hc, hd, hr, hoc, hod => by
  rw [List.replicate_succ, List.flatten_cons] at hc hd
  obtain ⟨c1, c2⟩ := kindsOK_append hc
  obtain ⟨d1, d2⟩ := kindsOK_append hd
  have lc := kindsOK_length hc
  have ld := kindsOK_length hd
  simp only [List.length_append, List.length_drop] at lc ld
  have e0 : cs.drop (k * l.length) = (cs.drop (k * l.length)).take l.length ++ cs.drop ((k + 1) * l.length) := by rw [Nat.add_mul, Nat.one_mul, ← List.drop_drop, List.take_append_drop]
  have e0' : ds.drop (k * l.length) = (ds.drop (k * l.length)).take l.length ++ ds.drop ((k + 1) * l.length) := by rw [Nat.add_mul, Nat.one_mul, ← List.drop_drop, List.take_append_drop]
  rw [e0, e0'] at hr
  obtain ⟨p, q, hp, hq, rfl⟩ := ceqs_append (by simp; omega) hr
  have hcell : P.cellsOf e = l.length := by
   rw [← hsz]; unfold Program.cellsOf sizeP; cases P.info? e <;> rfl
  obtain ⟨a, b, a1, b1, ab⟩ := eq_part hE hu hv hhas hsz hone c1 d1 hp (by omega) (by omega)
  have ih := eq_items hu hv hE hhas hone hsz n (k + 1) q (by rw [Nat.add_mul, Nat.one_mul, ← List.drop_drop]; exact c2) (by rw [Nat.add_mul, Nat.one_mul, ← List.drop_drop]; exact d2) hq (by rw [Nat.add_mul]; omega) (by rw [Nat.add_mul]; omega)
  rw [List.range'_succ]
  simp only [Op.eqItems, hcell, Sem.run_bind, a1, b1, ab, Result.andThen_ok]
  rw [hcell] at ih
  cases p with
  | false => simp
  | true => simpa using ih
theorem flat_eq : ∀ (k m : Nat) (t : TypeId) (ks : List TypeDesc), flatK P k t = some ks → EqOK P μ F w (m + k) t ks
 | 0, _, _, _, h => by simp [flatK] at h
 | k + 1, m, t, ks, h => by
  intro cs ds u v r hc hd hu hv hr
  have lc := kindsOK_length hc
  have ld := kindsOK_length hd
  unfold flatK at h
  cases hk : P.underlying t with
  | none => rw [hk] at h; cases h
  | some td =>
   rw [hk] at h
   cases td <;> simp only [Option.some.injEq, reduceCtorEq] at h
   case bool =>
    subst h
    have ha : aggP P t = false := by simp [aggP, hk]
    rw [ha] at hu hv
    obtain ⟨c, rfl⟩ := List.length_eq_one_iff.1 lc
    obtain ⟨e, rfl⟩ := List.length_eq_one_iff.1 ld
    cases c <;> simp only [kindsOK, reduceCtorEq] at hc
    cases e <;> simp only [kindsOK, reduceCtorEq] at hd
    cases hu; cases hv
    simp only [ceqs, ceq, Bool.and_true, Option.some.injEq] at hr
    subst hr
    exact run_equalIn_bool w (m + k) t _ _ hk
   case int q =>
    subst h
    have ha : aggP P t = false := by simp [aggP, hk]
    rw [ha] at hu hv
    obtain ⟨c, rfl⟩ := List.length_eq_one_iff.1 lc
    obtain ⟨e, rfl⟩ := List.length_eq_one_iff.1 ld
    cases c <;> simp only [kindsOK, reduceCtorEq] at hc
    cases e <;> simp only [kindsOK, reduceCtorEq] at hd
    simp only [Bool.and_true, beq_iff_eq] at hc hd
    subst hc; subst hd
    cases hu; cases hv
    simp only [ceqs, ceq, BEq.rfl, cond_true, Bool.and_true, Option.some.injEq] at hr
    subst hr
    exact run_equalIn_int w (m + k) t _ _ _ _ hk
   case string =>
    subst h
    have ha : aggP P t = false := by simp [aggP, hk]
    rw [ha] at hu hv
    obtain ⟨c, rfl⟩ := List.length_eq_one_iff.1 lc
    obtain ⟨e, rfl⟩ := List.length_eq_one_iff.1 ld
    cases c <;> simp only [kindsOK, reduceCtorEq] at hc
    cases e <;> simp only [kindsOK, reduceCtorEq] at hd
    cases hu; cases hv
    simp only [ceqs, ceq, Bool.and_true, Option.some.injEq] at hr
    subst hr
    show (Op.equalIn (m + k + 1) t _ _).run P w = _
    simp only [Op.equalIn, Sem.run_bind, run_underlying hk, Result.andThen_ok, Sem.run_pure]
   case struct fs =>
    split at h
    ·cases h
    ·rename_i hst
     have ha : aggP P t = true := by simp [aggP, hk]
     have hfo : P.fieldsOf t = fs := by simp [Program.fieldsOf, hk]
     rw [ha] at hu hv
     simp only [mkV, cond_true] at hu hv
     cases hu with
     | agg us _ l1 h1 =>
      cases hv with
      | agg vs _ l2 h2 =>
       show (Op.equalIn (m + k + 1) t _ _).run P w = _
       rw [run_equalIn_struct w (m + k) t _ _ (by rw [hfo]; exact hk) (by simpa using hst), hfo]
       exact eq_fields ⟨l1, h1⟩ ⟨l2, h2⟩ (fun t' ks' h' => flat_eq k m t' ks' h') (fun t' ks' h' hs' => flat_one h' hs') fs.toList 0 ks r h (by simpa using hc) (by simpa using hd) (by simpa using hr) (Nat.zero_le _) (Nat.zero_le _)
   case array n e =>
    cases he : flatK P k e with
    | none => rw [he] at h; cases h
    | some l =>
     rw [he] at h
     simp only at h
     split at h
     ·rename_i hs
      cases h
      have ha : aggP P t = true := by simp [aggP, hk]
      rw [ha] at hu hv
      simp only [mkV, cond_true] at hu hv
      obtain ⟨hhas, hone⟩ := flat_one he hs
      cases hi : P.info? e with
      | none => simp [sizeOK, hi] at hs
      | some i =>
       cases hu with
       | agg us _ l1 h1 =>
        cases hv with
        | agg vs _ l2 h2 =>
         show (Op.equalIn (m + k + 1) t _ _).run P w = _
         rw [run_equalIn_array w (m + k) _ _ hk hi, List.range_eq_range']
         exact eq_items ⟨l1, h1⟩ ⟨l2, h2⟩ (flat_eq k m e l he) hhas hone (sizeOK_spec hs) n 0 r (by simpa using hc) (by simpa using hd) (by simpa using hr) (by simp) (by simp)
     ·cases h
theorem equalIn_bool (d : Nat) {t : TypeId} (hu : P.underlying t = some .bool) (a b : Bool) (w : World) : (Op.equalIn (d + 1) t (.bool a) (.bool b)).run P w = .ok (a == b) w := by
 simp only [Op.equalIn, Sem.run_bind, run_underlying hu, Result.andThen_ok, Sem.run_pure]
theorem equal_bool {t : TypeId} (hu : P.underlying t = some .bool) (a b : Bool) (w : World) : (Op.equal t (.bool a) (.bool b)).run P w = .ok (a == b) w := equalIn_bool 9999 hu a b w
theorem equalIn_slice_nil (d : Nat) {t e : TypeId} (hu : P.underlying t = some (.slice e)) (a : Addr) (n c : Nat) (w : World) : (Op.equalIn (d + 1) t (.slice (some a) n c) (.slice none 0 0)).run P w = .ok false w := by
 simp only [Op.equalIn, Sem.run_bind, run_underlying hu, Result.andThen_ok, Sem.run_pure]
theorem equalIn_nil_nil (d : Nat) {t e : TypeId} (hu : P.underlying t = some (.slice e)) (w : World) : (Op.equalIn (d + 1) t (.slice none 0 0) (.slice none 0 0)).run P w = .ok true w := by
 simp only [Op.equalIn, Sem.run_bind, run_underlying hu, Result.andThen_ok, Sem.run_pure]
 rfl
theorem equal_slice_nil {t e : TypeId} (hu : P.underlying t = some (.slice e)) (a : Addr) (n c : Nat) (w : World) : (Op.equal t (.slice (some a) n c) (.slice none 0 0)).run P w = .ok false w := equalIn_slice_nil 9999 hu a n c w
theorem equal_nil_nil {t e : TypeId} (hu : P.underlying t = some (.slice e)) (w : World) : (Op.equal t (.slice none 0 0) (.slice none 0 0)).run P w = .ok true w := equalIn_nil_nil 9999 hu w
theorem equalIn_any_nil (d : Nat) {t e : TypeId} (hu : P.underlying t = some (.slice e)) (a : Option Addr) (n c : Nat) (w : World) : (Op.equalIn (d + 1) t (.slice a n c) (.slice none 0 0)).run P w = .ok a.isNone w := by
 simp only [Op.equalIn, Sem.run_bind, run_underlying hu, Result.andThen_ok, Sem.run_pure]
 cases a <;> rfl
theorem equal_any_nil {t e : TypeId} (hu : P.underlying t = some (.slice e)) (a : Option Addr) (n c : Nat) (w : World) : (Op.equal t (.slice a n c) (.slice none 0 0)).run P w = .ok a.isNone w := equalIn_any_nil 9999 hu a n c w
theorem eqGuard_of_slice {op : BinOp} {t : TypeId} {x y : Operand} {a b : Option Addr} {n c n' c' : Nat} : eqGuard op t x y (.slice a n c) (.slice b n' c') = pure () := by cases op <;> rfl
theorem bin_run {op : BinOp} {t : TypeId} {x y : Operand} {u v : Value} {a b : IV} {r : Out} (hx : VR μ F w u a) (hy : VR μ F w v b) (h : bin P op t a b = some r) (hp : r.pre) :
  ∃ z, (do eqGuard op t x y u v; binOp op t u v : Sem Value).run P w = .ok z w ∧ VR μ F w z r.v ∧ r.w = none := by
 unfold bin at h
 split at h
 ·rename_i k a k' b
  cases hx
  cases hy
  rw [eqGuard_at_int]
  simp only [Sem.run_bind, Sem.run_pure, Result.andThen_ok]
  split at h
  ·simp only [okIf, Option.some.injEq] at h; subst h
   have hb : ¬ b < 0 := by have : 0 ≤ b := hp; omega
   exact ⟨_, by rw [binOp_shl]; simp only [Op.shift, if_neg hb]; rfl, .int _ _, rfl⟩
  ·simp only [okIf, Option.some.injEq] at h; subst h
   have hb : ¬ b < 0 := by have : 0 ≤ b := hp; omega
   exact ⟨_, by rw [binOp_shr]; simp only [Op.shift, if_neg hb]; rfl, .int _ _, rfl⟩
  ·by_cases e : k = k'
   ·subst e
    simp only [BEq.rfl, cond_true] at h
    exact binI_run h hp w
   ·have : (k == k') = false := by simpa using e
    rw [this] at h; cases h
 ·rename_i a b
  cases hx
  cases hy
  rw [eqGuard_at_bool]
  simp only [Sem.run_bind, Sem.run_pure, Result.andThen_ok]
  split at h
  ·rename_i hu
   split at h
   ·simp only [ok, Option.some.injEq] at h; subst h
    exact ⟨.bool (a == b), by simp only [binOp, Sem.run_bind, equal_bool hu, Result.andThen_ok, Sem.run_pure], .bool _, rfl⟩
   ·simp only [ok, Option.some.injEq] at h; subst h
    exact ⟨.bool (a != b), by simp only [binOp, Sem.run_bind, equal_bool hu, Result.andThen_ok, Sem.run_pure]; rfl, .bool _, rfl⟩
   ·cases h
  ·cases h
 ·rename_i cs ds
  split at h
  ·rename_i ks hks
   cases hkk : (kindsOK ks cs && kindsOK ks ds) with
   | false => rw [hkk] at h; cases h
   | true =>
    rw [hkk] at h
    simp only [cond_true] at h
    simp only [Bool.and_eq_true] at hkk
    unfold flatP at hks
    split at hks
    ·rename_i hcond
     cases hr : ceqs cs ds with
     | none => rw [hr] at h; cases h
     | some b =>
      rw [hr] at h
      have heq : ∀ w', w' = w → (Op.equal t u v).run P w' = .ok b w' := fun w' hw' => by
       subst hw'
       have := flat_eq (μ := μ) (F := F) (w := w') 8 9992 t ks hks cs ds u v b hkk.1 hkk.2 (by rw [hcond.1]; exact hx) (by rw [hcond.1]; exact hy) hr
       exact this
      cases hx with
      | agg us _ l1 h1 =>
       cases hy with
       | agg vs _ l2 h2 =>
        have fin : ∀ hh : P.eqGuardType P.depth t = true, False := fun hh => by rw [hcond.2] at hh; cases hh
        cases op <;> simp only [ok, Option.some.injEq, reduceCtorEq] at h
        ·subst h
         have hg : (eqGuard .eql t x y (.agg us.toArray) (.agg vs.toArray)).run P w = .ok () w := by
          simp [eqGuard, run_program]
          intro hh; exact (fin hh).elim
         rw [Sem.run_bind, hg]
         simp only [Result.andThen_ok]
         exact ⟨.bool b, by simp only [binOp, Sem.run_bind, heq w rfl, Result.andThen_ok, Sem.run_pure], .bool _, by first | rfl | trivial⟩
        ·subst h
         have hg : (eqGuard .neq t x y (.agg us.toArray) (.agg vs.toArray)).run P w = .ok () w := by
          simp [eqGuard, run_program]
          intro hh; exact (fin hh).elim
         rw [Sem.run_bind, hg]
         simp only [Result.andThen_ok]
         exact ⟨.bool (!b), by simp only [binOp, Sem.run_bind, heq w rfl, Result.andThen_ok, Sem.run_pure], .bool _, by first | rfl | trivial⟩
    ·cases hks
  ·cases h
 ·rename_i s row rows
  split at h
  ·rename_i e hu
   cases hy
   generalize hrs : row :: rows = rs at hx
   cases hx with
   | fz0 => cases hrs
   | fz g off _ _ cap us hF hrow hcell hv hcap =>
    split at h
    ·simp only [ok, Option.some.injEq] at h; subst h
     refine ⟨.bool false, ?_, .bool _, rfl⟩
     rw [eqGuard_of_slice]
     simp only [Sem.run_bind, Sem.run_pure, Result.andThen_ok, binOp, equal_slice_nil hu]
    ·simp only [ok, Option.some.injEq] at h; subst h
     refine ⟨.bool true, ?_, .bool _, rfl⟩
     rw [eqGuard_of_slice]
     simp only [Sem.run_bind, Sem.run_pure, Result.andThen_ok, binOp, equal_slice_nil hu]
     rfl
    ·cases h
  ·cases h
 ·split at h
  ·rename_i e hu
   cases hx
   cases hy
   split at h
   ·simp only [ok, Option.some.injEq] at h; subst h
    refine ⟨.bool true, ?_, .bool _, rfl⟩
    rw [eqGuard_of_slice]
    simp only [Sem.run_bind, Sem.run_pure, Result.andThen_ok, binOp, equal_nil_nil hu]
   ·simp only [ok, Option.some.injEq] at h; subst h
    refine ⟨.bool false, ?_, .bool _, rfl⟩
    rw [eqGuard_of_slice]
    simp only [Sem.run_bind, Sem.run_pure, Result.andThen_ok, binOp, equal_nil_nil hu]
    rfl
   ·cases h
  ·cases h
 ·cases h
theorem un_run {op : UnOp} {u : Value} {a : IV} {r : Out} (hx : VR μ F w u a) (h : un op a = some r) : ∃ z, (Op.unary op u).run P w = .ok z w ∧ VR μ F w z r.v ∧ r.w = none := by
 unfold un at h
 split at h
 ·cases hx; simp only [ok, Option.some.injEq] at h; subst h
  exact ⟨_, rfl, .bool _, rfl⟩
 ·cases hx; simp only [ok, Option.some.injEq] at h; subst h
  exact ⟨_, rfl, .int _ _, rfl⟩
 ·cases h
theorem opsnd_vrs (hρ : ∀ x c, ρ x = some c → VR μ F w (ev x) c) : ∀ (l : List Operand) (cs : List IV), opsnd ρ l = some cs → VRs μ F w (l.map ev) cs
 | [], cs, h => by simp [opsnd] at h; subst h; exact ⟨rfl, by simp⟩
 | x :: l, cs, h => by
  simp only [opsnd] at h
  split at h
  ·rename_i a b h1 h2
   cases h
   have ih := opsnd_vrs hρ l b h2
   refine ⟨by simpa using ih.1, fun j v c e1 e2 => ?_⟩
   cases j with
   | zero => simp at e1 e2; subst e1; subst e2; exact hρ x _ h1
   | succ j => exact ih.2 j v c (by simpa using e1) (by simpa using e2)
  ·cases h
end
end Go.Idl
namespace Go.Idl
open Go.RowKit
section
variable {P : Program} {μ : Mu} {F : Fz} {w : World} {σ : Heap} {ev : Operand → Value} {ρ : Operand → Option IV}
theorem getD_eq {rows : List (List IV)} {i : Nat} (h : i < rows.length) : rows[i]? = some (rows.getD i []) := by
 simp [List.getD, h]
theorem fptr_row {v : Value} {s i o : Nat} {rows : List (List IV)} (h : VR μ F w v (.fptr s rows i o)) (hi : i < rows.length) :
  ∃ (g off : Nat) (us : Nat → Value), v = .pointer (some ⟨g, off + i * s + o, none⟩) ∧ (rows.getD i []).length = s ∧ (∀ j, j < s → w.cell? ⟨g, off + i * s + j, none⟩ = some (us j)) ∧ ∀ (j : Nat) (c : IV), (rows.getD i [])[j]? = some c → VR μ F w (us j) c := by
 cases h with
 | fptr g off _ _ _ _ us hF hrow hcell hv =>
  have := getD_eq hi
  exact ⟨g, off, us i, rfl, hrow i _ this, fun j hj => hcell i _ j this hj, fun j c e => hv i _ j c this e⟩
theorem ptr_row {v : Value} {b tot i o s : Nat} {rs : List (List IV)} (hH : HR μ F σ w) (hb : σ[b]? = some (.rows s rs)) (h : VR μ F w v (.ptr b tot i o)) (ht : tot = rs.length) (hi : i < rs.length) :
  ∃ g off cs T, v = .pointer (some ⟨g, off + i * s + o, none⟩) ∧ μ.u b ∧ μ.sz b = s ∧ μ.len b = rs.length ∧ μ.pl b = .at_ g off ∧ w.heap[g]? = some (.cells cs T (0, 0)) ∧ rs.length ≤ μ.cp b ∧ off + μ.cp b * s ≤ cs.size ∧
   (∀ (i : Nat) (row : List IV), rs[i]? = some row → row.length = s) ∧ (∀ (i : Nat) (row : List IV) (j : Nat) (c : IV), rs[i]? = some row → row[j]? = some c → ∃ v, cs[off + i * s + j]? = some v ∧ VR μ F w v c) := by
 obtain ⟨hu, hs, hsz, hlen, hrow, hcs⟩ := hH.obj b _ hb
 cases h with
 | ptr _ _ _ _ _ hk hb' ht' h =>
  rcases hcs with ⟨_, h0⟩ | ⟨g, off, cs, T, hpl, hg, hcp1, hcp2, hc⟩
  ·subst h0; simp at hi
  ·have := h (by omega)
   rw [hpl] at this
   simp only [PtrOK] at this
   rw [hsz] at this
   exact ⟨g, off, cs, T, this, hu, hsz, hlen, hpl, hg, hcp1, hcp2, hrow, hc⟩
theorem load_run {t : TypeId} {row : List IV} {g p : Nat} {o : Nat} {us : Nat → Value} {s : Nat} (ht : hasP P t = true) (h1 : aggP P t = true ∨ sizeP P t = 1) (hrow : row.length = s) (hl : o + sizeP P t ≤ s)
  (hc : ∀ j, j < s → w.cell? ⟨g, p + j, none⟩ = some (us j)) (hv : ∀ (j : Nat) (c : IV), row[j]? = some c → VR μ F w (us j) c) :
  ∃ z, (Instr.loadAt t (.pointer (some ⟨g, p + o, none⟩))).run P w = .ok z w ∧ VR μ F w z (loadAt (aggP P t) (sizeP P t) row o) := by
 obtain ⟨i, d, hi, hd, hs, hsz, hagg⟩ := hasP_spec ht
 cases ha : aggP P t with
 | true =>
  refine ⟨.agg ((List.range (sizeP P t)).map fun j => us (o + j)).toArray, ?_, ?_⟩
  ·have := run_loadCells (P := P) w ⟨g, p + o, none⟩ (sizeP P t) (fun j => us (o + j)) (fun j hj => by rw [Addr.add_lit, Nat.add_assoc]; exact hc _ (by omega))
   rw [hs] at this
   simp [Instr.loadAt, Instr.sureAddr, loadVar, hagg, ha, hsz, this, hs]
  ·simp only [loadAt, cond_true, cut]
   refine .agg _ _ (by simp; omega) fun j v c e1 e2 => ?_
   rw [List.getElem?_take] at e2
   split at e2
   ·rename_i hj
    rw [List.getElem?_drop] at e2
    simp [hj] at e1
    subst e1
    exact hv _ c e2
   ·cases e2
 | false =>
  have hsz1 : sizeP P t = 1 := by rcases h1 with h | h; rw [ha] at h; cases h; exact h
  have ho : o < row.length := by omega
  refine ⟨us o, ?_, ?_⟩
  ·simp [Instr.loadAt, Instr.sureAddr, loadVar, hagg, ha, hc o (by omega)]
  ·simp only [loadAt, cond_false]
   exact hv o _ (by simp [List.getD, ho])
theorem load_goes {t : TypeId} {x : Operand} {nb : Nat} {r : Out} {c : Bool} (hρ : ∀ x c, ρ x = some c → VR μ F w (ev x) c) (hH : HR μ F σ w) (h : iop P c (.load t x) ρ σ nb = some r) (hp : r.pre) :
  ∃ z, (Instr.loadAt t (ev x)).run P w = .ok z w ∧ VR μ F w z r.v ∧ r.w = none := by
 simp only [iop] at h
 cases hc : (hasP P t && (aggP P t || Nat.beq (sizeP P t) 1)) with
 | false => rw [hc] at h; cases h
 | true =>
  rw [hc] at h
  simp only [Bool.and_eq_true, Bool.or_eq_true, Nat.beq_eq] at hc
  obtain ⟨ht, h1⟩ := hc
  simp only [cond_true] at h
  split at h
  ·rename_i s rows i o e
   simp only [okIf, Option.some.injEq] at h; subst h
   obtain ⟨hi, hl⟩ := hp
   obtain ⟨g, off, us, hv, hrow, hcell, hvr⟩ := fptr_row (hρ x _ e) hi
   rw [hv]
   obtain ⟨z, z1, z2⟩ := load_run (us := us) ht h1 hrow hl hcell hvr
   exact ⟨z, z1, z2, rfl⟩
  ·rename_i b tot i o e
   split at h
   ·rename_i s rs hb
    simp only [okIf, Option.some.injEq] at h; subst h
    obtain ⟨htot, hi, hl⟩ := hp
    obtain ⟨g, off, cs, T, hv, hu, hsz, hlen, hpl, hg, hcp1, hcp2, hrow, hcs⟩ := ptr_row hH hb (hρ x _ e) htot hi
    rw [hv]
    have hrl := hrow i _ (getD_eq hi)
    obtain ⟨z, z1, z2⟩ := load_run (P := P) (μ := μ) (F := F) (w := w) (us := fun j => cs.getD (off + i * s + j) undef) (g := g) (p := off + i * s) ht h1 hrl hl (fun j hj => by
      have hj' : j < (rs.getD i []).length := by omega
      obtain ⟨v, v1, _⟩ := hcs i _ j _ (getD_eq hi) (List.getElem?_eq_getElem hj')
      rw [cell_of_row w g _ cs T (0, 0) hg, v1]
      simp [v1])
     (fun j c e => by
      obtain ⟨v, v1, v2⟩ := hcs i _ j c (getD_eq hi) e
      simpa [v1] using v2)
    exact ⟨z, z1, z2, rfl⟩
   ·cases h
  ·cases h
theorem field_goes {t : TypeId} {x : Operand} {f : Nat} {nb : Nat} {r : Out} {c : Bool} (hρ : ∀ x c, ρ x = some c → VR μ F w (ev x) c) (hH : HR μ F σ w) (h : iop P c (.fieldAddr t x f) ρ σ nb = some r) (hp : r.pre) :
  ∃ z, (Instr.fieldAt t (ev x) f).run P w = .ok z w ∧ VR μ F w z r.v ∧ r.w = none := by
 simp only [iop] at h
 split at h
 ·rename_i s rows i o fs e hu
  split at h
  ·rename_i fd hf
   cases hc : (hasP P fd.type && Nat.blt 0 (sizeP P fd.type)) with
   | false => rw [hc] at h; cases h
   | true =>
    rw [hc] at h
    simp only [Bool.and_eq_true, Nat.blt_eq] at hc
    obtain ⟨ht, hpos⟩ := hc
    simp only [cond_true, ok, Option.some.injEq] at h; subst h
    obtain ⟨it, d, hi, hd, hs, hsz, hagg⟩ := hasP_spec ht
    have hv := hρ x _ e
    generalize ev x = v at *
    cases hv with
    | fptr g off _ _ _ _ us hF hrow hcell hvr =>
     refine ⟨.pointer (some ⟨g, off + i * s + (o + fd.offset), none⟩), ?_, .fptr g off s rows i (o + fd.offset) us hF hrow hcell hvr, rfl⟩
     have hne : ¬ it.size = 0 := by omega
     have hf' : fs[f]? = some fd := by simpa using hf
     simp [Instr.fieldAt, run_underlying hu, hf', Instr.sureAddr, fieldPlace, hsz, hne, Addr.add_lit, Nat.add_assoc]
  ·cases h
 ·rename_i b tot i o fs e hu
  split at h
  ·rename_i fd s rs hf hb
   cases hc : (hasP P fd.type && Nat.blt 0 (sizeP P fd.type)) with
   | false => rw [hc] at h; cases h
   | true =>
    rw [hc] at h
    simp only [Bool.and_eq_true, Nat.blt_eq] at hc
    obtain ⟨ht, hpos⟩ := hc
    simp only [cond_true, okIf, Option.some.injEq] at h; subst h
    obtain ⟨htot, hi'⟩ := hp
    obtain ⟨it, d, hi, hd, hs, hsz, hagg⟩ := hasP_spec ht
    obtain ⟨g, off, cs, T, hv, hub, hszb, hlen, hpl, hg, hcp1, hcp2, hrow, hcs⟩ := ptr_row hH hb (hρ x _ e) htot hi'
    rw [hv]
    refine ⟨.pointer (some ⟨g, off + i * s + (o + fd.offset), none⟩), ?_, .ptr _ b tot i (o + fd.offset) rfl hub (by omega) (fun _ => by rw [hpl]; simp [PtrOK, hszb]), rfl⟩
    have hne : ¬ it.size = 0 := by omega
    have hf' : fs[f]? = some fd := by simpa using hf
    simp [Instr.fieldAt, run_underlying hu, hf', Instr.sureAddr, fieldPlace, hsz, hne, Addr.add_lit, Nat.add_assoc]
  ·cases h
 ·cases h
theorem index_goes {t : TypeId} {x y : Operand} {nb : Nat} {r : Out} {c : Bool} (hρ : ∀ x c, ρ x = some c → VR μ F w (ev x) c) (hH : HR μ F σ w) (h : iop P c (.indexAddr t x y) ρ σ nb = some r) (hp : r.pre) :
  ∃ z, (Instr.indexAt t (ev x) (ev y)).run P w = .ok z w ∧ VR μ F w z r.v ∧ r.w = none := by
 simp only [iop] at h
 split at h
 ·rename_i e s rows k n hu ex ey
  cases hc : (hasP P e && Nat.beq (sizeP P e) s) with
  | false => rw [hc] at h; cases h
  | true =>
   rw [hc] at h
   simp only [Bool.and_eq_true, Nat.beq_eq] at hc
   obtain ⟨ht, hse⟩ := hc
   simp only [cond_true, okIf, Option.some.injEq] at h; subst h
   obtain ⟨h0, h1⟩ := hp
   obtain ⟨it, d, hi, hd, hs, hsz, hagg⟩ := hasP_spec ht
   have hx := hρ x _ ex
   have hy := hρ y _ ey
   generalize ev x = v at *
   generalize ev y = u at *
   cases hy
   cases hx with
   | fz g off _ _ cap us hF hrow hcell hvr hcap =>
    refine ⟨.pointer (some ⟨g, off + n.toNat * s + 0, none⟩), ?_, .fptr g off s rows n.toNat 0 us hF hrow hcell hvr, rfl⟩
    have e2 : it.size = s := by omega
    simp [Instr.indexAt, run_underlying hu, asIntOf, h0, h1, hsz, Addr.add_lit, e2]
   | fz0 a cap _ => simp at h1; omega
 ·rename_i e b tot j len cap k n hu ex ey
  cases ht : hasP P e with
  | false => rw [ht] at h; cases h
  | true =>
   rw [ht] at h
   simp only [cond_true] at h
   split at h
   ·rename_i s rs hb
    cases hse : Nat.beq (sizeP P e) s with
    | false => rw [hse] at h; cases h
    | true =>
     rw [hse] at h
     rw [Nat.beq_eq] at hse
     simp only [cond_true, okIf, Option.some.injEq] at h; subst h
     obtain ⟨h0, h1, htot, hjl⟩ := hp
     obtain ⟨it, d, hi, hd, hs, hsz, hagg⟩ := hasP_spec ht
     obtain ⟨hub, hpos, hszb, hlen, hrow, hcs⟩ := hH.obj b _ hb
     have hx := hρ x _ ex
     have hy := hρ y _ ey
     generalize ev x = v at *
     generalize ev y = u at *
     cases hy
     cases hx with
     | sl _ _ _ _ _ _ hk hb' ht' hsl =>
      have hsl := hsl (by omega)
      rcases hcs with ⟨_, he⟩ | ⟨g, off, cs, T, hpl, hg, hcp1, hcp2, hc⟩
      ·subst he; simp at hjl; omega
      ·rw [hpl] at hsl
       obtain ⟨a, c', rfl, hle, _, ha, _⟩ := hsl
       have ha : a = some ⟨g, off + j * s, none⟩ := by
        rcases ha with h | h
        ·omega
        ·rw [hszb] at h; exact h
       subst ha
       refine ⟨.pointer (some ⟨g, off + (j + n.toNat) * s + 0, none⟩), ?_, .ptr _ b tot (j + n.toNat) 0 rfl hub (by omega) (fun _ => by rw [hpl]; simp [PtrOK, hszb]), rfl⟩
       have e2 : it.size = s := by omega
       simp [Instr.indexAt, run_underlying hu, asIntOf, h0, h1, hsz, Addr.add_lit, e2, Nat.add_mul, Nat.add_assoc]
   ·cases h
 ·rename_i len e s rows j o k n hu ex ey
  cases ht : hasP P e with
  | false => rw [ht] at h; cases h
  | true =>
   rw [ht] at h
   simp only [cond_true, okIf, Option.some.injEq] at h; subst h
   obtain ⟨h0, h1⟩ := hp
   obtain ⟨it, d, hi, hd, hs, hsz, hagg⟩ := hasP_spec ht
   have hx := hρ x _ ex
   have hy := hρ y _ ey
   generalize ev x = v at *
   generalize ev y = u at *
   cases hy
   cases hx with
   | fptr g off _ _ _ _ us hF hrow hcell hvr =>
    refine ⟨.pointer (some ⟨g, off + j * s + (o + n.toNat * sizeP P e), none⟩), ?_, .fptr g off s rows j _ us hF hrow hcell hvr, rfl⟩
    simp [Instr.indexAt, run_underlying hu, asIntOf, h0, h1, Instr.sureAddr, hsz, Addr.add_lit, hs, Nat.add_assoc]
 ·rename_i len e b tot j o k n hu ex ey
  split at h
  ·rename_i s rs hb
   cases ht : hasP P e with
   | false => rw [ht] at h; cases h
   | true =>
    rw [ht] at h
    simp only [cond_true, okIf, Option.some.injEq] at h; subst h
    obtain ⟨h0, h1, htot, hj⟩ := hp
    obtain ⟨it, d, hi, hd, hs, hsz, hagg⟩ := hasP_spec ht
    obtain ⟨g, off, cs, T, hv, hub, hszb, hlen, hpl, hg, hcp1, hcp2, hrow, hcs⟩ := ptr_row hH hb (hρ x _ ex) htot hj
    have hy := hρ y _ ey
    rw [hv]
    generalize ev y = u at *
    cases hy
    refine ⟨.pointer (some ⟨g, off + j * s + (o + n.toNat * sizeP P e), none⟩), ?_, .ptr _ b tot j _ rfl hub (by omega) (fun _ => by rw [hpl]; simp [PtrOK, hszb]), rfl⟩
    simp [Instr.indexAt, run_underlying hu, asIntOf, h0, h1, Instr.sureAddr, hsz, Addr.add_lit, hs, Nat.add_assoc]
  ·cases h
 ·cases h
end
end Go.Idl
