/- The symbolic walk's operations, as functions on symbolic values. No condition. -/
import Derived.Test.YtiibmnoikgfcbaaDoorX0
namespace Go.Sx
open Go.RowKit
set_option linter.unusedVariables false
set_option linter.unusedSimpArgs false

/-- An object of which only its word is known: what it says of the world, and which blocks it hangs on. -/
structure AO where
  rep : World → Hv → Prop
  fp : Hv → World → Nat → Prop
  inb : ∀ w hv k, rep w hv → fp hv w k → k < w.heap.size
  keep : ∀ w w' hv, rep w hv → w.heap.size ≤ w'.heap.size → (∀ k, fp hv w k → w'.heap[k]? = w.heap[k]?) → rep w' hv ∧ ∀ k, fp hv w' k → fp hv w k

/-- What lies behind a handle: a block of known cells; a row that is only read; a row of the call's own; a map; a word. -/
inductive SO where
  | cells (l : List SV) (t : TypeId)
  | row (sz n : Nat) (get : Nat → List SV)
  | own (t sz n : Nat) (get : Nat → List SV)
  | mp (es : List (SV × SV))
  | ab (A : AO)
  | rd (A : AO)

def denP (ρ : Vl) : List (SV × SV) → Option (List (Value × Value))
  | [] => some []
  | (k, v) :: l => match den ρ k, den ρ v, denP ρ l with | some x, some y, some z => some ((x, y) :: z) | _, _, _ => none

/-- Keys of maps are told apart by this. -/
def keyNe : Value → Value → Bool
  | .int _ a, .int _ b => a != b
  | .string a, .string b => a != b
  | .agg a, .agg b => a.size == b.size && (a.toList.zip b.toList).any fun | (.int _ x, .int _ y) => x != y | _ => false
  | _, _ => false

def MapRep (kvs : List (Value × Value)) (es : Array MapEntry) : Prop :=
  (es.toList.map fun e => (e.key, e.val)).Perm kvs ∧ kvs.Pairwise (fun a b => keyNe a.1 b.1 = true)

def RowRep (ρ : Vl) (w : World) (sz n : Nat) (get : Nat → List SV) (a : Option Addr) : Prop :=
  n ≤ maxLen ∧ (0 < n → ∃ ad, a = some ad ∧ ad.block < w.heap.size) ∧
    ∀ i, i < n → (get i).length = sz ∧ ∃ ad xs, a = some ad ∧ denL ρ (get i) = some xs ∧ ∀ j x, xs[j]? = some x → w.cell? (ad.add (i * sz + j)) = some x

def OwnRep (ρ : Vl) (w : World) (t sz n : Nat) (get : Nat → List SV) (v : Value) : Prop :=
  ∃ xs, w.ownsRow 0 t sz v n xs ∧ ∀ i, i < n → (get i).length = sz ∧ denL ρ (get i) = some ((xs.drop (i * sz)).take sz)

def SO.rep (ρ : Vl) (w : World) : SO → Hv → Prop
  | .cells l t, .blk b => ∃ cs, denL ρ l = some cs ∧ w.heap[b]? = some (.cells cs.toArray t (0, 0))
  | .row sz n get, .rw a n' c => (n' = n ∧ n ≤ c) ∧ RowRep ρ w sz n get a
  | .own t sz n get, .rw a n' c => n' = n ∧ OwnRep ρ w t sz n get (.slice a n c)
  | .mp es, .blk b => ∃ kvs en clk, denP ρ es = some kvs ∧ w.heap[b]? = some (.map en clk) ∧ MapRep kvs en
  | .ab A, hv => A.rep w hv
  | .rd A, hv => A.rep w hv
  | _, _ => False

def SO.fp (w : World) : SO → Hv → Nat → Prop
  | .cells .., .blk b, k => k = b
  | .mp _, .blk b, k => k = b
  | .row _ n _, .rw a _ _, k => 0 < n ∧ ∃ ad, a = some ad ∧ k = ad.block
  | .own .., .rw a _ _, k => ∃ ad, a = some ad ∧ k = ad.block
  | .ab A, hv, k => A.fp hv w k
  | .rd A, hv, k => A.fp hv w k
  | _, _, _ => False

def SO.mine : SO → Bool
  | .row .. => false
  | .rd _ => false
  | _ => true

/-! ### types -/
inductive TK where
  | bool
  | int (k : IntKind)
  | str
  | ptr (e : Nat)
  | slc (e : Nat)
  | arr (n e : Nat)
  | map (k e : Nat)
  | st (fs : List (Nat × Nat × Nat))
  | func
  | ifc
  | other
structure Ti where
  k : TK
  size : Nat
  bytes : Nat
  zero : List SV

def TK.agg : TK → Bool
  | .st _ | .arr .. => true
  | _ => false

/-- What is told of an operation. -/
inductive Out where
  | val (v : SV)
  | new (v : SV) (o : SO)
  | upd (v : Option SV) (h : Nat) (o : SO)
  | mv (v : SV) (h : Nat) (o : SO)
  | ob (p : Prop) (k : Out)
  | call (f : FuncId) (args : List SV)
  | pan (v : SV)
  | no (why : String)

/-- The kinds of cells that are compared. -/
inductive CK where
  | int (k : IntKind)
  | bool
  | str

structure Tab where
  ti : Nat → Option Ti
  eqs : Nat → Option (List CK)
  fns : Nat → Bool
  news : Nat → Bool
  inl : Nat → Option Func
  unr : Nat
  sum : FuncId → List SV → List (Nat × SO) → Nat → Option Out
  own : Nat → Bool

/-! ### operations -/
def cv1 : Value → SV
  | .int k z => .n k z
  | .bool b => .lb b
  | .string s => .ls s.data.toList
  | .pointer none => .nilp
  | .slice none 0 0 => .nils
  | .map none => .nilm
  | .nilFunc => .nilf
  | .nilIface => .nili
  | v => .q v
def cv : Value → SV
  | .agg cs => .ag (cs.toList.map cv1)
  | v => cv1 v

def cellsOf : SV → List SV
  | .ag l => l
  | .q v => v.cells.toList.map .q
  | v => [v]
def one : SV → Bool
  | .ag _ | .tu _ => false
  | .q v => v.oneCell'
  | _ => true
def allOne : List SV → Bool
  | [] => true
  | v :: l => one v && allOne l

/-- Whole numbers told apart from what is only known as a term. -/
def asI : SV → Option (IntKind × Int)
  | .n k z | .i k z => some (k, z)
  | _ => none
def asB : SV → Option Bool
  | .lb x | .b x => some x
  | _ => none

def bitI (op : BinOp) (k : IntKind) (x y : Int) : Int :=
  let a := BitVec.ofInt k.bits x
  let b := BitVec.ofInt k.bits y
  match op with
  | .and => k.wrap (a &&& b).toNat
  | .or => k.wrap (a ||| b).toNat
  | .xor => k.wrap (a ^^^ b).toNat
  | _ => k.wrap (a &&& ~~~b).toNat
def ltI : Int → Int → Bool
  | .ofNat a, .ofNat b => Nat.blt a b
  | .ofNat _, .negSucc _ => false
  | .negSucc _, .ofNat _ => true
  | .negSucc a, .negSucc b => Nat.blt b a
def eqI : Int → Int → Bool
  | .ofNat a, .ofNat b => Nat.beq a b
  | .negSucc a, .negSucc b => Nat.beq a b
  | _, _ => false
def arithI (op : BinOp) (x y : Int) : Int :=
  match op with
  | .add => x + y
  | .sub => x - y
  | _ => x * y

def xint (op : BinOp) (k : IntKind) (x y : Int) (lit ylit : Bool) : Out :=
  let mk (z : Int) : Out := match lit with | true => .val (.n k z) | false => .val (.i k z)
  match op with
  | .add | .sub | .mul => mk (k.wrap (arithI op x y))
  | .and | .or | .xor | .andNot => mk (bitI op k x y)
  | .quo => match ylit with
    | true => match eqI y 0 with | true => .no "division by nought" | false => mk (k.wrap (x.tdiv y))
    | false => .ob (y ≠ 0) (mk (k.wrap (x.tdiv y)))
  | .rem => match ylit with
    | true => match eqI y 0 with | true => .no "division by nought" | false => mk (x.tmod y)
    | false => .ob (y ≠ 0) (mk (x.tmod y))
  | .shl => match ylit with
    | true => match ltI y 0 with | true => .no "a shift below nought" | false => mk (k.wrap (x * 2 ^ min y.toNat k.bits))
    | false => .ob (0 ≤ y) (mk (k.wrap (x * 2 ^ min y.toNat k.bits)))
  | .shr => match ylit with
    | true => match ltI y 0 with | true => .no "a shift below nought" | false => mk (x.fdiv (2 ^ min y.toNat k.bits))
    | false => .ob (0 ≤ y) (mk (x.fdiv (2 ^ min y.toNat k.bits)))
  | .eql => match lit with | true => .val (.lb (eqI x y)) | false => .val (.b (x == y))
  | .neq => match lit with | true => .val (.lb (!(eqI x y))) | false => .val (.b (x != y))
  | .lss => match lit with | true => .val (.lb (ltI x y)) | false => .val (.b (decide (x < y)))
  | .leq => match lit with | true => .val (.lb (!(ltI y x))) | false => .val (.b (decide (x ≤ y)))
  | .gtr => match lit with | true => .val (.lb (ltI y x)) | false => .val (.b (decide (x > y)))
  | .geq => match lit with | true => .val (.lb (!(ltI x y))) | false => .val (.b (decide (x ≥ y)))

def kNo : IntKind → Nat
  | .i8 => 0 | .i16 => 1 | .i32 => 2 | .i64 => 3 | .u8 => 4 | .u16 => 5 | .u32 => 6 | .u64 => 7
def kEq (a b : IntKind) : Bool := Nat.beq (kNo a) (kNo b)

def eqCell (c : CK) (x y : SV) : Option Bool :=
  match c with
  | .int k => match asI x, asI y with
    | some (j, a), some (j', b) => match kEq j k && kEq j' k with | true => some (a == b) | false => none
    | _, _ => none
  | .bool => match asB x, asB y with | some a, some b => some (a == b) | _, _ => none
  | .str => match unls x, unls y with | .s a, .s b => some (a == b) | _, _ => none
/-- Are two rows of cells the same? -/
def eqCells : List CK → List SV → List SV → Option Bool
  | [], [], [] => some true
  | c :: cs, x :: l, y :: l' => match eqCell c x y, eqCells cs l l' with
    | some a, some r => some (a && r)
    | _, _ => none
  | _, _, _ => none

/-- Held against nil. -/
def nilCmp (k : TK) (x y : SV) : Option Bool :=
  match k, x, y with
  | .ptr _, .nilp, .nilp => some true
  | .ptr _, .nilp, .p .. | .ptr _, .nilp, .pr .. | .ptr _, .p .., .nilp | .ptr _, .pr .., .nilp => some false
  | .slc _, .nils, .nils => some true
  | .slc _, .nils, .sl .. | .slc _, .sl .., .nils => some false
  | .map .., .nilm, .nilm => some true
  | .map .., .nilm, .m _ | .map .., .m _, .nilm => some false
  | .func, .nilf, .nilf => some true
  | .func, .nilf, .f .. | .func, .f .., .nilf => some false
  | .ifc, .nili, .ifc .. | .ifc, .ifc .., .nili => some false
  | _, _, _ => none

def kindsFit (op : BinOp) (k k' : IntKind) : Bool :=
  match op with
  | .shl | .shr => true
  | _ => kEq k k'

def xbin0 (tb : Tab) (op : BinOp) (t : Nat) (x y : SV) : Out :=
  match x, y with
  | .n k a, .n k' b => match kindsFit op k k' with | true => xint op k a b true true | false => .no "kinds"
  | .n k a, .i k' b => match kindsFit op k k' with | true => xint op k a b false false | false => .no "kinds"
  | .i k a, .n k' b => match kindsFit op k k' with | true => xint op k a b false true | false => .no "kinds"
  | .i k a, .i k' b => match kindsFit op k k' with | true => xint op k a b false false | false => .no "kinds"
  | .s a, .s b => match op with
    | .add => .ob (a.size + b.size ≤ 9223372036854775807) (.val (.s (a ++ b)))
    | .eql => .val (.b (a.toList == b.toList))
    | .neq => .val (.b (!(a.toList == b.toList)))
    | _ => .no "an operator on texts"
  | x, y => match asB x, asB y with
    | some a, some b => match (tb.ti t).map Ti.k, op with
      | some .bool, .eql => .val (.b (a == b))
      | some .bool, .neq => .val (.b (!(a == b)))
      | _, _ => .no "an operator on truths"
    | _, _ => match x, y with
      | .ag l, .ag l' => match (tb.eqs t).bind fun cs => eqCells cs l l' with
        | some r => match op with | .eql => .val (.b r) | .neq => .val (.b (!r)) | _ => .no "an operator on structs"
        | none => .no "structs compared"
      | x, y => match tb.ti t with
        | some i => match nilCmp i.k x y with
          | some r => match op with | .eql => .val (.lb r) | .neq => .val (.lb (!r)) | _ => .no "an operator on nil"
          | none => .no "operands of an operator"
        | none => .no "a type"

def xbin (tb : Tab) (op : BinOp) (t : Nat) (x y : SV) : Out := xbin0 tb op t (unls x) (unls y)

def xun (op : UnOp) (x : SV) : Out :=
  match op, x with
  | .not, .lb true => .val (.lb false)
  | .not, .lb false => .val (.lb true)
  | .not, .b x => .val (.b (!x))
  | .neg, .n k z => .val (.n k (k.wrap (0 - z)))
  | .neg, .i k z => .val (.i k (k.wrap (0 - z)))
  | _, _ => .no "an operator of one operand"

def splice (l : List SV) (o : Nat) (v : List SV) : List SV := l.take o ++ (v ++ l.drop (o + v.length))

/-- Parts laid into a row of noughts. -/
def fillS (z : List SV) : List (Nat × Nat × SV) → Option (List SV)
  | [] => some z
  | (off, size, v) :: r => match Nat.beq (cellsOf v).length size && Nat.ble (off + size) z.length with
    | true => fillS (splice z off (cellsOf v)) r
    | false => none

def partsOf (fs : List (Nat × Nat × Nat)) (e : Operand → Option SV) : List (Nat × Operand) → Option (List (Nat × Nat × SV))
  | [] => some []
  | (i, x) :: r => match fs[i]?, e x, partsOf fs e r with
    | some (_, off, sz), some v, some l => some ((off, sz, v) :: l)
    | _, _, _ => none
def partsAt (sz : Nat) (e : Operand → Option SV) : List (Nat × Operand) → Option (List (Nat × Nat × SV))
  | [] => some []
  | (i, x) :: r => match e x, partsAt sz e r with
    | some v, some l => some ((i * sz, sz, v) :: l)
    | _, _ => none
def zeros (z : List SV) : Nat → List SV
  | 0 => []
  | n + 1 => z ++ zeros z n
def evL (e : Operand → Option SV) : List Operand → Option (List SV)
  | [] => some []
  | x :: r => match e x, evL e r with
    | some v, some l => some (v :: l)
    | _, _ => none

/-- A known number that counts: below 2^63, not below nought. -/
def asN : SV → Option Nat
  | .n _ (.ofNat a) => some a
  | _ => none

def xload (i : Ti) (H : List (Nat × SO)) (h o : Nat) : Out :=
  match lk h H with
  | some (.cells l _) => match i.k.agg with
    | true => match Nat.ble (o + i.size) l.length with
      | true => .val (.ag ((l.drop o).take i.size))
      | false => .no "a load beyond the block"
    | false => match l[o]? with | some v => .val v | none => .no "a load beyond the block"
  | _ => .no "a load of no block of cells"

def xstore (i : Ti) (H : List (Nat × SO)) (h o : Nat) (v : SV) : Out :=
  match lk h H with
  | some (.cells l t) => match Nat.beq (cellsOf v).length i.size && (Nat.ble (o + i.size) l.length && allOne (cellsOf v)) with
    | true => .upd none h (.cells (splice l o (cellsOf v)) t)
    | false => .no "a store that does not fit"
  | _ => .no "a store into no block of cells"

def xloadR (i : Ti) (H : List (Nat × SO)) (h j sz o : Nat) : Out :=
  match lk h H with
  | some (.row sz' n get) | some (.own _ sz' n get) => match Nat.beq sz sz' with
    | true => match i.k.agg with
      | true => match Nat.ble (o + i.size) sz with
        | true => .ob (j < n) (.val (.ag (((get j).drop o).take i.size)))
        | false => .no "a load beyond an element"
      | false => match (get j)[o]? with | some v => .ob (j < n) (.val v) | none => .no "a load beyond an element"
    | false => .no "an element's size"
  | _ => .no "a load of no row"

/-- A row of the call's own, written at one place. -/
def xstoreR (i : Ti) (H : List (Nat × SO)) (h j sz o : Nat) (v : SV) : Out :=
  match lk h H with
  | some (.own t sz' n get) => match Nat.beq sz sz' && (Nat.beq (cellsOf v).length i.size && (Nat.ble (o + i.size) sz && allOne (cellsOf v))) with
    | true => .ob (j < n) (.upd none h (.own t sz' n fun k => bif Nat.beq k j then splice (get j) o (cellsOf v) else get k))
    | false => .no "a store that does not fit"
  | _ => .no "a store into no row of its own"

def rowOf : SO → Option (Nat × Nat × (Nat → List SV))
  | .row sz n get => some (sz, n, get)
  | .own _ sz n get => some (sz, n, get)
  | _ => none

def tlen (tb : Tab) (H : List (Nat × SO)) (t : Nat) (x : SV) : Out :=
  match tb.ti t with
  | some i => match i.k, x with
    | .str, .s s => .val (.i .i64 s.size)
    | .str, .ls l => .val (.n .i64 (Int.ofNat l.length))
    | .slc _, .nils => .val (.n .i64 0)
    | .slc _, .sl _ _ n _ => .val (.n .i64 (Int.ofNat n))
    | .slc _, .rs _ _ n _ => .val (.i .i64 n)
    | .slc _, .r h => match lk h H with
      | some (.row _ n _) => .val (.i .i64 n)
      | some (.own _ _ n _) => .val (.i .i64 n)
      | _ => .no "the length of no row"
    | _, _ => .no "a length"
  | none => .no "a type"

def xfield (fs : List (Nat × Nat × Nat)) (x : SV) (i : Nat) : Out :=
  match fs[i]? with
  | some (t, off, _) => match x with
    | .p h o => .val (.p h (o + off))
    | .pr h j sz o => .val (.pr h j sz (o + off))
    | _ => .no "a field of no address"
  | none => .no "no such field"

/-! ### rows as sources -/
def byteAt : List SV → UInt8
  | [.i _ x] => x.toNat.toUInt8
  | [.n _ x] => x.toNat.toUInt8
  | _ => 0
/-- The text of a row of bytes. -/
def bytesOf (n : Nat) (get : Nat → List SV) : ByteArray := ⟨((List.range n).map fun i => byteAt (get i)).toArray⟩
def BytesG (n : Nat) (get : Nat → List SV) : Prop := ∀ i, i < n → ∃ z : Nat, z < 256 ∧ (get i = [.i .u8 (z : Int)] ∨ get i = [.n .u8 (z : Int)])
def OneG (n : Nat) (get : Nat → List SV) : Prop := ∀ i, i < n → allOne (get i) = true
/-- Two rows, one behind the other. -/
def catG (n : Nat) (g g' : Nat → List SV) : Nat → List SV := fun i => bif Nat.blt i n then g i else g' (i - n)

def srcOf (H : List (Nat × SO)) (sz : Nat) : SV → Option (Prop × Nat × (Nat → List SV))
  | .nils => some (True, 0, fun _ => [])
  | .r h => match (lk h H).bind rowOf with
    | some (s, n, g) => match Nat.beq s sz with | true => some (True, n, g) | false => none
    | none => none
  | .rs h lo m s' => match (lk h H).bind rowOf with
    | some (s, n, g) => match Nat.beq s sz && Nat.beq s' sz with | true => some (lo + m ≤ n, m, fun i => g (lo + i)) | false => none
    | none => none
  | .sl h o n c => match lk h H with
    | some (.cells l _) => match Nat.ble (o + n * sz) l.length with | true => some (True, n, fun i => (l.drop (o + i * sz)).take sz) | false => none
    | _ => none
  | _ => none

/-- What may be grown: how many, what, whose. -/
def ownOf (H : List (Nat × SO)) (el sz : Nat) : SV → Option (Nat × (Nat → List SV) × Option Nat)
  | .nils => some (0, fun _ => [], none)
  | .r h => match lk h H with
    | some (.own t s n g) => match Nat.beq t el && Nat.beq s sz with | true => some (n, g, some h) | false => none
    | _ => none
  | .sl h o n c => match lk h H with
    | some (.cells l t) => match Nat.beq o 0 && (Nat.beq t el && (Nat.beq l.length (c * sz) && (Nat.ble n c && Nat.ble c 16777216))) with
      | true => some (n, (fun i => (l.drop (i * sz)).take sz), some h)
      | false => none
    | _ => none
  | _ => none

def xappend (tb : Tab) (H : List (Nat × SO)) (nx t : Nat) (x y : SV) : Out :=
  match tb.ti t with
  | some i => match i.k with
    | .slc el => match tb.ti el with
      | some ei => match Nat.blt 0 ei.size, ownOf H el ei.size x, srcOf H ei.size y with
        | true, some (n, g, h), some (p, m, g') => match y with
          | .nils => .val x
          | .r h' | .rs h' .. | .sl h' .. => match h with
            | some h => match Nat.beq h h' with
              | true => .no "a row behind itself"
              | false => .ob (p ∧ OneG m g' ∧ (n + m) * 1 ≤ 9223372036854775807 ∧ (n + m) * ei.bytes ≤ 140737488355328) (.mv (.r nx) h (.own el ei.size (n + m) (catG n g g')))
            | none => .ob (p ∧ OneG m g' ∧ m * 1 ≤ 9223372036854775807 ∧ m * ei.bytes ≤ 140737488355328) (.new (.r nx) (.own el ei.size m g'))
          | _ => .no "append"
        | _, _, _ => .no "append"
      | none => .no "a type"
    | _ => .no "append"
  | none => .no "a type"

def xconv (tb : Tab) (H : List (Nat × SO)) (src dst : Nat) (x : SV) : Out :=
  match tb.ti src, tb.ti dst with
  | some i, some j => match i.k, j.k with
    | .slc el, .str => match tb.ti el with
      | some ei => match ei.k with
        | .int .u8 => match srcOf H 1 x with
          | some (p, n, g) => .ob (p ∧ BytesG n g) (.val (.s (bytesOf n g)))
          | none => .no "a text of no row"
        | _ => .no "a conversion"
      | none => .no "a type"
    | _, _ => .no "a conversion"
  | _, _ => .no "a type"

def bnd (d : Int) (e : Operand → Option SV) : Option Operand → Option Int
  | none => some d
  | some o => match e o with | some v => (asI v).map (·.2) | none => none

def xslice (tb : Tab) (H : List (Nat × SO)) (e : Operand → Option SV) (t : Nat) (x : SV) (lo hi : Option Operand) : Out :=
  match tb.ti t with
  | some i => match i.k, x with
    | .str, .s s => match bnd 0 e lo, bnd s.size e hi with
      | some l, some h => .ob (0 ≤ l ∧ l ≤ h ∧ h ≤ s.size) (.val (.s (s.extract l.toNat h.toNat)))
      | _, _ => .no "a bound"
    | .slc el, .r g => match tb.ti el, (lk g H).bind rowOf with
      | some ei, some (sz, n, _) => match Nat.beq ei.size sz, bnd 0 e lo, bnd n e hi with
        | true, some l, some h => .ob (0 ≤ l ∧ l ≤ h ∧ h ≤ n) (.val (.rs g l.toNat (h.toNat - l.toNat) sz))
        | _, _, _ => .no "a bound"
      | _, _ => .no "a slice of no row"
    | .slc el, .rs g 0 m sz' => match tb.ti el, (lk g H).bind rowOf with
      | some ei, some (sz, n, _) => match Nat.beq ei.size sz && Nat.beq sz' sz, bnd 0 e lo, bnd m e hi with
        | true, some l, some h => .ob (0 ≤ l ∧ l ≤ h ∧ h ≤ n) (.val (.rs g l.toNat (h.toNat - l.toNat) sz))
        | _, _, _ => .no "a bound"
      | _, _ => .no "a slice of no row"
    | .slc el, .sl g o n c => match tb.ti el, bnd 0 e lo, bnd n e hi with
      | some ei, some (.ofNat l), some (.ofNat h) => match Nat.ble l h && Nat.ble h c with
        | true => .val (.sl g (bif Nat.beq c l then o else o + l * ei.size) (h - l) (c - l))
        | false => .no "a bound"
      | _, _, _ => .no "a bound"
    | .arr n el, .p g o => match tb.ti el, bnd 0 e lo, bnd n e hi with
      | some ei, some (.ofNat l), some (.ofNat h) => match Nat.ble l h && Nat.ble h n with
        | true => .val (.sl g (bif Nat.beq n l then o else o + l * ei.size) (h - l) (n - l))
        | false => .no "a bound"
      | _, _, _ => .no "a bound"
    | _, _ => .no "a slice"
  | none => .no "a type"

/-! ### maps -/
def iteV (b : Bool) (x y : SV) : Option SV :=
  match asI x, asI y with
  | some (k, x), some (k', y) => match kEq k k' with | true => some (.i k (bif b then x else y)) | false => none
  | _, _ => none
def eqKey (cs : Option (List CK)) (x y : SV) : Option Bool :=
  match x, y with
  | .ag l, .ag l' => match cs with | some cs => eqCells cs l l' | none => none
  | x, y => match asI x, asI y with
    | some (k, a), some (k', b) => match kEq k k' with | true => some (a == b) | false => none
    | _, _ => none
/-- What stands at a key that is a number. -/
def atLit (k : IntKind) (z : Int) : List (SV × SV) → Option (Option SV)
  | [] => some none
  | (.n k' y, v) :: r => match kEq k k' with
    | true => match eqI z y with | true => some (some v) | false => atLit k z r
    | false => none
  | _ => none
/-- A number that is no key. -/
def absent (x : Int) : List (SV × SV) → Prop
  | [] => True
  | (.n _ z, _) :: r => x ≠ z ∧ absent x r
  | _ => False
/-- Every key is a known number of a kind. -/
def intKeys (k : IntKind) : List (SV × SV) → Bool
  | [] => true
  | (.n k' _, _) :: r => kEq k k' && intKeys k r
  | _ => false
def atSym (cs : Option (List CK)) (x : SV) (zero : SV) : List (SV × SV) → Option (SV × Bool)
  | [] => some (zero, false)
  | (k, v) :: r => match eqKey cs x k, atSym cs x zero r with
    | some b, some (v', b') => match iteV b v v' with
      | some u => some (u, bif b then true else b')
      | none => none
    | _, _ => none

def zeroSV (i : Ti) : Option SV := match i.k.agg with | true => some (.ag i.zero) | false => match i.zero with | [v] => some v | _ => none

def xlookup (tb : Tab) (H : List (Nat × SO)) (t : Nat) (x key : SV) (ok : Bool) : Out :=
  match tb.ti t with
  | some i => match i.k, x with
    | .map kt et, .m h => match lk h H, tb.ti et, tb.ti kt with
      | some (.mp es), some ei, some ki => match zeroSV ei with
        | some zero => match ki.k, key with
          | .int k', .n k z => match kEq k k' && intKeys k es, atLit k z es, ok with
            | true, some (some v), true => .val (.tu [v, .lb true])
            | true, some (some v), false => .val v
            | true, some none, true => .val (.tu [zero, .lb false])
            | true, some none, false => .val zero
            | _, _, _ => .no "a key"
          | .int k', .i k x => match kEq k k' && intKeys k es, ok with
            | true, true => .ob (absent x es) (.val (.tu [zero, .lb false]))
            | true, false => .ob (absent x es) (.val zero)
            | _, _ => .no "a key"
          | .st _, .ag l => match es, tb.eqs kt with
            | _ :: _, some cs => match atSym (some cs) (.ag l) zero es with
              | some (v, b) => match ok with
                | true => .val (.tu [v, .b b])
                | false => .val v
              | none => .no "a key"
            | _, _ => .no "a key"
          | _, _ => .no "a key"
        | none => .no "a zero"
      | _, _, _ => .no "a map"
    | _, _ => .no "a map"
  | none => .no "a type"

/-- No key of the map is this number. -/
def freshLit (k : IntKind) (z : Int) : List (SV × SV) → Bool
  | [] => true
  | (.n k' y, _) :: r => kEq k k' && (!(eqI z y) && freshLit k z r)
  | _ => false
def xinsert (tb : Tab) (H : List (Nat × SO)) (t : Nat) (x key v : SV) : Out :=
  match tb.ti t with
  | some i => match i.k, x with
    | .map kt et, .m h => match lk h H, tb.ti kt with
      | some (.mp es), some ki => match ki.k, key with
        | .int k', .n k z => match kEq k k' && freshLit k z es with
          | true => .upd none h (.mp ((.n k z, v) :: es))
          | false => .no "a key"
        | _, _ => .no "a key"
      | _, _ => .no "a map"
    | _, _ => .no "a map"
  | none => .no "a type"

def xmake (tb : Tab) (nx t : Nat) (l c : SV) : Out :=
  match tb.ti t with
  | some i => match i.k with
    | .slc el => match tb.ti el, l, c with
      | some ei, .n _ (.ofNat l), .n _ (.ofNat c) => match Nat.ble l c && (Nat.ble (c * ei.size) 16777216 && (Nat.ble c 16777216 && Nat.ble (ei.bytes * c) 281474976710656)) with
        | true => .new (.sl nx 0 l c) (.cells (zeros ei.zero c) el)
        | false => .no "make"
      | _, _, _ => .no "make"
    | _ => .no "make"
  | none => .no "a type"

def minmax (f : Int → Int → Int) (x y : SV) : Out :=
  match asI x, asI y with
  | some (k, a), some (k', b) => match kEq k k' with | true => .val (.i k (f a b)) | false => .no "kinds"
  | _, _ => .no "min or max"

def xmore (tb : Tab) (H : List (Nat × SO)) (nx : Nat) (e : Operand → Option SV) : Op → Out
  | .slice t x lo hi none => match e x with | some x => xslice tb H e t (unls x) lo hi | none => .no "a slice"
  | .lookup t x k ok => match e x, e k with | some x, some k => xlookup tb H t x k ok | _, _ => .no "a lookup"
  | .insert t m k x => match e m, e k, e x with | some m, some k, some x => xinsert tb H t m k x | _, _, _ => .no "an insertion"
  | .makeSlice t l c => match e l, e c with | some l, some c => xmake tb nx t l c | _, _ => .no "make"
  | .call c => match c.callee, c.args.toList, c.argTypes.toList with
    | .builtin .append, [x, y], [t, t'] => match e x, e y, Nat.beq t t' with | some x, some y, true => xappend tb H nx t x y | _, _, _ => .no "append"
    | .builtin .min, [x, y], _ => match e x, e y with | some x, some y => minmax min x y | _, _ => .no "min"
    | .builtin .max, [x, y], _ => match e x, e y with | some x, some y => minmax max x y | _, _ => .no "max"
    | _, _, _ => .no "a call"
  | _ => .no "an operation"

def xop (tb : Tab) (H : List (Nat × SO)) (nx : Nat) (e : Operand → Option SV) (o : Op) : Out :=
  match o with
  | .move x | .assign x => match e x with | some v => .val v | none => .no "a move"
  | .alloc t => match tb.ti t with | some i => .new (.p nx 0) (.cells i.zero t) | none => .no "a type"
  | .box t x => match e x with | some v => .new (.p nx 0) (.cells (cellsOf v) t) | none => .no "a box"
  | .build t parts => match tb.ti t with
    | some i => match i.k with
      | .st fs => match partsOf fs e parts.toList with
        | some l => match fillS i.zero l with | some c => .val (.ag c) | none => .no "a part that does not fit"
        | none => .no "parts"
      | .arr n el => match tb.ti el with
        | some j => match partsAt j.size e parts.toList with
          | some l => match fillS i.zero l with | some c => .val (.ag c) | none => .no "a part that does not fit"
          | none => .no "parts"
        | none => .no "a type"
      | _ => .no "build"
    | none => .no "a type"
  | .buildSlice t len parts => match tb.ti t with
    | some i => match i.k with
      | .slc el => match tb.ti el with
        | some j => match partsAt j.size e parts.toList with
          | some l => match Nat.ble (len * j.size) 16777216, fillS (zeros j.zero len) l with
            | true, some c => .new (.sl nx 0 len len) (.cells c el)
            | _, _ => .no "a part that does not fit"
          | none => .no "parts"
        | none => .no "a type"
      | _ => .no "buildSlice"
    | none => .no "a type"
  | .load t x => match e x, tb.ti t with
    | some (.p h o), some i => xload i H h o
    | some (.pr h j sz o), some i => xloadR i H h j sz o
    | _, _ => .no "a load"
  | .store t x v => match e x, e v, tb.ti t with
    | some (.p h o), some v, some i => xstore i H h o v
    | some (.pr h j sz o), some v, some i => xstoreR i H h j sz o v
    | _, _, _ => .no "a store"
  | .nilCheck x => match e x with
    | some (.p h o) => .val (.p h o)
    | some (.pr h j sz o) => .val (.pr h j sz o)
    | _ => .no "a nil check"
  | .binOp op t x y _ => match e x, e y with
    | some a, some b => xbin tb op t a b
    | _, _ => .no "operands"
  | .unOp op _ x => match e x with | some a => xun op a | none => .no "an operand"
  | .convert src dst x => match e x, tb.ti src, tb.ti dst with
    | some (.n _ z), some _, some i => match i.k with | .int k => .val (.n k (k.wrap z)) | _ => .no "a conversion"
    | some (.i _ z), some _, some i => match i.k with | .int k => .val (.i k (k.wrap z)) | _ => .no "a conversion"
    | some (.s s), some _, some i => match i.k with | .str => .val (.s s) | _ => .no "a conversion"
    | some (.ls l), some _, some i => match i.k with | .str => .val (.ls l) | _ => .no "a conversion"
    | some x, some _, some _ => xconv tb H src dst x
    | _, _, _ => .no "a conversion"
  | .makeInterface t x => match e x, tb.ti t with
    | some v, some i => match i.k with | .ifc => .no "an interface of an interface" | _ => .val (.ifc t v)
    | _, _ => .no "an interface"
  | .makeFunc fn a c => match evL e a.toList, evL e c.toList with
    | some x, some y => .val (.f fn x y)
    | _, _ => .no "a function"
  | .makeMap t none => .new (.m nx) (.mp [])
  | .fieldAddr t x i => match e x, tb.ti t with
    | some v, some ti => match ti.k with | .st fs => xfield fs v i | _ => .no "a field of no struct"
    | _, _ => .no "a field"
  | .field t x i => match e x, tb.ti t with
    | some (.ag l), some ti => match ti.k with
      | .st fs => match fs[i]? with
        | some (ft, off, sz) => match tb.ti ft with
          | some fi => match fi.k.agg with
            | true => match Nat.ble (off + fi.size) l.length with | true => .val (.ag ((l.drop off).take fi.size)) | false => .no "a field"
            | false => match l[off]? with | some v => .val v | none => .no "a field"
          | none => .no "a type"
        | none => .no "no such field"
      | _ => .no "a field of no struct"
    | _, _ => .no "a field"
  | .indexAddr t x ix => match e x, e ix, tb.ti t with
    | some (.sl h o n c), some v, some ti => match ti.k, asN v with
      | .slc el, some j => match tb.ti el, Nat.blt j n with
        | some ei, true => .val (.p h (o + j * ei.size))
        | _, _ => .no "an index"
      | _, _ => .no "an index"
    | some (.p h o), some v, some ti => match ti.k, asN v with
      | .arr n el, some j => match tb.ti el, Nat.blt j n with
        | some ei, true => .val (.p h (o + j * ei.size))
        | _, _ => .no "an index"
      | _, _ => .no "an index"
    | some (.r h), some v, some ti => match ti.k, asI v, (lk h H).bind rowOf with
      | .slc el, some (_, j), some (sz, n, _) => match tb.ti el with
        | some ei => match Nat.beq ei.size sz with
          | true => .ob (0 ≤ j ∧ j < n) (.val (.pr h j.toNat sz 0))
          | false => .no "an element's size"
        | none => .no "a type"
      | _, _, _ => .no "an index"
    | some (.rs h lo m sz'), some v, some ti => match ti.k, asI v, (lk h H).bind rowOf with
      | .slc el, some (_, j), some (sz, n, _) => match tb.ti el with
        | some ei => match Nat.beq ei.size sz && Nat.beq sz' sz with
          | true => .ob (0 ≤ j ∧ j < m ∧ lo + j < n) (.val (.pr h (lo + j.toNat) sz 0))
          | false => .no "an element's size"
        | none => .no "a type"
      | _, _, _ => .no "an index"
    | _, _, _ => .no "an index"
  | .index t x ix => match e x, e ix, tb.ti t with
    | some (.ag l), some v, some ti => match ti.k, asN v with
      | .arr n el, some j => match tb.ti el with
        | some ei => match Nat.blt j n, ei.k.agg with
          | true, true => match Nat.ble (j * ei.size + ei.size) l.length with | true => .val (.ag ((l.drop (j * ei.size)).take ei.size)) | false => .no "an index"
          | true, false => match l[j * ei.size]? with | some v => .val v | none => .no "an index"
          | _, _ => .no "an index"
        | none => .no "a type"
      | _, _ => .no "an index"
    | some (.ls l), some v, some ti => match ti.k, asN v with
      | .str, some j => match l[j]? with | some b => .val (.n .u8 (Int.ofNat b.toNat)) | none => .no "an index"
      | _, _ => .no "an index"
    | some (.s s), some v, some ti => match ti.k, asI v with
      | .str, some (_, j) => .ob (0 ≤ j ∧ j < s.size) (.val (.i .u8 (if h : j.toNat < s.size then ((s[j.toNat]'h).toNat : Int) else 0)))
      | _, _ => .no "an index"
    | _, _, _ => .no "an index"
  | .extract x i => match e x with
    | some (.tu l) => match l[i]? with | some v => .val v | none => .no "a result"
    | _ => .no "a result"
  | .call c => match c.callee with
    | .value f => match e f, evL e c.args.toList with
      | some (.f (.func n) a cap), some l => match tb.fns n with | true => .call n (a ++ l ++ cap) | false => .no "a function that is not entered"
      | _, _ => .no "a call"
    | .builtin .len => match c.args.toList, c.argTypes.toList with
      | [x], [t] => match e x with | some v => tlen tb H t v | none => .no "a length"
      | _, _ => .no "a length"
    | _ => xmore tb H nx e (.call c)
  | .panic x => match e x with
    | some (.ifc t v) => .pan (.ifc t v)
    | _ => .no "a panic"
  | o => xmore tb H nx e o
end Go.Sx
