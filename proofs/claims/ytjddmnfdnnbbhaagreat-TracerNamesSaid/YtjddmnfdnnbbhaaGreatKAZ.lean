/- A clean executor of the model's code: memory by names of its own, no draws, no orders, one NaN. Definitions alone. -/
import Derived.Orders
import Derived.Below
set_option linter.unusedSimpArgs false
set_option linter.unusedVariables false
set_option linter.unusedVariables false
set_option linter.unusedSimpArgs false
namespace Go.Clean
open Go

/-! ### A trie over numbers -/
inductive Trie (α : Type) where
  | leaf
  | node (v : Option α) (l r : Trie α)

def Trie.get {α : Type} : Trie α → Nat → Option α
  | .leaf, _ => none
  | .node v l r, n => bif n == 0 then v else bif n % 2 == 1 then l.get (n / 2) else r.get (n / 2 - 1)

/-- Store, and go on with the new trie (so that it is worked out at once). -/
def Trie.setK {α β : Type} (x : Option α) : Nat → Trie α → Nat → (Trie α → β) → β
  | 0, t, _, k => k t
  | f + 1, .leaf, n, k =>
    bif n == 0 then k (.node x .leaf .leaf)
    else bif n % 2 == 1 then Trie.setK x f .leaf (n / 2) fun l => k (.node none l .leaf)
    else Trie.setK x f .leaf (n / 2 - 1) fun r => k (.node none .leaf r)
  | f + 1, .node v l r, n, k =>
    bif n == 0 then k (.node x l r)
    else bif n % 2 == 1 then Trie.setK x f l (n / 2) fun l => k (.node v l r)
    else Trie.setK x f r (n / 2 - 1) fun r => k (.node v l r)

/-! ### Forcing -/
def natK {β : Type} (n : Nat) (k : Nat → β) : β := match n with
  | 0 => k 0
  | m + 1 => k (m + 1)
def intK {β : Type} (n : Int) (k : Int → β) : β := match n with
  | .ofNat m => natK m fun m => k (.ofNat m)
  | .negSucc m => natK m fun m => k (.negSucc m)
def addrK {β : Type} (a : Addr) (k : Addr → β) : β := match a with
  | ⟨b, o, none⟩ => natK b fun b => natK o fun o => k ⟨b, o, none⟩
  | a => k a
mutual
def valK {β : Type} : Value → (Value → β) → β
  | .bool true, k => k (.bool true)
  | .bool false, k => k (.bool false)
  | .int q n, k => intK n fun n => k (.int q n)
  | .float q n, k => natK n fun n => k (.float q n)
  | .complex q x y, k => natK x fun x => natK y fun y => k (.complex q x y)
  | .pointer (some a), k => addrK a fun a => k (.pointer (some a))
  | .slice (some a) n c, k => addrK a fun a => natK n fun n => natK c fun c => k (.slice (some a) n c)
  | .agg ⟨l⟩, k => valsK l fun l => k (.agg ⟨l⟩)
  | .tuple ⟨l⟩, k => valsK l fun l => k (.tuple ⟨l⟩)
  | .iface t v, k => valK v fun v => k (.iface t v)
  | v, k => k v
def valsK {β : Type} : List Value → (List Value → β) → β
  | [], k => k []
  | v :: l, k => valK v fun v => valsK l fun l => k (v :: l)
end
def listK {α β : Type} : List α → (List α → β) → β
  | [], k => k []
  | v :: l, k => listK l fun l => k (v :: l)

/-! ### Memory -/
structure Blk where
  cells : List Value
  sz : Nat
  grow : Bool
  ro : Bool

structure Mem where
  t : Trie Blk
  next : Nat
  log : List (Bool × Nat)

def M (α : Type) : Type := Mem → Option (α × Mem)
def M.ret {α : Type} (a : α) : M α := fun m => some (a, m)
def M.fail {α : Type} : M α := fun _ => none
def M.bnd {α β : Type} (f : M α) (g : α → M β) : M β := fun m => match f m with
  | none => none
  | some (a, m) => g a m
instance : Monad M where
  pure := M.ret
  bind := M.bnd
def M.lift {α : Type} (o : Option α) : M α := fun m => match o with
  | none => none
  | some a => some (a, m)
def M.guard (b : Bool) : M Unit := fun m => bif b then some ((), m) else none

def getB (b : Nat) : M Blk := fun m => match m.t.get b with
  | none => none
  | some blk => some (blk, { m with log := (false, b) :: m.log })
def setB (b : Nat) (x : Option Blk) : M Unit := fun m => Trie.setK x (b + 1) m.t b fun t => some ((), { m with t, log := (true, b) :: m.log })
def newB (x : Blk) : M Nat := fun m => natK m.next fun b => Trie.setK (some x) (b + 1) m.t b fun t => natK (b + 1) fun n => some (b, { t, next := n, log := (true, b) :: m.log })

/-- A list with one cell turned. -/
def setLK {β : Type} (v : Value) : List Value → Nat → (List Value → β) → β
  | [], _, k => k []
  | x :: l, n, k => match n with
    | 0 => k (v :: l)
    | n + 1 => setLK v l n fun l => k (x :: l)

/-! ### Values -/
/-- A value without an address in it. -/
def leafV : Value → Bool
  | .bool _ | .int _ _ | .float _ _ | .complex _ _ _ | .string _ | .pointer none | .nilFunc | .nilIface => true
  | .slice none 0 0 => true
  | .func (.func _) ⟨[]⟩ ⟨[]⟩ => true
  | _ => false
def oneV : Value → Bool
  | .agg _ | .tuple _ => false
  | _ => true
def plainV : Value → Bool
  | .agg ⟨l⟩ | .tuple ⟨l⟩ => l.all leafV
  | v => leafV v

def noNum : Nat := 0x7ff8000000000001
def isNaN (b : Nat) : Bool := (Ieee.double.read b).isNaN
/-- A float's bits, the one NaN for all. -/
def canon (b : Nat) : Nat := bif isNaN b then noNum else b

/-- What a Sem comes to that asks nothing of the world. -/
def pureRun {α : Type} (P : Program) : Sem α → Option α
  | .pure a => some a
  | .program k => pureRun P (k P)
  | _ => none

/-! ### Frames -/
structure Fr where
  t : Trie Value
  n : Nat
  /-- The deferred calls, the last one first. -/
  d : List (FuncId × List Value)

def Fr.at (fr : Fr) (t : Nat) : Value := (fr.t.get t).getD undef
def ev (fr : Fr) : Operand → Option Value
  | .tmp t => some (fr.at t)
  | .const v => bif plainV v then some v else none
  | .func f => some (.func (.func f) #[] #[])
  | .global _ => none
def evs (fr : Fr) : List Operand → Option (List Value)
  | [] => some []
  | x :: l => match ev fr x with
    | none => none
    | some v => match evs fr l with
      | none => none
      | some vs => some (v :: vs)
def evO (fr : Fr) : Option Operand → Option (Option Value)
  | none => some none
  | some x => (ev fr x).map some
def Fr.putK {β : Type} (fr : Fr) (dst : Option Tmp) (v : Value) (k : Fr → Option β) : Option β := match dst with
  | none => k fr
  | some d => bif Nat.blt d fr.n then valK v fun v => Trie.setK (some v) (d + 1) fr.t d fun t => k { fr with t } else none

/-! ### Operations -/
def cellsV : Value → List Value
  | .agg ⟨l⟩ => l
  | v => [v]

def isAgg (P : Program) (t : TypeId) : Option Bool := match P.underlying t with
  | some (.struct _) | some (.array _ _) => some true
  | some _ => some false
  | none => none
def sizeT (P : Program) (t : TypeId) : Option Nat := (P.info? t).map (·.size)
def zeroT (P : Program) (t : TypeId) : Option Value := match P.info? t with
  | some i => match i.zero with
    | some z => bif plainV z then some z else none
    | none => none
  | none => none
/-- How wide the elements of a variable of this type are, if it is an array. -/
def elemT (P : Program) (t : TypeId) : Nat := match P.underlying t with
  | some (.array _ e) => (sizeT P e).getD 1
  | _ => 1

def takeN {α : Type} : List α → Nat → Nat → Option (List α)
  | _, _, 0 => some []
  | [], _, _ + 1 => none
  | x :: l, 0, n + 1 => (takeN l 0 n).map (x :: ·)
  | _ :: l, o + 1, n + 1 => takeN l o (n + 1)

def loadX (P : Program) (t : TypeId) (a : Value) : M Value := match a with
  | .pointer (some ⟨b, o, none⟩) => do
    let blk ← getB b
    match isAgg P t with
    | some true => match sizeT P t with
      | some n => M.lift ((takeN blk.cells o n).map fun l => .agg ⟨l⟩)
      | none => .fail
    | some false => M.lift blk.cells[o]?
    | none => .fail
  | _ => .fail

/-- The cells of a list from o on, laid over. -/
def layK {β : Type} : List Value → Nat → List Value → (Option (List Value) → β) → β
  | cs, _, [], k => k (some cs)
  | [], _, _ :: _, k => k none
  | _ :: cs, 0, v :: vs, k => layK cs 0 vs fun
    | some l => k (some (v :: l))
    | none => k none
  | c :: cs, o + 1, vs, k => layK cs o vs fun
    | some l => k (some (c :: l))
    | none => k none

def storeX (P : Program) (t : TypeId) (a x : Value) : M Value := match a with
  | .pointer (some ⟨b, o, none⟩) => do
    let blk ← getB b
    M.guard (!blk.ro && sizeT P t == some (cellsV x).length && (cellsV x).all oneV)
    fun m => layK blk.cells o (cellsV x) fun
      | some l => (do setB b (some { blk with cells := l }); M.ret undef) m
      | none => none
  | _ => .fail

def newX (cells : List Value) (sz : Nat) (grow : Bool) : M Nat := do
  M.guard (cells.all oneV)
  fun m => valsK cells fun cells => newB { cells, sz, grow, ro := false } m

def parts (fr : Fr) : List (Nat × Operand) → Option (List (Nat × Value))
  | [] => some []
  | (i, x) :: l => match ev fr x with
    | none => none
    | some v => match parts fr l with
      | none => none
      | some vs => some ((i, v) :: vs)

/-- Lay parts into cells: the model's 'fill' over lists. -/
def fillX (place : Nat → Option (Nat × Nat)) (cells : List Value) : List (Nat × Value) → Option (List Value)
  | [] => some cells
  | (i, v) :: rest => match place i with
    | none => none
    | some (off, size) => bif (cellsV v).length == size && Nat.blt 0 size then layK cells off (cellsV v) fun
      | some l => fillX place l rest
      | none => none else none

def placesX (P : Program) : List Field → Option (List (Nat × Nat))
  | [] => some []
  | f :: fs => match sizeT P f.type, placesX P fs with
    | some n, some l => some ((f.offset, n) :: l)
    | _, _ => none

def buildX (P : Program) (t : TypeId) (ps : List (Nat × Value)) : Option Value := match zeroT P t with
  | none => none
  | some z => match P.underlying t with
    | some (.struct fields) => match placesX P fields.toList with
      | some l => (fillX (l[·]?) (cellsV z) ps).map fun c => .agg ⟨c⟩
      | none => none
    | some (.array _ e) => match sizeT P e with
      | some n => (fillX (fun i => some (i * n, n)) (cellsV z) ps).map fun c => .agg ⟨c⟩
      | none => none
    | _ => none

def repeatL (z : List Value) : Nat → List Value
  | 0 => []
  | n + 1 => z ++ repeatL z n

def buildSliceX (P : Program) (t : TypeId) (len : Nat) (ps : List (Nat × Value)) : M Value := match P.underlying t with
  | some (.slice e) => match sizeT P e, zeroT P e with
    | some n, some z => do
      M.guard (n == (cellsV z).length && Nat.ble (len * n) 16777216 && Nat.blt 0 n)
      match fillX (fun i => some (i * n, n)) (repeatL (cellsV z) len) ps with
      | some c => do
        let b ← newX c n false
        M.ret (.slice (some ⟨b, 0, none⟩) len len)
      | none => .fail
    | _, _ => .fail
  | _ => .fail

def makeSliceX (P : Program) (t : TypeId) (l c : Value) : M Value := match P.underlying t, l, c with
  | some (.slice e), .int _ l, .int _ c => match P.info? e, zeroT P e with
    | some i, some z => do
      M.guard (i.size == (cellsV z).length && Nat.blt 0 i.size && decide (0 ≤ l ∧ l ≤ c ∧ c ≤ 1073741824) && Nat.ble (i.bytes * c.toNat) 1099511627776)
      let b ← newX (repeatL (cellsV z) c.toNat) i.size false
      M.ret (.slice (some ⟨b, 0, none⟩) l.toNat c.toNat)
    | _, _ => .fail
  | _, _, _ => .fail

def boundX (x : Option Value) (d y : Nat) : Option Nat := match x with
  | none => some d
  | some (.int _ i) => bif decide (0 ≤ i ∧ i ≤ y) then some i.toNat else none
  | _ => none

def sliceX (P : Program) (t : TypeId) (x : Value) (lo hi mx : Option Value) : M Value := match P.underlying t, x with
  | some (.slice e), .slice (some ⟨b, o, none⟩) len cap => match sizeT P e with
    | some n => do
      let blk ← getB b
      M.guard (blk.sz == n)
      match mx with
      | some (.int _ j) => match hi with
        | some (.int _ h) => do
          M.guard (decide (0 ≤ j ∧ j ≤ cap ∧ 0 ≤ h ∧ h ≤ j))
          match boundX lo 0 h.toNat with
          | some l => M.ret (.slice (some ⟨b, bif j.toNat == l then o else o + l * n, none⟩) (h.toNat - l) (j.toNat - l))
          | none => .fail
        | _ => .fail
      | none => match boundX hi len cap with
        | some h => match boundX lo 0 h with
          | some l => do
            bif !(cap == l) || l == 0 || !blk.grow then M.ret (.slice (some ⟨b, bif cap == l then o else o + l * n, none⟩) (h - l) (cap - l))
            else do
              let b' ← newB { cells := [], sz := n, grow := true, ro := true }
              M.ret (.slice (some ⟨b', 0, none⟩) 0 0)
          | none => .fail
        | none => .fail
      | _ => .fail
    | none => .fail
  | some (.slice e), .slice none 0 0 => match sizeT P e, mx, boundX hi 0 0, boundX lo 0 0 with
    | some _, none, some _, some _ => M.ret (.slice none 0 0)
    | _, _, _, _ => .fail
  | some (.array k e), .pointer (some ⟨b, o, none⟩) => match sizeT P e, lo, hi, mx with
    | some n, none, none, none => do
      let blk ← getB b
      M.guard (blk.sz == n && !blk.ro && Nat.ble (o + k * n) blk.cells.length)
      M.ret (.slice (some ⟨b, o, none⟩) k k)
    | _, _, _, _ => .fail
  | _, _ => .fail

def fieldAddrX (P : Program) (s : TypeId) (x : Value) (f : Nat) : Option Value := match P.underlying s, x with
  | some (.struct fields), .pointer (some ⟨b, o, none⟩) => match fields.toList[f]? with
    | some g => match sizeT P g.type with
      | some (_ + 1) => some (.pointer (some ⟨b, o + g.offset, none⟩))
      | _ => none
    | none => none
  | _, _ => none

def indexAddrX (P : Program) (t : TypeId) (x i : Value) : Option Value := match P.underlying t, x, i with
  | some (.slice e), .slice (some ⟨b, o, none⟩) len _, .int _ i => match sizeT P e with
    | some n => bif decide (0 ≤ i ∧ i < len) then some (.pointer (some ⟨b, o + i.toNat * n, none⟩)) else none
    | none => none
  | some (.array len e), .pointer (some ⟨b, o, none⟩), .int _ i => match sizeT P e with
    | some n => bif decide (0 ≤ i ∧ i < len) then some (.pointer (some ⟨b, o + i.toNat * n, none⟩)) else none
    | none => none
  | _, _, _ => none

def partX (P : Program) (t : TypeId) (cs : List Value) (off : Nat) : Option Value := match isAgg P t with
  | some true => match sizeT P t with
    | some n => (takeN cs off n).map fun l => .agg ⟨l⟩
    | none => none
  | some false => cs[off]?
  | none => none

def fieldX (P : Program) (t : TypeId) (x : Value) (f : Nat) : Option Value := match P.underlying t, x with
  | some (.struct fields), .agg ⟨cs⟩ => match fields.toList[f]? with
    | some g => partX P g.type cs g.offset
    | none => none
  | _, _ => none

def indexX (P : Program) (t : TypeId) (x i : Value) : Option Value := match P.underlying t, x, i with
  | some (.array len e), .agg ⟨cs⟩, .int _ i => match sizeT P e with
    | some n => bif decide (0 ≤ i ∧ i < len) then partX P e cs (i.toNat * n) else none
    | none => none
  | some .string, .string s, .int _ i => bif decide (0 ≤ i) then (s[i.toNat]?).map fun b => .int .u8 b.toNat else none
  | _, _, _ => none

def extractX (x : Value) (i : Nat) : Option Value := match x with
  | .tuple ⟨l⟩ => l[i]?
  | _ => none

def floatX (op : BinOp) (a b : Nat) : Option Nat := match op with
  | .add => Ieee.double.add a b
  | .sub => Ieee.double.sub a b
  | .mul => Ieee.double.mul a b
  | .quo => Ieee.double.div a b
  | _ => none
def isArith : BinOp → Bool
  | .add | .sub | .mul | .quo => true
  | _ => false
def isSum : BinOp → Bool
  | .add | .sub => true
  | _ => false
def cmpX (op : BinOp) (c : Option Ordering) : Option Bool := match op with
  | .eql => some (c == some .eq)
  | .neq => some (c != some .eq)
  | .lss => some (c == some .lt)
  | .leq => some (c == some .lt || c == some .eq)
  | .gtr => some (c == some .gt)
  | .geq => some (c == some .gt || c == some .eq)
  | _ => none
def eqlX : BinOp → Option (Bool → Bool)
  | .eql => some id
  | .neq => some not
  | _ => none

def intX (op : BinOp) (k : IntKind) (a b : Int) : Option Value := match op with
  | .add => some (.int k (k.wrap (a + b)))
  | .sub => some (.int k (k.wrap (a - b)))
  | .mul => some (.int k (k.wrap (a * b)))
  | .eql => some (.bool (decide (a = b)))
  | .neq => some (.bool (!decide (a = b)))
  | .lss => some (.bool (decide (a < b)))
  | .leq => some (.bool (decide (a ≤ b)))
  | .gtr => some (.bool (decide (a > b)))
  | .geq => some (.bool (decide (a ≥ b)))
  | _ => none


def isNil : Value → Option Bool
  | .pointer none => some true
  | .pointer (some _) => some false
  | .slice none _ _ => some true
  | .slice (some _) _ _ => some false
  | .nilFunc => some true
  | .func _ _ _ => some false
  | _ => none
def isNilLit : Value → Bool
  | .pointer none => true
  | .slice none _ _ => true
  | .nilFunc => true
  | _ => false

/-- Which types '==' at nil is asked at: a pointer's, a slice's, a function's. -/
def nilType (P : Program) (t : TypeId) (x : Value) : Bool := match P.underlying t, x with
  | some (.pointer _), .pointer _ => true
  | some (.slice _), .slice _ _ _ => true
  | some (.func _ _ _), .nilFunc => true
  | some (.func _ _ _), .func _ _ _ => true
  | _, _ => false

/-- What a Sem comes to, if it asks nothing of the world and gives a value without addresses. -/
def pureV (P : Program) (s : Sem Value) : Option Value := match pureRun P s with
  | some v => bif leafV v then some v else none
  | none => none

/-- A value that says all there is to it. -/
def sureV : Value → Bool
  | .bool _ => true
  | .int _ _ => true
  | .float _ x => !isNaN x
  | .complex _ x y => !isNaN x && !isNaN y
  | _ => false
def binX (P : Program) (op : BinOp) (t : TypeId) (xo yo : Operand) (x y : Value) : Option Value := match x, y with
  | .int k a, .int k' b => bif decide (k = k') then match intX op k a b with
      | some v => some v
      | none => pureV P (binOp op t (.int k a) (.int k' b))
    else pureV P (binOp op t (.int k a) (.int k' b))
  | .float .f64 a, .float .f64 b =>
    bif isArith op then match floatX op a b with
      | some r => some (.float .f64 r)
      | none => some (.float .f64 noNum)
    else (cmpX op (Ieee.double.order a b)).map .bool
  | .complex .f64 a b, .complex .f64 c d => bif isSum op then match floatX op a c, floatX op b d with
      | some r, some s => some (.complex .f64 r s)
      | _, _ => none
    else (eqlX op).map fun f => .bool (f (Ieee.double.order a c == some .eq && Ieee.double.order b d == some .eq))
  | .bool a, .bool b => pureV P (do eqGuard op t xo yo (.bool a) (.bool b); binOp op t (.bool a) (.bool b))
  | .string a, .string b => pureV P (do eqGuard op t xo yo (.string a) (.string b); binOp op t (.string a) (.string b))
  | .agg a, .agg b => bif a.toList.all sureV && b.toList.all sureV then pureV P (do eqGuard op t xo yo (.agg a) (.agg b); binOp op t (.agg a) (.agg b)) else none
  | x, y => match eqlX op with
    | none => none
    | some f => bif isNilLit y && nilType P t x && nilType P t y then (isNil x).map fun b => .bool (f b) else none

def unX (P : Program) (op : UnOp) (x : Value) : Option Value := match op, x with
  | .neg, .float .f64 b => some (.float .f64 (canon (b ^^^ 9223372036854775808)))
  | .neg, .complex .f64 a b => some (.complex .f64 (canon (a ^^^ 9223372036854775808)) (canon (b ^^^ 9223372036854775808)))
  | op, .int k n => pureV P (Op.unary op (.int k n))
  | op, .bool b => pureV P (Op.unary op (.bool b))
  | _, _ => none

def convX (P : Program) (s d : TypeId) (x : Value) : Option Value := match x with
  | .int k n => pureV P (convert s d (.int k n))
  | .string b => pureV P (convert s d (.string b))
  | .float .f64 b => match P.underlying s, P.underlying d with
    | some _, some (.float .f64) => some x
    | some _, some (.int _) => bif isNaN b then none else pureV P (convert s d (.float .f64 b))
    | _, _ => none
  | .complex .f64 a b => match P.underlying s, P.underlying d with
    | some _, some (.complex .f64) => some (.complex .f64 a b)
    | _, _ => none
  | _ => none

def lenX (P : Program) (t : TypeId) (x : Value) : Option Value := match P.underlying t, x with
  | some (.slice _), .slice _ n _ => some (.int .i64 n)
  | some .string, .string s => some (.int .i64 s.size)
  | some (.array n _), _ => some (.int .i64 n)
  | _, _ => none

/-- The elements of what is appended. -/
def elemsX (x : Value) (n : Nat) : M (Option (List Value)) := match x with
  | .slice none 0 _ => M.ret (some [])
  | .slice (some ⟨b, o, none⟩) m _ => do
    let blk ← getB b
    M.ret (takeN blk.cells o (m * n))
  | .slice (some ⟨_, _, some _⟩) 0 _ => M.ret (some [])
  | _ => M.ret none

def sliceLen : Value → Nat
  | .slice _ m _ => m
  | _ => 0

def appendX (P : Program) (t u : TypeId) (s x : Value) : M Value := match P.underlying t, P.underlying u with
  | some (.slice e), some (.slice _) => match P.info? e, zeroT P e with
    | some i, some z => do
      M.guard (i.size == (cellsV z).length && Nat.blt 0 i.size && t == u && Nat.ble i.bytes 1048576)
      match ← elemsX x i.size with
      | none => .fail
      | some new => match s with
        | .slice none 0 0 => bif sliceLen x == 0 then M.ret s else do
          M.guard (Nat.ble (sliceLen x) 1048576)
          let b ← newX new i.size true
          M.ret (.slice (some ⟨b, 0, none⟩) (sliceLen x) (sliceLen x))
        | .slice (some ⟨b, o, none⟩) n c => do
          let blk ← getB b
          M.guard (blk.sz == i.size && Nat.ble (n + sliceLen x) 1048576)
          bif Nat.ble (n + sliceLen x) c then
            (bif sliceLen x == 0 then M.ret (.slice (some ⟨b, o, none⟩) n c) else do
              M.guard (!blk.ro && new.all oneV)
              fun m => layK blk.cells (o + n * i.size) new fun
                | some l => (do setB b (some { blk with cells := l }); M.ret (Value.slice (some ⟨b, o, none⟩) (n + sliceLen x) c)) m
                | none => none)
          else match takeN blk.cells o (n * i.size) with
            | none => .fail
            | some old => bif blk.grow then do
                M.guard (o + n * i.size == blk.cells.length && !blk.ro)
                setB b none
                let b' ← newX (old ++ new) i.size true
                M.ret (.slice (some ⟨b', 0, none⟩) (n + sliceLen x) (n + sliceLen x))
              else do
                let b' ← newX (old ++ new) i.size true
                M.ret (.slice (some ⟨b', 0, none⟩) (n + sliceLen x) (n + sliceLen x))
        | _ => .fail
    | _, _ => .fail
  | _, _ => .fail

/-- So many zeros, appended to nothing. -/
def zerosX (P : Program) (t u : TypeId) (n : Int) : M Value := match P.underlying t, P.underlying u with
  | some (.slice e), some (.int _) => match P.info? e, zeroT P e with
    | some i, some z => do
      M.guard (i.size == (cellsV z).length && Nat.blt 0 i.size && decide (0 < n ∧ n ≤ 1048576) && Nat.ble i.bytes 1048576)
      let b ← newX (repeatL (cellsV z) n.toNat) i.size true
      M.ret (.slice (some ⟨b, 0, none⟩) n.toNat n.toNat)
    | _, _ => .fail
  | _, _ => .fail

/-- The cells that a copy of n elements takes. -/
def takenX (s : Value) (n k : Nat) : M (Option (List Value)) := match s with
  | .slice none 0 _ => M.ret (some [])
  | .slice (some ⟨b, o, none⟩) m _ => do
    let blk ← getB b
    M.ret (takeN blk.cells o (Nat.min m n * k))
  | _ => M.ret none

def copyX (P : Program) (t : TypeId) (d s : Value) : M Value := match P.underlying t, d with
  | some (.slice e), .slice (some ⟨b, o, none⟩) n _ => match sizeT P e with
    | some k => do
      match ← takenX s n k with
      | none => .fail
      | some new => do
        let blk ← getB b
        M.guard (!blk.ro && new.all oneV)
        fun m => layK blk.cells o new fun
          | some l => (do setB b (some { blk with cells := l }); M.ret (Value.int .i64 (Nat.min (sliceLen s) n))) m
          | none => none
    | none => .fail
  | some (.slice e), .slice none 0 _ => match sizeT P e with
    | some k => do
      match ← takenX s 0 k with
      | none => .fail
      | some _ => M.ret (.int .i64 0)
    | none => .fail
  | _, _ => .fail

/-- A slice's room, where it is known. -/
def capX (P : Program) (t : TypeId) (x : Value) : M Value := match P.underlying t, x with
  | some (.slice _), .slice none _ c => M.ret (.int .i64 c)
  | some (.slice _), .slice (some a) _ c => do
    let blk ← getB a.block
    M.guard (!blk.grow)
    M.ret (.int .i64 c)
  | _, _ => .fail

/-- The function that a value stands for, with what goes ahead of and behind its arguments. -/
def funX : Value → Option (FuncId × List Value × List Value)
  | .func (.func f) ⟨first⟩ ⟨cap⟩ => some (f, first, cap)
  | _ => none

abbrev Caller := FuncId → List Value → M Value

/-- A value of an interface. -/
def ifaceX (P : Program) (t : TypeId) (v : Value) : Option Value := match P.underlying t with
  | some (.interface _) => none
  | some _ => some (.iface t v)
  | none => none
def assertX (P : Program) (x : Value) (t : TypeId) (ok : Bool) : Option Value := match P.underlying t with
  | some (.interface _) => none
  | some _ => match x with
    | .iface u v => bif u == t then some (bif ok then .tuple ⟨[v, .bool true]⟩ else v) else bif ok then (zeroT P t).map fun z => .tuple ⟨[z, .bool false]⟩ else none
    | .nilIface => bif ok then (zeroT P t).map fun z => .tuple ⟨[z, .bool false]⟩ else none
    | _ => none
  | none => none
/-- The function behind a method of a value of an interface. -/
def methodX (P : Program) (t : TypeId) (name : String) : Option FuncId := match P.info? t with
  | some i => match i.methods.find? (·.name == name) with
    | some m => match m.path.toList, m.func with
      | [], some (f, ptr) => match P.underlying t with
        | some (.pointer _) => bif ptr then some f else none
        | some _ => bif ptr then none else some f
        | none => none
      | _, _ => none
    | none => none
  | none => none

def callX (P : Program) (call : Caller) (fr : Fr) (c : Call) : M Value := match c.callee with
  | .value (.func f) => match evs fr c.args.toList with
    | some vs => call f vs
    | none => .fail
  | .value g => match ev fr g, evs fr c.args.toList with
    | some v, some vs => match funX v with
      | some (f, first, cap) => call f (first ++ vs ++ cap)
      | none => .fail
    | _, _ => .fail
  | .invoke r name => match ev fr r, evs fr c.args.toList with
    | some (.iface t x), some vs => match methodX P t name with
      | some f => call f (x :: vs)
      | none => .fail
    | _, _ => .fail
  | .builtin b => match evs fr c.args.toList with
    | none => .fail
    | some vs => match b, vs, c.argTypes.toList with
      | .append, [.slice none 0 0, .int _ n], [t, u] => zerosX P t u n
      | .append, [s, x], [t, u] => appendX P t u s x
      | .len, [x], t :: _ => M.lift (lenX P t x)
      | .copy, [d, s], t :: _ => copyX P t d s
      | .cap, [x], t :: _ => capX P t x
      | .real, [.complex k re _], _ => M.ret (.float k re)
      | .imag, [.complex k _ im], _ => M.ret (.float k im)
      | .complex, [.float .f64 re, .float .f64 im], _ => M.ret (.complex .f64 re im)
      | .max, [.int k a, .int _ b], _ => M.ret (.int k (bif decide (b > a) then b else a))
      | .min, [.int k a, .int _ b], _ => M.ret (.int k (bif decide (b < a) then b else a))
      | .max, [.float .f64 a, .float .f64 b], _ => match Ieee.double.order a b with
        | some .lt => M.ret (.float .f64 b)
        | some .gt => M.ret (.float .f64 a)
        | some .eq => M.ret (.float .f64 (bif (Ieee.double.read a).neg then b else a))
        | none => M.ret (.float .f64 noNum)
      | _, _, _ => .fail

def opX (P : Program) (call : Caller) (fr : Fr) (o : Oper) : M Value := match o.op with
  | .move x | .assign x => M.lift (ev fr x)
  | .pick c a b => match ev fr c with
    | some (.bool true) => M.lift (ev fr a)
    | some (.bool false) => M.lift (ev fr b)
    | _ => .fail
  | .alloc e => match zeroT P e with
    | some z => do
      let b ← newX (cellsV z) (elemT P e) false
      M.ret (.pointer (some ⟨b, 0, none⟩))
    | none => .fail
  | .box e x => match ev fr x with
    | some v => do
      let b ← newX (cellsV v) (elemT P e) false
      M.ret (.pointer (some ⟨b, 0, none⟩))
    | none => .fail
  | .build t ps => match parts fr ps.toList with
    | some vs => M.lift (buildX P t vs)
    | none => .fail
  | .buildSlice t len ps => match parts fr ps.toList with
    | some vs => buildSliceX P t len vs
    | none => .fail
  | .load t a => match ev fr a with
    | some v => loadX P t v
    | none => .fail
  | .store t a x => match ev fr a, ev fr x with
    | some v, some u => storeX P t v u
    | _, _ => .fail
  | .nilCheck x => match ev fr x with
    | some (.pointer (some a)) => M.ret (.pointer (some a))
    | some (.func (.func f) a b) => M.ret (.func (.func f) a b)
    | _ => .fail
  | .binOp op t x y _ => match ev fr x, ev fr y with
    | some v, some u => M.lift (binX P op t x y v u)
    | _, _ => .fail
  | .unOp op _ x => match ev fr x with
    | some v => M.lift (unX P op v)
    | none => .fail
  | .convert s d x => match ev fr x with
    | some v => M.lift (convX P s d v)
    | none => .fail
  | .makeFunc (.func f) first cap => match evs fr first.toList, evs fr cap.toList with
    | some a, some b => M.ret (.func (.func f) ⟨a⟩ ⟨b⟩)
    | _, _ => .fail
  | .makeSlice t l c => match ev fr l, ev fr c with
    | some v, some u => makeSliceX P t v u
    | _, _ => .fail
  | .slice t x lo hi mx => match ev fr x, evO fr lo, evO fr hi, evO fr mx with
    | some v, some a, some b, some c => sliceX P t v a b c
    | _, _, _, _ => .fail
  | .fieldAddr s x f => match ev fr x with
    | some v => M.lift (fieldAddrX P s v f)
    | none => .fail
  | .indexAddr t x i => match ev fr x, ev fr i with
    | some v, some u => M.lift (indexAddrX P t v u)
    | _, _ => .fail
  | .field t x f => match ev fr x with
    | some v => M.lift (fieldX P t v f)
    | none => .fail
  | .index t x i => match ev fr x, ev fr i with
    | some v, some u => M.lift (indexX P t v u)
    | _, _ => .fail
  | .extract x i => match ev fr x with
    | some v => M.lift (extractX v i)
    | none => .fail
  | .makeInterface t x => match ev fr x with
    | some v => M.lift (ifaceX P t v)
    | none => .fail
  | .typeAssert x _ t ok => match ev fr x with
    | some v => M.lift (assertX P v t ok)
    | none => .fail
  | .call c => callX P call fr c
  | _ => .fail

/-! ### Regions -/
/-- What a guard's operation has yielded. -/
def yieldX (ops : Array Oper) (fr : Fr) (j : Nat) : Option Bool := match ops.toList[j]? with
  | some o => match o.dst with
    | some d => match fr.at d with
      | .bool b => some b
      | _ => none
    | none => none
  | none => none

def wantX (ops : Array Oper) (fr : Fr) (o : Oper) : Bool := match o.guard with
  | none => true
  | some (j, want) => yieldX ops fr j == some want

def Fr.put (fr : Fr) (dst : Option Tmp) (v : Value) : M Fr := fun m => fr.putK dst v fun fr => some (fr, m)

def stepX (P : Program) (call : Caller) (ops : Array Oper) (fr : Fr) (o : Oper) : M Fr :=
  bif wantX ops fr o then do
    let v ← opX P call fr o
    fr.put o.dst v
  else fr.put o.dst undef

/-- What a defer statement puts off. -/
def deferX (fr : Fr) (c : Call) : Option (FuncId × List Value) := match c.callee with
  | .value g => match ev fr g, evs fr c.args.toList with
    | some v, some vs => match funX v with
      | some (f, first, cap) => some (f, first ++ vs ++ cap)
      | none => none
    | _, _ => none
  | _ => none

def stepDX (P : Program) (call : Caller) (ops : Array Oper) (fr : Fr) (o : Oper) : M Fr := match o.op with
  | .defer c => bif wantX ops fr o then match deferX fr c with
      | some d => Fr.put { fr with d := d :: fr.d } o.dst undef
      | none => .fail
    else fr.put o.dst undef
  | _ => stepX P call ops fr o

def stepsX (P : Program) (call : Caller) (ops : Array Oper) : List Oper → Fr → M Fr
  | [], fr => M.ret fr
  | o :: l, fr => do
    let fr ← stepDX P call ops fr o
    stepsX P call ops l fr

/-- Who must have come ahead: a bit for each. -/
def ancs : List Oper → Nat → List Nat → Option (List Nat)
  | [], _, acc => some acc.reverse
  | o :: l, i, acc =>
    bif o.after.toList.all fun e => !Region.binds .any e || Nat.blt e.on i then
      natK (o.after.toList.foldl (fun s e => bif Region.binds .any e then s ||| 2 ^ e.on ||| (acc.getD (i - 1 - e.on) 0) else s) 0) fun a => ancs l (i + 1) (a :: acc)
    else none

def reads (ops : Array Oper) (o : Oper) : List Nat :=
  (o.op.operands.toList.filterMap fun
    | .tmp t => some t
    | _ => none) ++ (match o.guard with
    | some (j, _) => match ops.toList[j]? with
      | some p => p.dst.toList
      | none => []
    | none => [])
def writes (o : Oper) : List Nat := o.dst.toList

/-- Two operations may come in either order, as far as slots go. -/
def apartT (ops : Array Oper) (o p : Oper) : Bool :=
  (writes o).all (fun t => !(reads ops p).contains t && !(writes p).contains t) && (reads ops o).all fun t => !(writes p).contains t

/-- Every two operations, of which neither waits for the other, are apart. -/
def pairsT (ops : Array Oper) : List (Oper × Nat) → Nat → Bool
  | [], _ => true
  | (o, a) :: l, i => (l.zipIdx.all fun ((p, b), k) => b.testBit i || apartT ops o p) && pairsT ops l (i + 1)

/-- A region's order, as it is fixed by its text: who waits for whom; none: two that share a slot may come in either order. -/
def planX (ops : Array Oper) : Option (List Nat) := match ancs ops.toList 0 [] with
  | none => none
  | some as => bif pairsT ops (ops.toList.zip as) 0 then some as else none

def apartL (l : List (Bool × Nat)) (l' : List (Bool × Nat)) : Bool :=
  l.all fun (x, b) => l'.all fun (y, c) => !(b == c) || (!x && !y)

def apartAll (a : Nat) (log : List (Bool × Nat)) : List (Nat × List (Bool × Nat)) → Bool
  | [] => true
  | (j, l) :: r => (a.testBit j || apartL log l) && apartAll a log r

/-- A piece, and what it has touched. -/
def M.logged {α : Type} (f : M α) : M (α × List (Bool × Nat)) := fun m => match f { m with log := [] } with
  | none => none
  | some (a, m') => some ((a, m'.log), { m' with log := m'.log ++ m.log })

/-- The operations one behind the other, each one's log held against those of whom it need not wait. -/
def drawX (P : Program) (call : Caller) (ops : Array Oper) : List Oper → List Nat → Nat → List (Nat × List (Bool × Nat)) → Fr → M Fr
  | o :: l, a :: as, i, logs, fr => do
    let (fr, log) ← M.logged (stepX P call ops fr o)
    M.guard (apartAll a log logs)
    drawX P call ops l as (i + 1) ((i, log) :: logs) fr
  | [], _, _, _, fr => M.ret fr
  | _, [], _, _, _ => .fail

/-! ### Code -/
inductive Ex where
  | normal
  | exit (id : Nat)
  | ret

def loopX (body : Fr → M (Ex × Fr)) : Nat → Fr → M (Ex × Fr)
  | 0, _ => .fail
  | n + 1, fr => do
    let (e, fr) ← body fr
    match e with
    | .normal => loopX body n fr
    | e => M.ret (e, fr)

/-! A range over a function: the functions of which it is known what they yield, round by round. -/
def isBack (name : String) : Bool := name == "slices.Backward[[]complex128,complex128]$1"

/-- One cell, as it lies. -/
def cellX : Addr → M Value
  | ⟨b, o, none⟩ => do
    let blk ← getB b
    match blk.cells[o]? with
    | some v => M.ret v
    | none => .fail
  | _ => .fail

/-- A mark: the block for the rounds' deferred calls. -/
def newM : M Nat := newB { cells := [], sz := 0, grow := false, ro := true }

def putRound : List Tmp → List Value → Fr → M Fr
  | t :: ts, v :: vs, fr => do
    let fr ← fr.put (some t) v
    putRound ts vs fr
  | [], [], fr => M.ret fr
  | _, _, _ => .fail

/-- The rounds, from the last element to the first. -/
def backX (assign body : Fr → M (Ex × Fr)) (bx : Addr) (n : Nat) (ps : List Tmp) (fr : Fr) : Nat → M Ex
  | 0 => M.ret .normal
  | i + 1 => do
    match ← cellX bx with
    | .slice (some a) k _ => do
      M.guard (k == n)
      let x ← cellX ⟨a.block, a.off + i, a.spot⟩
      let fr1 ← putRound ps [.int .i64 i, x] fr
      let (e, fr2) ← assign fr1
      match e with
      | .normal => do
        let (e, _) ← body fr2
        match e with
        | .normal => backX assign body bx n ps fr i
        | e => M.ret e
      | _ => .fail
    | _ => .fail

/-- No defer statement, no range over a function. -/
def noDefer : Code → Bool
  | .region _ ops _ => ops.toList.all fun o => match o.op with
    | .defer _ => false
    | _ => true
  | .seq a b | .cond _ a b => noDefer a && noDefer b
  | .block _ b | .loop b => noDefer b
  | .skip | .exit _ | .ret => true
  | _ => false

def markV : List Value := [.chan none]

/-- The closure of a range over a function. -/
def backV (P : Program) : Value → Option Addr
  | .func (.func it) ⟨[]⟩ ⟨[.pointer (some bx)]⟩ => match P.funcs[it]? with
    | some fn => bif isBack fn.name then some bx else none
    | none => none
  | _ => none

def codeX (P : Program) (call : Caller) : Code → Fr → M (Ex × Fr)
  | .rangeFunc g ps assign body, fr => bif noDefer assign && noDefer body then match (ev fr g).bind (backV P) with
      | some bx => do
        let b ← newM
        match ← cellX bx with
        | .slice _ n _ => do
          M.guard (Nat.ble n 1048576)
          let e ← backX (codeX P call assign) (codeX P call body) bx n ps.toList { fr with d := [] } n
          M.ret (e, { fr with d := (b, markV) :: fr.d })
        | _ => .fail
      | none => .fail
    else .fail
  | .skip, fr => M.ret (.normal, fr)
  | .region _ ops draw, fr => bif draw then match planX ops with
      | some as => do
        let fr ← drawX P call ops ops.toList as 0 [] fr
        M.ret (.normal, fr)
      | none => .fail
    else do
      let fr ← stepsX P call ops ops.toList fr
      M.ret (.normal, fr)
  | .seq a b, fr => do
    let (e, fr) ← codeX P call a fr
    match e with
    | .normal => codeX P call b fr
    | e => M.ret (e, fr)
  | .cond c a b, fr => match ev fr c with
    | some (.bool true) => codeX P call a fr
    | some (.bool false) => codeX P call b fr
    | _ => .fail
  | .block id c, fr => do
    let (e, fr) ← codeX P call c fr
    match e with
    | .exit i => bif i == id then M.ret (.normal, fr) else M.ret (.exit i, fr)
    | e => M.ret (e, fr)
  | .loop c, fr => loopX (codeX P call c) 4000000 fr
  | .exit id, fr => M.ret (.exit id, fr)
  | .ret, fr => M.ret (.ret, fr)
  | _, _ => .fail

def resX (P : Program) (fr : Fr) : List ResultVar → M (List Value)
  | [] => M.ret []
  | .tmp t :: l => do
    let vs ← resX P fr l
    M.ret (fr.at t :: vs)
  | .cell a t :: l => do
    let v ← loadX P t (fr.at a)
    let vs ← resX P fr l
    M.ret (v :: vs)

def frOfK {β : Type} : List Value → Nat → Trie Value → (Trie Value → β) → β
  | [], _, t, k => k t
  | v :: l, i, t, k => valK v fun v => Trie.setK (some v) (i + 1) t i fun t => frOfK l (i + 1) t k

def frK (n : Nat) (args : List Value) : M Fr := fun m => frOfK args 0 .leaf fun t => some (⟨t, n, []⟩, m)

/-- The name that comes next. -/
def nextX : M Nat := fun m => some (m.next, m)
def isMark : List Value → Bool
  | [.chan none] => true
  | _ => false
/-- The deferred calls, one behind the other. -/
def runDX (dcall : Caller) (base : Nat) : List (FuncId × List Value) → M Unit
  | [] => M.ret ()
  | (f, args) :: l => bif isMark args then do
      let k ← nextX
      M.guard (Nat.ble base f && Nat.blt f k)
      let _ ← getB f
      setB f none
      runDX dcall base l
    else do
      let _ ← dcall f args
      runDX dcall base l


def bodyX (P : Program) (call : Caller) (fin : Nat → Fr → M Unit) (fn : Func) (args : List Value) : M Value := match fn.body with
  | none => .fail
  | some c => do
    M.guard (Nat.ble args.length fn.ntmps)
    let base ← nextX
    let fr ← frK fn.ntmps args
    let (e, fr) ← codeX P call c fr
    match e with
    | .exit _ => .fail
    | _ => do
      fin base fr
      let vs ← resX P fr fn.results.toList
      match vs with
      | [v] => M.ret v
      | vs => M.ret (.tuple ⟨vs⟩)

abbrev Known := FuncId → List Value → Option (M Value)

/-- A deferred call: a body that defers nothing itself. -/
def deferredX (P : Program) (call : Caller) : Caller := fun f args => match P.funcs[f]? with
  | none => .fail
  | some fn => bodyX P call (fun _ fr => M.guard fr.d.isEmpty) fn args

/-- Calls, n deep; 'known' answers what it knows. -/
def callN (P : Program) (known : Known) : Nat → Caller
  | 0, _, _ => .fail
  | n + 1, f, args => match known f args with
    | some g => g
    | none => match P.funcs[f]? with
      | none => .fail
      | some fn => bodyX P (callN P known n) (fun base fr => runDX (deferredX P (callN P known n)) base fr.d) fn args

def Mem.empty : Mem := ⟨.leaf, 0, []⟩
/-- Does a call of no arguments, in a memory of nothing, answer true? -/
def saysTrue (P : Program) (known : Known) (n : Nat) (f : FuncId) : Bool := match callN P known n f [] .empty with
  | some (.bool true, _) => true
  | _ => false

end Go.Clean
