/-
  X, part A: an executor of the model's functions on values that may hold letters (symbolic numbers), with a heap of blocks named by numbers of its own. Definitions alone; parts B to E prove that what it says is so of the model's machine.
-/
import Derived.Calls
import Derived.Orders
import Derived.Laws.World
import Derived.KernelRfl
namespace Go.Proofs.YteionboacdkfjaaDoor.X
noncomputable section

/-- An address: the block's own number, where the cell or the row of cells begins, and (row, cells a row, cell in the row). -/
structure AA where
  id : Nat
  off : Nat
  ix : Option (Nat × Nat × Nat)

def AA.real (a : AA) : Nat :=
  match a.ix with
  | none => a.off
  | some (r, s, f) => a.off + (r * s + f)

/-- A slice's capacity: known, or that of a row of the call's own (the cells an element). -/
inductive Cp where
  | k (c : Nat)
  | g (sz : Nat)

/-- One cell's value. -/
inductive S where
  | b (x : Bool)
  | i (k : IntKind) (x : Int)
  | s (x : List UInt8)
  | p (a : Option AA)
  | sl (a : Option AA) (len : Nat) (cap : Cp)
  | fn (f : FuncId) (caps : List AA)
  | nf
  | ifc (t : TypeId) (v : S)
  | ni
  | rt (t g e : Nat)

/-- A stretch of cells. -/
inductive Seg where
  | one (v : S)
  | run (k : IntKind) (n : Nat) (f : Nat → Int)
  | rows (n m : Nat) (f : Nat → Nat → S)

inductive V where
  | sc (v : S)
  | ag (c : List Seg)
  | tu (vs : List V)
  | jk

def Seg.size : Seg → Nat
  | .one _ => 1
  | .run _ n _ => n
  | .rows n m _ => n * m

def csize : List Seg → Nat
  | [] => 0
  | s :: r => s.size + csize r

def Seg.at : Seg → Nat → S
  | .one v, _ => v
  | .run k _ f, j => .i k (f j)
  | .rows _ m f, j => f (j / m) (j % m)

/-- The cell at a place. -/
def cat : List Seg → Nat → Option S
  | [], _ => none
  | s :: r, j => cond (Nat.blt j s.size) (some (s.at j)) (cat r (j - s.size))

/-- The stretch that begins at a place. -/
def segAt : List Seg → Nat → Option Seg
  | [], _ => none
  | s :: r, o => cond (Nat.beq o 0) (some s) (cond (Nat.ble s.size o) (segAt r (o - s.size)) none)

def Seg.drop : Seg → Nat → Seg
  | .one v, _ => .one v
  | .run k n f, d => .run k (n - d) (fun j => f (j + d))
  | .rows n m f, d => .rows 1 (n * m - d) (fun _ j => f ((j + d) / m) ((j + d) % m))

def Seg.take : Seg → Nat → Seg
  | .one v, _ => .one v
  | .run k _ f, n => .run k n f
  | .rows _ m f, n => .rows 1 n (fun _ j => f (j / m) (j % m))

def cdrop : List Seg → Nat → List Seg
  | [], _ => []
  | s :: r, o => cond (Nat.beq o 0) (s :: r) (cond (Nat.ble s.size o) (cdrop r (o - s.size)) (s.drop o :: r))

def ctake : List Seg → Nat → List Seg
  | [], _ => []
  | s :: r, n => cond (Nat.beq n 0) [] (cond (Nat.ble s.size n) (s :: ctake r (n - s.size)) [s.take n])

def csub (c : List Seg) (o n : Nat) : List Seg := ctake (cdrop c o) n
def cupd (c : List Seg) (o : Nat) (c' : List Seg) : List Seg := ctake c o ++ (c' ++ cdrop c (o + csize c'))

/-- Another stretch of the same size in the place of the one that begins at a place. -/
def segSet : List Seg → Nat → Seg → List Seg
  | [], _, _ => []
  | s :: r, o, x => cond (Nat.beq o 0) (x :: r) (s :: segSet r (o - s.size) x)

def ikEq (a b : IntKind) : Bool := decide (a = b)

/-- A list with its spine gone through. -/
def spine {α β : Type} : List α → (List α → β) → β
  | [], k => k []
  | s :: r, k => spine r fun r' => k (s :: r')
theorem spine_eq {α β : Type} : ∀ (l : List α) (k : List α → β), spine l k = k l
  | [], _ => rfl
  | s :: r, k => spine_eq r fun r' => k (s :: r')

/-- The numbers of one kind with which a list begins, cell by cell. -/
def ones (k : IntKind) : List Seg → List Int
  | .one (.i k' x) :: r => cond (ikEq k' k) (x :: ones k r) []
  | _ => []
def nthI (n : Nat) : Nat → List Int → Int
  | _, [] => 0
  | i, x :: r => cond (Nat.beq n i) x (nthI n (i + 1) r)

/-- One cell read. -/
def rdS (c : List Seg) (a : AA) : Option (Bool × S) :=
  match a.ix with
  | none => (cat c a.off).map fun v => (true, v)
  | some (r, st, f) =>
    match segAt c a.off with
    | some (.run kd n g) =>
      cond (Nat.beq st 1 && Nat.beq f 0) (some (Nat.blt r n, .i kd (g r))) ((cat c (a.off + (r * st + f))).map fun v => (true, v))
    | some (.rows n m g) =>
      cond (Nat.beq st m && Nat.blt f m) (some (Nat.blt r n, g r f)) ((cat c (a.off + (r * st + f))).map fun v => (true, v))
    | some (.one (.i kd _)) =>
      cond (Nat.beq st 1 && Nat.beq f 0) (spine (ones kd (cdrop c a.off)) fun l => some (Nat.blt r l.length, .i kd (nthI r 0 l))) ((cat c (a.off + (r * st + f))).map fun v => (true, v))
    | _ => (cat c (a.off + (r * st + f))).map fun v => (true, v)

def mkRow (g : Nat → S) (f : Nat) : Nat → List Seg
  | 0 => []
  | n + 1 => .one (g f) :: mkRow g (f + 1) n

def subC (c : List Seg) (o n : Nat) : Option (Bool × List Seg) := cond (Nat.ble (o + n) (csize c)) (some (true, csub c o n)) none

/-- So many cells read. -/
def rdC (c : List Seg) (a : AA) (n : Nat) : Option (Bool × List Seg) :=
  match a.ix with
  | none => subC c a.off n
  | some (r, st, f) =>
    match segAt c a.off with
    | some (.rows n' m g) =>
      cond (Nat.beq st m && Nat.ble (f + n) m) (some (Nat.blt r n', mkRow (g r) f n)) (subC c (a.off + (r * st + f)) n)
    | _ => subC c (a.off + (r * st + f)) n

def updC (c : List Seg) (o : Nat) (c' : List Seg) : Option (Bool × List Seg) :=
  cond (Nat.ble (o + csize c') (csize c)) (some (true, cupd c o c')) none

/-- One cell written. -/
def wrS (c : List Seg) (a : AA) (v : S) : Option (Bool × List Seg) :=
  match a.ix with
  | none => updC c a.off [.one v]
  | some (r, st, f) =>
    match segAt c a.off, v with
    | some (.run kd n g), .i kd' x =>
      cond (Nat.beq st 1 && (Nat.beq f 0 && ikEq kd kd')) (some (Nat.blt r n, segSet c a.off (.run kd n (fun j => cond (Nat.beq j r) x (g j))))) (updC c (a.off + (r * st + f)) [.one v])
    | some (.rows n m g), v =>
      cond (Nat.beq st m && Nat.blt f m) (some (Nat.blt r n, segSet c a.off (.rows n m (fun i j => cond (Nat.beq i r && Nat.beq j f) v (g i j))))) (updC c (a.off + (r * st + f)) [.one v])
    | _, _ => updC c (a.off + (r * st + f)) [.one v]

/-- So many cells written. -/
def wrC (c : List Seg) (a : AA) (c' : List Seg) : Option (Bool × List Seg) := updC c a.real c'

/-- A binary tree over numbers. -/
inductive T (α : Type) where
  | l
  | n (a : T α) (v : Option α) (b : T α)

def T.get {α : Type} (t : T α) : Nat → Option α :=
  T.rec (fun _ => none) (fun _ v _ iha ihb i => Bool.rec (Bool.rec (ihb (Nat.pred (Nat.div i 2))) (iha (Nat.div i 2)) (Nat.beq (Nat.mod i 2) 1)) v (Nat.beq i 0)) t

def T.setF {α : Type} (d : Nat) : T α → Nat → α → T α :=
  Nat.rec (fun t _ _ => t) (fun _ ih t i v => T.rec
    (Bool.rec (Bool.rec (.n .l none (ih .l (Nat.pred (Nat.div i 2)) v)) (.n (ih .l (Nat.div i 2) v) none .l) (Nat.beq (Nat.mod i 2) 1)) (.n .l (some v) .l) (Nat.beq i 0))
    (fun a w b _ _ => Bool.rec (Bool.rec (.n a w (ih b (Nat.pred (Nat.div i 2)) v)) (.n (ih a (Nat.div i 2) v) w b) (Nat.beq (Nat.mod i 2) 1)) (.n a (some v) b) (Nat.beq i 0)) t) d
def T.set {α : Type} (t : T α) (i : Nat) (v : α) : T α := T.setF (Nat.succ i) t i v

def T.delF {α : Type} (t : T α) : Nat → T α :=
  T.rec (fun _ => .l) (fun a w b iha ihb i => Bool.rec (Bool.rec (.n a w (ihb (Nat.pred (Nat.div i 2)))) (.n (iha (Nat.div i 2)) w b) (Nat.beq (Nat.mod i 2) 1)) (.n a none b) (Nat.beq i 0)) t

theorem rec_cond {α : Type} (x y : α) (b : Bool) : (Bool.rec x y b : α) = cond b y x := by cases b <;> rfl
theorem T.get_l {α : Type} (i : Nat) : (T.l : T α).get i = none := rfl
theorem T.get_n {α : Type} (a : T α) (v : Option α) (b : T α) (i : Nat) : (T.n a v b).get i = cond (Nat.beq i 0) v (cond (Nat.beq (i % 2) 1) (a.get (i / 2)) (b.get (i / 2 - 1))) := by
  rw [← rec_cond, ← rec_cond]; rfl
theorem T.setF_zero {α : Type} (t : T α) (i : Nat) (v : α) : T.setF 0 t i v = t := rfl
theorem T.setF_l {α : Type} (d i : Nat) (v : α) : T.setF (d + 1) .l i v = cond (Nat.beq i 0) (.n .l (some v) .l) (cond (Nat.beq (i % 2) 1) (.n (T.setF d .l (i / 2) v) none .l) (.n .l none (T.setF d .l (i / 2 - 1) v))) := by
  rw [← rec_cond, ← rec_cond]; rfl
theorem T.setF_n {α : Type} (d : Nat) (a : T α) (w : Option α) (b : T α) (i : Nat) (v : α) : T.setF (d + 1) (.n a w b) i v = cond (Nat.beq i 0) (.n a (some v) b) (cond (Nat.beq (i % 2) 1) (.n (T.setF d a (i / 2) v) w b) (.n a w (T.setF d b (i / 2 - 1) v))) := by
  rw [← rec_cond, ← rec_cond]; rfl
theorem T.delF_l {α : Type} (i : Nat) : (T.l : T α).delF i = .l := rfl
theorem T.delF_n {α : Type} (a : T α) (w : Option α) (b : T α) (i : Nat) : (T.n a w b).delF i = cond (Nat.beq i 0) (.n a none b) (cond (Nat.beq (i % 2) 1) (.n (a.delF (i / 2)) w b) (.n a w (b.delF (i / 2 - 1)))) := by
  rw [← rec_cond, ← rec_cond]; rfl

structure Blk where
  c : List Seg
  /-- The whole row of cells from its begin on is this block's alone; how many there are behind those that are told is not known. -/
  grow : Bool
  ro : Bool

structure H where
  m : T Blk
  nx : Nat
  lo : Nat

structure St where
  fr : T V
  nt : Nat
  h : H

def constV : Value → Option V
  | .bool x => some (.sc (.b x))
  | .int k n => some (.sc (.i k n))
  | .string s => some (.sc (.s s.data.toList))
  | .pointer none => some (.sc (.p none))
  | .slice none 0 0 => some (.sc (.sl none 0 (.k 0)))
  | .nilIface => some (.sc .ni)
  | .nilFunc => some (.sc .nf)
  | _ => none

/-- A package-level variable's block has the variable's own number. -/
def nGlob (P : Program) : Nat := P.globals.size

def ev (P : Program) (fr : T V) : Operand → Option V
  | .tmp t => fr.get t
  | .const v => constV v
  | .global g => cond (Nat.blt g (nGlob P)) (some (.sc (.p (some ⟨g, 0, none⟩)))) none
  | .func f => some (.sc (.fn f []))

/-- A value without pointers, held against one of the model's. -/
def chkS : S → Value → Bool
  | .b x, .bool y => x == y
  | .i k x, .int k' y => ikEq k k' && decide (x = y)
  | .s x, .string y => decide (x = y.data.toList)
  | .p none, .pointer none => true
  | .sl none 0 (.k 0), .slice none 0 0 => true
  | .nf, .nilFunc => true
  | .ni, .nilIface => true
  | _, _ => false

def chkAll (c : List Seg) (cells : Array Value) : Nat → Bool
  | 0 => true
  | j + 1 => chkAll c cells j && (match cat c j, cells[j]? with
    | some s, some y => chkS s y
    | _, _ => false)

def chkC (c : List Seg) (cells : Array Value) : Bool := Nat.beq cells.size (csize c) && chkAll c cells (csize c)

def toS : Value → S
  | .bool x => .b x
  | .int k n => .i k n
  | .string s => .s s.data.toList
  | .pointer _ => .p none
  | .slice _ _ _ => .sl none 0 (.k 0)
  | .nilIface => .ni
  | _ => .nf

def sizeT (P : Program) (t : TypeId) : Option Nat := (P.info? t).map (·.size)

def isInt (P : Program) (t : TypeId) : Option IntKind :=
  match P.underlying t with
  | some (.int k) => some k
  | _ => none

mutual
/-- The noughts of a type, by its form. -/
def zeroC (P : Program) : Nat → TypeId → List Value → List Seg
  | 0, _, cells => cells.map fun v => .one (toS v)
  | d + 1, t, cells =>
    match P.underlying t with
    | some (.array n e) =>
      match isInt P e with
      | some k => [.run k n (fun _ => 0)]
      | none => zeroA P d e n cells
    | some (.struct fs) => zeroF P d fs.toList cells
    | _ => cells.map fun v => .one (toS v)
def zeroA (P : Program) : Nat → TypeId → Nat → List Value → List Seg
  | 0, _, _, cells => cells.map fun v => .one (toS v)
  | d + 1, e, n, cells =>
    match n with
    | 0 => []
    | m + 1 => zeroC P d e (cells.take (P.cellsOf e)) ++ zeroA P d e m (cells.drop (P.cellsOf e))
def zeroF (P : Program) : Nat → List Field → List Value → List Seg
  | 0, _, cells => cells.map fun v => .one (toS v)
  | d + 1, fs, cells =>
    match fs with
    | [] => []
    | f :: r => zeroC P d f.type (cells.take (P.cellsOf f.type)) ++ zeroF P d r (cells.drop (P.cellsOf f.type))
end

/-- Is it a struct's or an array's type? -/
def isAggT (P : Program) (t : TypeId) : Option Bool :=
  match P.underlying t with
  | some (.struct _) | some (.array _ _) => some true
  | some _ => some false
  | none => none

/-- A type's noughts, held against the program's own. -/
def zeroV (P : Program) (t : TypeId) : Option V :=
  match (P.info? t).bind (·.zero) with
  | none => none
  | some (.agg cells) => let c := zeroC P 40 t cells.toList; cond (chkC c cells) (some (.ag c)) none
  | some v => cond (chkS (toS v) v) (some (.sc (toS v))) none

def V.content : V → Option (List Seg)
  | .sc v => some [.one v]
  | .ag c => some c
  | _ => none

def mapR {α β : Type} (x : Option (Bool × α)) (f : α → β) : Option (Bool × β) :=
  match x with
  | some (c, a) => some (c, f a)
  | none => none

def eqS : S → S → Option Bool
  | .b x, .b y => some (x == y)
  | .i k x, .i k' y => cond (ikEq k k') (some (x == y)) none
  | .s x, .s y => some (x == y)
  | _, _ => none

def allN (f : Nat → Bool) : Nat → Bool
  | 0 => true
  | n + 1 => allN f n && f n

/-- Are two structs' cells the same? -/
def eqC : List Seg → List Seg → Option Bool
  | [], [] => some true
  | .one x :: r, .one y :: q =>
    match eqS x y, eqC r q with
    | some a, some b => some (a && b)
    | _, _ => none
  | .run k n f :: r, .run k' n' g :: q =>
    cond (ikEq k k' && Nat.beq n n') (match eqC r q with
      | some b => some (allN (fun j => f j == g j) n && b)
      | none => none) none
  | _, _ => none

/-- The kinds of the cells of a type whose '==' goes cell by cell. -/
inductive LK where
  | b
  | i (k : IntKind)
  | s
  deriving DecidableEq

mutual
def kindsT (P : Program) : Nat → TypeId → Option (List LK)
  | 0, _ => none
  | d + 1, t =>
    match P.underlying t with
    | some .bool => cond (decide (sizeT P t = some 1)) (some [.b]) none
    | some (.int k) => cond (decide (sizeT P t = some 1)) (some [.i k]) none
    | some .string => cond (decide (sizeT P t = some 1)) (some [.s]) none
    | some (.struct fs) =>
      match kindsF P d fs.toList 0 with
      | some ks => cond (!P.stoodInHeld t && decide (sizeT P t = some ks.length)) (some ks) none
      | none => none
    | some (.array n e) =>
      match kindsT P d e with
      | some ks => cond (decide (sizeT P t = some (List.replicate n ks).flatten.length)) (some (List.replicate n ks).flatten) none
      | none => none
    | _ => none
def kindsF (P : Program) : Nat → List Field → Nat → Option (List LK)
  | 0, _, _ => none
  | d + 1, fs, o =>
    match fs with
    | [] => some []
    | f :: r =>
      match kindsT P d f.type, kindsF P d r (o + (P.cellsOf f.type)) with
      | some ks, some ls => cond (decide (f.name ≠ "_") && (Nat.beq f.offset o && decide (P.cellsOf f.type = ks.length))) (some (ks ++ ls)) none
      | _, _ => none
end

/-- Do the cells have these kinds? -/
def fitC : List LK → List Seg → Bool
  | [], [] => true
  | .b :: ks, .one (.b _) :: r => fitC ks r
  | .i k :: ks, .one (.i k' _) :: r => ikEq k k' && fitC ks r
  | .s :: ks, .one (.s _) :: r => fitC ks r
  | ks, .run k n _ :: r => Nat.ble n ks.length && ((ks.take n).all (fun l => decide (l = .i k)) && fitC (ks.drop n) r)
  | _, _ => false

def bytesT (P : Program) (t : TypeId) : Option Nat := (P.info? t).map (·.bytes)
def zlenT (P : Program) (t : TypeId) : Option Nat := ((P.info? t).bind (·.zero)).map (·.cells.size)

/-- What the executor asks of a type. -/
structure TyD where
  und : Option TypeDesc
  size : Option Nat
  bytes : Option Nat
  zlen : Option Nat
  zero : Option V
  agg : Option Bool
  kinds : Option (List LK)
  guard : Bool

def mkTy (P : Program) (t : TypeId) : TyD := ⟨P.underlying t, sizeT P t, bytesT P t, zlenT P t, zeroV P t, isAggT P t, kindsT P 40 t, P.eqGuardType P.depth t⟩

/-- A program's types in a tree, and what its package-level variables hold that nobody writes. -/
class Tb (P : Program) where
  tab : T TyD
  n : Nat
  ok : (List.range n).map tab.get = (List.range n).map fun t => some (mkTy P t)
  gl : T (List Seg)

section
variable (P : Program) [Tb P]
def tyX (t : TypeId) : TyD := Bool.rec (mkTy P t) (Option.rec (mkTy P t) (fun d => d) ((Tb.tab P).get t)) (Nat.blt t (Tb.n P))
def undX (t : TypeId) : Option TypeDesc := (tyX P t).und
def szX (t : TypeId) : Option Nat := (tyX P t).size
def byX (t : TypeId) : Option Nat := (tyX P t).bytes
def zlX (t : TypeId) : Option Nat := (tyX P t).zlen
def zvX (t : TypeId) : Option V := (tyX P t).zero
def agX (t : TypeId) : Option Bool := (tyX P t).agg
def knX (t : TypeId) : Option (List LK) := (tyX P t).kinds
def gdX (t : TypeId) : Bool := (tyX P t).guard
def ikX (t : TypeId) : Option IntKind :=
  match undX P t with
  | some (.int k) => some k
  | _ => none
def glX (g : Nat) : Option (List Seg) := (Tb.gl P).get g
end

def andI (k : IntKind) (x y : Int) : Int := k.wrap (BitVec.ofInt k.bits x &&& BitVec.ofInt k.bits y).toNat
def orI (k : IntKind) (x y : Int) : Int := k.wrap (BitVec.ofInt k.bits x ||| BitVec.ofInt k.bits y).toNat
def xorI (k : IntKind) (x y : Int) : Int := k.wrap (BitVec.ofInt k.bits x ^^^ BitVec.ofInt k.bits y).toNat
def andNotI (k : IntKind) (x y : Int) : Int := k.wrap (BitVec.ofInt k.bits x &&& ~~~(BitVec.ofInt k.bits y)).toNat
def bitsI (op : BinOp) (k : IntKind) (x y : Int) : Option Int :=
  match op with
  | .and => some (andI k x y)
  | .or => some (orI k x y)
  | .xor => some (xorI k x y)
  | .andNot => some (andNotI k x y)
  | _ => none

def isConst : Operand → Bool
  | .const _ => true
  | _ => false

def strLess (a b : List UInt8) : Bool := Op.bytesLess a b

def binInt (op : BinOp) (k : IntKind) (a b : Int) : Option (Bool × S) :=
  match op with
  | .add => some (true, .i k (k.wrap (a + b)))
  | .sub => some (true, .i k (k.wrap (a - b)))
  | .mul => some (true, .i k (k.wrap (a * b)))
  | .quo => some (!(decide (b = 0)), .i k (k.wrap (a.tdiv b)))
  | .rem => some (!(decide (b = 0)), .i k (a.tmod b))
  | .eql => some (true, .b (a == b))
  | .neq => some (true, .b (a != b))
  | .lss => some (true, .b (decide (a < b)))
  | .leq => some (true, .b (decide (a ≤ b)))
  | .gtr => some (true, .b (decide (a > b)))
  | .geq => some (true, .b (decide (a ≥ b)))
  | op => (bitsI op k a b).map fun r => (true, .i k r)

def isShift : BinOp → Bool
  | .shl | .shr => true
  | _ => false

def shiftI (op : BinOp) (k : IntKind) (x y : Int) : Option (Bool × S) :=
  let n := min y.toNat k.bits
  match op with
  | .shl => some (!(decide (y < 0)), .i k (k.wrap (x * 2 ^ n)))
  | .shr => some (!(decide (y < 0)), .i k (x.fdiv (2 ^ n)))
  | _ => none

def binC (P : Program) [Tb P] (op : BinOp) (t : TypeId) (ca cb : Bool) (x y : V) : Option (Bool × V) :=
  match x, y with
  | .sc (.i k a), .sc (.i k' b) =>
    cond (isShift op) (mapR (shiftI op k a b) .sc) (cond (ikEq k k') (mapR (binInt op k a b) .sc) none)
  | .sc (.b a), .sc (.b b) =>
    match undX P t, op with
    | some .bool, .eql => some (true, .sc (.b (a == b)))
    | some .bool, .neq => some (true, .sc (.b (!(a == b))))
    | _, _ => none
  | .sc (.s a), .sc (.s b) =>
    match op with
    | .eql => some (true, .sc (.b (a == b)))
    | .neq => some (true, .sc (.b (!(a == b))))
    | .lss => some (true, .sc (.b (strLess a b)))
    | .add => some (Nat.ble (a.length + b.length) 4611686018427387904, .sc (.s (a ++ b)))
    | _ => none
  | .sc .ni, .sc .ni =>
    match undX P t, op, ca || cb with
    | some (.interface _), .eql, true => some (true, .sc (.b true))
    | some (.interface _), .neq, true => some (true, .sc (.b false))
    | _, _, _ => none
  | .sc (.ifc _ _), .sc .ni | .sc .ni, .sc (.ifc _ _) =>
    match undX P t, op with
    | some (.interface _), .eql => some (true, .sc (.b false))
    | some (.interface _), .neq => some (true, .sc (.b true))
    | _, _ => none
  | .sc (.p a), .sc (.p none) =>
    match undX P t, op with
    | some (.pointer _), .eql => some (true, .sc (.b a.isNone))
    | some (.pointer _), .neq => some (true, .sc (.b (!a.isNone)))
    | _, _ => none
  | .sc (.sl a _ _), .sc (.sl none _ _) =>
    match undX P t, op with
    | some (.slice _), .eql => some (true, .sc (.b a.isNone))
    | some (.slice _), .neq => some (true, .sc (.b (!a.isNone)))
    | _, _ => none
  | .ag a, .ag b =>
    match knX P t with
    | some ks => cond (fitC ks a && (fitC ks b && !gdX P t)) (match eqC a b, op, agX P t with
      | some r, .eql, some true => some (true, .sc (.b r))
      | some r, .neq, some true => some (true, .sc (.b (!r)))
      | _, _, _ => none) none
    | none => none
  | _, _ => none

def unC (op : UnOp) (x : V) : Option (Bool × V) :=
  match op, x with
  | .neg, .sc (.i k n) => some (true, .sc (.i k (k.wrap (0 - n))))
  | .xor, .sc (.i k n) => (bitsI .xor k (if k.signed then -1 else k.max) n).map fun r => (true, .sc (.i k r))
  | .not, .sc (.b x) => some (true, .sc (.b (!x)))
  | _, _ => none

def convC (P : Program) [Tb P] (src dst : TypeId) (x : V) : Option (Bool × V) :=
  match undX P src, undX P dst, x with
  | some _, some (.int k), .sc (.i _ n) => some (true, .sc (.i k (k.wrap n)))
  | some _, some .string, .sc (.s s) => some (true, .sc (.s s))
  | _, _, _ => none

def AA.addF (a : AA) (d : Nat) : AA :=
  match a.ix with
  | none => ⟨a.id, a.off + d, none⟩
  | some (r, s, f) => ⟨a.id, a.off, some (r, s, f + d)⟩

/-- The address of an element: i rows of sz cells on. -/
def AA.addI (a : AA) (i sz : Nat) : Option AA :=
  match a.ix with
  | none => some ⟨a.id, a.off, some (i, sz, 0)⟩
  | some (r, s, f) => cond (Nat.beq s sz && Nat.beq f 0) (some ⟨a.id, a.off, some (r + i, s, 0)⟩) (some ⟨a.id, a.off, some (r, s, f + i * sz)⟩)

def fieldOf (P : Program) [Tb P] (t : TypeId) (f : Nat) : Option Field :=
  match undX P t with
  | some (.struct fs) => fs[f]?
  | _ => none

def fieldAddrC (P : Program) [Tb P] (t : TypeId) (x : V) (f : Nat) : Option (Bool × V) :=
  match x, fieldOf P t f with
  | .sc (.p (some a)), some fd =>
    match szX P fd.type with
    | some (_ + 1) => some (true, .sc (.p (some (a.addF fd.offset))))
    | _ => none
  | _, _ => none

def inB (i : Int) (n : Nat) : Bool := decide (0 ≤ i) && decide (i < n)

def indexAddrC (P : Program) [Tb P] (t : TypeId) (x ix : V) : Option (Bool × V) :=
  match ix with
  | .sc (.i _ i) =>
    match undX P t, x with
    | some (.array n e), .sc (.p (some a)) =>
      match szX P e with
      | some sz => (a.addI i.toNat sz).map fun b => (inB i n, .sc (.p (some b)))
      | none => none
    | some (.slice e), .sc (.sl (some a) n _) =>
      match szX P e with
      | some sz => (a.addI i.toNat sz).map fun b => (inB i n, .sc (.p (some b)))
      | none => none
    | _, _ => none
  | _ => none

/-- A part of a struct or an array by value. -/
def partC (P : Program) [Tb P] (t : TypeId) (c : List Seg) (o : Nat) : Option (Bool × V) :=
  match agX P t, szX P t with
  | some true, some n => mapR (subC c o n) .ag
  | some false, _ => (cat c o).map fun v => (true, .sc v)
  | _, _ => none

def fieldC (P : Program) [Tb P] (t : TypeId) (x : V) (f : Nat) : Option (Bool × V) :=
  match x, fieldOf P t f with
  | .ag c, some fd => partC P fd.type c fd.offset
  | _, _ => none

def indexC (P : Program) [Tb P] (t : TypeId) (x ix : V) : Option (Bool × V) :=
  match ix with
  | .sc (.i _ i) =>
    match undX P t, x with
    | some .string, .sc (.s s) => some (inB i s.length, .sc (.i .u8 ((s.getD i.toNat 0).toNat : Nat)))
    | some (.array n e), .ag [.run k m g] =>
      cond (Nat.beq n m) (match ikX P e, szX P e with
        | some _, some 1 => some (inB i n, .sc (.i k (g i.toNat)))
        | _, _ => none) none
    | some (.array n e), .ag c =>
      match szX P e with
      | some sz => match partC P e c (i.toNat * sz) with
        | some (b, v) => some (b && inB i n, v)
        | none => none
      | none => none
    | _, _ => none
  | _ => none

/-- A bound of a slice expression: what is told, or what stands for it. -/
def boundC (x : Option V) (d : Nat) (top : Nat) : Option (Bool × Nat) :=
  match x with
  | none => some (true, d)
  | some (.sc (.i _ i)) => some (decide (0 ≤ i) && decide (i ≤ top), i.toNat)
  | some _ => none

def sliceC (P : Program) [Tb P] (t : TypeId) (x : V) (lo hi mx : Option V) : Option (Bool × V) :=
  cond (mx.isSome && hi.isNone) none <|
  match undX P t, x with
  | some .string, .sc (.s s) =>
    match mx, boundC hi s.length s.length with
    | none, some (b, h) =>
      match boundC lo 0 h with
      | some (b', l) => some (b && b', .sc (.s ((s.take h).drop l)))
      | none => none
    | _, _ => none
  | some (.slice e), .sc (.sl (some a) len (.k cap)) =>
    match szX P e, boundC mx cap cap with
    | some sz, some (b0, m) =>
      match boundC hi len m with
      | some (b, h) =>
        match boundC lo 0 h with
        | some (b', l) => (a.addI l sz).map fun a' => (b0 && (b && b'), .sc (.sl (some a') (h - l) (.k (m - l))))
        | none => none
      | none => none
    | _, _ => none
  | some (.slice e), .sc (.sl (some a) len (.g gs)) =>
    match mx, szX P e with
    | none, some sz =>
      match boundC hi len len with
      | some (b, h) =>
        match boundC lo 0 h with
        | some (b', l) => (a.addI l sz).map fun a' => (Nat.beq gs sz && (b && b'), .sc (.sl (some a') (h - l) (.g gs)))
        | none => none
      | none => none
    | some _, some sz =>
      match boundC mx len len with
      | some (b0, m) =>
        match boundC hi len m with
        | some (b, h) =>
          match boundC lo 0 h with
          | some (b', l) => (a.addI l sz).map fun a' => (b0 && (b && b'), .sc (.sl (some a') (h - l) (.k (m - l))))
          | none => none
        | none => none
      | none => none
    | _, _ => none
  | some (.slice e), .sc (.sl none 0 (.k 0)) =>
    match szX P e, boundC mx 0 0 with
    | some _, some (b0, _) =>
      match boundC hi 0 0 with
      | some (b, _) =>
        match boundC lo 0 0 with
        | some (b', _) => some (b0 && (b && b'), .sc (.sl none 0 (.k 0)))
        | none => none
      | none => none
    | _, _ => none
  | some (.array n e), .sc (.p (some a)) =>
    match szX P e, boundC mx n n with
    | some sz, some (b0, m) =>
      match boundC hi n m with
      | some (b, h) =>
        match boundC lo 0 h with
        | some (b', l) => (a.addI l sz).map fun a' => (b0 && (b && b'), .sc (.sl (some a') (h - l) (.k (m - l))))
        | none => none
      | none => none
    | _, _ => none
  | _, _ => none

def fillC (place : Nat → Option (Nat × Nat)) (c : List Seg) : List (Nat × V) → Option (List Seg)
  | [] => some c
  | (i, v) :: rest =>
    match place i, v.content with
    | some (o, n), some c' => cond (Nat.beq (csize c') n && Nat.ble (o + n) (csize c)) (spine (cupd c o c') fun d => fillC place d rest) none
    | _, _ => none

def partsOf (e : Operand → Option V) : List (Nat × Operand) → Option (List (Nat × V))
  | [] => some []
  | (i, x) :: r =>
    match e x, partsOf e r with
    | some v, some l => some ((i, v) :: l)
    | _, _ => none

def placesOf (P : Program) [Tb P] (fs : List Field) (i : Nat) : Option (Nat × Nat) :=
  match fs[i]? with
  | some f => (szX P f.type).map fun n => (f.offset, n)
  | none => none

def buildC (P : Program) [Tb P] (t : TypeId) (parts : List (Nat × V)) : Option V :=
  match zvX P t, undX P t with
  | some (.ag z), some (.struct fs) =>
    cond (fs.toList.all fun f => (szX P f.type).isSome) ((fillC (placesOf P fs.toList) z parts).map .ag) none
  | some (.ag z), some (.array _ e) =>
    match szX P e with
    | some n => (fillC (fun i => some (i * n, n)) z parts).map .ag
    | none => none
  | _, _ => none

def lenC (P : Program) [Tb P] (t : TypeId) (x : V) : Option (Bool × V) :=
  match undX P t, x with
  | some .string, .sc (.s s) => some (true, .sc (.i .i64 s.length))
  | some (.array n _), _ => some (true, .sc (.i .i64 n))
  | some (.slice _), .sc (.sl _ n _) => some (true, .sc (.i .i64 n))
  | _, _ => none

def capC (P : Program) [Tb P] (t : TypeId) (x : V) : Option (Bool × V) :=
  match undX P t, x with
  | some (.slice _), .sc (.sl _ _ (.k n)) => some (true, .sc (.i .i64 n))
  | _, _ => none

def builtinC (P : Program) [Tb P] (b : Builtin) (ts : List TypeId) (xs : List V) : Option (Bool × V) :=
  match b, ts, xs with
  | .len, [t], [x] => lenC P t x
  | .cap, [t], [x] => capC P t x
  | .min, [_, _], [.sc (.i k a), .sc (.i k' b)] => cond (ikEq k k') (some (true, .sc (.i k (cond (decide (b < a)) b a)))) none
  | .max, [_, _], [.sc (.i k a), .sc (.i k' b)] => cond (ikEq k k') (some (true, .sc (.i k (cond (decide (b > a)) b a)))) none
  | _, _, _ => none

def argsOf (e : Operand → Option V) : List Operand → Option (List V)
  | [] => some []
  | x :: r =>
    match e x, argsOf e r with
    | some v, some l => some (v :: l)
    | _, _ => none

def optOf (e : Operand → Option V) : Option Operand → Option (Option V)
  | none => some none
  | some x => (e x).map some

/-- Operations that look at no memory. -/
def pureC (P : Program) [Tb P] (e : Operand → Option V) (op : Op) : Option (Bool × V) :=
  match op with
  | .move x | .assign x => (e x).map fun v => (true, v)
  | .pick c a b =>
    match e c with
    | some (.sc (.b t)) =>
      match e a, e b with
      | some (.sc (.b x)), some (.sc (.b y)) => some (true, .sc (.b (cond t x y)))
      | u, v => match t with
        | true => u.map fun v => (true, v)
        | false => v.map fun v => (true, v)
    | _ => none
  | .nilCheck x =>
    match e x with
    | some (.sc (.p (some a))) => some (true, .sc (.p (some a)))
    | some (.sc (.ifc t v)) => some (true, .sc (.ifc t v))
    | some (.sc (.fn f cs)) => some (true, .sc (.fn f cs))
    | _ => none
  | .binOp op t x y _ =>
    match e x, e y with
    | some u, some v => binC P op t (isConst x) (isConst y) u v
    | _, _ => none
  | .unOp op _ x => (e x).bind (unC op)
  | .convert s d x => (e x).bind (convC P s d)
  | .makeInterface t x =>
    match e x, undX P t with
    | some (.sc _), some (.interface _) => none
    | some (.sc v), some _ => some (true, .sc (.ifc t v))
    | _, _ => none
  | .extract x n =>
    match e x with
    | some (.tu vs) => (vs[n]?).map fun v => (true, v)
    | _ => none
  | .field t x f => (e x).bind fun v => fieldC P t v f
  | .fieldAddr t x f => (e x).bind fun v => fieldAddrC P t v f
  | .indexAddr t x i =>
    match e x, e i with
    | some u, some v => indexAddrC P t u v
    | _, _ => none
  | .index t x i =>
    match e x, e i with
    | some u, some v => indexC P t u v
    | _, _ => none
  | .slice t x lo hi mx =>
    match e x, optOf e lo, optOf e hi, optOf e mx with
    | some v, some a, some b, some c => sliceC P t v a b c
    | _, _, _, _ => none
  | .build t parts => ((partsOf e parts.toList).bind (buildC P t)).map fun v => (true, v)
  | .call c =>
    match c.callee with
    | .builtin b => (argsOf e c.args.toList).bind (builtinC P b c.argTypes.toList)
    | _ => none
  | _ => none

/-- Operations that make a block: what they yield, given its number, and what lies in it. -/
def allocC (P : Program) [Tb P] (e : Operand → Option V) (op : Op) (id : Nat) : Option (Bool × V × List Seg) :=
  match op with
  | .alloc t => ((zvX P t).bind V.content).map fun c => (true, .sc (.p (some ⟨id, 0, none⟩)), c)
  | .box _ x => ((e x).bind V.content).map fun c => (true, .sc (.p (some ⟨id, 0, none⟩)), c)
  | .buildSlice t n parts =>
    match undX P t with
    | some (.slice el) =>
      match szX P el, zvX P el, partsOf e parts.toList with
      | some sz, some z, some ps =>
        match z.content with
        | some zc =>
          cond (Nat.blt 0 (n * sz) && (Nat.ble (n * sz) 16777216 && Nat.beq (csize zc) sz))
            ((fillC (fun i => some (i * sz, sz)) ((List.replicate n zc).flatten) ps).map fun c => (true, .sc (.sl (some ⟨id, 0, none⟩) n (.k n)), c)) none
        | none => none
      | _, _, _ => none
    | _ => none
  | .makeSlice t l c =>
    match undX P t, e l, e c with
    | some (.slice el), some (.sc (.i .i64 len)), some (.sc (.i .i64 cap)) =>
      match szX P el, byX P el, zvX P el with
      | some sz, some by_, some (.sc (.i k z)) =>
        cond (decide (z = 0) && (Nat.beq sz 1 && Nat.blt 0 by_))
          (some (decide (0 ≤ len) && (decide (len ≤ cap) && decide (by_ * cap ≤ 140737488355328)), .sc (.sl (some ⟨id, 0, none⟩) len.toNat (.k cap.toNat)), [.run k cap.toNat (fun _ => 0)])) none
      | some sz, some by_, some (.sc z) =>
        cond (Nat.beq sz 1 && Nat.blt 0 by_)
          (some (decide (0 ≤ len) && (decide (len ≤ cap) && decide (by_ * cap ≤ 140737488355328)), .sc (.sl (some ⟨id, 0, none⟩) len.toNat (.k cap.toNat)), List.replicate cap.toNat (.one z))) none
      | _, _, _ => none
    | _, _, _ => none
  | _ => none

/-- A load: the block that is read, and what it yields. -/
def cellsC (P : Program) [Tb P] (h : H) (id : Nat) : Option (List Seg) :=
  match h.m.get id with
  | some b => some b.c
  | none => cond (Nat.blt id (nGlob P)) (glX P id) none

def loadC (P : Program) [Tb P] (h : H) (t : TypeId) (x : V) : Option (Bool × V) :=
  match x with
  | .sc (.p (some a)) =>
    match cellsC P h a.id with
    | some c =>
      match agX P t, szX P t with
      | some true, some n => mapR (rdC c a n) .ag
      | some false, _ => mapR (rdS c a) .sc
      | _, _ => none
    | none => none
  | _ => none

/-- A store. -/
def storeC (P : Program) [Tb P] (h : H) (t : TypeId) (x v : V) : Option (Bool × H) :=
  match x with
  | .sc (.p (some a)) =>
    match h.m.get a.id with
    | some b =>
      cond (b.ro || Nat.blt a.id h.lo) none
        (match v, szX P t with
        | .sc s, some n => cond (Nat.beq n 1) (mapR (wrS b.c a s) fun c => { h with m := h.m.set a.id { b with c := c } }) none
        | .ag c', some n => cond (Nat.beq n (csize c')) (mapR (wrC b.c a c') fun c => { h with m := h.m.set a.id { b with c := c } }) none
        | _, _ => none)
    | none => none
  | _ => none

end
end Go.Proofs.YteionboacdkfjaaDoor.X
