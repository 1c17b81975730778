/- Part of a proof by a value interpreter: typed values, the state of a frame, and the interpreter itself. Nothing is proved here of any program. -/
import Derived.Calls
import Derived.Laws.Bits
set_option linter.unusedVariables false
set_option linter.unusedSimpArgs false
namespace Go.Proofs.Ytlehbecajmjgkaa.V

/-- a call, or whatever may have no answer, and what follows -/
def bnd {α β : Type} (m : Option α) (f : α → Option β) : Option β := m.bind f
/-- a branch -/
def br {α : Type} (b : Bool) (x y : Option α) : Option α := if b = true then x else y

/-! comparisons, for the texts that are printed -/
def leB {α : Type} [LE α] [DecidableLE α] (a b : α) : Bool := decide (a ≤ b)
def ltB {α : Type} [LT α] [DecidableLT α] (a b : α) : Bool := decide (a < b)
def eqD {α : Type} [DecidableEq α] (a b : α) : Bool := decide (a = b)

/-! ### types and typed values -/
inductive Ty where
  | int (k : IntKind)
  | bool
  | str
  | sl (t : Ty)
  | un
  | pr (a b : Ty)
  | arr (n : Nat) (t : Ty)
  deriving DecidableEq, Inhabited

@[reducible] def IK : IntKind → Type
  | .u8 => UInt8
  | .i8 => Int
  | .i16 => Int
  | .i32 => Int
  | .i64 => Int
  | .u16 => Int
  | .u32 => Int
  | .u64 => Int

def toI : (k : IntKind) → IK k → Int
  | .u8, x => (x.toNat : Int)
  | .i8, x => x
  | .i16, x => x
  | .i32, x => x
  | .i64, x => x
  | .u16, x => x
  | .u32, x => x
  | .u64, x => x

def ofI : (k : IntKind) → Int → IK k
  | .u8, n => UInt8.ofNat n.toNat
  | .i8, n => n
  | .i16, n => n
  | .i32, n => n
  | .i64, n => n
  | .u16, n => n
  | .u32, n => n
  | .u64, n => n

@[reducible] def Ty.den : Ty → Type
  | .int k => IK k
  | .bool => Bool
  | .str => List UInt8
  | .sl t => List t.den
  | .un => Unit
  | .pr a b => a.den × b.den
  | .arr _ t => List t.den

def Ty.zero : (τ : Ty) → τ.den
  | .int k => ofI k 0
  | .bool => false
  | .str => []
  | .sl _ => []
  | .un => ()
  | .pr a b => (a.zero, b.zero)
  | .arr n t => List.replicate n t.zero

/-- how many cells -/
def Ty.size : Ty → Nat
  | .int _ => 1
  | .bool => 1
  | .str => 1
  | .sl _ => 1
  | .un => 0
  | .pr a b => a.size + b.size
  | .arr n t => n * t.size

def Ty.isAgg : Ty → Bool
  | .un => true
  | .pr _ _ => true
  | .arr _ _ => true
  | _ => false

/-- the type of a field -/
def Ty.fld : Ty → Nat → Option Ty
  | .pr a _, 0 => some a
  | .pr _ b, n + 1 => b.fld n
  | _, _ => none

/-- how many slices a value holds at its own level -/
def Ty.leaves : Ty → Nat
  | .sl _ => 1
  | .pr a b => a.leaves + b.leaves
  | _ => 0

/-- does a value hold a slice, at any level -/
def Ty.hasSl : Ty → Bool
  | .sl _ => true
  | .pr a b => a.hasSl || b.hasSl
  | .arr _ t => t.hasSl
  | _ => false

/-- is a slice at its own level one of elements that hold slices -/
def Ty.deep : Ty → Bool
  | .sl t => t.hasSl
  | .pr a b => a.deep || b.deep
  | .arr _ t => t.hasSl
  | _ => false

/-- who may write the cells of a slice: nobody any more; it is nil; the frame, as array 'id', all of it or a first part -/
inductive Tg where
  | im
  | ni
  | ow (id : Nat)
  | pa (id : Nat)
  deriving DecidableEq, Inhabited

structure D where
  ty : Ty
  x : ty.den
  g : List Tg

inductive Step where
  | fld (i : Nat)
  | idx (n : Nat)

inductive V where
  | top
  | dat (d : D)
  /-- the nil slice, before its type is known -/
  | nl
  /-- a pointer into a box, and the type of what it points to -/
  | ptr (b : Nat) (p : List Step) (τ : Ty)
  /-- the address of a part of element 'i' of a slice, and what lies there -/
  | el (d : D) (i : Nat) (p : List Step) (e : D)
  /-- a slice of a whole array that lies in a box -/
  | bsl (b : Nat)
  | fn (f : FuncId)

inductive W where
  | one (v : V)
  | tup (l : List V)
  /-- nothing was written here -/
  | un

structure St where
  tm : List W
  bx : List (Option D)
  base : Nat
  mv : Nat → Bool
  fz : Nat → Bool

def D.as (d : D) (τ : Ty) : Option τ.den := if h : d.ty = τ then some (h ▸ d.x) else none

/-! ### parts -/
/-- the part of a value at a path -/
def Ty.getK {Ω : Type} : (τ : Ty) → τ.den → List Tg → List Step → (D → Option Ω) → Option Ω
  | τ, x, g, [], c => c ⟨τ, x, g⟩
  | .pr a _, x, g, .fld 0 :: p, c => a.getK x.1 (g.take a.leaves) p c
  | .pr a b, x, g, .fld (i + 1) :: p, c => b.getK x.2 (g.drop a.leaves) (.fld i :: p) c
  | .arr _ t, xs, _, .idx i :: p, c => if t.leaves = 0 then bnd (xs[i]?) fun x => t.getK x [] p c else none
  | _, _, _, _ :: _, _ => none

/-- the value with another part at a path -/
def Ty.putK {Ω : Type} : (τ : Ty) → τ.den → List Tg → List Step → D → (τ.den → List Tg → Option Ω) → Option Ω
  | τ, _, _, [], d, c => match d.as τ with
    | some y => c y d.g
    | none => none
  | .pr a _, x, g, .fld 0 :: p, d, c => a.putK x.1 (g.take a.leaves) p d fun y h => c (y, x.2) (h ++ g.drop a.leaves)
  | .pr a b, x, g, .fld (i + 1) :: p, d, c => b.putK x.2 (g.drop a.leaves) (.fld i :: p) d fun y h => c (x.1, y) (g.take a.leaves ++ h)
  | .arr _ t, xs, g, .idx i :: p, d, c => if t.leaves = 0 then bnd (xs[i]?) fun x => t.putK x [] p d fun y _ => c (xs.set i y) g else none
  | _, _, _, _ :: _, _, _ => none

/-! ### limits: a loop, or a function that calls itself -/
def iterN {α β : Type} (step : α → Option (α ⊕ β)) : Nat → α → Option β
  | 0, _ => none
  | n + 1, a => match step a with
    | none => none
    | some (.inl a') => iterN step n a'
    | some (.inr b) => some b

open Classical in
noncomputable def iter {α β : Type} (step : α → Option (α ⊕ β)) (a : α) : Option β :=
  if h : ∃ b n, iterN step n a = some b then some (Classical.choose h) else none

/-! ### contracts: the part that computes -/
inductive ATy where
  | val (τ : Ty)
  /-- a pointer to a box; 'pat': which of its slices must be the caller's own -/
  | bx (τ : Ty) (pat : List Bool)
  | fn (f : FuncId)
  deriving DecidableEq

inductive RTy where
  /-- 'pat': which of its slices are new, and nobody else's -/
  | val (τ : Ty) (pat : List Bool)
  /-- a pointer to a new box -/
  | bx (τ : Ty) (pat : List Bool)
  deriving DecidableEq

@[reducible] def InDen : List ATy → Type
  | [] => Unit
  | .val τ :: r => τ.den × InDen r
  | .bx τ _ :: r => τ.den × InDen r
  | .fn _ :: r => InDen r

@[reducible] def RDen : List RTy → Type
  | [] => Unit
  | .val τ _ :: r => τ.den × RDen r
  | .bx τ _ :: r => τ.den × RDen r

@[reducible] def BDen : List ATy → Type
  | [] => Unit
  | .val _ :: r => BDen r
  | .bx τ _ :: r => τ.den × BDen r
  | .fn _ :: r => BDen r

structure Con where
  ins : List ATy
  outs : List RTy
  f : InDen ins → Option (RDen outs × BDen ins)
  /-- the same, and what follows -/
  run : (Ω : Type) → InDen ins → (RDen outs × BDen ins → Option Ω) → Option Ω
  ok : ∀ Ω a c, run Ω a c = (f a).bind c

structure Cfg where
  ty : TypeId → Option Ty
  /-- the element type of slices -/
  el : Ty → TypeId
  con : FuncId → Option Con

/-! ### operands -/
def strOf (s : ByteArray) : List UInt8 := s.data.toList

def constV : Value → V
  | .int k n => if toI k (ofI k n) = n then .dat ⟨.int k, ofI k n, []⟩ else .top
  | .bool b => .dat ⟨.bool, b, []⟩
  | .string s => .dat ⟨.str, strOf s, []⟩
  | .slice none 0 0 => .nl
  | _ => .top

def St.ev (s : St) : Operand → W
  | .tmp t => s.tm.getD t (.one .top)
  | .const v => .one (constV v)
  | .func f => .one (.fn f)
  | .global _ => .one .top

def St.put (s : St) (dst : Option Tmp) (v : W) : St :=
  match dst with
  | some d => { s with tm := s.tm.set d v }
  | none => s

def St.box (s : St) (b : Nat) : Option D := (s.bx[b]?).bind id

def bool (b : Bool) : W := .one (.dat ⟨.bool, b, []⟩)
def num (k : IntKind) (n : Int) : W := .one (.dat ⟨.int k, ofI k n, []⟩)

/-- coercion of an untyped nil -/
def V.to (v : V) (τ : Ty) : Option D :=
  match v with
  | .dat d => if d.ty = τ then some d else none
  | .nl => match τ with
    | .sl t => some ⟨.sl t, [], [.ni]⟩
    | _ => none
  | _ => none

def tgIds : List Tg → List Nat
  | [] => []
  | .ow i :: r => i :: tgIds r
  | .pa i :: r => i :: tgIds r
  | _ :: r => tgIds r

/-- tags of what nobody writes any more -/
def imTags (g : List Tg) : List Tg := g.map fun _ => .im

section
variable {Ω : Type}

def iAnd (k : IntKind) (x y : Int) : Int := k.wrap (BitVec.ofInt k.bits x &&& BitVec.ofInt k.bits y).toNat
def iOr (k : IntKind) (x y : Int) : Int := k.wrap (BitVec.ofInt k.bits x ||| BitVec.ofInt k.bits y).toNat
def iXor (k : IntKind) (x y : Int) : Int := k.wrap (BitVec.ofInt k.bits x ^^^ BitVec.ofInt k.bits y).toNat
def iAndNot (k : IntKind) (x y : Int) : Int := k.wrap (BitVec.ofInt k.bits x &&& ~~~ BitVec.ofInt k.bits y).toNat
def iShl (k : IntKind) (x y : Int) : Int := k.wrap (x * 2 ^ (min y.toNat k.bits))
def iShr (k : IntKind) (x y : Int) : Int := x.fdiv (2 ^ (min y.toNat k.bits))

def binI (op : BinOp) (k : IntKind) (x y : Int) (c : W → Option Ω) : Option Ω :=
  match op with
  | .add => c (num k (k.wrap (x + y)))
  | .sub => c (num k (k.wrap (x - y)))
  | .mul => c (num k (k.wrap (x * y)))
  | .quo => br (decide (y = 0)) none (c (num k (k.wrap (x.tdiv y))))
  | .rem => br (decide (y = 0)) none (c (num k (x.tmod y)))
  | .and => c (num k (iAnd k x y))
  | .or => c (num k (iOr k x y))
  | .xor => c (num k (iXor k x y))
  | .andNot => c (num k (iAndNot k x y))
  | .eql => c (bool (x == y))
  | .neq => c (bool (x != y))
  | .lss => c (bool (decide (x < y)))
  | .leq => c (bool (decide (x ≤ y)))
  | .gtr => c (bool (decide (x > y)))
  | .geq => c (bool (decide (x ≥ y)))
  | .shl => br (decide (y < 0)) none (c (num k (iShl k x y)))
  | .shr => br (decide (y < 0)) none (c (num k (iShr k x y)))

def opBin (τx : Option Ty) (op : BinOp) (x y : W) (c : W → Option Ω) : Option Ω :=
  match x, y with
  | .one (.dat ⟨.int k, a, _⟩), .one (.dat ⟨.int k', b, _⟩) =>
    match op with
    | .shl => binI .shl k (toI k a) (toI k' b) c
    | .shr => binI .shr k (toI k a) (toI k' b) c
    | _ => if k = k' then binI op k (toI k a) (toI k' b) c else none
  | .one (.dat ⟨.str, a, _⟩), .one (.dat ⟨.str, b, _⟩) =>
    match op with
    | .add => br (decide (a.length + b.length ≤ 4294967296)) (c (.one (.dat ⟨.str, a ++ b, []⟩))) none
    | .eql => c (bool (decide (a = b)))
    | .neq => c (bool (!decide (a = b)))
    | _ => none
  | .one (.dat ⟨.bool, a, _⟩), .one (.dat ⟨.bool, b, _⟩) =>
    if τx = some .bool then
      match op with
      | .eql => c (bool (a == b))
      | .neq => c (bool (!(a == b)))
      | _ => none
    else none
  | .one (.dat ⟨.sl t, _, [.ni]⟩), .one .nl =>
    if τx = some (.sl t) then
      match op with
      | .eql => c (bool true)
      | .neq => c (bool false)
      | _ => none
    else none
  | .one (.dat ⟨.sl t, _ :: _, _⟩), .one .nl =>
    if τx = some (.sl t) then
      match op with
      | .eql => c (bool false)
      | .neq => c (bool true)
      | _ => none
    else none
  | _, _ => none

def opUn (op : UnOp) (x : W) (c : W → Option Ω) : Option Ω :=
  match op, x with
  | .not, .one (.dat ⟨.bool, a, _⟩) => c (bool (!a))
  | .neg, .one (.dat ⟨.int k, a, _⟩) => c (num k (k.wrap (0 - toI k a)))
  | _, _ => none

/-- how many elements a slice may come to -/
def most : Nat := 4294967296

def bIdx {α : Type} (xs : List α) (i : Int) : Option α := if 0 ≤ i then xs[i.toNat]? else none

def cut {α : Type} (xs : List α) (lo hi : Int) : Option (List α) :=
  if 0 ≤ lo then if lo ≤ hi then if hi ≤ xs.length then some ((xs.take hi.toNat).drop lo.toNat) else none else none else none

def asInt : Option W → Option Int
  | some (.one (.dat ⟨.int k, n, _⟩)) => some (toI k n)
  | _ => none

/-- a slice expression: a first part of an array of the frame's own stays the frame's own, all else is let go -/
def opSlice (τx : Option Ty) (x : W) (lo hi : Option W) (bx : Nat → Option D) (c : W → List Nat → List Nat → Option Ω) : Option Ω :=
  match x with
  | .one (.dat ⟨.str, a, _⟩) =>
    if τx = some .str then
    match (match lo with | none => some 0 | l => asInt l), (match hi with | none => some (a.length : Int) | h => asInt h) with
    | some l, some h => bnd (cut a l h) fun r => c (.one (.dat ⟨.str, r, []⟩)) [] []
    | _, _ => none
    else none
  | .one (.dat ⟨.sl t, a, g⟩) =>
    if τx = some (.sl t) then
    match lo with
    | none => match hi with
      | none => c x [] []
      | h => match asInt h with
        | some h => bnd (cut a 0 h) fun r => c (.one (.dat ⟨.sl t, r, match g with | [.ow i] => [.pa i] | [.pa i] => [.pa i] | _ => [.im]⟩)) [] []
        | none => none
    | l => match asInt l, (match hi with | none => some (a.length : Int) | h => asInt h) with
      | some l, some h => bnd (cut a l h) fun r => c (.one (.dat ⟨.sl t, r, [.im]⟩)) (tgIds g) []
      | _, _ => none
    else none
  | .one (.ptr b [] _) =>
    match lo, hi, bx b with
    | none, none, some ⟨.arr n te, _, _⟩ => if τx = some (.arr n te) then c (.one (.bsl b)) [] [b] else none
    | _, _, _ => none
  | _ => none

def opConv (src dst : Ty) (x : W) (c : W → Option Ω) : Option Ω :=
  match dst, x with
  | .int k, .one (.dat ⟨.int k', n, _⟩) => c (num k (k.wrap (toI k' n)))
  | .str, .one (.dat ⟨.sl (.int .u8), xs, _⟩) => if src = .sl (.int .u8) then c (.one (.dat ⟨.str, xs, []⟩)) else none
  | .str, .one (.dat ⟨.str, xs, _⟩) => c (.one (.dat ⟨.str, xs, []⟩))
  | .str, .one .nl => if src = .sl (.int .u8) then c (.one (.dat ⟨.str, [], []⟩)) else none
  | _, _ => none

/-! ### what an operation leaves -/
structure U where
  v : W
  wb : List (Nat × D) := []
  mvs : List Nat := []
  fzs : List Nat := []
  rb : List Nat := []
  rf : List Nat := []

def setBoxes (bx : List (Option D)) : List (Nat × D) → List (Option D)
  | [] => bx
  | (b, d) :: r => setBoxes (bx.set b (some d)) r

def St.app (s : St) (dst : Option Tmp) (u : U) : St :=
  { tm := match dst with | some d => s.tm.set d u.v | none => s.tm
    bx := setBoxes s.bx u.wb
    base := s.base
    mv := fun i => s.mv i || u.mvs.contains i
    fz := fun i => s.fz i || u.fzs.contains i }

/-- tags for a slice that is new: leaf 'j' of operation 'i' -/
def newIds (n : Nat) : List Bool → List Tg
  | [] => []
  | true :: r => .ow n :: newIds (n + 1) r
  | false :: r => .im :: newIds (n + 1) r

/-- the parts of a struct (or array) literal -/
def buildK (arr : Bool) (ev : Operand → W) : List (Nat × Operand) → D → (D → Option Ω) → Option Ω
  | [], d, c => c d
  | (i, x) :: r, d, c =>
    let st : Step := if arr then .idx i else .fld i
    d.ty.getK d.x d.g [st] fun f =>
      match ev x with
      | .one v => match v.to f.ty with
        | some e => d.ty.putK d.x d.g [st] e fun y g => buildK arr ev r ⟨d.ty, y, g⟩ c
        | none => none
      | _ => none

/-- the elements of a slice literal, and the arrays that are let go -/
def elemsK (t : Ty) (ev : Operand → W) : List (Nat × Operand) → List t.den → List Nat → (List t.den → List Nat → Option Ω) → Option Ω
  | [], xs, ids, c => c xs ids
  | (i, x) :: r, xs, ids, c =>
    match ev x with
    | .one v => match v.to t with
      | some e => match e.as t with
        | some y => elemsK t ev r (xs.set i y) (tgIds e.g ++ ids) c
        | none => none
      | none => none
    | _ => none

def zeroTg (τ : Ty) : List Tg := List.replicate τ.leaves .ni
def Ty.zeroD (τ : Ty) : D := ⟨τ, τ.zero, zeroTg τ⟩

/-- may the frame append to this? -/
def ownable (mv fz : Nat → Bool) : List Tg → Option (List Nat)
  | [.ni] => some []
  | [.ow i] => if mv i || fz i then none else some [i]
  | _ => none

/-! ### calls -/
def patOk (mv fz : Nat → Bool) : List Bool → List Tg → Bool
  | [], [] => true
  | false :: r, _ :: g => patOk mv fz r g
  | true :: r, .ow i :: g => !(mv i || fz i) && patOk mv fz r g
  | true :: r, .ni :: g => patOk mv fz r g
  | _, _ => false

/-- the tags of the slices that are handed over as nobody's to write -/
def lentIds : List Bool → List Tg → List Nat
  | true :: r, _ :: g => lentIds r g
  | false :: r, t :: g => tgIds [t] ++ lentIds r g
  | _, _ => []
/-- and of those that are handed over to be written -/
def gaveIds : List Bool → List Tg → List Nat
  | true :: r, t :: g => tgIds [t] ++ gaveIds r g
  | false :: r, _ :: g => gaveIds r g
  | _, _ => []

/-- the arguments as the contract wants them; which arrays are lent, which given, which boxes -/
structure Args (ins : List ATy) where
  a : InDen ins
  lent : List Nat
  gave : List Nat
  bxs : List Nat

def argsOf (bx : Nat → Option D) (mv fz : Nat → Bool) : (ins : List ATy) → List W → Option (Args ins)
  | [], [] => some ⟨(), [], [], []⟩
  | .val τ :: r, .one v :: l => match v.to τ with
    | some d => match d.as τ with
      | some x => match argsOf bx mv fz r l with
        | some y => some ⟨(x, y.a), tgIds d.g ++ y.lent, y.gave, y.bxs⟩
        | none => none
      | none => none
    | none => none
  | .bx τ pat :: r, .one (.ptr b [] _) :: l => match bx b with
    | some d => if patOk mv fz pat d.g then match d.as τ with
      | some x => match argsOf bx mv fz r l with
        | some y => if y.bxs.contains b then none else some ⟨(x, y.a), lentIds pat d.g ++ y.lent, gaveIds pat d.g ++ y.gave, b :: y.bxs⟩
        | none => none
      | none => none
      else none
    | none => none
  | .fn f :: r, .one (.fn g) :: l => if f = g then match argsOf bx mv fz r l with
      | some y => some ⟨y.a, y.lent, y.gave, y.bxs⟩
      | none => none
    else none
  | _, _ => none

/-- the boxes behind the call -/
def outBoxes : (ins : List ATy) → BDen ins → List Nat → (n : Nat) → List (Nat × D)
  | [], _, _, _ => []
  | .val _ :: r, y, l, n => outBoxes r y l n
  | .fn _ :: r, y, l, n => outBoxes r y l n
  | .bx τ pat :: r, y, b :: l, n => (b, ⟨τ, y.1, newIds n pat⟩) :: outBoxes r y.2 l (n + pat.length)
  | .bx _ _ :: _, _, [], _ => []

/-- the results, the boxes that come with them, the next free number -/
def outVals (dst : Nat) : (outs : List RTy) → RDen outs → (n : Nat) → List V × List (Nat × D) × Nat
  | [], _, n => ([], [], n)
  | .val τ pat :: r, y, n => match outVals dst r y.2 (n + pat.length) with
    | (l, b, m) => (.dat ⟨τ, y.1, newIds n pat⟩ :: l, b, m)
  | .bx τ pat :: r, y, n => match outVals dst r y.2 (n + pat.length) with
    | (l, b, m) => (.ptr dst [] τ :: l, (dst, ⟨τ, y.1, newIds n pat⟩) :: b, m)

/-- is there no slice in it that may be anybody's -/
def RTy.pure : RTy → Bool
  | .val τ pat => pat.all id && !τ.deep
  | .bx τ pat => pat.all id && !τ.deep
def ATy.pure : ATy → Bool
  | .bx τ pat => pat.all id && !τ.deep
  | _ => true

def patLen : List RTy → Nat
  | [] => 0
  | .val _ p :: r => p.length + patLen r
  | .bx _ p :: r => p.length + patLen r
def patLenI : List ATy → Nat
  | [] => 0
  | .bx _ p :: r => p.length + patLenI r
  | .val _ :: r => patLenI r
  | .fn _ :: r => patLenI r

/-- no slice of a box that is handed over is to be the callee's own -/
def ATy.noOwn : ATy → Bool
  | .bx _ pat => pat.all (!·)
  | _ => true
/-- one result, or results of which none is a pointer -/
def RTy.simple : List RTy → Bool
  | [_] => true
  | l => l.all fun | .val _ _ => true | .bx _ _ => false

def oneOrTup : List V → W
  | [v] => .one v
  | l => .tup l

/-- a result that is a new box needs a place for it -/
def newBox (outs : List RTy) (dst : Option Tmp) (bx : Nat → Option D) : Bool :=
  match outs, dst with
  | [.bx _ _], some d => (bx d).isNone
  | [.bx _ _], none => false
  | _, _ => true

def callK (cn : Con) (i base : Nat) (dst : Option Tmp) (l : List W) (bx : Nat → Option D) (mv fz : Nat → Bool) (c : U → Option Ω) : Option Ω :=
  match argsOf bx mv fz cn.ins l with
  | none => none
  | some y =>
    let pure := cn.outs.all RTy.pure && cn.ins.all ATy.pure
    if y.gave.isEmpty && decide (patLen cn.outs + patLenI cn.ins ≤ 64) && (pure || !y.lent.any mv) && cn.ins.all ATy.noOwn && RTy.simple cn.outs && newBox cn.outs dst bx then cn.run _ y.a fun r =>
    match outVals (dst.getD 0) cn.outs r.1 (base + 64 * i) with
    | (vs, nb, n) => c { v := oneOrTup vs
                         wb := nb ++ outBoxes cn.ins r.2 y.bxs n
                         mvs := []
                         fzs := if pure then [] else y.lent
                         rb := y.bxs
                         rf := [] }
    else none

/-! ### one operation -/
def opC (K : Cfg) (o : Oper) (i base : Nat) (ev : Operand → W) (bx : Nat → Option D) (mv fz : Nat → Bool) (c : U → Option Ω) : Option Ω :=
  match o.op with
  | .move x => c { v := ev x }
  | .assign x => c { v := ev x }
  | .pick b x y => match ev b with
    | .one (.dat ⟨.bool, t, _⟩) => br t (c { v := ev x }) (c { v := ev y })
    | _ => none
  | .alloc t => match K.ty t, o.dst with
    | some τ, some d => if (bx d).isNone then c { v := .one (.ptr d [] τ), wb := [(d, τ.zeroD)] } else none
    | _, _ => none
  | .box t x => match K.ty t, o.dst, ev x with
    | some τ, some d, .one v => if (bx d).isNone then match v.to τ with
      | some e => c { v := .one (.ptr d [] τ), wb := [(d, e)] }
      | none => none
      else none
    | _, _, _ => none
  | .build t ps => match K.ty t with
    | some τ => if τ.isAgg then buildK (match τ with | .arr _ _ => true | _ => false) ev ps.toList τ.zeroD fun d => c { v := .one (.dat d) } else none
    | none => none
  | .buildSlice t n ps => match K.ty t with
    | some (.sl e) => if n * e.size ≤ 16777216 ∧ 0 < e.size ∧ ps.toList.all (fun q => decide (q.1 < n)) = true then elemsK e ev ps.toList (List.replicate n e.zero) [] fun xs ids => if ids.any mv then none else c { v := .one (.dat ⟨.sl e, xs, [.ow (base + 64 * i)]⟩), fzs := ids }
      else none
    | _ => none
  | .load t a => match K.ty t, ev a with
    | some τ, .one (.ptr b p τ') => if τ' = τ then match bx b with
      | some d => d.ty.getK d.x d.g p fun e => if e.ty = τ then c { v := .one (.dat e), rb := [b] } else none
      | none => none
      else none
    | some τ, .one (.el _ _ _ e) => if e.ty = τ then c { v := .one (.dat e) } else none
    | _, _ => none
  | .store t a x => match K.ty t, ev a, ev x with
    | some τ, .one (.ptr b p τ'), .one v => if τ' = τ then match bx b, v.to τ with
      | some d, some e => d.ty.putK d.x d.g p e fun y g => c { v := .un, wb := [(b, ⟨d.ty, y, g⟩)], rb := [b] }
      | _, _ => none
      else none
    | _, _, _ => none
  | .nilCheck x => match ev x with
    | .one (.ptr b p τ) => c { v := .one (.ptr b p τ) }
    | .one (.el d j p e) => c { v := .one (.el d j p e) }
    | .one (.fn f) => c { v := .one (.fn f) }
    | _ => none
  | .binOp op t x y _ => opBin (K.ty t) op (ev x) (ev y) fun v => c { v }
  | .unOp op _ x => opUn op (ev x) fun v => c { v }
  | .convert s d x => match K.ty s, K.ty d with
    | some s, some d => opConv s d (ev x) fun v => c { v }
    | _, _ => none
  | .makeSlice t l m => match K.ty t, asInt (some (ev l)), asInt (some (ev m)) with
    | some (.sl e), some l, some m => if 0 < e.size then br (decide (0 ≤ l)) (br (decide (l ≤ m)) (br (decide (m ≤ most)) (c { v := .one (.dat ⟨.sl e, List.replicate l.toNat e.zero, [.ow (base + 64 * i)]⟩) }) none) none) none else none
    | _, _, _ => none
  | .slice t x lo hi mx => match mx with
    | some _ => none
    | none => opSlice (K.ty t) (ev x) (lo.map ev) (hi.map ev) bx fun v ids rb => if ids.any mv then none else c { v, fzs := ids, rb }
  | .fieldAddr t x f => match ev x with
    | .one (.ptr b p τ) => if K.ty t = some τ then match τ.fld f with
      | some τ' => c { v := .one (.ptr b (p ++ [.fld f]) τ') }
      | none => none
      else none
    | .one (.el d j p e) => if K.ty t = some e.ty then e.ty.getK e.x e.g [.fld f] fun e' => c { v := .one (.el d j (p ++ [.fld f]) e') } else none
    | _ => none
  | .field t x f => match ev x with
    | .one (.dat d) => if K.ty t = some d.ty then d.ty.getK d.x d.g [.fld f] fun e => c { v := .one (.dat e) } else none
    | _ => none
  | .indexAddr t x j => match K.ty t, ev x, asInt (some (ev j)) with
    | some (.sl te), .one (.dat ⟨.sl t, xs, g⟩), some j => if te = t then bnd (bIdx xs j) fun e => c { v := .one (.el ⟨.sl t, xs, g⟩ j.toNat [] ⟨t, e, List.replicate t.leaves .im⟩) } else none
    | some (.arr n te), .one (.ptr b p τ), some j => if τ = .arr n te then br (decide (0 ≤ j)) (br (decide (j < n)) (c { v := .one (.ptr b (p ++ [.idx j.toNat]) te) }) none) none else none
    | _, _, _ => none
  | .index t x j => match ev x, asInt (some (ev j)) with
    | .one (.dat ⟨.str, xs, _⟩), some j => if K.ty t = some .str then bnd (bIdx xs j) fun e => c { v := .one (.dat ⟨.int .u8, e, []⟩) } else none
    | _, _ => none
  | .extract x j => match ev x with
    | .tup l => match l[j]? with
      | some v => c { v := .one v }
      | none => none
    | _ => none
  | .call cl => match cl.callee with
    | .builtin .len => match cl.args.toList, cl.argTypes.toList with
      | [x], [t] => match ev x, K.ty t with
        | .one (.dat ⟨.sl _, xs, _⟩), some (.sl _) => c { v := num .i64 xs.length }
        | .one (.dat ⟨.str, xs, _⟩), some .str => c { v := num .i64 xs.length }
        | .one .nl, some (.sl _) => c { v := num .i64 0 }
        | _, _ => none
      | _, _ => none
    | .builtin .min => match cl.args.toList with
      | [x, y] => match ev x, ev y with
        | .one (.dat ⟨.int k, a, _⟩), .one (.dat ⟨.int k', b, _⟩) => if k = k' then c { v := num k (if toI k' b < toI k a then toI k' b else toI k a) } else none
        | _, _ => none
      | _ => none
    | .builtin .append => match cl.args.toList, cl.argTypes.toList with
      | [x, y], [t, t'] => if t = t' then match K.ty t, ev x, ev y with
        | some (.sl e), .one v, .one w => if 0 < e.size then match v.to (.sl e), w.to (.sl e) with
          | some v, some w => match ownable mv fz v.g, v.as (.sl e), w.as (.sl e) with
            | some ids, some xs, some ys => br (decide (xs.length + ys.length ≤ most)) (c { v := .one (.dat ⟨.sl e, xs ++ ys, [.ow (base + 64 * i)]⟩), mvs := ids, rf := ids }) none
            | _, _, _ => none
          | _, _ => none
          else none
        | _, _, _ => none
        else none
      | _, _ => none
    | .value f => match ev f with
      | .one (.fn f) => match K.con f with
        | some cn => callK cn i base o.dst (cl.args.toList.map ev) bx mv fz c
        | none => none
      | _ => none
    | _ => none
  | _ => none

/-! ### operations that write an array of the frame's own: every view of it turns -/
def updL (id : Nat) (t : Ty) (f : List t.den → List t.den) : (τ : Ty) → τ.den → List Tg → Option τ.den
  | .sl t', xs, [g] => if tgIds [g] = [id] then (if h : t' = t then some (h ▸ f (h ▸ xs)) else none) else some xs
  | .pr a b, x, g => match updL id t f a x.1 (g.take a.leaves), updL id t f b x.2 (g.drop a.leaves) with
    | some y, some z => some (y, z)
    | _, _ => none
  | _, x, _ => some x

def updD (id : Nat) (t : Ty) (f : List t.den → List t.den) (d : D) : Option D := (updL id t f d.ty d.x d.g).map fun y => ⟨d.ty, y, d.g⟩

def updV (id : Nat) (mv : Nat → Bool) (t : Ty) (f : List t.den → List t.den) : V → V
  | .dat d => if (tgIds d.g).any mv then .top else match updD id t f d with
    | some e => .dat e
    | none => .top
  | .el d j p e => if (tgIds d.g).any (fun i => mv i || i == id) then .top else .el d j p e
  | v => v

def updW (id : Nat) (mv : Nat → Bool) (t : Ty) (f : List t.den → List t.den) : W → W
  | .one v => .one (updV id mv t f v)
  | .tup l => .tup (l.map (updV id mv t f))
  | .un => .un

def updB (id : Nat) (mv : Nat → Bool) (t : Ty) (f : List t.den → List t.den) : Option D → Option (Option D)
  | none => some none
  | some d => if (tgIds d.g).any mv then none else match updD id t f d with
    | some e => some (some e)
    | none => none

def allSome {α : Type} : List (Option α) → Option (List α)
  | [] => some []
  | none :: _ => none
  | some x :: r => match allSome r with
    | some l => some (x :: l)
    | none => none

def St.upd (s : St) (id : Nat) (t : Ty) (f : List t.den → List t.den) (fzs : List Nat) : Option St :=
  match allSome (s.bx.map (updB id s.mv t f)) with
  | some bx => some { tm := s.tm.map (updW id s.mv t f), bx, base := s.base, mv := s.mv, fz := fun i => s.fz i || fzs.contains i }
  | none => none

/-- 'copy' -/
def over {α : Type} (ys zs : List α) : List α := ys.take zs.length ++ zs.drop ys.length

def ownId (mv fz : Nat → Bool) : List Tg → Option Nat
  | [.ow i] => if mv i || fz i then none else some i
  | [.pa i] => if mv i || fz i then none else some i
  | _ => none

/-- a store into an element; 'copy' -/
def opG (K : Cfg) (o : Oper) (s : St) (c : St → Option Ω) : Option (Option Ω) :=
  match o.op with
  | .store t a x => match K.ty t, s.ev a, s.ev x with
    | some τ, .one (.el ⟨.sl te, xs, g⟩ j p e0), .one v => some <| match ownId s.mv s.fz g, v.to τ with
      | some id, some e => if e0.ty = τ ∧ (tgIds e.g).any (fun j => s.mv j || j == id) = false then
          match p with
          | [] => match e.as te with
            | some y => match s.upd id te (fun zs => zs.set j y) (tgIds e.g) with
              | some s' => c (s'.put o.dst .un)
              | none => none
            | none => none
          | p => bnd (xs[j]?) fun x => te.putK x (List.replicate te.leaves .im) p e fun y _ =>
            match s.upd id te (fun zs => zs.set j y) (tgIds e.g) with
            | some s' => c (s'.put o.dst .un)
            | none => none
        else none
      | _, _ => none
    | _, _, _ => none
  | .call cl => match cl.callee, cl.args.toList, cl.argTypes.toList with
    | .builtin .copy, [x, y], [dT, _] => match s.ev x, s.ev y with
      | .one (.dat ⟨.sl t, xs, g⟩), .one w => some <| if K.ty dT = some (.sl t) then match ownId s.mv s.fz g, w.to (.sl t) with
        | some id, some w => match w.as (.sl t) with
          | some ys => match s.upd id t (over (ys.take xs.length)) [] with
            | some s' => c (s'.put o.dst (num .i64 (min ys.length xs.length : Nat)))
            | none => none
          | none => none
        | _, _ => none
        else none
      | .one (.bsl b), .one w => some <| match s.box b with
        | some ⟨.arr n t, xs, g⟩ => if K.ty dT = some (.sl t) then match w.to (.sl t) with
          | some w => match w.as (.sl t) with
            | some ys => c ({ s with bx := s.bx.set b (some ⟨.arr n t, over ys xs, g⟩) }.put o.dst (num .i64 (min ys.length n : Nat)))
            | none => none
          | none => none
          else none
        | _ => none
      | _, _ => none
    | _, _, _ => none
  | _ => none

/-! ### regions, code, functions -/
def dstOf (ops : List Oper) (j : Nat) : Option Tmp := (ops[j]?).bind (·.dst)

/-- what an operation touched: boxes read, boxes written, marks read, marks written -/
structure Tr where
  rb : List Nat
  wb : List Nat
  rf : List Nat
  wf : List Nat
  /-- it may touch all -/
  all : Bool

def noTr : Tr := ⟨[], [], [], [], false⟩
def allTr : Tr := ⟨[], [], [], [], true⟩
def U.tr (u : U) : Tr := ⟨u.rb, u.wb.map (·.1), u.rf, u.mvs ++ u.fzs, false⟩

/-- the operations in the order of the text -/
def evOps (K : Cfg) (ops : List Oper) : List Oper → Nat → St → List Tr → (St → List Tr → Option Ω) → Option Ω
  | [], _, s, tr, c => c s tr
  | o :: r, i, s, tr, c =>
    let go (s : St) : Option Ω :=
      match (opG K o s fun s' => evOps K ops r (i + 1) s' (allTr :: tr) c) with
      | some x => x
      | none => opC K o i s.base s.ev s.box s.mv s.fz fun u => evOps K ops r (i + 1) (s.app o.dst u) (u.tr :: tr) c
    let skip (s : St) : Option Ω := evOps K ops r (i + 1) (s.put o.dst .un) (noTr :: tr) c
    match o.guard with
    | none => go s
    | some (j, want) => match dstOf ops j with
      | none => none
      | some t => match s.tm.getD t (.one .top) with
        | .one (.dat ⟨.bool, b, []⟩) =>
          match want with
          | true => br b (go (s.put (some t) (bool true))) (skip (s.put (some t) (bool false)))
          | false => br b (skip (s.put (some t) (bool true))) (go (s.put (some t) (bool false)))
        | .un => skip s
        | _ => none

/-- bit sets: what must come ahead of each operation, in every order -/
def befores (ops : List Oper) : List Oper → List Nat → List Nat
  | [], l => l
  | o :: r, l => befores ops r (l ++ [o.after.toList.foldl (fun m e => if Region.binds .any e then m ||| (1 <<< e.on) ||| l.getD e.on 0 else m) 0])

def opTmps (ops : List Oper) (o : Oper) : List Tmp :=
  (o.op.operands.toList.filterMap fun | .tmp t => some t | _ => none) ++ (match o.guard with | some (j, _) => (dstOf ops j).toList | none => [])

def apartT (ops : List Oper) (a b : Oper) : Bool :=
  (match a.dst with | some d => !(opTmps ops b).contains d && b.dst != some d | none => true) &&
  (match b.dst with | some d => !(opTmps ops a).contains d | none => true)

def meet (a b : List Nat) : Bool := a.any b.contains
def apartR (a b : Tr) : Bool := !(a.all || b.all || meet a.wb b.rb || meet a.wb b.wb || meet a.rb b.wb || meet a.wf b.rf || meet a.wf b.wf || meet a.rf b.wf)

/-- an operation waits for earlier ones alone -/
def afterOk : List Oper → Nat → Bool
  | [], _ => true
  | o :: r, i => o.after.toList.all (fun e => !Region.binds .any e || decide (e.on < i)) && afterOk r (i + 1)

/-- no two operations that may change places touch the same -/
def raceFree (ops : List Oper) (tr : List Tr) : Bool :=
  let bs := befores ops ops []
  afterOk ops 0 && (List.range ops.length).all fun i => (List.range i).all fun j =>
    (bs.getD i 0).testBit j || (apartT ops (ops.getD i default) (ops.getD j default) && apartR (tr.getD i noTr) (tr.getD j noTr))

/-- arrays of the frame's own, counted anew: what was let go is nobody's, what was appended to is forgotten -/
def liveIds (s : St) : List Nat :=
  let ds : List D := s.bx.filterMap id ++ s.tm.flatMap fun
    | .one (.dat d) => [d]
    | .one (.el d _ _ _) => [d]
    | .tup l => l.filterMap fun | .dat d => some d | .el d _ _ _ => some d | _ => none
    | _ => []
  (ds.flatMap fun d => tgIds d.g).eraseDups.filter fun i => !(s.mv i || s.fz i)

def normTg (fz : Nat → Bool) (l : List Nat) : Tg → Tg
  | .ow i => if fz i then .im else .ow (l.idxOf i)
  | .pa i => if fz i then .im else .pa (l.idxOf i)
  | t => t

def normD (fz : Nat → Bool) (l : List Nat) : D → D
  | ⟨τ, x, g⟩ => ⟨τ, x, g.map (normTg fz l)⟩

def normV (mv fz : Nat → Bool) (l : List Nat) (kill : List Nat) : V → V
  | .dat d => if (tgIds d.g).any mv then .top else .dat (normD fz l d)
  | .el d j p e => if (tgIds d.g).any mv then .top else .el (normD fz l d) j p e
  | .ptr b p τ => if kill.contains b then .top else .ptr b p τ
  | .bsl b => if kill.contains b then .top else .bsl b
  | v => v

def normW (mv fz : Nat → Bool) (l : List Nat) (kill : List Nat) : W → W
  | .one v => .one (normV mv fz l kill v)
  | .tup vs => .tup (vs.map (normV mv fz l kill))
  | .un => .un

def normB (fz : Nat → Bool) (l : List Nat) : Option D → Option D
  | none => none
  | some d => some (normD fz l d)

def killB : Nat → List Nat → List (Option D) → List (Option D)
  | _, _, [] => []
  | i, kill, b :: r => (if kill.contains i then none else b) :: killB (i + 1) kill r

/-- boxes that show an array that was appended to -/
def deadB (mv : Nat → Bool) : Nat → List (Option D) → List Nat
  | _, [] => []
  | i, some d :: r => if (tgIds d.g).any mv then i :: deadB mv (i + 1) r else deadB mv (i + 1) r
  | i, none :: r => deadB mv (i + 1) r

/-- 'kill': boxes that are about to be made anew, or are dead -/
def St.norm (s : St) (kill : List Nat) : St :=
  let l := liveIds s
  let kill := deadB s.mv 0 s.bx ++ kill
  { tm := s.tm.map (normW s.mv s.fz l kill)
    bx := killB 0 kill (s.bx.map (normB s.fz l))
    base := l.length
    mv := fun _ => false
    fz := fun _ => false }

/-! a state in full, before what follows it is looked at: for the kernel's sake alone -/
def fNat {α : Type} : Nat → (Nat → α) → α
  | 0, k => k 0
  | n + 1, k => fNat n fun m => k (m + 1)
def fList {α β : Type} : List β → (List β → α) → α
  | [], k => k []
  | x :: r, k => fList r fun l => k (x :: l)
def fTg {α : Type} : List Tg → (List Tg → α) → α
  | [], k => k []
  | .im :: r, k => fTg r fun l => k (.im :: l)
  | .ni :: r, k => fTg r fun l => k (.ni :: l)
  | .ow n :: r, k => fNat n fun m => fTg r fun l => k (.ow m :: l)
  | .pa n :: r, k => fNat n fun m => fTg r fun l => k (.pa m :: l)
def fD {α : Type} : D → (D → α) → α
  | ⟨τ, x, g⟩, k => fTg g fun g => k ⟨τ, x, g⟩
def fV {α : Type} : V → (V → α) → α
  | .dat d, k => fD d fun d => k (.dat d)
  | .el d j p e, k => fD d fun d => k (.el d j p e)
  | .top, k => k .top
  | .nl, k => k .nl
  | .ptr b p τ, k => k (.ptr b p τ)
  | .bsl b, k => k (.bsl b)
  | .fn f, k => k (.fn f)
def fVs {α : Type} : List V → (List V → α) → α
  | [], k => k []
  | v :: r, k => fV v fun v => fVs r fun l => k (v :: l)
def fTm {α : Type} : List W → (List W → α) → α
  | [], k => k []
  | .one v :: r, k => fV v fun v => fTm r fun l => k (.one v :: l)
  | .tup vs :: r, k => fVs vs fun vs => fTm r fun l => k (.tup vs :: l)
  | .un :: r, k => fTm r fun l => k (.un :: l)
def fBx {α : Type} : List (Option D) → (List (Option D) → α) → α
  | [], k => k []
  | none :: r, k => fBx r fun l => k (none :: l)
  | some d :: r, k => fD d fun d => fBx r fun l => k (some d :: l)
def fSt {α : Type} (s : St) (k : St → α) : α := fTm s.tm fun tm => fBx s.bx fun bx => fNat s.base fun b => k ⟨tm, bx, b, s.mv, s.fz⟩

def St.normK {α : Type} (s : St) (kill : List Nat) (k : St → α) : α :=
  fList (liveIds s) fun l => fList (deadB s.mv 0 s.bx ++ kill) fun kill =>
  fSt { tm := s.tm.map (normW s.mv s.fz l kill), bx := killB 0 kill (s.bx.map (normB s.fz l)), base := l.length, mv := fun _ => false, fz := fun _ => false } k

/-- the boxes that a region makes -/
def makes (ops : List Oper) : List Nat :=
  ops.filterMap fun o => match o.op with
    | .alloc _ => o.dst
    | .box _ _ => o.dst
    | .call _ => o.dst
    | _ => none

/-- what a region reads of what was there before -/
def opsUses (ops : List Oper) : List Oper → List Tmp → List Tmp
  | [], _ => []
  | o :: r, w => (opTmps ops o).filter (fun t => !w.contains t) ++ opsUses ops r (match o.dst with | some d => d :: w | none => w)

/-- what code writes before it goes on -/
def Code.defs : Code → List Tmp
  | .region _ ops _ => ops.toList.filterMap (·.dst)
  | .seq a b => defs a ++ defs b
  | .cond _ a b => match a, b with
    | .exit _, _ => defs b
    | _, .exit _ => defs a
    | .ret, _ => defs b
    | _, .ret => defs a
    | _, _ => []
  | _ => []

/-- what code may read of what was there before -/
def Code.uses : Code → List Tmp
  | .region _ ops _ => opsUses ops.toList ops.toList []
  | .seq a b => uses a ++ (uses b).filter fun t => !(defs a).contains t
  | .cond c a b => (match c with | .tmp t => [t] | _ => []) ++ uses a ++ uses b
  | .block _ a => uses a
  | .loop a => uses a
  | .scope a => uses a
  | .rangeFunc _ _ a b => uses a ++ uses b
  | _ => []

/-- keep these temporaries -/
def keepL : Nat → List Tmp → List W → List W
  | _, _, [] => []
  | i, l, w :: r => (if l.contains i then w else .one .top) :: keepL (i + 1) l r

/-- boxes that no temporary points to -/
def lostB (s : St) : List Nat :=
  let l := s.tm.filterMap fun
    | .one (.ptr b _ _) => some b
    | .one (.bsl b) => some b
    | _ => none
  (List.range s.bx.length).filter fun b => !l.contains b

/-- what a loop's head is told beside: slices (temporary or box, leaf) that are to count as a first part only, or as nobody's; temporaries to forget; boxes to forget -/
structure Hint where
  pa : List (Bool × Nat × Nat) := []
  im : List (Bool × Nat × Nat) := []
  ct : List Nat := []
  cb : List Nat := []

/-! the shape of a state, and the typed values in it -/
inductive Sh where
  | top
  | un
  | nl
  | fn (f : FuncId)
  | ptr (b : Nat) (p : List Nat) (τ : Ty)
  | dat (τ : Ty) (g : List Tg)

def pathOf : List Nat → List Step
  | [] => []
  | i :: r => .fld i :: pathOf r
def pathN : List Step → Option (List Nat)
  | [] => some []
  | .fld i :: r => (pathN r).map (i :: ·)
  | .idx _ :: _ => none

def shOf : W → Sh
  | .one (.dat d) => .dat d.ty d.g
  | .one .nl => .nl
  | .one (.fn f) => .fn f
  | .one (.ptr b p τ) => match pathN p with
    | some q => .ptr b q τ
    | none => .top
  | .un => .un
  | _ => .top

@[reducible] def ShDen : List Sh → Type
  | [] => Unit
  | .dat τ _ :: r => τ.den × ShDen r
  | .top :: r => ShDen r
  | .un :: r => ShDen r
  | .nl :: r => ShDen r
  | .fn _ :: r => ShDen r
  | .ptr _ _ _ :: r => ShDen r

@[reducible] def BxDen : List (Option (Ty × List Tg)) → Type
  | [] => Unit
  | none :: r => BxDen r
  | some (τ, _) :: r => τ.den × BxDen r

structure Shape where
  tm : List Sh
  bx : List (Option (Ty × List Tg))
  base : Nat

@[reducible] def Shape.den (h : Shape) : Type := ShDen h.tm × BxDen h.bx

def St.shape (s : St) : Shape := ⟨s.tm.map shOf, s.bx.map fun | some d => some (d.ty, d.g) | none => none, s.base⟩

def mkT : (l : List Sh) → ShDen l → List W
  | [], _ => []
  | .dat τ g :: r, y => .one (.dat ⟨τ, y.1, g⟩) :: mkT r y.2
  | .top :: r, y => .one .top :: mkT r y
  | .un :: r, y => .un :: mkT r y
  | .nl :: r, y => .one .nl :: mkT r y
  | .fn f :: r, y => .one (.fn f) :: mkT r y
  | .ptr b p τ :: r, y => .one (.ptr b (pathOf p) τ) :: mkT r y

def mkB : (l : List (Option (Ty × List Tg))) → BxDen l → List (Option D)
  | [], _ => []
  | none :: r, y => none :: mkB r y
  | some (τ, g) :: r, y => some ⟨τ, y.1, g⟩ :: mkB r y.2

def Shape.mk' (h : Shape) (y : h.den) : St := ⟨mkT h.tm y.1, mkB h.bx y.2, h.base, fun _ => false, fun _ => false⟩

/-- the typed values of a state of this shape -/
def unT : (l : List Sh) → List W → Option (ShDen l)
  | [], [] => some ()
  | .dat τ g :: r, .one (.dat d) :: l => if d.g = g then match d.as τ, unT r l with
    | some x, some y => some (x, y)
    | _, _ => none
    else none
  | .top :: r, _ :: l => unT r l
  | .un :: r, .un :: l => unT r l
  | .nl :: r, .one .nl :: l => unT r l
  | .fn f :: r, .one (.fn f') :: l => if f = f' then unT r l else none
  | .ptr b p τ :: r, .one (.ptr b' p' τ') :: l => if b = b' ∧ pathN p' = some p ∧ τ = τ' then unT r l else none
  | _, _ => none

def unB : (l : List (Option (Ty × List Tg))) → List (Option D) → Option (BxDen l)
  | [], [] => some ()
  | none :: r, _ :: l => unB r l
  | some (τ, g) :: r, some d :: l => if d.g = g then match d.as τ, unB r l with
    | some x, some y => some (x, y)
    | _, _ => none
    else none
  | _, _ => none

def Shape.un (h : Shape) (s : St) : Option h.den :=
  match unT h.tm s.tm, unB h.bx s.bx with
  | some x, some y => some (x, y)
  | _, _ => none

/-- tags at places, turned -/
def setTg (f : Tg → Tg) : List Tg → Nat → List Tg
  | [], _ => []
  | t :: r, 0 => f t :: r
  | t :: r, n + 1 => t :: setTg f r n

def turn1 (f : Tg → Tg) (s : St) : Bool × Nat × Nat → St
  | (true, t, j) => match s.tm[t]? with
    | some (.one (.dat d)) => { s with tm := s.tm.set t (.one (.dat ⟨d.ty, d.x, setTg f d.g j⟩)) }
    | some (.one .nl) => s
    | _ => s
  | (false, b, j) => match s.box b with
    | some d => { s with bx := s.bx.set b (some ⟨d.ty, d.x, setTg f d.g j⟩) }
    | none => s

def tgPa : Tg → Tg
  | .ow i => .pa i
  | t => t

def tgAt (s : St) : Bool × Nat × Nat → List Nat
  | (true, t, j) => match s.tm[t]? with
    | some (.one (.dat d)) => tgIds ((d.g[j]?).toList)
    | _ => []
  | (false, b, j) => match s.box b with
    | some d => tgIds ((d.g[j]?).toList)
    | none => []

/-- nil slices count as the frame's own, each with a number of its own -/
def niTg : List Tg → Nat → List Tg × Nat
  | [], n => ([], n)
  | .ni :: r, n => let (l, m) := niTg r (n + 1); (.ow n :: l, m)
  | t :: r, n => let (l, m) := niTg r n; (t :: l, m)

def niT : List W → Nat → List W × Nat
  | [], n => ([], n)
  | .one (.dat d) :: r, n => let (g, m) := niTg d.g n; let (l, k) := niT r m; (.one (.dat ⟨d.ty, d.x, g⟩) :: l, k)
  | w :: r, n => let (l, k) := niT r n; (w :: l, k)

def niB : List (Option D) → Nat → List (Option D) × Nat
  | [], n => ([], n)
  | none :: r, n => let (l, k) := niB r n; (none :: l, k)
  | some d :: r, n => let (g, m) := niTg d.g n; let (l, k) := niB r m; (some ⟨d.ty, d.x, g⟩ :: l, k)

def ownNi (s : St) : St :=
  let (tm, m) := niT s.tm s.base
  let (bx, k) := niB s.bx m
  { tm, bx, base := k, mv := s.mv, fz := s.fz }

/-- a state as a loop's head wants it; 'keep': the temporaries that are read later -/
def St.head (s : St) (keep : List Tmp) (h : Hint) : St :=
  let s := { s with tm := keepL 0 (keep.filter fun t => !h.ct.contains t) s.tm }
  let s := ownNi (s.norm (lostB s ++ h.cb))
  let s := { s with fz := fun i => (h.im.flatMap (tgAt s)).contains i }
  (h.pa.foldl (turn1 tgPa) s).norm []

def St.headK {α : Type} (s : St) (keep : List Tmp) (h : Hint) (k : St → α) : α :=
  fList (keepL 0 (keep.filter fun t => !h.ct.contains t) s.tm) fun tm =>
  ({ s with tm } : St).normK (lostB { s with tm } ++ h.cb) fun s => fSt (ownNi s) fun s =>
  (h.pa.foldl (turn1 tgPa) { s with fz := fun i => (h.im.flatMap (tgAt s)).contains i }).normK [] k

def fSh {α : Type} : List Sh → (List Sh → α) → α
  | [], k => k []
  | .top :: r, k => fSh r fun l => k (.top :: l)
  | .un :: r, k => fSh r fun l => k (.un :: l)
  | .nl :: r, k => fSh r fun l => k (.nl :: l)
  | .fn f :: r, k => fSh r fun l => k (.fn f :: l)
  | .ptr b p τ :: r, k => fSh r fun l => k (.ptr b p τ :: l)
  | .dat τ g :: r, k => fSh r fun l => k (.dat τ g :: l)
def fBs {α : Type} : List (Option (Ty × List Tg)) → (List (Option (Ty × List Tg)) → α) → α
  | [], k => k []
  | none :: r, k => fBs r fun l => k (none :: l)
  | some (τ, g) :: r, k => fBs r fun l => k (some (τ, g) :: l)
def fShape {α : Type} (h : Shape) (k : Shape → α) : α := fSh h.tm fun tm => fBs h.bx fun bx => k ⟨tm, bx, h.base⟩

/-- the number of the first region: a loop is known by it -/
def Code.first : Code → Nat
  | .region id _ _ => id
  | .seq a _ => first a
  | .block _ a => first a
  | .loop a => first a
  | .scope a => first a
  | .cond _ a _ => first a
  | _ => 0

/-- what follows, for whatever its answer is wrapped in -/
abbrev Kont (Ω : Type) : Type 1 := Exit → St → (R : Type) → (Ω → R) → Option R

/-- the code; 'hs': the hints for the loops; 'lv': what is read behind the code -/
noncomputable def evC (K : Cfg) (hs : Nat → Hint) : Code → (Ω : Type) → List Tmp → St → Kont Ω → (R : Type) → (Ω → R) → Option R
  | .skip, _, _, s, c, R, w => c .normal s R w
  | .region _ ops draw, _, _, s, c, R, w =>
    s.normK (makes ops.toList) fun s => evOps K ops.toList ops.toList 0 s [] fun s' tr =>
      if draw then (if raceFree ops.toList tr.reverse then c .normal s' R w else none) else c .normal s' R w
  | .seq a b, Ω, lv, s, c, R, w => evC K hs a Ω (Code.uses b ++ lv) s (fun e s' => match e with
    | .normal => evC K hs b Ω lv s' c
    | e => c e s') R w
  | .cond x a b, Ω, lv, s, c, R, w => match s.ev x with
    | .one (.dat ⟨.bool, t, _⟩) => br t (evC K hs a Ω lv s c R w) (evC K hs b Ω lv s c R w)
    | _ => none
  | .block id a, Ω, lv, s, c, R, w => evC K hs a Ω lv s (fun e s' => match e with
    | .exit i => if i = id then c .normal s' else c (.exit i) s'
    | e => c e s') R w
  | .exit id, _, _, s, c, R, w => c (.exit id) s R w
  | .ret, _, _, s, c, R, w => c .ret s R w
  | .label _, _, _, s, c, R, w => c .normal s R w
  | .loop a, Ω, lv, s, c, R, w =>
    s.headK (Code.uses a ++ lv) (hs (Code.first a)) fun s0 => fShape s0.shape fun sh =>
    (sh.un s0).bind fun y => iter (fun y => evC K hs a (sh.den ⊕ Ω) (Code.uses a ++ lv) (sh.mk' y) (fun e s' => match e with
      | .normal => fun R w => s'.headK (Code.uses a ++ lv) (hs (Code.first a)) fun s' => (sh.un s').bind fun z => some (w (.inl z))
      | e => fun R w => c e s' R (fun o => w (.inr o))) (sh.den ⊕ R) (Sum.map id w)) y
  | _, _, _, _, _, _, _ => none

/-! ### functions -/
def inTm (n : Nat) : (ins : List ATy) → InDen ins → List W
  | [], _ => []
  | .val τ :: r, y => .one (.dat ⟨τ, y.1, List.replicate τ.leaves .im⟩) :: inTm (n + 1) r y.2
  | .bx τ _ :: r, y => .one (.ptr n [] τ) :: inTm (n + 1) r y.2
  | .fn f :: r, y => .one (.fn f) :: inTm (n + 1) r y

def inBx (n : Nat) : (ins : List ATy) → InDen ins → List (Option D)
  | [], _ => []
  | .val _ :: r, y => none :: inBx n r y.2
  | .bx τ pat :: r, y => some ⟨τ, y.1, newIds n pat⟩ :: inBx (n + pat.length) r y.2
  | .fn _ :: r, y => none :: inBx n r y

def inIds : List ATy → Nat
  | [] => 0
  | .val _ :: r => inIds r
  | .bx _ pat :: r => pat.length + inIds r
  | .fn _ :: r => inIds r

def St.init (ins : List ATy) (y : InDen ins) (ntmps : Nat) : St :=
  { tm := inTm 0 ins y ++ List.replicate (ntmps - ins.length) .un
    bx := inBx 0 ins y ++ List.replicate (ntmps - ins.length) none
    base := inIds ins, mv := fun _ => false, fz := fun _ => false }

def resV (K : Cfg) (s : St) : ResultVar → Option V
  | .tmp t => match s.tm.getD t .un with
    | .one v => some v
    | _ => none
  | .cell t ty => match s.tm.getD t .un with
    | .one (.ptr b [] _) => match s.box b with
      | some d => if K.ty ty = some d.ty then some (.dat d) else none
      | none => none
    | _ => none

/-- the results, and the tags of their slices -/
def finV (K : Cfg) (s : St) : (outs : List RTy) → List ResultVar → Option (RDen outs × List Tg)
  | [], [] => some ((), [])
  | .val τ pat :: r, v :: vs => match resV K s v with
    | some v => match v.to τ with
      | some d => if d.g.length = pat.length then match d.as τ, finV K s r vs with
        | some x, some (y, g) => some ((x, y), d.g ++ g)
        | _, _ => none
        else none
      | none => none
    | none => none
  | _, _ => none

/-- the boxes that were handed over -/
def finB (s : St) : (n : Nat) → (ins : List ATy) → Option (BDen ins × List Tg)
  | _, [] => some ((), [])
  | n, .val _ :: r => finB s (n + 1) r
  | n, .fn _ :: r => finB s (n + 1) r
  | n, .bx τ pat :: r => match s.box n with
    | some d => if d.g.length = pat.length then match d.as τ, finB s (n + 1) r with
      | some x, some (y, g) => some ((x, y), d.g ++ g)
      | _, _ => none
      else none
    | none => none

def patsI : List ATy → List Bool
  | [] => []
  | .bx _ pat :: r => pat ++ patsI r
  | .val _ :: r => patsI r
  | .fn _ :: r => patsI r
def patsO : List RTy → List Bool
  | [] => []
  | .val _ pat :: r => pat ++ patsO r
  | .bx _ pat :: r => pat ++ patsO r

/-- what must be new is the frame's own, and is told once -/
def tagsOk (mv fz : Nat → Bool) (ps : List Bool) (gs : List Tg) : Bool :=
  (List.range ps.length).all fun i => match ps.getD i false, gs.getD i .im with
    | true, .ow a => !(mv a || fz a) && (List.range ps.length).all fun j => j == i || !(tgIds [gs.getD j .im]).contains a
    | true, .ni => true
    | true, _ => false
    | false, t => !(tgIds [t]).any mv

/-- results, of which one may be a new box alone -/
def finR (K : Cfg) (s : St) (q : Nat) : (outs : List RTy) → List ResultVar → Option (RDen outs × List Tg × Option Nat)
  | [.bx τ pat], [v] => match resV K s v with
    | some (.ptr b [] _) => if q ≤ b then match s.box b with
      | some d => if d.g.length = pat.length then match d.as τ with
        | some x => some ((x, ()), d.g, some b)
        | none => none
        else none
      | none => none
      else none
    | _ => none
  | outs, rs => match finV K s outs rs with
    | some (r, g) => some (r, g, none)
    | none => none

def finD (K : Cfg) (ins : List ATy) (outs : List RTy) (rs : List ResultVar) (s : St) : Option (RDen outs × BDen ins) :=
  match finR K s ins.length outs rs, finB s 0 ins with
  | some (r, g, _), some (b, h) => if tagsOk s.mv s.fz (patsI ins ++ patsO outs) (h ++ g) then some (r, b) else none
  | _, _ => none

def bxArgs : Nat → List ATy → List Tmp
  | _, [] => []
  | n, .bx _ _ :: r => n :: bxArgs (n + 1) r
  | n, _ :: r => bxArgs (n + 1) r

/-- the function -/
noncomputable def evF (K : Cfg) (hs : Nat → Hint) (fn : Func) (ins : List ATy) (outs : List RTy) (y : InDen ins) : Option (RDen outs × BDen ins) :=
  match fn.body with
  | some b => evC K hs b (RDen outs × BDen ins) ((fn.results.toList.map fun | .tmp t => t | .cell t _ => t) ++ bxArgs 0 ins) (St.init ins y fn.ntmps) (fun e s =>
    match e with
    | .normal => fun _ w => (finD K ins outs fn.results.toList s).bind fun r => some (w r)
    | .ret => fun _ w => (finD K ins outs fn.results.toList s).bind fun r => some (w r)
    | _ => fun _ _ => none) _ id
  | none => none

end
end Go.Proofs.Ytlehbecajmjgkaa.V
