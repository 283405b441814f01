/-
  The ideal evaluator: a deterministic, fuelled big-step reading of the compact form of the code ('CCode'), over an ideal heap whose blocks have ideal numbers.
  Values are the model's own, but for these readings of them:
    .chan _                            what is not known
    .slice (some ⟨b, o, none⟩) n z     a slice in block b of the ideal heap, of n elements of z cells each (in the place of a capacity: z)
    .iface z (.agg elems)              a slice that nobody writes any more: its elements, z cells each
    .iface off (.tuple cells)          an address within an element of such a slice: its cells, and which of them

  How ideal values and heaps stand for the model's: the relation, and what keeps it.

  What holds the compact code against the model's: checkers, for the kernel to reckon.

  Worlds: what an ideal heap says of the model's; what a step keeps.
-/
import GoSem.Step
import Derived.Calls
set_option linter.unusedVariables false
set_option linter.unusedSimpArgs false
set_option linter.unusedSectionVars false
namespace Go.Ev

/-! ### Trees: maps from numbers -/
inductive Tree (α : Type) where
  | leaf
  | node (l : Tree α) (v : Option α) (r : Tree α)

def Tree.get {α : Type} : Tree α → Nat → Option α
  | .leaf, _ => none
  | .node _ v _, 0 => v
  | .node l _ r, m + 1 => bif Nat.beq (m % 2) 0 then l.get (m / 2) else r.get (m / 2)

def Tree.lft {α : Type} : Tree α → Tree α
  | .leaf => .leaf
  | .node l _ _ => l
def Tree.val {α : Type} : Tree α → Option α
  | .leaf => none
  | .node _ v _ => v
def Tree.rgt {α : Type} : Tree α → Tree α
  | .leaf => .leaf
  | .node _ _ r => r

def Tree.setF {α : Type} : Nat → Tree α → Nat → α → Tree α
  | 0, t, _, _ => t
  | _ + 1, t, 0, a => .node t.lft (some a) t.rgt
  | f + 1, t, m + 1, a =>
    bif Nat.beq (m % 2) 0 then .node (setF f t.lft (m / 2) a) t.val t.rgt else .node t.lft t.val (setF f t.rgt (m / 2) a)

def Tree.set {α : Type} (t : Tree α) (n : Nat) (a : α) : Tree α := t.setF (n + 1) n a

/-! ### The compact code -/
inductive COpd where
  | tmp (t : Nat)
  | const (v : Value)
  | func (f : Nat)

inductive Ex where
  | normal
  | exit (id : Nat)
  | ret
  deriving DecidableEq

/-- Of which kind two values are that are held against each other: a row's parts are whole numbers (true) or bools (false). -/
inductive EqT where
  | int | bool | str | ptr
  | agg (l : List Bool)

/-- Operations that only compute, or read. -/
inductive POp where
  | move (x : COpd)
  | pick (c a b : COpd)
  | build (zero : List Value) (parts : List (Nat × Nat × COpd))
  | load1 (x : COpd)
  | loadN (n : Nat) (x : COpd)
  | nilCheck (x : COpd)
  | bin (op : BinOp) (x y : COpd)
  | eq (neg : Bool) (t : EqT) (x y : COpd)
  | un (op : UnOp) (x : COpd)
  | conv (k : IntKind) (x : COpd)
  | makeFunc (f : Nat) (captured : List COpd)
  | slice (esz : Nat) (x : COpd) (lo hi : Option COpd)
  | sliceArr (n esz : Nat) (x : COpd) (lo hi : Option COpd)
  | fieldAddr (off : Nat) (x : COpd)
  | field (off size : Nat) (agg : Bool) (x : COpd)
  | indexAddr (esz : Nat) (x i : COpd)
  | indexAddrA (n esz : Nat) (x i : COpd)
  | index (n esz : Nat) (agg : Bool) (x i : COpd)
  | indexS (x i : COpd)
  | lookup (t : EqT) (zero : Value) (ok : Bool) (m k : COpd)
  | extract (x : COpd) (i : Nat)
  | len (x : COpd)
  | lenS (x : COpd)
  | lenMap (x : COpd)
  | min (xs : List COpd)
  | max (xs : List COpd)
  | fail

/-- Operations that make a block. -/
inductive AOp where
  | alloc (zero : List Value)
  | box (x : COpd)
  | buildSlice (esz len : Nat) (zero : List Value) (parts : List (Nat × Nat × COpd))
  | makeMap
  | makeSlice (esz bytes : Nat) (zero : List Value) (len cap : COpd)

/-- Operations that change memory, and calls. -/
inductive EOp where
  | store (n : Nat) (a x : COpd)
  | mapUpdate (t : EqT) (m k v : COpd)
  | call (f : COpd) (args : List COpd)
  | append (esz bytes : Nat) (x y : COpd)
  | copy (esz : Nat) (x y : COpd)
  | delete (t : EqT) (m k : COpd)

inductive COp where
  | p (x : POp)
  | a (r : Nat) (x : AOp)
  | e (x : EOp)

structure CO where
  dst : Option Nat
  op : COp
  guard : Option (Nat × Bool)
  /-- Of a load: how many effects just ahead of it, and just behind it, may come on its other side. -/
  chk : Option (Nat × Nat)

inductive CCode where
  | skip
  | region (na : Nat) (live : List Nat) (ops : List CO)
  | seq (a b : CCode)
  | cond (c : COpd) (x y : CCode)
  | block (id : Nat) (b : CCode)
  | loop (live : List Nat) (b : CCode)
  | rangeFunc (f : COpd) (params : List Nat) (assign body : CCode)
  | exit (id : Nat)
  | scope (b : CCode)
  | ret

inductive CRes where
  | tmp (t : Nat)
  | cell1 (a : Nat)
  | cellN (a n : Nat)

structure CFunc where
  /-- Its calls change nothing that was there, and what they answer is laid down for good. -/
  pure : Bool
  ntmps : Nat
  results : List CRes
  body : CCode

/-! ### The ideal heap -/
abbrev Fr := Nat → Value

structure ILoop where
  F : Fr
  params : List Nat
  assign : CCode
  body : CCode
  state : LoopState
  pending : Option Ex

inductive IObj where
  | cells (ro : Bool) (c : List Value)
  | map (es : List (Value × Value))
  | loop (r : ILoop)
  | dead

/-- 'next': the next block's number; below 'wm' nothing is written. -/
structure St where
  next : Nat
  wm : Nat
  heap : Tree IObj

abbrev Get := Nat → Option IObj

def St.get (s : St) (b : Nat) : Option IObj := s.heap.get b
def St.put (s : St) (b : Nat) (o : IObj) : St := { s with heap := s.heap.set b o }

/-- What is not known: related to whatever. -/
def unk : Value := .chan none
abbrev undf : Value := .tuple ⟨[]⟩

def upd (F : Fr) (i : Nat) (v : Value) : Fr := fun j => bif Nat.beq j i then v else F j

def putO (F : Fr) (d : Option Nat) (v : Value) : Fr :=
  match d with
  | none => F
  | some i => upd F i v

def COpd.ev (F : Fr) : COpd → Value
  | .tmp t => F t
  | .const v => v
  | .func f => .func (.func f) #[] #[]

/-! ### Bringing values to their form (for the kernel's reckoning; else they do nothing) -/
section force
variable {R : Type}

def fNat (n : Nat) (k : Nat → R) : R :=
  match n with
  | 0 => k 0
  | m + 1 => k (m + 1)
theorem fNat_eq (n : Nat) (k : Nat → R) : fNat n k = k n := by cases n <;> rfl

def fInt (n : Int) (k : Int → R) : R :=
  match n with
  | .ofNat m => fNat m fun m => k (.ofNat m)
  | .negSucc m => fNat m fun m => k (.negSucc m)
theorem fInt_eq (n : Int) (k : Int → R) : fInt n k = k n := by cases n <;> simp [fInt, fNat_eq]

def fBool (b : Bool) (k : Bool → R) : R :=
  match b with
  | true => k true
  | false => k false
theorem fBool_eq (b : Bool) (k : Bool → R) : fBool b k = k b := by cases b <;> rfl

def fAddr (a : Addr) (k : Addr → R) : R :=
  match a with
  | ⟨b, o, none⟩ => fNat b fun b => fNat o fun o => k ⟨b, o, none⟩
  | a => k a
theorem fAddr_eq (a : Addr) (k : Addr → R) : fAddr a k = k a := by
  obtain ⟨b, o, sp⟩ := a
  cases sp <;> simp [fAddr, fNat_eq]

def fList (f : Value → (Value → R) → R) : List Value → (List Value → R) → R
  | [], k => k []
  | v :: l, k => f v fun v => fList f l fun l => k (v :: l)
theorem fList_eq (f : Value → (Value → R) → R) (hf : ∀ v k, f v k = k v) : ∀ (l : List Value) (k : List Value → R), fList f l k = k l
  | [], _ => rfl
  | v :: l, k => by rw [fList, hf, fList_eq f hf l]

def fAtom (v : Value) (k : Value → R) : R :=
  match v with
  | .bool b => fBool b fun b => k (.bool b)
  | .int kd n => fInt n fun n => k (.int kd n)
  | .pointer (some a) => fAddr a fun a => k (.pointer (some a))
  | .pointer none => k (.pointer none)
  | .slice (some a) n m => fAddr a fun a => fNat n fun n => k (.slice (some a) n m)
  | v => k v
theorem fAtom_eq (v : Value) (k : Value → R) : fAtom v k = k v := by
  unfold fAtom
  split <;> simp [fBool_eq, fInt_eq, fAddr_eq, fNat_eq]

def fVal1 (v : Value) (k : Value → R) : R :=
  match v with
  | .bool b => fBool b fun b => k (.bool b)
  | .int kd n => fInt n fun n => k (.int kd n)
  | .pointer (some a) => fAddr a fun a => k (.pointer (some a))
  | .slice (some a) n m => fAddr a fun a => fNat n fun n => k (.slice (some a) n m)
  | .agg ⟨l⟩ => fList fAtom l fun l => k (.agg ⟨l⟩)
  | v => k v
theorem fVal1_eq (v : Value) (k : Value → R) : fVal1 v k = k v := by
  unfold fVal1
  split <;> simp [fBool_eq, fInt_eq, fAddr_eq, fNat_eq, fAtom_eq, fList_eq]

def fVal (v : Value) (k : Value → R) : R :=
  match v with
  | .bool b => fBool b fun b => k (.bool b)
  | .int kd n => fInt n fun n => k (.int kd n)
  | .pointer (some a) => fAddr a fun a => k (.pointer (some a))
  | .slice (some a) n m => fAddr a fun a => fNat n fun n => k (.slice (some a) n m)
  | .agg ⟨l⟩ => fList fAtom l fun l => k (.agg ⟨l⟩)
  | .tuple ⟨l⟩ => fList fVal1 l fun l => k (.tuple ⟨l⟩)
  | .iface z (.agg ⟨l⟩) => fList fVal1 l fun l => k (.iface z (.agg ⟨l⟩))
  | .iface off (.tuple ⟨l⟩) => fNat off fun off => k (.iface off (.tuple ⟨l⟩))
  | v => k v
theorem fVal_eq (v : Value) (k : Value → R) : fVal v k = k v := by
  unfold fVal
  split <;> simp [fBool_eq, fInt_eq, fAddr_eq, fNat_eq, fAtom_eq, fVal1_eq, fList_eq]

def fObj (o : IObj) (k : IObj → R) : R :=
  match o with
  | .cells ro l => fList fAtom l fun l => k (.cells ro l)
  | o => k o
theorem fObj_eq (o : IObj) (k : IObj → R) : fObj o k = k o := by
  unfold fObj
  split <;> simp [fAtom_eq, fList_eq]

def setK {α : Type} : Nat → Tree α → Nat → α → (Tree α → R) → R
  | 0, t, _, _, k => k t
  | f + 1, .leaf, n, a, k =>
    (match n with
      | 0 => k (.node .leaf (some a) .leaf)
      | m + 1 => bif Nat.beq (m % 2) 0 then setK f .leaf (m / 2) a (fun l => k (.node l none .leaf)) else setK f .leaf (m / 2) a (fun r => k (.node .leaf none r)))
  | f + 1, .node l v r, n, a, k =>
    (match n with
      | 0 => k (.node l (some a) r)
      | m + 1 => bif Nat.beq (m % 2) 0 then setK f l (m / 2) a (fun l => k (.node l v r)) else setK f r (m / 2) a (fun r => k (.node l v r)))
theorem setK_eq {α : Type} : ∀ (f : Nat) (t : Tree α) (n : Nat) (a : α) (k : Tree α → R), setK f t n a k = k (t.setF f n a)
  | 0, _, _, _, _ => rfl
  | f + 1, t, n, a, k => by
    cases t <;> cases n <;> simp only [setK, Tree.setF, Tree.lft, Tree.val, Tree.rgt] <;>
      (rename_i m; cases Nat.beq (m % 2) 0 <;> simp only [cond_true, cond_false, setK_eq f])

def putK (s : St) (b : Nat) (o : IObj) (k : St → R) : R :=
  match s with
  | ⟨n, wm, h⟩ => setK (b + 1) h b o fun h => k ⟨n, wm, h⟩
theorem putK_eq (s : St) (b : Nat) (o : IObj) (k : St → R) : putK s b o k = k (s.put b o) := by
  obtain ⟨n, wm, h⟩ := s
  simp [putK, setK_eq, St.put, Tree.set]

/-- The next 'n' numbers are taken. -/
def bumpK (s : St) (n : Nat) (k : Nat → St → R) : R :=
  match s with
  | ⟨nx, wm, h⟩ => fNat nx fun nx => fNat (nx + n) fun nx' => k nx ⟨nx', wm, h⟩
def St.bump (s : St) (n : Nat) : St := ⟨s.next + n, s.wm, s.heap⟩
theorem bumpK_eq (s : St) (n : Nat) (k : Nat → St → R) : bumpK s n k = k s.next (s.bump n) := by
  obtain ⟨nx, wm, h⟩ := s
  simp [bumpK, fNat_eq, St.bump]
end force

/-! ### Memory -/
def drop? {α : Type} : Nat → List α → Option (List α)
  | 0, l => some l
  | _ + 1, [] => none
  | n + 1, _ :: l => drop? n l

def take? {α : Type} : Nat → List α → Option (List α)
  | 0, _ => some []
  | _ + 1, [] => none
  | n + 1, x :: l => (take? n l).map (x :: ·)

/-- The list with its cells from 'o' on written over; none: they don't lie in it. -/
def splice? {α : Type} : Nat → List α → List α → Option (List α)
  | 0, [], l => some l
  | 0, _ :: _, [] => none
  | 0, v :: vs, _ :: l => (splice? 0 vs l).map (v :: ·)
  | _ + 1, _, [] => none
  | n + 1, vs, x :: l => (splice? n vs l).map (x :: ·)

/-- The cells from an address on. -/
def loadV (g : Get) (p : Value) (n : Nat) : Option (List Value) :=
  match p with
  | .pointer (some ⟨b, o, none⟩) =>
    match g b with
    | some (.cells _ c) => (drop? o c).bind (take? n)
    | _ => none
  | .iface o (.tuple ⟨c⟩) => (drop? o c).bind (take? n)
  | _ => none

def St.storeN (s : St) (p : Value) (vs : List Value) : Option St :=
  match p with
  | .pointer (some ⟨b, o, none⟩) =>
    bif Nat.ble s.wm b then
      match s.get b with
      | some (.cells false c) => (splice? o vs c).map fun c' => s.put b (.cells false c')
      | _ => none
    else none
  | _ => none

/-! ### Values -/
def purev {α : Type} : Sem α → Option α
  | .pure a => some a
  | _ => none

def vcells (v : Value) : List Value := v.cells.toList

/-- A value that may lie in one cell. -/
def oneCell : Value → Bool
  | .agg _ | .tuple _ | .chan _ => false
  | _ => true

def fill : List (Nat × List Value) → List Value → Option (List Value)
  | [], c => some c
  | (o, vs) :: r, c => (splice? o vs c).bind (fill r)

def partsOf : List (Nat × Nat × Value) → Option (List (Nat × List Value))
  | [] => some []
  | (o, n, v) :: r => bif Nat.beq (vcells v).length n && (vcells v).all oneCell then (partsOf r).map ((o, vcells v) :: ·) else none

def addA (a : Addr) (n : Nat) : Addr := ⟨a.block, a.off + n, none⟩

def atomEq : Bool → Value → Value → Option Bool
  | false, .bool a, .bool b => some (a == b)
  | true, .int k a, .int k' b => if k = k' then some (decide (a = b)) else none
  | _, _, _ => none
def atomsEq : List Bool → List Value → List Value → Option Bool
  | [], [], [] => some true
  | l :: ls, x :: xs, y :: ys =>
    match atomEq l x y, atomsEq ls xs ys with
    | some a, some b => some (a && b)
    | _, _ => none
  | _, _, _ => none
def flatEq (t : EqT) (x y : Value) : Option Bool :=
  match t with
  | .int => atomEq true x y
  | .bool => atomEq false x y
  | .str => (match x, y with
    | .string a, .string b => some (a == b)
    | _, _ => none)
  | .ptr => (match x, y with
    | .pointer none, .pointer b => some b.isNone
    | .pointer (some _), .pointer none => some false
    | _, _ => none)
  | .agg l => (match x, y with
    | .agg ⟨xs⟩, .agg ⟨ys⟩ => atomsEq l xs ys
    | _, _ => none)

/-- A key that can be held against others. -/
def keyOk (t : EqT) (k : Value) : Bool :=
  match t with
  | .ptr => false
  | t => match flatEq t k k with
    | some true => true
    | _ => false

def findKey (t : EqT) (k : Value) : List (Value × Value) → Option (Option Value)
  | [] => some none
  | (k', v) :: r =>
    match flatEq t k k' with
    | some true => some (some v)
    | some false => findKey t k r
    | none => none

def setKey (t : EqT) (k v : Value) : List (Value × Value) → List (Value × Value)
  | [] => [(k, v)]
  | (k', v') :: r =>
    match flatEq t k k' with
    | some true => (k, v) :: r
    | _ => (k', v') :: setKey t k v r

def delKey (t : EqT) (k : Value) : List (Value × Value) → List (Value × Value)
  | [] => []
  | (k', v') :: r =>
    match flatEq t k k' with
    | some true => r
    | _ => (k', v') :: delKey t k r

/-- A bound of a slice expression. -/
def bound (x : Value) (most : Nat) : Option Nat :=
  match x with
  | .int _ (.ofNat m) => bif Nat.ble m most then some m else none
  | _ => none

def boundO (x : Option Value) (dflt most : Nat) : Option Nat :=
  match x with
  | none => some dflt
  | some x => bound x most

def reps {α : Type} (l : List α) : Nat → List α
  | 0 => []
  | n + 1 => l ++ reps l n

abbrev CallF := Value → List Value → St → Option (Value × St)

/-- The most cells or bytes that are asked for. -/
def mostBytes : Nat := 2 ^ 46

def partOf (agg : Bool) (vs : List Value) : Option Value :=
  bif agg then some (.agg ⟨vs⟩) else match vs with
    | [v] => some v
    | _ => none

def opPick (c a b : Value) : Option Value :=
  match c with
  | .bool true => some a
  | .bool false => some b
  | _ => none
def opBuild (zero : List Value) (parts : List (Nat × Nat × Value)) : Option Value :=
  ((partsOf parts).bind (fill · zero)).map fun c => .agg ⟨c⟩
def opLoad1 (g : Get) (p : Value) : Option Value :=
  match loadV g p 1 with
  | some [v] => some v
  | _ => none
def opLoadN (g : Get) (n : Nat) (p : Value) : Option Value := (loadV g p n).map fun vs => .agg ⟨vs⟩
def opNilCheck (x : Value) : Option Value :=
  match x with
  | .pointer (some a) => some (.pointer (some a))
  | .iface o (.tuple c) => some (.iface o (.tuple c))
  | .func (.func f) c d => some (.func (.func f) c d)
  | .func (.yield f) c d => some (.func (.yield f) c d)
  | _ => none
/-- 'IntKind.wrap', reckoned fast. -/
def wrapS (m : Int) (half whole : Int) : Int := bif decide (half ≤ m) then m - whole else m
def wrapQ (k : IntKind) (n : Int) : Int :=
  match k with
  | .i64 => (match n with
    | .ofNat m => if m ≤ 9223372036854775807 then .ofNat m else wrapS (n % 18446744073709551616) 9223372036854775808 18446744073709551616
    | .negSucc m => if m ≤ 9223372036854775807 then .negSucc m else wrapS (n % 18446744073709551616) 9223372036854775808 18446744073709551616)
  | .u64 => (match n with
    | .ofNat m => .ofNat (m % 18446744073709551616)
    | n => n % 18446744073709551616)
  | .i32 => wrapS (n % 4294967296) 2147483648 4294967296
  | .u32 => n % 4294967296
  | .i16 => wrapS (n % 65536) 32768 65536
  | .u16 => n % 65536
  | .i8 => wrapS (n % 256) 128 256
  | .u8 => n % 256
theorem wrapS_eq (m half whole : Int) : wrapS m half whole = if half ≤ m then m - whole else m := by
  unfold wrapS
  by_cases h : half ≤ m <;> simp [h]
theorem wrapQ_eq (k : IntKind) (n : Int) : wrapQ k n = k.wrap n := by
  have p63 : (2 : Int) ^ 63 = 9223372036854775808 := by decide
  have p64 : (2 : Int) ^ 64 = 18446744073709551616 := by decide
  have p32 : (2 : Int) ^ 32 = 4294967296 := by decide
  have p31 : (2 : Int) ^ 31 = 2147483648 := by decide
  have p16 : (2 : Int) ^ 16 = 65536 := by decide
  have p15 : (2 : Int) ^ 15 = 32768 := by decide
  have p8 : (2 : Int) ^ 8 = 256 := by decide
  have p7 : (2 : Int) ^ 7 = 128 := by decide
  cases k <;> simp only [wrapQ, wrapS_eq, IntKind.wrap, IntKind.bits, IntKind.signed, Bool.true_and, Bool.false_and, Nat.reduceSub, p63, p64, p32, p31, p16, p15, p8, p7, decide_eq_true_eq, Bool.false_eq_true, if_false, ge_iff_le]
  case i64 =>
    cases n with
    | ofNat m => simp only [Int.ofNat_eq_natCast]; split <;> split <;> omega
    | negSucc m => simp only []; split <;> split <;> omega
  case u64 =>
    cases n with
    | ofNat m => simp only [Int.ofNat_eq_natCast]; omega
    | negSucc m => simp only []
def pow2 (n : Nat) : Int := .ofNat (2 ^ n)
def decI (p : Prop) [Decidable p] : Option Value := some (.bool (decide p))
def quoI (k : IntKind) (a b : Int) : Option Value := bif decide (b = 0) then none else some (.int k (wrapQ k (a.tdiv b)))
def remI (k : IntKind) (a b : Int) : Option Value := bif decide (b = 0) then none else some (.int k (a.tmod b))
def shlI (k : IntKind) (a b : Int) : Option Value := bif decide (b < 0) then none else some (.int k (wrapQ k (a * pow2 (min b.toNat k.bits))))
def shrI (k : IntKind) (a b : Int) : Option Value := bif decide (b < 0) then none else some (.int k (a.fdiv (pow2 (min b.toNat k.bits))))
def bitI (op : BinOp) (k : IntKind) (a b : Int) : Option Value :=
  match op with
  | .and => some (.int k (wrapQ k (.ofNat (BitVec.ofInt k.bits a &&& BitVec.ofInt k.bits b).toNat)))
  | .or => some (.int k (wrapQ k (.ofNat (BitVec.ofInt k.bits a ||| BitVec.ofInt k.bits b).toNat)))
  | .xor => some (.int k (wrapQ k (.ofNat (BitVec.ofInt k.bits a ^^^ BitVec.ofInt k.bits b).toNat)))
  | .andNot => some (.int k (wrapQ k (.ofNat (BitVec.ofInt k.bits a &&& ~~~BitVec.ofInt k.bits b).toNat)))
  | _ => none
/-- Whole numbers of one kind. -/
def binI (op : BinOp) (k : IntKind) (a b : Int) : Option Value :=
  match op with
  | .add => some (.int k (wrapQ k (a + b)))
  | .sub => some (.int k (wrapQ k (a - b)))
  | .mul => some (.int k (wrapQ k (a * b)))
  | .quo => quoI k a b
  | .rem => remI k a b
  | .and => bitI .and k a b
  | .or => bitI .or k a b
  | .xor => bitI .xor k a b
  | .andNot => bitI .andNot k a b
  | .eql => decI (a = b)
  | .neq => decI (a ≠ b)
  | .lss => decI (a < b)
  | .leq => decI (a ≤ b)
  | .gtr => decI (a > b)
  | .geq => decI (a ≥ b)
  | _ => none
def binII (op : BinOp) (k k' : IntKind) (a b : Int) : Option Value :=
  match op with
  | .shl => shlI k a b
  | .shr => shrI k a b
  | op => bif decide (k = k') then binI op k a b else none
def opBin (op : BinOp) (x y : Value) : Option Value :=
  match x with
  | .int k a => (match y with
    | .int k' b => binII op k k' a b
    | _ => none)
  | .string a => (match y with
    | .string b => purev (Op.stringOp op a b)
    | _ => none)
  | _ => none
def opEq (neg : Bool) (t : EqT) (x y : Value) : Option Value := (flatEq t x y).map fun b => .bool (bif neg then !b else b)
def opUn (op : UnOp) (x : Value) : Option Value :=
  match x with
  | .int k n => (match op with
    | .neg => some (.int k (wrapQ k (0 - n)))
    | .xor => bitI .xor k (bif k.signed then -1 else k.max) n
    | _ => none)
  | .bool b => (match op with
    | .not => some (.bool (!b))
    | _ => none)
  | _ => none
def opConv (k : IntKind) (x : Value) : Option Value :=
  match x with
  | .int _ n => some (.int k (wrapQ k n))
  | _ => none
def opSlice (esz : Nat) (x : Value) (lo hi : Option Value) : Option Value :=
  match x with
  | .slice (some a) len z =>
    (boundO hi len len).bind fun h => (boundO lo 0 h).bind fun l =>
      bif Nat.beq z esz then some (.slice (some (addA a (l * esz))) (h - l) esz) else none
  | .slice none 0 0 => (boundO hi 0 0).bind fun h => (boundO lo 0 h).bind fun _ => some (.slice none 0 0)
  | .iface z (.agg ⟨es⟩) =>
    (boundO hi es.length es.length).bind fun h => (boundO lo 0 h).bind fun l =>
      bif Nat.beq z esz then some (.iface z (.agg ⟨(es.take h).drop l⟩)) else none
  | _ => none
def opSliceArr (g : Get) (n esz : Nat) (x : Value) (lo hi : Option Value) : Option Value :=
  match x with
  | .pointer (some a) => (loadV g x (n * esz)).bind fun _ => (boundO hi n n).bind fun h => (boundO lo 0 h).bind fun l => some (.slice (some (addA a (l * esz))) (h - l) esz)
  | _ => none
def opFieldAddr (off : Nat) (x : Value) : Option Value :=
  match x with
  | .pointer (some a) => some (.pointer (some (addA a off)))
  | .iface o (.tuple c) => some (.iface (o + off) (.tuple c))
  | _ => none
def opField (off size : Nat) (agg : Bool) (x : Value) : Option Value :=
  match x with
  | .agg ⟨c⟩ => ((drop? off c).bind (take? size)).bind (partOf agg)
  | _ => none
def opIndexAddr (esz : Nat) (x i : Value) : Option Value :=
  match i with
  | .int _ (.ofNat n) =>
    (match x with
    | .slice (some a) len z => bif Nat.ble (n + 1) len && Nat.beq z esz then some (.pointer (some (addA a (n * esz)))) else none
    | .iface z (.agg ⟨es⟩) => match es[n]? with
      | some e => bif Nat.beq z esz then some (.iface 0 (.tuple ⟨vcells e⟩)) else none
      | none => none
    | _ => none)
  | _ => none
def opIndexAddrA (len esz : Nat) (x i : Value) : Option Value :=
  match i with
  | .int _ (.ofNat n) => bif Nat.ble (n + 1) len then opFieldAddr (n * esz) x else none
  | _ => none
def opIndex (len esz : Nat) (agg : Bool) (x i : Value) : Option Value :=
  match x, i with
  | .agg ⟨c⟩, .int _ (.ofNat n) => bif Nat.ble (n + 1) len then ((drop? (n * esz) c).bind (take? esz)).bind (partOf agg) else none
  | _, _ => none
def opIndexS (x i : Value) : Option Value :=
  match x, i with
  | .string b, .int _ (.ofNat n) => match b.data.toList[n]? with
    | some c => some (.int .u8 c.toNat)
    | none => none
  | _, _ => none
def mapOf (g : Get) (m : Value) : Option (List (Value × Value)) :=
  match m with
  | .map none => some []
  | .map (some r) => match g r with
    | some (.map es) => some es
    | _ => none
  | _ => none
def opLookup (g : Get) (t : EqT) (zero : Value) (ok : Bool) (m k : Value) : Option Value :=
  bif keyOk t k then
    match mapOf g m with
    | none => none
    | some es => match findKey t k es with
      | none => none
      | some (some v) => some (bif ok then .tuple ⟨[v, .bool true]⟩ else v)
      | some none => some (bif ok then .tuple ⟨[zero, .bool false]⟩ else zero)
  else none
def opExtract (x : Value) (i : Nat) : Option Value :=
  match x with
  | .tuple ⟨vs⟩ => vs[i]?
  | _ => none
def opLen (x : Value) : Option Value :=
  match x with
  | .slice _ n _ => some (.int .i64 (.ofNat n))
  | .iface _ (.agg ⟨es⟩) => some (.int .i64 (.ofNat es.length))
  | _ => none
def opLenS (x : Value) : Option Value :=
  match x with
  | .string b => some (.int .i64 (.ofNat b.size))
  | _ => none
def opLenMap (g : Get) (x : Value) : Option Value := (mapOf g x).map fun es => .int .i64 (.ofNat es.length)
def minI : Value → List Value → Option Value
  | v, [] => some v
  | .int k x, .int _ y :: r => minI (.int k (if y < x then y else x)) r
  | _, _ => none
def maxI : Value → List Value → Option Value
  | v, [] => some v
  | .int k x, .int _ y :: r => maxI (.int k (if y > x then y else x)) r
  | _, _ => none
def opMin : List Value → Option Value
  | .int k x :: r => minI (.int k x) r
  | _ => none
def opMax : List Value → Option Value
  | .int k x :: r => maxI (.int k x) r
  | _ => none

def evParts (F : Fr) : List (Nat × Nat × COpd) → List (Nat × Nat × Value)
  | [] => []
  | (o, n, x) :: r => (o, n, x.ev F) :: evParts F r

def evArgs (F : Fr) : List COpd → List Value
  | [] => []
  | x :: r => x.ev F :: evArgs F r

def evOpt (F : Fr) : Option COpd → Option Value
  | none => none
  | some x => some (x.ev F)

def evP (g : Get) (F : Fr) : POp → Option Value
  | .move x => some (x.ev F)
  | .pick c a b => opPick (c.ev F) (a.ev F) (b.ev F)
  | .build zero parts => opBuild zero (evParts F parts)
  | .load1 x => opLoad1 g (x.ev F)
  | .loadN n x => opLoadN g n (x.ev F)
  | .nilCheck x => opNilCheck (x.ev F)
  | .bin op x y => opBin op (x.ev F) (y.ev F)
  | .eq neg t x y => opEq neg t (x.ev F) (y.ev F)
  | .un op x => opUn op (x.ev F)
  | .conv k x => opConv k (x.ev F)
  | .makeFunc f cs => some (.func (.func f) ⟨[]⟩ ⟨evArgs F cs⟩)
  | .slice esz x lo hi => opSlice esz (x.ev F) (evOpt F lo) (evOpt F hi)
  | .sliceArr n esz x lo hi => opSliceArr g n esz (x.ev F) (evOpt F lo) (evOpt F hi)
  | .fieldAddr off x => opFieldAddr off (x.ev F)
  | .field off size agg x => opField off size agg (x.ev F)
  | .indexAddr esz x i => opIndexAddr esz (x.ev F) (i.ev F)
  | .indexAddrA len esz x i => opIndexAddrA len esz (x.ev F) (i.ev F)
  | .index len esz agg x i => opIndex len esz agg (x.ev F) (i.ev F)
  | .indexS x i => opIndexS (x.ev F) (i.ev F)
  | .lookup t zero ok m k => opLookup g t zero ok (m.ev F) (k.ev F)
  | .extract x i => opExtract (x.ev F) i
  | .len x => opLen (x.ev F)
  | .lenS x => opLenS (x.ev F)
  | .lenMap x => opLenMap g (x.ev F)
  | .min xs => opMin (evArgs F xs)
  | .max xs => opMax (evArgs F xs)
  | .fail => none

def opBox (id : Nat) (x : Value) : Option (Value × IObj) :=
  bif (vcells x).all oneCell then some (.pointer (some ⟨id, 0, none⟩), .cells false (vcells x)) else none
def opBuildSlice (id esz len : Nat) (zero : List Value) (parts : List (Nat × Nat × Value)) : Option (Value × IObj) :=
  ((partsOf parts).bind (fill · (reps zero len))).map fun c => (.slice (some ⟨id, 0, none⟩) len esz, .cells false c)
def opMakeSlice (id esz bytes : Nat) (zero : List Value) (len cap : Value) : Option (Value × IObj) :=
  match len, cap with
  | .int .i64 (.ofNat n), .int .i64 (.ofNat c) =>
    bif Nat.beq n c && Nat.ble (n * bytes) mostBytes && Nat.ble n mostBytes then
      some (.slice (some ⟨id, 0, none⟩) n esz, .cells false (reps zero n))
    else none
  | _, _ => none

/-- What is made, and the value that tells of it where its block has the number 'id'. -/
def evA (F : Fr) (id : Nat) : AOp → Option (Value × IObj)
  | .alloc zero => some (.pointer (some ⟨id, 0, none⟩), .cells false zero)
  | .box x => opBox id (x.ev F)
  | .buildSlice esz len zero parts => opBuildSlice id esz len zero (evParts F parts)
  | .makeMap => some (.map (some id), .map [])
  | .makeSlice esz bytes zero len cap => opMakeSlice id esz bytes zero (len.ev F) (cap.ev F)

/-- A slice's elements' cells; and how many elements. -/
def srcOf (g : Get) (esz : Nat) (x : Value) : Option (List Value × Nat) :=
  match x with
  | .slice none 0 _ => some ([], 0)
  | .slice (some a) n z => bif Nat.beq z esz then (loadV g (.pointer (some a)) (n * esz)).map (·, n) else none
  | .iface z (.agg ⟨es⟩) => bif Nat.beq z esz then some (es.flatMap vcells, es.length) else none
  | _ => none

def opStore (s : St) (n : Nat) (a x : Value) : Option (Value × St) :=
  bif Nat.beq (vcells x).length n && (vcells x).all oneCell then (s.storeN a (vcells x)).map fun s' => (undf, s') else none
def opMapUpdate (s : St) (t : EqT) (m k v : Value) : Option (Value × St) :=
  match m with
  | .map (some r) =>
    bif Nat.ble s.wm r then
      match s.get r with
      | some (.map es) => bif keyOk t k && (findKey t k es).isSome then some (undf, s.put r (.map (setKey t k v es))) else none
      | _ => none
    else none
  | _ => none
def opDelete (s : St) (t : EqT) (m k : Value) : Option (Value × St) :=
  match m with
  | .map (some r) =>
    bif Nat.ble s.wm r then
      match s.get r with
      | some (.map es) => bif keyOk t k && (findKey t k es).isSome then some (undf, s.put r (.map (delKey t k es))) else none
      | _ => none
    else none
  | _ => none
def opAppend (s : St) (esz bytes : Nat) (x y : Value) : Option (Value × St) :=
  match srcOf s.get esz y with
  | none => none
  | some (new, k) => bif !(new.all oneCell) then none else
    match x with
    | .slice none 0 _ =>
      bif Nat.ble (k * bytes) mostBytes && Nat.ble k mostBytes then
        bif Nat.beq k 0 then some (.slice none 0 0, s) else
          some (.slice (some ⟨s.next, 0, none⟩) k esz, (s.bump 1).put s.next (.cells false new))
      else none
    | .slice (some a) len z =>
      bif Nat.ble ((len + k) * bytes) mostBytes && Nat.ble (len + k) mostBytes && Nat.beq z esz && Nat.ble s.wm a.block then
        match s.get a.block, loadV s.get (.pointer (some a)) (len * esz) with
        | some (.cells false _), some old =>
          some (.slice (some ⟨s.next, 0, none⟩) (len + k) esz, ((s.bump 1).put a.block .dead).put s.next (.cells false (old ++ new)))
        | _, _ => none
      else none
    | _ => none
def opCopy (s : St) (esz : Nat) (x y : Value) : Option (Value × St) :=
  match x, srcOf s.get esz y with
  | .slice none 0 _, some _ => some (.int .i64 (.ofNat 0), s)
  | .slice (some a) len z, some (src, k) =>
    bif Nat.beq z esz && src.all oneCell then
      (take? (Nat.min k len * esz) src).bind fun vs => (s.storeN (.pointer (some a)) vs).map fun s' => (.int .i64 (.ofNat (Nat.min k len)), s')
    else none
  | _, _ => none

def evE (call : CallF) (F : Fr) (s : St) : EOp → Option (Value × St)
  | .store n a x => opStore s n (a.ev F) (x.ev F)
  | .mapUpdate t m k v => opMapUpdate s t (m.ev F) (k.ev F) (v.ev F)
  | .call f args => call (f.ev F) (evArgs F args) s
  | .append esz bytes x y => opAppend s esz bytes (x.ev F) (y.ev F)
  | .copy esz x y => opCopy s esz (x.ev F) (y.ev F)
  | .delete t m k => opDelete s t (m.ev F) (k.ev F)

/-! ### Regions -/
def opGuard (v : Value) (b : Bool) : Option Bool :=
  match v with
  | .bool c => some (c == b)
  | .tuple ⟨[]⟩ => some false
  | _ => none

def guardOk (F : Fr) : Option (Nat × Bool) → Option Bool
  | none => some true
  | some (t, b) => opGuard (F t) b

/-- What is carried out under a guard. -/
def gd {α : Type} (g : Option Bool) (x : Option α) (dflt : α) : Option α :=
  match g with
  | none => none
  | some true => x
  | some false => some dflt

/-- What a checked load reads: its address, how many cells. -/
def loadOf (F : Fr) : POp → Option (Value × Nat)
  | .load1 x => some (x.ev F, 1)
  | .loadN n x => some (x.ev F, n)
  | _ => none

def vsameA : Value → Value → Bool
  | .bool a, .bool b => a == b
  | .int k a, .int k' b => decide (k = k') && (a == b)
  | .pointer a, .pointer b => decide (a = b)
  | .slice a n m, .slice b n' m' => decide (a = b) && Nat.beq n n' && Nat.beq m m'
  | .map a, .map b => decide (a = b)
  | .func (.func f) ⟨[]⟩ ⟨[]⟩, .func (.func g) ⟨[]⟩ ⟨[]⟩ => Nat.beq f g
  | .func (.yield f) ⟨[]⟩ ⟨[]⟩, .func (.yield g) ⟨[]⟩ ⟨[]⟩ => Nat.beq f g
  | .nilFunc, .nilFunc => true
  | _, _ => false
def vsamesF (p : Value → Value → Bool) : List Value → List Value → Bool
  | [], [] => true
  | x :: xs, y :: ys => p x y && vsamesF p xs ys
  | _, _ => false
/-- The same value, looked at to a depth. -/
def vsameF : Nat → Value → Value → Bool
  | 0, x, y => vsameA x y
  | f + 1, x, y =>
    match x, y with
    | .iface z (.agg ⟨xs⟩), .iface z' (.agg ⟨ys⟩) => Nat.beq z z' && vsamesF (vsameF f) xs ys
    | .iface z (.tuple ⟨xs⟩), .iface z' (.tuple ⟨ys⟩) => Nat.beq z z' && vsamesF (vsameF f) xs ys
    | .agg ⟨xs⟩, .agg ⟨ys⟩ => vsamesF (vsameF f) xs ys
    | x, y => vsameA x y
abbrev vsames1 : List Value → List Value → Bool := vsamesF (vsameF 6)

/-- A load that was made: its address, how many cells, what they held. -/
structure Ld where
  p : Value
  n : Nat
  vs : List Value

def sameLoad (s : St) (x : Ld) : Bool :=
  match loadV s.get x.p x.n with
  | some vs => vsames1 vs x.vs
  | none => false

abbrev Pend := List (Nat × Option Ld)

/-- One effect has passed. -/
def passed : Pend → Pend
  | [] => []
  | (0, _) :: r => passed r
  | (1, _) :: r => passed r
  | (n + 2, x) :: r => (n + 1, x) :: passed r

def pendOk (s : St) : Pend → Bool
  | [] => true
  | (_, none) :: r => pendOk s r
  | (_, some x) :: r => sameLoad s x && pendOk s r

def prevOk : Nat → List St → Ld → Bool
  | 0, _, _ => true
  | _ + 1, [], _ => true
  | n + 1, s :: r, x => sameLoad s x && prevOk n r x

section binds
variable {R : Type}
def bindV (o : Option Value) (k : Value → Option R) : Option R :=
  match o with
  | none => none
  | some v => fVal v k
def bindA (o : Option (Value × IObj)) (k : Value → IObj → Option R) : Option R :=
  match o with
  | none => none
  | some (v, ob) => fVal v fun v => fObj ob fun ob => k v ob
def bindE (o : Option (Value × St)) (k : Value → St → Option R) : Option R :=
  match o with
  | none => none
  | some (v, s) => fVal v fun v => match s with
    | ⟨n, wm, .leaf⟩ => k v ⟨n, wm, .leaf⟩
    | ⟨n, wm, .node l x r⟩ => k v ⟨n, wm, .node l x r⟩
def check (b : Bool) (k : Option R) : Option R := bif b then k else none
/-- A checked load: what it reads is read so, too, in the worlds ahead of the effects that may come behind it. -/
def chkL (g : Option Bool) (p : Value) (n m : Nat) (s : St) (prev : List St) (k : Option Ld → Option R) : Option R :=
  match g with
  | none => none
  | some false => k none
  | some true =>
    match loadV s.get p n with
    | none => none
    | some vs => check (prevOk m prev ⟨p, n, vs⟩) (k (some ⟨p, n, vs⟩))
end binds

def evOps {R : Type} (call : CallF) (base : Nat) (K : Fr → St → Option R) : List CO → Fr → St → List St → Pend → Option R
  | [], F, s, _, _ => K F s
  | ⟨d, .p (.move x), none, none⟩ :: os, F, s, prev, pend => evOps call base K os (putO F d (x.ev F)) s prev pend
  | ⟨d, .p x, g, none⟩ :: os, F, s, prev, pend => bindV (gd (guardOk F g) (evP s.get F x) undf) fun v => evOps call base K os (putO F d v) s prev pend
  | ⟨d, .p x, g, some (m, k)⟩ :: os, F, s, prev, pend => bindV (gd (guardOk F g) (evP s.get F x) undf) fun v =>
    match loadOf F x with
    | none => none
    | some (p, n) => chkL (guardOk F g) p n m s prev fun ld => evOps call base K os (putO F d v) s prev (bif Nat.beq k 0 then pend else (k, ld) :: pend)
  | ⟨d, .a r x, none, none⟩ :: os, F, s, prev, pend => fNat (base + r) fun id => bindA (evA F id x) fun v ob => putK s id ob fun s' =>
    evOps call base K os (putO F d v) s' prev pend
  | ⟨d, .e x, g, none⟩ :: os, F, s, prev, pend => bindE (gd (guardOk F g) (evE call F s x) (undf, s)) fun v s' =>
    check (pendOk s' pend) (evOps call base K os (putO F d v) s' (s :: prev) (passed pend))
  | _ :: _, _, _, _, _ => none

/-! ### Code -/
abbrev Out := Option (Ex × Fr × St)

def restrict (L : List Nat) (F : Fr) : Fr :=
  match L with
  | [] => fun _ => unk
  | t :: r => upd (restrict r F) t (F t)

def evRegion (call : CallF) (na : Nat) (L : List Nat) (ops : List CO) (F : Fr) (s : St) : Out :=
  bumpK s na fun base s => evOps call base (fun F' s' => some (.normal, restrict L F', s')) ops F s [] []

def seqC (a b : Fr → St → Out) (F : Fr) (s : St) : Out :=
  match a F s with
  | some (.normal, F', s') => b F' s'
  | some (.exit i, F', s') => some (.exit i, F', s')
  | some (.ret, F', s') => some (.ret, F', s')
  | none => none

def condC (c : Value) (x y : Fr → St → Out) (F : Fr) (s : St) : Out :=
  match c with
  | .bool true => x F s
  | .bool false => y F s
  | _ => none

def blockC (id : Nat) (b : Fr → St → Out) (F : Fr) (s : St) : Out :=
  match b F s with
  | some (.exit i, F', s') => bif Nat.beq i id then some (.normal, F', s') else some (.exit i, F', s')
  | some (.normal, F', s') => some (.normal, F', s')
  | some (.ret, F', s') => some (.ret, F', s')
  | none => none

def loopC (L : List Nat) (b : Fr → St → Out) : Nat → Fr → St → Out
  | 0, _, _ => none
  | n + 1, F, s =>
    match b (restrict L F) s with
    | some (.normal, F', s') => loopC L b n F' s'
    | some (.exit i, F', s') => some (.exit i, F', s')
    | some (.ret, F', s') => some (.ret, F', s')
    | none => none

def rangeC (call : CallF) (f : Value) (params : List Nat) (assign body : CCode) (F : Fr) (s : St) : Out :=
  bumpK s 1 fun l s => putK s l (.loop { F, params, assign, body, state := .ready, pending := none }) fun s1 =>
  match call f [.func (.yield l) ⟨[]⟩ ⟨[]⟩] s1 with
  | some (_, s2) => (match s2.get l with
    | some (.loop r) =>
      (match r.state with
      | .busy => none
      | _ =>
        putK s2 l .dead fun s3 =>
        match r.pending with
        | none => some (.normal, F, s3)
        | some e => some (e, F, s3))
    | _ => none)
  | none => none

def evC (call : CallF) (n : Nat) : CCode → Fr → St → Out
  | .skip => fun F s => some (.normal, F, s)
  | .region na L ops => evRegion call na L ops
  | .seq a b => seqC (evC call n a) (evC call n b)
  | .cond c x y => fun F s => condC (c.ev F) (evC call n x) (evC call n y) F s
  | .block id b => blockC id (evC call n b)
  | .loop L b => loopC L (evC call n b) n
  | .rangeFunc f params assign body => fun F s => rangeC call (f.ev F) params assign body F s
  | .exit id => fun F s => some (.exit id, F, s)
  | .scope b => evC call n b
  | .ret => fun F s => some (.ret, F, s)

def argFr : List Value → Nat → Fr
  | [], _ => fun _ => undf
  | v :: vs, i => upd (argFr vs (i + 1)) i v

def resVals (F : Fr) (s : St) : List CRes → Option (List Value)
  | [] => some []
  | .tmp t :: r => (resVals F s r).map (F t :: ·)
  | .cell1 a :: r => (opLoad1 s.get (F a)).bind fun v => (resVals F s r).map (v :: ·)
  | .cellN a n :: r => (opLoadN s.get n (F a)).bind fun v => (resVals F s r).map (v :: ·)

def resVal : List Value → Value
  | [v] => v
  | vs => .tuple ⟨vs⟩

def finish (res : List CRes) : Out → Option (Value × St)
  | some (.normal, F, s) | some (.ret, F, s) => match resVals F s res with
    | some vs => fVal (resVal vs) fun v => some (v, s)
    | none => none
  | _ => none

def updMany : Fr → List Nat → List Value → Fr
  | F, p :: ps, v :: vs => updMany (upd F p v) ps vs
  | F, _, _ => F

/-! ### What is laid down for good -/
def chunk (z : Nat) (c : List Value) : Nat → Option (List Value)
  | 0 => some []
  | n + 1 => (take? z c).bind fun e => (drop? z c).bind fun r => (chunk z r n).map fun l => (bif Nat.beq z 1 then (e.headD unk) else .agg ⟨e⟩) :: l

def settleL (f : Value → Option Value) : List Value → Option (List Value)
  | [] => some []
  | v :: l => (f v).bind fun v' => (settleL f l).map (v' :: ·)

/-- Elements, laid down for good: each of z cells. -/
def slimS (z : Nat) (es : List Value) : Option Value := bif es.all (fun e => Nat.beq (vcells e).length z) then some (.iface z (.agg ⟨es⟩)) else none

/-- A value that no block from 'base' on takes part in: slices of such blocks by their elements. -/
def settle (g : Get) (base : Nat) : Nat → Value → Option Value
  | 0, _ => none
  | f + 1, v =>
    match v with
    | .bool b => some (.bool b)
    | .int k n => some (.int k n)
    | .string b => some (.string b)
    | .pointer none => some (.pointer none)
    | .pointer (some ⟨b, o, none⟩) => bif Nat.ble (b + 1) base then some (.pointer (some ⟨b, o, none⟩)) else none
    | .slice none 0 0 => some (.slice none 0 0)
    | .slice (some ⟨b, o, none⟩) n z =>
      bif Nat.ble (b + 1) base then some (.slice (some ⟨b, o, none⟩) n z) else
        (loadV g (.pointer (some ⟨b, o, none⟩)) (n * z)).bind fun c => bif c.all oneCell && Nat.ble 1 z then (chunk z c n).bind fun es => (settleL (settle g base f) es).bind (slimS z) else none
    | .iface z (.agg ⟨es⟩) => (settleL (settle g base f) es).bind (slimS z)
    | .agg ⟨l⟩ => (settleL (settle g base f) l).map fun l' => .agg ⟨l'⟩
    | .tuple ⟨l⟩ => (settleL (settle g base f) l).map fun l' => .tuple ⟨l'⟩
    | _ => none

/-! ### Calls -/
/-- The two functions without a Go body that are met: 'math/bits.Add64', 'math/bits.Sub64'. -/
def ext (sub : Bool) (args : List Value) : Option Value :=
  match args with
  | [.int .u64 x, .int .u64 y, .int .u64 (.ofNat c)] =>
    bif Nat.ble c 1 then
      bif sub then some (.tuple ⟨[.int .u64 (.ofNat ((x.toNat + 2 ^ 64 - y.toNat - c) % 2 ^ 64)), .int .u64 (.ofNat (bif Nat.ble (y.toNat + c) x.toNat then 0 else 1))]⟩)
      else some (.tuple ⟨[.int .u64 (.ofNat ((x.toNat + y.toNat + c) % 2 ^ 64)), .int .u64 (.ofNat ((x.toNat + y.toNat + c) / 2 ^ 64))]⟩)
    else none
  | _ => none

inductive CDecl where
  | fn (f : CFunc)
  | add64
  | sub64
  /-- A function whose answers are known from elsewhere; it changes nothing. -/
  | prim (p : List Value → Option Value)

/-- How a function's body is run: by the evaluator, or by a text that answers the same. -/
abbrev RunF := Nat → CFunc → CallF → Nat → Fr → St → Out

def pureEnd (s : St) (r : Option (Value × St)) : Option (Value × St) :=
  match r with
  | none => none
  | some (v, s') => match settle s'.get s.next 8 v with
    | none => none
    | some v' => fVal v' fun v' => some (v', s)

def runFn (cf : CFunc) (body : Fr → St → Out) (args : List Value) (s : St) : Option (Value × St) :=
  check (Nat.ble args.length cf.ntmps)
    (bif cf.pure then pureEnd s (finish cf.results (body (argFr args 0) ⟨s.next, s.next, s.heap⟩))
    else finish cf.results (body (argFr args 0) s))

def endRound (s : St) (l : Nat) (e : Ex) : Option (Value × St) :=
  match s.get l with
  | some (.loop r) =>
    (match e with
    | .normal => putK s l (.loop { r with state := .ready, pending := none }) fun s4 => some (.bool true, s4)
    | e => putK s l (.loop { r with state := .done, pending := some e }) fun s4 => some (.bool false, s4))
  | _ => none

def runRound (call : CallF) (n : Nat) (l : Nat) (args : List Value) (s : St) : Option (Value × St) :=
  match s.get l with
  | some (.loop r) =>
    (match r.state with
    | .ready =>
      check (Nat.ble s.wm l && Nat.beq args.length r.params.length)
        (match evC call n r.assign (updMany r.F r.params args) s with
        | some (.normal, F', s') =>
          (match s'.get l with
          | some (.loop r1) =>
            (match r1.state with
            | .ready =>
              putK s' l (.loop { r1 with state := .busy }) fun s'' =>
              (match evC call n r.body F' s'' with
              | some (e, _, s3) => endRound s3 l e
              | none => none)
            | _ => none)
          | _ => none)
        | _ => none)
    | _ => none)
  | _ => none

def callV (P : Nat → Option CDecl) : Nat → CallF
  | 0 => fun _ _ _ => none
  | n + 1 => fun f args s =>
    match f with
    | .func (.func f) ⟨[]⟩ ⟨cap⟩ =>
      (match P f with
      | some (.fn cf) => runFn cf (evC (callV P n) n cf.body) (args ++ cap) s
      | some .add64 => (match ext false (args ++ cap) with
        | some v => fVal v fun v => some (v, s)
        | none => none)
      | some .sub64 => (match ext true (args ++ cap) with
        | some v => fVal v fun v => some (v, s)
        | none => none)
      | some (.prim p) => (match p (args ++ cap) with
        | some v => fVal v fun v => some (v, s)
        | none => none)
      | none => none)
    | .func (.yield l) ⟨[]⟩ ⟨[]⟩ => runRound (callV P n) n l args s
    | _ => none

/-- A function: its compact code, and a text that answers the same. -/
structure Entry where
  cf : CFunc
  run : CallF → Nat → Fr → St → Out
  ok : ∀ call n, evC call n cf.body = run call n

inductive SDecl where
  | fn (e : Entry)
  | add64
  | sub64

def SDecl.plain : SDecl → CDecl
  | .fn e => .fn e.cf
  | .add64 => .add64
  | .sub64 => .sub64

/-- The same calls, by the texts. -/
def callS (P : Nat → Option SDecl) : Nat → CallF
  | 0 => fun _ _ _ => none
  | n + 1 => fun f args s =>
    match f with
    | .func (.func f) ⟨[]⟩ ⟨cap⟩ =>
      (match P f with
      | some (.fn e) => runFn e.cf (e.run (callS P n) n) (args ++ cap) s
      | some .add64 => (match ext false (args ++ cap) with
        | some v => fVal v fun v => some (v, s)
        | none => none)
      | some .sub64 => (match ext true (args ++ cap) with
        | some v => fVal v fun v => some (v, s)
        | none => none)
      | none => none)
    | .func (.yield l) ⟨[]⟩ ⟨[]⟩ => runRound (callS P n) n l args s
    | _ => none

def plainP (P : Nat → Option SDecl) (f : Nat) : Option CDecl := (P f).map SDecl.plain

theorem callS_eq (P : Nat → Option SDecl) : ∀ n, callS P n = callV (plainP P) n
  | 0 => rfl
  | n + 1 => by
    have ih := callS_eq P n
    funext f args s
    unfold callS callV
    rw [ih]
    split
    · rename_i f cap
      unfold plainP
      cases h : P f with
      | none => rfl
      | some d =>
        cases d with
        | fn e => simp only [Option.map_some, SDecl.plain]; rw [e.ok]
        | add64 => rfl
        | sub64 => rfl
    · rfl
    · rfl

end Go.Ev

namespace Go.Ev

theorem Tree.get_setF {α : Type} : ∀ (f : Nat) (t : Tree α) (n : Nat) (a : α) (m : Nat), n < f →
    (t.setF f n a).get m = if m = n then some a else t.get m
  | 0, _, _, _, _, h => absurd h (Nat.not_lt_zero _)
  | f + 1, t, 0, a, m, _ => by
    cases m with
    | zero => simp [Tree.setF, Tree.get]
    | succ m => cases t <;> simp [Tree.setF, Tree.get, Tree.lft, Tree.rgt]
  | f + 1, t, n + 1, a, m, h => by
    have hn : n / 2 < f := by omega
    cases hb : Nat.beq (n % 2) 0 with
    | true =>
      have hb' : n % 2 = 0 := Nat.eq_of_beq_eq_true hb
      cases m with
      | zero => cases t <;> simp [Tree.setF, Tree.get, hb, Tree.val]
      | succ m =>
        cases hm : Nat.beq (m % 2) 0 with
        | true =>
          have hm' : m % 2 = 0 := Nat.eq_of_beq_eq_true hm
          simp only [Tree.setF, hb, cond_true, Tree.get, hm]
          rw [Tree.get_setF f _ _ a _ hn]
          by_cases e : m = n
          · subst e; simp
          · rw [if_neg (by omega), if_neg (by omega)]
            cases t <;> simp [Tree.lft, Tree.get, hm]
        | false =>
          have hm' : m % 2 ≠ 0 := fun e => by rw [e] at hm; cases hm
          simp only [Tree.setF, hb, cond_true, Tree.get, hm, cond_false]
          rw [if_neg (by omega)]
          cases t <;> simp [Tree.rgt, Tree.get, hm]
    | false =>
      have hb' : n % 2 ≠ 0 := fun e => by rw [e] at hb; cases hb
      cases m with
      | zero => cases t <;> simp [Tree.setF, Tree.get, hb, Tree.val]
      | succ m =>
        cases hm : Nat.beq (m % 2) 0 with
        | true =>
          have hm' : m % 2 = 0 := Nat.eq_of_beq_eq_true hm
          simp only [Tree.setF, hb, cond_false, Tree.get, hm, cond_true]
          rw [if_neg (by omega)]
          cases t <;> simp [Tree.lft, Tree.get, hm]
        | false =>
          have hm' : m % 2 ≠ 0 := fun e => by rw [e] at hm; cases hm
          simp only [Tree.setF, hb, cond_false, Tree.get, hm]
          rw [Tree.get_setF f _ _ a _ hn]
          by_cases e : m = n
          · subst e; simp
          · rw [if_neg (by omega), if_neg (by omega)]
            cases t <;> simp [Tree.rgt, Tree.get, hm]

theorem St.get_put (s : St) (b : Nat) (o : IObj) (i : Nat) : (s.put b o).get i = if i = b then some o else s.get i := by
  unfold St.get St.put Tree.set
  exact Tree.get_setF _ _ _ _ _ (Nat.lt_succ_self _)
@[simp] theorem St.put_next (s : St) (b : Nat) (o : IObj) : (s.put b o).next = s.next := rfl
@[simp] theorem St.put_wm (s : St) (b : Nat) (o : IObj) : (s.put b o).wm = s.wm := rfl
@[simp] theorem St.bump_get (s : St) (n i : Nat) : (s.bump n).get i = s.get i := rfl
@[simp] theorem St.bump_next (s : St) (n : Nat) : (s.bump n).next = s.next + n := rfl
@[simp] theorem St.bump_wm (s : St) (n : Nat) : (s.bump n).wm = s.wm := rfl

/-! ### The relation -/
/-- Where ideal blocks lie in the world: block, where in it, its size; and which of the world's blocks nobody writes any more, with what they hold. -/
structure Emb where
  blk : Nat → Option (Nat × Nat × Nat)
  im : Nat → Option (Array Value)

inductive V (φ : Emb) : Value → Value → Prop
  | unk (c : Option Nat) (x : Value) : V φ (.chan c) x
  | bool (b : Bool) : V φ (.bool b) (.bool b)
  | int (k : IntKind) (n : Int) : V φ (.int k n) (.int k n)
  | str (s : ByteArray) : V φ (.string s) (.string s)
  | nptr : V φ (.pointer none) (.pointer none)
  | ptr {i o b δ sz : Nat} : φ.blk i = some (b, δ, sz) → V φ (.pointer (some ⟨i, o, none⟩)) (.pointer (some ⟨b, δ + o, none⟩))
  | nsl : V φ (.slice none 0 0) (.slice none 0 0)
  | sl {i o b δ sz n z cap o' : Nat} : φ.blk i = some (b, δ, sz) → n ≤ cap → o' + cap * z ≤ sz → 0 < z → (o' = δ + o ∨ n = 0 ∧ cap = 0) →
      V φ (.slice (some ⟨i, o, none⟩) n z) (.slice (some ⟨b, o', none⟩) n cap)
  | nmap : V φ (.map none) (.map none)
  | map {i b δ sz : Nat} : φ.blk i = some (b, δ, sz) → V φ (.map (some i)) (.map (some b))
  | nfn : V φ .nilFunc .nilFunc
  | nif : V φ .nilIface .nilIface
  | fn {f : Nat} {xs ys : List Value} : xs.length = ys.length → (∀ i, i < xs.length → V φ (xs.getD i undf) (ys.getD i undf)) →
      V φ (.func (.func f) ⟨[]⟩ ⟨xs⟩) (.func (.func f) ⟨[]⟩ ⟨ys⟩)
  | yield {i b δ sz : Nat} : φ.blk i = some (b, δ, sz) → V φ (.func (.yield i) ⟨[]⟩ ⟨[]⟩) (.func (.yield b) ⟨[]⟩ ⟨[]⟩)
  | agg {xs ys : List Value} : xs.length = ys.length → (∀ i, i < xs.length → V φ (xs.getD i undf) (ys.getD i undf)) → V φ (.agg ⟨xs⟩) (.agg ⟨ys⟩)
  | tuple {xs ys : List Value} : xs.length = ys.length → (∀ i, i < xs.length → V φ (xs.getD i undf) (ys.getD i undf)) → V φ (.tuple ⟨xs⟩) (.tuple ⟨ys⟩)
  | imsl {z b o n cap : Nat} {es : List Value} {cc : Array Value} : φ.im b = some cc → 0 < z → es.length = n → n ≤ cap → o + n * z ≤ cc.size →
      (∀ e ∈ es, (vcells e).length = z) → (∀ j, j < n * z → V φ ((es.flatMap vcells).getD j undf) (cc.getD (o + j) undf)) →
      V φ (.iface z (.agg ⟨es⟩)) (.slice (some ⟨b, o, none⟩) n cap)
  | iesl {z cap : Nat} (a : Addr) : 0 < z → V φ (.iface z (.agg ⟨[]⟩)) (.slice (some a) 0 cap)
  | imptr {off b o : Nat} {cs : List Value} {cc : Array Value} : φ.im b = some cc → o + cs.length ≤ cc.size →
      (∀ j, j < cs.length → V φ (cs.getD j undf) (cc.getD (o + j) undf)) →
      V φ (.iface off (.tuple ⟨cs⟩)) (.pointer (some ⟨b, o + off, none⟩))

/-- Lists, value by value. -/
def VL (φ : Emb) (xs ys : List Value) : Prop := xs.length = ys.length ∧ ∀ i, i < xs.length → V φ (xs.getD i undf) (ys.getD i undf)

structure Ext (φ φ' : Emb) : Prop where
  blk : ∀ i x, φ.blk i = some x → φ'.blk i = some x
  im : ∀ b x, φ.im b = some x → φ'.im b = some x

theorem Ext.refl (φ : Emb) : Ext φ φ := ⟨fun _ _ h => h, fun _ _ h => h⟩
theorem Ext.trans {a b c : Emb} (h : Ext a b) (k : Ext b c) : Ext a c := ⟨fun i x e => k.blk i x (h.blk i x e), fun i x e => k.im i x (h.im i x e)⟩

theorem V.mono {φ φ' : Emb} (h : Ext φ φ') {x y : Value} (v : V φ x y) : V φ' x y := by
  induction v with
  | unk c x => exact .unk c x
  | bool b => exact .bool b
  | int k n => exact .int k n
  | str s => exact .str s
  | nptr => exact .nptr
  | ptr e => exact .ptr (h.blk _ _ e)
  | nsl => exact .nsl
  | sl e a b c d => exact .sl (h.blk _ _ e) a b c d
  | nmap => exact .nmap
  | map e => exact .map (h.blk _ _ e)
  | nfn => exact .nfn
  | nif => exact .nif
  | fn e _ ih => exact .fn e ih
  | yield e => exact .yield (h.blk _ _ e)
  | agg e _ ih => exact .agg e ih
  | tuple e _ ih => exact .tuple e ih
  | imsl e a b c d f _ ih => exact .imsl (h.im _ _ e) a b c d f ih
  | iesl a b => exact .iesl a b
  | imptr e a _ ih => exact .imptr (h.im _ _ e) a ih

theorem VL.mono {φ φ' : Emb} (h : Ext φ φ') {xs ys : List Value} (v : VL φ xs ys) : VL φ' xs ys := ⟨v.1, fun i hi => (v.2 i hi).mono h⟩

theorem VL.nil (φ : Emb) : VL φ [] [] := ⟨rfl, fun _ h => absurd h (Nat.not_lt_zero _)⟩
theorem VL.cons {φ : Emb} {x y : Value} {xs ys : List Value} (h : V φ x y) (t : VL φ xs ys) : VL φ (x :: xs) (y :: ys) :=
  ⟨by simp [t.1], fun i hi => by
    cases i with
    | zero => simpa using h
    | succ i => simpa using t.2 i (by simpa using hi)⟩
theorem VL.inv_cons {φ : Emb} {x : Value} {xs ys : List Value} (h : VL φ (x :: xs) ys) : ∃ y ys', ys = y :: ys' ∧ V φ x y ∧ VL φ xs ys' := by
  cases ys with
  | nil => cases h.1
  | cons y ys =>
    refine ⟨y, ys, rfl, by simpa using h.2 0 (by simp), by simpa using h.1, fun i hi => ?_⟩
    have := h.2 (i + 1) (by simpa using hi)
    simpa using this
theorem VL.inv_nil {φ : Emb} {ys : List Value} (h : VL φ [] ys) : ys = [] := by
  cases ys with
  | nil => rfl
  | cons y ys => cases h.1
theorem VL.append {φ : Emb} {xs ys xs' ys' : List Value} (h : VL φ xs ys) (k : VL φ xs' ys') : VL φ (xs ++ xs') (ys ++ ys') := by
  induction xs generalizing ys with
  | nil => rw [h.inv_nil]; simpa using k
  | cons x xs ih =>
    obtain ⟨y, ys1, rfl, h1, h2⟩ := h.inv_cons
    exact VL.cons h1 (ih h2)
theorem VL.get {φ : Emb} {xs ys : List Value} (h : VL φ xs ys) {i : Nat} {x : Value} (e : xs[i]? = some x) : ∃ y, ys[i]? = some y ∧ V φ x y := by
  obtain ⟨hi, rfl⟩ := List.getElem?_eq_some_iff.1 e
  have h2 := h.2 i hi
  have hl : i < ys.length := h.1 ▸ hi
  refine ⟨ys[i], by simp [hl], ?_⟩
  simpa [List.getD, hi, hl] using h2
theorem V.agg' {φ : Emb} {xs ys : List Value} (h : VL φ xs ys) : V φ (.agg ⟨xs⟩) (.agg ⟨ys⟩) := .agg h.1 h.2
theorem V.tuple' {φ : Emb} {xs ys : List Value} (h : VL φ xs ys) : V φ (.tuple ⟨xs⟩) (.tuple ⟨ys⟩) := .tuple h.1 h.2

theorem V.cells {φ : Emb} {x y : Value} (h : V φ x y) (hx : ∀ c, x ≠ .chan c) : VL φ (vcells x) (vcells y) := by
  cases h with
  | unk c => exact absurd rfl (hx c)
  | agg e f => exact ⟨e, f⟩
  | bool b => exact VL.cons (.bool b) (.nil φ)
  | int k n => exact VL.cons (.int k n) (.nil φ)
  | str s => exact VL.cons (.str s) (.nil φ)
  | nptr => exact VL.cons .nptr (.nil φ)
  | ptr e => exact VL.cons (.ptr e) (.nil φ)
  | nsl => exact VL.cons .nsl (.nil φ)
  | sl e a b c d => exact VL.cons (.sl e a b c d) (.nil φ)
  | nmap => exact VL.cons .nmap (.nil φ)
  | map e => exact VL.cons (.map e) (.nil φ)
  | nfn => exact VL.cons .nfn (.nil φ)
  | nif => exact VL.cons .nif (.nil φ)
  | fn e f => exact VL.cons (.fn e f) (.nil φ)
  | yield e => exact VL.cons (.yield e) (.nil φ)
  | tuple e f => exact VL.cons (.tuple e f) (.nil φ)
  | imsl e a b c d f g => exact VL.cons (.imsl e a b c d f g) (.nil φ)
  | iesl a b => exact VL.cons (.iesl a b) (.nil φ)
  | imptr e a f => exact VL.cons (.imptr e a f) (.nil φ)

/-- A value of one cell stands for a value of one cell. -/
theorem V.one {φ : Emb} {x y : Value} (h : V φ x y) (hx : oneCell x = true) : (∀ c, y ≠ .agg c) ∧ (∀ c, y ≠ .tuple c) := by
  cases h <;> simp_all [oneCell]

/-! ### Frames -/
def FRel (φ : Emb) (F : Fr) (ts : Array Value) : Prop := ∀ t, V φ (F t) (ts.getD t undf)

theorem FRel.mono {φ φ' : Emb} (h : Ext φ φ') {F : Fr} {ts : Array Value} (f : FRel φ F ts) : FRel φ' F ts := fun t => (f t).mono h

theorem upd_same (F : Fr) (i : Nat) (v : Value) : upd F i v i = v := by simp [upd]
theorem upd_ne (F : Fr) {i j : Nat} (v : Value) (h : j ≠ i) : upd F i v j = F j := by
  have : Nat.beq j i = false := by
    cases hb : Nat.beq j i with
    | true => exact absurd (Nat.eq_of_beq_eq_true hb) h
    | false => rfl
  simp [upd, this]
theorem upd_app (F : Fr) (i j : Nat) (v : Value) : upd F i v j = if j = i then v else F j := by
  by_cases h : j = i
  · subst h; simp [upd_same]
  · simp [upd_ne F v h, h]

theorem FRel.upd {φ : Emb} {F : Fr} {ts : Array Value} (f : FRel φ F ts) {i : Nat} (hi : i < ts.size) {v y : Value} (h : V φ v y) :
    FRel φ (upd F i v) (ts.setIfInBounds i y) := by
  intro t
  rw [upd_app]
  by_cases e : t = i
  · subst e
    simpa [Array.getD, hi] using h
  · rw [if_neg e]
    have := f t
    simpa [Array.getD_eq_getD_getElem?, Array.getElem?_setIfInBounds, Ne.symm e] using this

theorem FRel.restrict {φ : Emb} {F : Fr} {ts : Array Value} (f : FRel φ F ts) : ∀ L, FRel φ (restrict L F) ts
  | [] => fun _ => .unk _ _
  | t :: r => fun j => by
    have := FRel.restrict f r j
    simp only [Ev.restrict, upd_app]
    split
    · rename_i h; subst h; exact f _
    · exact this

end Go.Ev

namespace Go.Ev

def atomC : Value → Value → Bool
  | .bool a, .bool b => a == b
  | .int k n, .int k' n' => decide (k = k') && decide (n = n')
  | .string s, .string s' => s.data.toList == s'.data.toList
  | .pointer none, .pointer none | .nilFunc, .nilFunc | .nilIface, .nilIface | .map none, .map none => true
  | .slice none 0 0, .slice none 0 0 => true
  | _, _ => false
def atomsC : List Value → List Value → Bool
  | [], [] => true
  | x :: xs, y :: ys => atomC x y && atomsC xs ys
  | _, _ => false
/-- The ideal constant (second) stands for the model's (first). -/
def constC : Value → Value → Bool
  | .agg ⟨xs⟩, .agg ⟨ys⟩ => atomsC xs ys
  | .tuple ⟨[]⟩, .tuple ⟨[]⟩ => true
  | x, y => atomC x y

def opdC : Operand → COpd → Bool
  | .tmp t, .tmp t' => Nat.beq t t'
  | .const v, .const v' => constC v v'
  | .func f, .func f' => Nat.beq f f'
  | .global _, .const (.chan _) => true
  | _, _ => false
def opdsC : List Operand → List COpd → Bool
  | [], [] => true
  | x :: xs, y :: ys => opdC x y && opdsC xs ys
  | _, _ => false
def opdO : Option Operand → Option COpd → Bool
  | none, none => true
  | some x, some y => opdC x y
  | _, _ => false

section
variable (P : Program)

def sizeIs (t : TypeId) (n : Nat) : Bool :=
  match P.info? t with
  | some i => Nat.beq i.size n
  | none => false
def bytesIs (t : TypeId) (n : Nat) : Bool :=
  match P.info? t with
  | some i => Nat.beq i.bytes n
  | none => false
/-- 'some b': the type is there, and it is one of several cells (b), or not. -/
def aggIs (t : TypeId) (b : Bool) : Bool :=
  match P.underlying t with
  | some (.struct _) | some (.array ..) => b
  | some _ => !b
  | none => false
def zeroIs (t : TypeId) (z : List Value) : Bool :=
  match P.info? t with
  | some i => match i.zero with
    | some v => atomsC v.cells.toList z
    | none => false
  | none => false
def zeroValIs (t : TypeId) (z : Value) : Bool :=
  match P.info? t with
  | some i => match i.zero with
    | some v => constC v z
    | none => false
  | none => false
def sliceOf (t : TypeId) : Option TypeId :=
  match P.underlying t with
  | some (.slice e) => some e
  | _ => none
def arrayOf (t : TypeId) : Option (Nat × TypeId) :=
  match P.underlying t with
  | some (.array n e) => some (n, e)
  | _ => none
def fieldsOf (t : TypeId) : Option (Array Field) :=
  match P.underlying t with
  | some (.struct fs) => some fs
  | _ => none
def mapOfT (t : TypeId) : Option (TypeId × TypeId) :=
  match P.underlying t with
  | some (.map k e) => some (k, e)
  | _ => none
def atomTy (t : TypeId) (b : Bool) : Bool :=
  match P.underlying t with
  | some .bool => !b
  | some (.int _) => b
  | _ => false
/-- Fields of one cell each, whole numbers or bools, one behind the other. -/
def flatFields : List Field → Nat → List Bool → Bool
  | [], _, [] => true
  | f :: r, i, b :: l => Nat.beq f.offset i && atomTy P f.type b && aggIs P f.type false && (f.name != "_") && flatFields r (i + 1) l
  | _, _, _ => false
def eqC (t : TypeId) (e : EqT) : Bool :=
  match P.underlying t, e with
  | some .bool, .bool => true
  | some (.int _), .int => true
  | some .string, .str => true
  | some (.pointer _), .ptr => true
  | some (.struct fs), .agg l => flatFields P fs.toList 0 l && !P.stoodInHeld t && !P.eqGuardType P.depth t
  | some (.array n u), .agg l => Nat.beq l.length n && l.all (atomTy P u) && sizeIs P u 1 && aggIs P u false && !P.eqGuardType P.depth t
  | _, _ => false

def partsC (place : Nat → Option (Nat × Nat)) : List (Nat × Operand) → List (Nat × Nat × COpd) → Bool
  | [], [] => true
  | (i, x) :: r, (o, n, y) :: q =>
    (match place i with
    | some (o', n') => Nat.beq o' o && Nat.beq n' n
    | none => false) && opdC x y && partsC place r q
  | _, _ => false

def pC : Op → POp → Bool
  | .move x, .move y | .assign x, .move y => opdC x y
  | .pick a b c, .pick a' b' c' => opdC a a' && opdC b b' && opdC c c'
  | .build t ps, .build zero qs =>
    zeroIs P t zero &&
    (match P.underlying t with
    | some (.struct fs) => (match fs.toList.mapM (fun f => (P.info? f.type).map fun i => (f.offset, i.size)) with
      | some pl => partsC (pl.toArray[·]?) ps.toList qs
      | none => false)
    | some (.array _ e) => (match P.info? e with
      | some i => partsC (fun j => some (j * i.size, i.size)) ps.toList qs
      | none => false)
    | _ => false)
  | .load t x, .load1 y => aggIs P t false && opdC x y
  | .load t x, .loadN n y => aggIs P t true && sizeIs P t n && opdC x y
  | .nilCheck x, .nilCheck y => opdC x y
  | .binOp op _ x y _, .bin op' x' y' => decide (op = op') && opdC x x' && opdC y y'
  | .binOp op t x y _, .eq neg e x' y' => decide (op = (bif neg then .neq else .eql)) && eqC P t e && opdC x x' && opdC y y'
  | .unOp op _ x, .un op' x' => decide (op = op') && opdC x x'
  | .convert s d x, .conv k x' =>
    (match P.underlying s, P.underlying d with
    | some (.int _), some (.int k') => decide (k = k')
    | _, _ => false) && opdC x x'
  | .makeFunc (.func f) first cs, .makeFunc f' cs' => Nat.beq f f' && first.isEmpty && opdsC cs.toList cs'
  | .slice t x lo hi none, .slice z x' lo' hi' =>
    (match sliceOf P t with
    | some e => sizeIs P e z
    | none => false) && opdC x x' && opdO lo lo' && opdO hi hi'
  | .slice t x lo hi none, .sliceArr n z x' lo' hi' =>
    (match arrayOf P t with
    | some (m, e) => Nat.beq m n && sizeIs P e z && Nat.ble 1 z
    | none => false) && opdC x x' && opdO lo lo' && opdO hi hi'
  | .fieldAddr t x f, .fieldAddr off x' =>
    (match fieldsOf P t with
    | some fs => (match fs[f]? with
      | some fd => Nat.beq fd.offset off && (match P.info? fd.type with
        | some i => Nat.ble 1 i.size
        | none => false)
      | none => false)
    | none => false) && opdC x x'
  | .field t x f, .field off n agg x' =>
    (match fieldsOf P t with
    | some fs => (match fs[f]? with
      | some fd => Nat.beq fd.offset off && sizeIs P fd.type n && aggIs P fd.type agg && (agg || Nat.beq n 1)
      | none => false)
    | none => false) && opdC x x'
  | .indexAddr t x i, .indexAddr z x' i' =>
    (match sliceOf P t with
    | some e => sizeIs P e z
    | none => false) && opdC x x' && opdC i i'
  | .indexAddr t x i, .indexAddrA n z x' i' =>
    (match arrayOf P t with
    | some (m, e) => Nat.beq m n && sizeIs P e z
    | none => false) && opdC x x' && opdC i i'
  | .index t x i, .index n z agg x' i' =>
    (match arrayOf P t with
    | some (m, e) => Nat.beq m n && sizeIs P e z && aggIs P e agg && (agg || Nat.beq z 1)
    | none => false) && opdC x x' && opdC i i'
  | .index t x i, .indexS x' i' =>
    (match P.underlying t with
    | some .string => true
    | _ => false) && opdC x x' && opdC i i'
  | .lookup t x k ok, .lookup q zero ok' x' k' =>
    (match mapOfT P t with
    | some (kt, e) => eqC P kt q && zeroValIs P e zero
    | none => false) && decide (ok = ok') && opdC x x' && opdC k k'
  | .extract x i, .extract x' i' => opdC x x' && Nat.beq i i'
  | .call { callee := .builtin .len, args, argTypes }, .len x' =>
    (match args.toList, argTypes.toList with
    | [x], [t] => (match P.underlying t with
      | some (.slice _) => true
      | _ => false) && opdC x x'
    | _, _ => false)
  | .call { callee := .builtin .len, args, argTypes }, .lenS x' =>
    (match args.toList, argTypes.toList with
    | [x], [t] => (match P.underlying t with
      | some .string => true
      | _ => false) && opdC x x'
    | _, _ => false)
  | .call { callee := .builtin .len, args, argTypes }, .lenMap x' =>
    (match args.toList, argTypes.toList with
    | [x], [t] => (match P.underlying t with
      | some (.map _ _) => true
      | _ => false) && opdC x x'
    | _, _ => false)
  | .call { callee := .builtin .len, args, argTypes }, .move x' =>
    (match args.toList, argTypes.toList, x' with
    | [_], [t], .const (.int .i64 n) => (match P.underlying t with
      | some (.array m _) => decide (n = (m : Int))
      | _ => false)
    | _, _, _ => false)
  | .call { callee := .builtin .min, args, .. }, .min xs => opdsC args.toList xs
  | .call { callee := .builtin .max, args, .. }, .max xs => opdsC args.toList xs
  | _, .fail => true
  | _, _ => false

def aC : Op → AOp → Bool
  | .alloc t, .alloc zero => zeroIs P t zero
  | .box _ x, .box x' => opdC x x'
  | .buildSlice t len ps, .buildSlice z len' zero qs =>
    (match sliceOf P t with
    | some e => sizeIs P e z && zeroIs P e zero && Nat.beq zero.length z && Nat.ble 1 z
    | none => false) && Nat.beq len len' && Nat.ble (len * z) 16777216 && partsC (fun j => some (j * z, z)) ps.toList qs && Nat.ble 1 len
  | .makeMap _ none, .makeMap => true
  | .makeSlice t l c, .makeSlice z b zero l' c' =>
    (match sliceOf P t with
    | some e => sizeIs P e z && bytesIs P e b && zeroIs P e zero && Nat.beq zero.length z && Nat.ble 1 z
    | none => false) && opdC l l' && opdC c c'
  | _, _ => false

def eC : Op → EOp → Bool
  | .store t a x, .store n a' x' => sizeIs P t n && opdC a a' && opdC x x'
  | .mapUpdate t m k v, .mapUpdate q m' k' v' | .insert t m k v, .mapUpdate q m' k' v' =>
    (match mapOfT P t with
    | some (kt, _) => eqC P kt q
    | none => false) && opdC m m' && opdC k k' && opdC v v'
  | .call { callee := .value f, args, .. }, .call f' args' => opdC f f' && opdsC args.toList args'
  | .call { callee := .builtin .append, args, argTypes }, .append z b x' y' =>
    (match args.toList, argTypes.toList with
    | [x, y], [t, u] =>
      (match sliceOf P t with
      | some e => sizeIs P e z && bytesIs P e b && Nat.ble 1 z && Nat.ble 1 b && (P.info? e).any (fun i => match i.zero with
        | some v => Nat.beq v.cells.size z
        | none => false)
      | none => false) && (match P.underlying u with
      | some (.slice _) => true
      | _ => false) && opdC x x' && opdC y y'
    | _, _ => false)
  | .call { callee := .builtin .copy, args, argTypes }, .copy z x' y' =>
    (match args.toList, argTypes.toList with
    | [x, y], [t, _] =>
      (match sliceOf P t with
      | some e => sizeIs P e z
      | none => false) && opdC x x' && opdC y y'
    | _, _ => false)
  | .call { callee := .builtin .delete, args, argTypes }, .delete q x' y' =>
    (match args.toList, argTypes.toList with
    | [x, y], [t, _] =>
      (match mapOfT P t with
      | some (kt, _) => eqC P kt q
      | none => false) && opdC x x' && opdC y y'
    | _, _ => false)
  | _, _ => false

def copC : Op → COp → Bool
  | o, .p x => pC P o x
  | o, .a _ x => aC P o x
  | o, .e x => eC P o x

end

/-! ### Regions -/
def slotsOf (o : Oper) : List Tmp :=
  o.op.operands.toList.filterMap fun
    | .tmp t => some t
    | _ => none

/-- The slots that an operation reads, its guard's among them. -/
def readsOf (ops : Array Oper) (o : Oper) : List Tmp :=
  slotsOf o ++ (match o.guard with
    | some (g, _) => ((ops[g]?).bind (·.dst)).toList
    | none => [])

def isLoad : COp → Bool
  | .p (.load1 _) | .p (.loadN _ _) => true
  | _ => false
def isRead : COp → Bool
  | .p (.lookup ..) | .p (.lenMap _) | .p (.sliceArr ..) => true
  | _ => false
def isEff : COp → Bool
  | .e _ => true
  | _ => false

/-- Edges that bind go back. -/
def edgesC (ops : Array Oper) : Bool :=
  (List.range ops.size).all fun i => (ops.getD i default).after.all fun e => !Region.binds .any e || Nat.ble (e.on + 1) i

def edgeBits (acc : Array Nat) : List Edge → Nat
  | [] => 0
  | e :: r => bif Region.binds .any e then (2 ^ e.on ||| acc.getD e.on 0) ||| edgeBits acc r else edgeBits acc r

/-- Of each operation: which ones are ahead of it in every order. -/
def aheadOf : List Oper → Array Nat → Array Nat
  | [], acc => acc
  | o :: os, acc => aheadOf os (acc.push (edgeBits acc o.after.toList))

/-- Of two operations, j ahead of i in the text: is i behind j in every order? -/
def behind (bef : Array Nat) (j i : Nat) : Bool := (bef.getD i 0).testBit j

def apartC (ops : Array Oper) (bef : Array Nat) : Bool :=
  (List.range ops.size).all fun i => (List.range i).all fun j =>
    behind bef j i ||
    (let x := ops.getD j default
     let y := ops.getD i default
     (match x.dst with
      | some d => !(readsOf ops y).contains d && y.dst != some d
      | none => true) &&
     (match y.dst with
      | some d => !(readsOf ops x).contains d
      | none => true))

def noCO : CO := ⟨none, .p .fail, none, none⟩

/-- How many effects are among the first n. -/
def cntL : List CO → Nat → Nat
  | _, 0 => 0
  | [], _ + 1 => 0
  | o :: os, n + 1 => (bif isEff o.op then 1 else 0) + cntL os n

/-- What binds a load, or another operation that looks at memory, to the effects. -/
def coverAt (cops : List CO) (bef : Array Nat) (i j : Nat) : Bool :=
  let o := cops.getD i noCO
  bif isLoad o.op then
    bif Nat.ble (j + 1) i then behind bef j i || Nat.ble (cntL (cops.drop (j + 1)) (i - (j + 1)) + 1) (o.chk.getD (0, 0)).1
    else bif Nat.ble (i + 1) j then behind bef i j || Nat.ble (cntL (cops.drop (i + 1)) (j - i)) (o.chk.getD (0, 0)).2
    else true
  else bif isRead o.op || isEff o.op then
    bif Nat.ble (j + 1) i then behind bef j i else bif Nat.ble (i + 1) j then behind bef i j else true
  else true

def coverC (cops : List CO) (bef : Array Nat) : Bool :=
  (List.range cops.length).all fun i => (List.range cops.length).all fun j => !isEff (cops.getD j noCO).op || coverAt cops bef i j

def guardC (ops : Array Oper) (i : Nat) : Option (Nat × Bool) → Option (Nat × Bool) → Bool
  | none, none => true
  | some (j, b), some (t, b') => b == b' && Nat.ble (j + 1) i && (match (ops.getD j default).dst with
      | some d => Nat.beq d t
      | none => false)
  | _, _ => false

def dstC (N : Nat) : Option Nat → Option Nat → Bool
  | none, none => true
  | some d, some d' => Nat.beq d d' && Nat.ble (d + 1) N
  | _, _ => false

/-- Ranks: the r-th block of the region. -/
def ranksC : List CO → Nat → Option Nat
  | [], n => some n
  | o :: os, n =>
    match o.op with
    | .a r _ => bif Nat.beq r n && o.guard.isNone && o.chk.isNone then ranksC os (n + 1) else none
    | .e _ => bif o.chk.isNone then ranksC os n else none
    | .p _ => bif o.chk.isNone || isLoad o.op then ranksC os n else none

def regionC (P : Program) (N : Nat) (ops : Array Oper) (na : Nat) (cops : List CO) : Bool :=
  let bef := aheadOf ops.toList #[]
  Nat.beq ops.size cops.length && decide (ranksC cops 0 = some na) && edgesC ops && apartC ops bef && coverC cops bef &&
  (List.range ops.size).all fun i =>
    let o := ops.getD i default
    let c := cops.getD i noCO
    dstC N o.dst c.dst && guardC ops i o.guard c.guard && copC P o.op c.op

/-- No range over a function is in it. -/
def noRange : CCode → Bool
  | .rangeFunc .. => false
  | .seq a b => noRange a && noRange b
  | .cond _ x y => noRange x && noRange y
  | .block _ b | .loop _ b | .scope b => noRange b
  | _ => true

def codeC (P : Program) (N : Nat) : Code → CCode → Bool
  | .skip, .skip | .label _, .skip => true
  | .region _ ops _, .region na _ cops => regionC P N ops na cops
  | .seq a b, .seq a' b' => codeC P N a a' && codeC P N b b'
  | .cond c x y, .cond c' x' y' => opdC c c' && codeC P N x x' && codeC P N y y'
  | .block id b, .block id' b' => Nat.beq id id' && codeC P N b b'
  | .loop b, .loop _ b' => codeC P N b b'
  | .rangeFunc f ps as b, .rangeFunc f' ps' as' b' =>
    opdC f f' && decide (ps.toList = ps') && ps'.all (fun t => Nat.ble (t + 1) N) && noRange as' && noRange b' && codeC P N as as' && codeC P N b b'
  | .exit id, .exit id' => Nat.beq id id'
  | .scope b, .scope b' => codeC P N b b'
  | .ret, .ret => true
  | _, _ => false

def resC (P : Program) : List ResultVar → List CRes → Bool
  | [], [] => true
  | .tmp t :: r, .tmp t' :: q => Nat.beq t t' && resC P r q
  | .cell a t :: r, .cell1 a' :: q => Nat.beq a a' && aggIs P t false && resC P r q
  | .cell a t :: r, .cellN a' n :: q => Nat.beq a a' && aggIs P t true && sizeIs P t n && resC P r q
  | _, _ => false

def funcC (P : Program) (f : Func) (c : CFunc) : Bool :=
  Nat.beq f.ntmps c.ntmps && resC P f.results.toList c.results && Nat.ble (f.params.size + f.nfree) f.ntmps &&
  (match f.body with
  | some b => codeC P f.ntmps b c.body
  | none => false)

end Go.Ev

namespace Go.Ev

def wr : Option IObj → Bool
  | some (.cells false _) | some (.map _) | some (.loop _) => true
  | _ => false
def live : Option IObj → Bool
  | none | some .dead => false
  | _ => true
theorem live_of_wr {o : Option IObj} (h : wr o = true) : live o = true := by
  cases o with
  | none => cases h
  | some o => cases o <;> first | rfl | cases h

/-- Jumps, as the model has them and as the evaluator has them. -/
def jumpR : Option Code → Option Ex → Prop
  | none, none => True
  | some .ret, some .ret => True
  | some (.exit i), some (.exit j) => i = j
  | _, _ => False

structure LoopRel (P : Program) (φ : Emb) (r : ILoop) (L : Loop) : Prop where
  params : L.params.toList = r.params
  bound : ∀ t ∈ r.params, t < L.tmps.size
  frame : FRel φ r.F L.tmps
  assign : codeC P L.tmps.size L.assign r.assign = true
  body : codeC P L.tmps.size L.body r.body = true
  noA : noRange r.assign = true
  noB : noRange r.body = true
  state : L.state = r.state
  pending : jumpR L.pending r.pending

def EntR (φ : Emb) (x : Value × Value) (e : MapEntry) : Prop := V φ x.1 e.key ∧ V φ x.2 e.val

inductive EntsR (φ : Emb) : List (Value × Value) → List MapEntry → Prop
  | nil : EntsR φ [] []
  | cons {x e xs es} : EntR φ x e → EntsR φ xs es → EntsR φ (x :: xs) (e :: es)

def ObjRel (P : Program) (φ : Emb) (o : Option IObj) (δ sz : Nat) (co : Option Obj) : Prop :=
  match o with
  | none | some .dead => True
  | some (.cells ro c) => ∃ cc el fz, co = some (.cells cc el fz) ∧ cc.size = sz ∧ δ + c.length ≤ sz ∧
      (∀ j, j < c.length → V φ (c.getD j undf) (cc.getD (δ + j) undf)) ∧ ro = false ∧ fz = (0, 0)
  | some (.map es) => ∃ ces clk, co = some (.map ces clk) ∧ EntsR φ es ces.toList
  | some (.loop r) => ∃ L, co = some (.loop L) ∧ LoopRel P φ r L

theorem EntsR.mono {φ φ' : Emb} (h : Ext φ φ') {xs : List (Value × Value)} {es : List MapEntry} (e : EntsR φ xs es) : EntsR φ' xs es := by
  induction e with
  | nil => exact .nil
  | cons a _ ih => exact .cons ⟨a.1.mono h, a.2.mono h⟩ ih

theorem LoopRel.mono {P : Program} {φ φ' : Emb} (h : Ext φ φ') {r : ILoop} {L : Loop} (l : LoopRel P φ r L) : LoopRel P φ' r L :=
  ⟨l.params, l.bound, l.frame.mono h, l.assign, l.body, l.noA, l.noB, l.state, l.pending⟩

theorem ObjRel.mono {P : Program} {φ φ' : Emb} (h : Ext φ φ') {o : Option IObj} {δ sz : Nat} {co : Option Obj} (r : ObjRel P φ o δ sz co) : ObjRel P φ' o δ sz co := by
  unfold ObjRel at *
  split
  · trivial
  · trivial
  · obtain ⟨cc, el, fz, a, b, c, d, e⟩ := r
    exact ⟨cc, el, fz, a, b, c, fun j hj => (d j hj).mono h, e⟩
  · obtain ⟨ces, clk, a, b⟩ := r
    exact ⟨ces, clk, a, b.mono h⟩
  · obtain ⟨L, a, b⟩ := r
    exact ⟨L, a, b.mono h⟩

structure Rel (P : Program) (B0 : Nat) (φ : Emb) (H : Get) (w : World) : Prop where
  lt : ∀ i b δ sz, φ.blk i = some (b, δ, sz) → b < w.heap.size
  obj : ∀ i b δ sz, φ.blk i = some (b, δ, sz) → ObjRel P φ (H i) δ sz w.heap[b]?
  sep : ∀ i j b x y, i ≠ j → φ.blk i = some (b, x) → φ.blk j = some (b, y) → wr (H i) = true → live (H j) = true → False
  base : ∀ i b x, φ.blk i = some (b, x) → wr (H i) = true → B0 ≤ b
  imo : ∀ b cc, φ.im b = some cc → ∃ el fz, w.heap[b]? = some (.cells cc el fz)
  imsep : ∀ i b x, φ.blk i = some (b, x) → wr (H i) = true → φ.im b = none

theorem Rel.weaken {P : Program} {B0 : Nat} {φ : Emb} {H H' : Get} {w : World} (r : Rel P B0 φ H w) (h : ∀ i, H' i = H i ∨ live (H' i) = false) : Rel P B0 φ H' w := by
  have hw : ∀ i, wr (H' i) = true → wr (H i) = true := fun i e => by
    rcases h i with h | h
    · rwa [← h]
    · rw [live_of_wr e] at h; cases h
  have hl : ∀ i, live (H' i) = true → live (H i) = true := fun i e => by
    rcases h i with h | h
    · rwa [← h]
    · rw [e] at h; cases h
  refine ⟨r.lt, fun i b δ sz e => ?_, fun i j b x y hne e1 e2 w1 l2 => r.sep i j b x y hne e1 e2 (hw i w1) (hl j l2), fun i b x e w1 => r.base i b x e (hw i w1), r.imo,
    fun i b x e w1 => r.imsep i b x e (hw i w1)⟩
  rcases h i with h | h
  · rw [h]; exact r.obj i b δ sz e
  · have : H' i = none ∨ H' i = some .dead := by
      cases hh : H' i with
      | none => exact .inl rfl
      | some o => cases o <;> simp_all [live]
    rcases this with h | h <;> rw [h] <;> trivial

/-- The world goes on: what nobody that may be written stands for stays; whoever may be written is new, or stood for such a block. -/
structure Tr (wm : Nat) (φ : Emb) (H : Get) (w : World) (φ' : Emb) (H' : Get) (w' : World) : Prop where
  ext : Ext φ φ'
  os : w'.os = w.os
  tape : w'.tape = w.tape
  output : w'.output = w.output
  size : w.heap.size ≤ w'.heap.size
  keep : ∀ b, b < w.heap.size → (∀ i x, wm ≤ i → φ.blk i = some (b, x) → wr (H i) = false) → w'.heap[b]? = w.heap[b]?
  new : ∀ i b x, wm ≤ i → φ'.blk i = some (b, x) → wr (H' i) = true → w.heap.size ≤ b ∨ ∃ j y, wm ≤ j ∧ φ.blk j = some (b, y) ∧ wr (H j) = true
  newim : ∀ b x, φ'.im b = some x → φ.im b = some x ∨ w.heap.size ≤ b
  ice : ∀ (b : Nat) (cc : Array Value) (el : TypeId) (fz : Nat × Nat), w'.heap[b]? = some (Obj.cells cc el fz) → fz ≠ (0, 0) → w.heap[b]? = some (Obj.cells cc el fz)

/-- No cell of it is frozen. -/
def NoIce (co : Obj) : Prop := ∀ cc el fz, co = .cells cc el fz → fz = (0, 0)

theorem Tr.refl (wm : Nat) (φ : Emb) (H : Get) (w : World) : Tr wm φ H w φ H w :=
  ⟨Ext.refl _, rfl, rfl, rfl, Nat.le_refl _, fun _ _ _ => rfl, fun i b x hi e h => .inr ⟨i, x, hi, e, h⟩, fun _ _ h => .inl h, fun _ _ _ _ h _ => h⟩

theorem Tr.trans {wm : Nat} {φ φ1 φ2 : Emb} {H H1 H2 : Get} {w w1 w2 : World} (a : Tr wm φ H w φ1 H1 w1) (b : Tr wm φ1 H1 w1 φ2 H2 w2) : Tr wm φ H w φ2 H2 w2 := by
  refine ⟨a.ext.trans b.ext, b.os.trans a.os, b.tape.trans a.tape, b.output.trans a.output, Nat.le_trans a.size b.size, fun k hk h => ?_, fun i k x hi e h => ?_, fun k x e => ?_, fun k cc el fz h hf => a.ice k cc el fz (b.ice k cc el fz h hf) hf⟩
  · rw [b.keep k (Nat.lt_of_lt_of_le hk a.size) ?_, a.keep k hk h]
    intro i x hi e
    cases hw : wr (H1 i) with
    | false => rfl
    | true =>
      rcases a.new i k x hi e hw with h1 | ⟨j, y, hj, e1, h1⟩
      · omega
      · rw [h j y hj e1] at h1; cases h1
  · rcases b.new i k x hi e h with h1 | ⟨j, y, hj, e1, h1⟩
    · exact .inl (Nat.le_trans a.size h1)
    · exact a.new j k y hj e1 h1
  · rcases b.newim k x e with h1 | h1
    · exact a.newim k x h1
    · exact .inr (Nat.le_trans a.size h1)

/-- The evaluator's state and the world, hand in hand. -/
structure Good (P : Program) (B0 : Nat) (φ : Emb) (s : St) (w : World) : Prop where
  rel : Rel P B0 φ s.get w
  fresh : ∀ i, s.next ≤ i → φ.blk i = none ∧ s.get i = none
  wm : s.wm ≤ s.next
  B0 : B0 ≤ w.heap.size

/-- What a piece of code does to both. -/
structure Step (P : Program) (B0 : Nat) (φ : Emb) (s : St) (w : World) (φ' : Emb) (s' : St) (w' : World) : Prop where
  good : Good P B0 φ' s' w'
  tr : Tr s.wm φ s.get w φ' s'.get w'
  wm : s'.wm = s.wm
  next : s.next ≤ s'.next
  low : ∀ i, i < s.wm → s'.get i = s.get i
  absent : ∀ i, i < s.next → s.get i = none → s'.get i = none
  unborn : ∀ i, i < s.next → φ.blk i = none → φ'.blk i = none ∧ s'.get i = s.get i

theorem Step.refl {P : Program} {B0 : Nat} {φ : Emb} {s : St} {w : World} (g : Good P B0 φ s w) : Step P B0 φ s w φ s w :=
  ⟨g, Tr.refl _ _ _ _, rfl, Nat.le_refl _, fun _ _ => rfl, fun _ _ h => h, fun _ _ h => ⟨h, rfl⟩⟩

theorem Step.trans {P : Program} {B0 : Nat} {φ φ1 φ2 : Emb} {s s1 s2 : St} {w w1 w2 : World} (a : Step P B0 φ s w φ1 s1 w1) (b : Step P B0 φ1 s1 w1 φ2 s2 w2) :
    Step P B0 φ s w φ2 s2 w2 := by
  refine ⟨b.good, a.tr.trans (a.wm ▸ b.tr), b.wm.trans a.wm, Nat.le_trans a.next b.next, fun i hi => ?_, fun i hi h => ?_, fun i hi h => ?_⟩
  · rw [b.low i (a.wm ▸ hi), a.low i hi]
  · exact b.absent i (Nat.lt_of_lt_of_le hi a.next) (a.absent i hi h)
  · obtain ⟨h1, h2⟩ := a.unborn i hi h
    obtain ⟨h3, h4⟩ := b.unborn i (Nat.lt_of_lt_of_le hi a.next) h1
    exact ⟨h3, h4.trans h2⟩

/-- A new block of the world's. -/
def push (w : World) (o : Obj) : World := { w with heap := w.heap.push o }

theorem push_size (w : World) (o : Obj) : (push w o).heap.size = w.heap.size + 1 := by simp [push]
theorem push_old (w : World) (o : Obj) {b : Nat} (h : b < w.heap.size) : (push w o).heap[b]? = w.heap[b]? := by
  simp [push, Array.getElem?_push, Nat.ne_of_lt h]
theorem push_new (w : World) (o : Obj) : (push w o).heap[w.heap.size]? = some o := by simp [push]

/-- The ideal block i stands for the world's block b from now on. -/
def Emb.add (φ : Emb) (i b δ sz : Nat) : Emb := ⟨fun j => if j = i then some (b, δ, sz) else φ.blk j, φ.im⟩

theorem Emb.add_ext {φ : Emb} {i : Nat} (h : φ.blk i = none) (b δ sz : Nat) : Ext φ (φ.add i b δ sz) :=
  ⟨fun j x e => by
    unfold Emb.add
    dsimp only
    split
    · rename_i hj; subst hj; rw [h] at e; cases e
    · exact e, fun _ _ e => e⟩

/-- A block is made: H with 'o' at i; the world with 'co' behind. -/
theorem Rel.alloc {P : Program} {B0 : Nat} {φ : Emb} {H H' : Get} {w : World} (r : Rel P B0 φ H w) {i : Nat} (hi : φ.blk i = none) {o : IObj} {co : Obj} {sz : Nat}
    (hH : H' i = some o) (hH' : ∀ j, j ≠ i → H' j = H j) (hB : B0 ≤ w.heap.size)
    (ho : ObjRel P (φ.add i w.heap.size 0 sz) (some o) 0 sz (some co)) : Rel P B0 (φ.add i w.heap.size 0 sz) H' (push w co) := by
  have hx := Emb.add_ext hi w.heap.size 0 sz
  have old : ∀ j b x, j ≠ i → (φ.add i w.heap.size 0 sz).blk j = some (b, x) → φ.blk j = some (b, x) := fun j b x hj e => by
    simpa [Emb.add, hj] using e
  have at_ : ∀ b x, (φ.add i w.heap.size 0 sz).blk i = some (b, x) → b = w.heap.size ∧ x = (0, sz) := fun b x e => by
    simp [Emb.add] at e; exact ⟨e.1.symm, e.2.symm⟩
  have lt' : ∀ j b x, j ≠ i → (φ.add i w.heap.size 0 sz).blk j = some (b, x) → b < w.heap.size := fun j b x hj e => r.lt j b x.1 x.2 (old j b x hj e)
  refine ⟨fun j b δ z e => ?_, fun j b δ z e => ?_, fun j k b x y hne e1 e2 w1 l2 => ?_, fun j b x e w1 => ?_, fun b cc e => ?_, fun j b x e w1 => ?_⟩
  · rw [push_size]
    by_cases hj : j = i
    · subst hj; have := (at_ b (δ, z) e).1; omega
    · have := lt' j b (δ, z) hj e; omega
  · by_cases hj : j = i
    · subst hj
      obtain ⟨rfl, h2⟩ := at_ b (δ, z) e
      cases h2
      rw [push_new, hH]
      exact ho
    · rw [push_old w co (lt' j b (δ, z) hj e), hH' j hj]
      exact (r.obj j b δ z (old j b (δ, z) hj e)).mono hx
  · by_cases hj : j = i
    · subst hj
      have hk : k ≠ j := fun h => hne h.symm
      have := lt' k b y hk e2
      have := (at_ b x e1).1
      omega
    · by_cases hk : k = i
      · subst hk
        have := lt' j b x hj e1
        have := (at_ b y e2).1
        omega
      · rw [hH' j hj] at w1
        rw [hH' k hk] at l2
        exact r.sep j k b x y hne (old j b x hj e1) (old k b y hk e2) w1 l2
  · by_cases hj : j = i
    · subst hj; rw [(at_ b x e).1]; exact hB
    · rw [hH' j hj] at w1; exact r.base j b x (old j b x hj e) w1
  · obtain ⟨el, fz, h⟩ := r.imo b cc e
    refine ⟨el, fz, ?_⟩
    rw [push_old w co ?_]
    · exact h
    · rcases Nat.lt_or_ge b w.heap.size with h1 | h1
      · exact h1
      · rw [Array.getElem?_eq_none h1] at h; cases h
  · by_cases hj : j = i
    · subst hj
      rw [(at_ b x e).1]
      cases hm : φ.im w.heap.size with
      | none => exact hm
      | some cc =>
        obtain ⟨el, fz, h⟩ := r.imo _ cc hm
        rw [Array.getElem?_eq_none (Nat.le_refl _)] at h; cases h
    · rw [hH' j hj] at w1; exact r.imsep j b x (old j b x hj e) w1

theorem Tr.alloc {wm : Nat} {φ : Emb} {H H' : Get} {w : World} {i : Nat} (hi : φ.blk i = none) {co : Obj} {sz : Nat} (hH' : ∀ j, j ≠ i → H' j = H j) (hi0 : NoIce co) :
    Tr wm φ H w (φ.add i w.heap.size 0 sz) H' (push w co) := by
  refine ⟨Emb.add_ext hi _ _ _, rfl, rfl, rfl, by rw [push_size]; omega, fun b hb _ => push_old w co hb, fun j b x hj e h => ?_, fun b x e => .inl e, fun b cc el fz h hf => ?_⟩
  rotate_left
  · by_cases hb : b < w.heap.size
    · rwa [push_old w co hb] at h
    · exfalso
      have hlt := (Array.getElem?_eq_some_iff.1 h).1
      rw [push_size] at hlt
      have : b = w.heap.size := by omega
      subst this
      rw [push_new w co] at h
      exact hf (hi0 _ _ _ (Option.some.inj h))
  by_cases hji : j = i
  · subst hji
    simp [Emb.add] at e
    exact .inl (by omega)
  · simp [Emb.add, hji] at e
    rw [hH' j hji] at h
    exact .inr ⟨j, x, hj, e, h⟩

/-- What lies in one block of the world's is written over. -/
def setB (w : World) (b : Nat) (o : Obj) : World := { w with heap := w.heap.setIfInBounds b o }

theorem setB_size (w : World) (b : Nat) (o : Obj) : (setB w b o).heap.size = w.heap.size := by simp [setB]
theorem setB_ne (w : World) (b : Nat) (o : Obj) {k : Nat} (h : k ≠ b) : (setB w b o).heap[k]? = w.heap[k]? := by
  simp [setB, Array.getElem?_setIfInBounds, Ne.symm h]
theorem setB_at (w : World) (b : Nat) (o : Obj) (h : b < w.heap.size) : (setB w b o).heap[b]? = some o := by
  simp [setB, h]

/-- A block that may be written is written over: by what stands for the new thing. -/
theorem Rel.set {P : Program} {B0 : Nat} {φ : Emb} {H H' : Get} {w : World} (r : Rel P B0 φ H w) {i b δ sz : Nat} (hi : φ.blk i = some (b, δ, sz)) (hw : wr (H i) = true)
    {o : IObj} {co : Obj} (hH : H' i = some o) (hH' : ∀ j, j ≠ i → H' j = H j) (ho : ObjRel P φ (some o) δ sz (some co)) : Rel P B0 φ H' (setB w b co) := by
  have hb := r.lt i b δ sz hi
  have wr' : ∀ j, wr (H' j) = true → wr (H j) = true := fun j h => by
    by_cases hj : j = i
    · subst hj; exact hw
    · rwa [hH' j hj] at h
  have live' : ∀ j, live (H' j) = true → live (H j) = true := fun j h => by
    by_cases hj : j = i
    · subst hj; exact live_of_wr hw
    · rwa [hH' j hj] at h
  refine ⟨fun j k x y e => by rw [setB_size]; exact r.lt j k x y e, fun j k x y e => ?_, fun j k c x y hne e1 e2 w1 l2 => r.sep j k c x y hne e1 e2 (wr' j w1) (live' k l2),
    fun j k x e w1 => r.base j k x e (wr' j w1), fun k cc e => ?_, fun j k x e w1 => r.imsep j k x e (wr' j w1)⟩
  · by_cases hj : j = i
    · subst hj
      rw [hi] at e
      cases e
      rw [setB_at w b co hb, hH]
      exact ho
    · rw [hH' j hj]
      by_cases hk : k = b
      · subst hk
        have hl : live (H j) = false := by
          cases hl : live (H j) with
          | false => rfl
          | true => exact (r.sep i j k _ _ (Ne.symm hj) hi e hw hl).elim
        have : H j = none ∨ H j = some .dead := by
          cases hh : H j with
          | none => exact .inl rfl
          | some o => cases o <;> simp_all [live]
        rcases this with h | h <;> rw [h] <;> trivial
      · rw [setB_ne w b co hk]; exact r.obj j k x y e
  · obtain ⟨el, fz, h⟩ := r.imo k cc e
    refine ⟨el, fz, ?_⟩
    rw [setB_ne w b co]
    · exact h
    · intro hk
      subst hk
      rw [r.imsep i k _ hi hw] at e
      cases e

theorem Tr.set {wm : Nat} {φ : Emb} {H H' : Get} {w : World} {i b δ sz : Nat} (hi : φ.blk i = some (b, δ, sz)) (hw : wr (H i) = true) (hm : wm ≤ i) {co : Obj}
    (hH' : ∀ j, j ≠ i → H' j = H j) (hi0 : NoIce co) : Tr wm φ H w φ H' (setB w b co) := by
  refine ⟨Ext.refl _, rfl, rfl, rfl, by rw [setB_size]; exact Nat.le_refl _, fun k _ h => setB_ne w b co (fun hk => ?_), fun j k x hj e h => ?_, fun k x e => .inl e, fun k cc el fz h hf => ?_⟩
  rotate_left 2
  · by_cases hk : k = b
    · subst hk
      have hlt := (Array.getElem?_eq_some_iff.1 h).1
      rw [setB_size] at hlt
      rw [setB_at w k co hlt] at h
      exact absurd (hi0 _ _ _ (Option.some.inj h)) hf
    · rwa [setB_ne w b co hk] at h
  · subst hk
    rw [h i (δ, sz) hm hi] at hw
    cases hw
  · by_cases hji : j = i
    · subst hji; exact .inr ⟨j, x, hj, e, hw⟩
    · rw [hH' j hji] at h; exact .inr ⟨j, x, hj, e, h⟩

/-- One draw. -/
def drew1 (w : World) : World := { w with drawn := w.drawn + 1 }
theorem Rel.drew {P : Program} {B0 : Nat} {φ : Emb} {H : Get} {w : World} (r : Rel P B0 φ H w) : Rel P B0 φ H (drew1 w) := ⟨r.lt, r.obj, r.sep, r.base, r.imo, r.imsep⟩
theorem Good.drew {P : Program} {B0 : Nat} {φ : Emb} {s : St} {w : World} (g : Good P B0 φ s w) : Good P B0 φ s (drew1 w) := ⟨g.rel.drew, g.fresh, g.wm, g.B0⟩
theorem Step.drew {P : Program} {B0 : Nat} {φ : Emb} {s : St} {w : World} (g : Good P B0 φ s w) : Step P B0 φ s w φ s (drew1 w) :=
  ⟨g.drew, ⟨Ext.refl _, rfl, rfl, rfl, Nat.le_refl _, fun _ _ _ => rfl, fun i b x hi e h => .inr ⟨i, x, hi, e, h⟩, fun _ _ h => .inl h, fun _ _ _ _ h _ => h⟩, rfl, Nat.le_refl _, fun _ _ => rfl, fun _ _ h => h, fun _ _ h => ⟨h, rfl⟩⟩

end Go.Ev

