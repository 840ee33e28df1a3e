/- Part of Rig, a reflective evaluator of this project's own: a function's code, run over typed data by Lean's kernel, gives its contract. No condition. -/
import Derived.Calls
import Derived.Orders
import Derived.RowKit3
import Derived.Laws.Rows
import Derived.Laws.AppendOwn
import Derived.Lib.FrozenHead2
import Derived.KernelRfl
set_option linter.unusedVariables false
noncomputable section
namespace Rig
open Go

inductive CK where
  | int (k : IntKind) | bool | str | slice (row : List CK) | map
  deriving Inhabited

mutual
def CK.ty : CK → Type
  | .int _ => Int
  | .bool => Bool
  | .str => ByteArray
  | .slice row => List (CK.rowTy row)
  | .map => Int → Int
def CK.rowTy : List CK → Type
  | [] => Unit
  | [k] => k.ty
  | k :: k' :: ks => k.ty × CK.rowTy (k' :: ks)
end
abbrev Row := CK.rowTy

def ikn : IntKind → Nat
  | .i8 => 0 | .i16 => 1 | .i32 => 2 | .i64 => 3 | .u8 => 4 | .u16 => 5 | .u32 => 6 | .u64 => 7
def ikb (a b : IntKind) : Bool := Nat.beq (ikn a) (ikn b)
theorem ikb_eq {a b : IntKind} (h : ikb a b = true) : a = b := by
  have := Nat.eq_of_beq_eq_true h
  cases a <;> cases b <;> first | rfl | (simp [ikn] at this)
mutual
def CK.beq : CK → CK → Bool
  | .int k, .int k' => ikb k k'
  | .bool, .bool => true
  | .str, .str => true
  | .slice r, .slice r' => CK.beqs r r'
  | .map, .map => true
  | _, _ => false
def CK.beqs : List CK → List CK → Bool
  | [], [] => true
  | k :: ks, k' :: ks' => k.beq k' && CK.beqs ks ks'
  | _, _ => false
end
mutual
theorem CK.eq_of_beq : ∀ {a b : CK}, a.beq b = true → a = b
  | .int k, .int k', h => by simp only [CK.beq] at h; rw [ikb_eq h]
  | .bool, .bool, _ => rfl
  | .str, .str, _ => rfl
  | .slice r, .slice r', h => by simp only [CK.beq] at h; rw [CK.eqs_of_beqs h]
  | .map, .map, _ => rfl
  | .map, .int _, h | .map, .bool, h | .map, .str, h | .map, .slice _, h | .int _, .map, h | .bool, .map, h | .str, .map, h | .slice _, .map, h => by simp [CK.beq] at h
  | .int _, .bool, h | .int _, .str, h | .int _, .slice _, h | .bool, .int _, h | .bool, .str, h | .bool, .slice _, h
  | .str, .int _, h | .str, .bool, h | .str, .slice _, h | .slice _, .int _, h | .slice _, .bool, h | .slice _, .str, h => by simp [CK.beq] at h
theorem CK.eqs_of_beqs : ∀ {a b : List CK}, CK.beqs a b = true → a = b
  | [], [], _ => rfl
  | k :: ks, k' :: ks', h => by
    simp only [CK.beqs, Bool.and_eq_true] at h
    rw [CK.eq_of_beq h.1, CK.eqs_of_beqs h.2]
  | [], _ :: _, h | _ :: _, [], h => by simp [CK.beqs] at h
end

mutual
def CK.zero : (k : CK) → k.ty
  | .int _ => (0 : Int)
  | .bool => false
  | .str => (⟨#[]⟩ : ByteArray)
  | .slice row => ([] : List (CK.rowTy row))
  | .map => fun _ => (0 : Int)
def CK.zeros : (row : List CK) → Row row
  | [] => ()
  | [k] => k.zero
  | k :: k' :: ks => (k.zero, CK.zeros (k' :: ks))
end

def lget {α : Type} (d : α) : List α → Nat → α
  | [], _ => d
  | x :: _, 0 => x
  | _ :: xs, n + 1 => lget d xs n
def lmap {α β : Type} (f : α → β) : List α → List β
  | [] => []
  | x :: xs => f x :: lmap f xs
def lget? {α : Type} : List α → Nat → Option α
  | [], _ => none
  | x :: _, 0 => some x
  | _ :: xs, n + 1 => lget? xs n
def lset {α : Type} (v : α) : List α → Nat → List α
  | [], _ => []
  | _ :: xs, 0 => v :: xs
  | x :: xs, n + 1 => x :: lset v xs n
def lapp {α : Type} : List α → List α → List α
  | [], ys => ys
  | x :: xs, ys => x :: lapp xs ys
def ltake {α : Type} : Nat → List α → List α
  | 0, _ => []
  | _ + 1, [] => []
  | n + 1, x :: xs => x :: ltake n xs
def ldrop {α : Type} : Nat → List α → List α
  | 0, xs => xs
  | _ + 1, [] => []
  | n + 1, _ :: xs => ldrop n xs
def obind {α β : Type} (x : Option α) (f : α → Option β) : Option β := match x with | some a => f a | none => none
def llen {α : Type} : List α → Nat
  | [] => 0
  | _ :: xs => Nat.succ (llen xs)
def lrep {α : Type} (v : α) : Nat → List α
  | 0 => []
  | n + 1 => v :: lrep v n
/-- closed tests -/
def sel {α : Type} (b : Bool) (x y : α) : α := match b with | true => x | false => y
/-! what data are made of -/
def iadd (k : IntKind) (a b : Int) : Int := k.wrap (a + b)
def isub (k : IntKind) (a b : Int) : Int := k.wrap (a - b)
def imul (k : IntKind) (a b : Int) : Int := k.wrap (a * b)
def iand (k : IntKind) (a b : Int) : Int := k.wrap ((BitVec.ofInt k.bits a &&& BitVec.ofInt k.bits b).toNat : Int)
def ixor (k : IntKind) (a b : Int) : Int := k.wrap ((BitVec.ofInt k.bits a ^^^ BitVec.ofInt k.bits b).toNat : Int)
def ior (k : IntKind) (a b : Int) : Int := k.wrap ((BitVec.ofInt k.bits a ||| BitVec.ofInt k.bits b).toNat : Int)
def ishr (k : IntKind) (a b : Int) : Int := a.fdiv (2 ^ (min b.toNat k.bits))
def ishl (k : IntKind) (a b : Int) : Int := k.wrap (a * 2 ^ (min b.toNat k.bits))
def iquo (k : IntKind) (a b : Int) : Int := k.wrap (a.tdiv b)
def irem (a b : Int) : Int := a.tmod b
def ilt (a b : Int) : Bool := decide (a < b)
def ile (a b : Int) : Bool := decide (a ≤ b)
def ieq (a b : Int) : Bool := decide (a = b)
def ine (a b : Int) : Bool := !decide (a = b)
def dnot (a : Bool) : Bool := !a
def deqb (a b : Bool) : Bool := a == b
def dneb (a b : Bool) : Bool := a != b
def deqs (a b : ByteArray) : Bool := a.toList == b.toList
def dnes (a b : ByteArray) : Bool := !(a.toList == b.toList)
def dcatok (a b : ByteArray) : Bool := decide (a.size + b.size ≤ 9223372036854775807)
def dcat (a b : ByteArray) : ByteArray := a ++ b
def dsize (a : ByteArray) : Int := (a.size : Int)
/-- x; the kernel does not look into it -/
def stuck {α : Type} (x : α) : α := Classical.choose (⟨x, rfl⟩ : ∃ y, y = x)
theorem stuck_eq {α : Type} (x : α) : stuck x = x := Classical.choose_spec (⟨x, rfl⟩ : ∃ y, y = x)
def droom (a b : Int) (bytes : Nat) : Bool := stuck (decide ((a + b) * bytes ≤ 140737488355328))
def dand (a b : Bool) : Bool := a && b
def imin (a b : Int) : Int := if b < a then b else a
def imax (a b : Int) : Int := if b > a then b else a
def iconv (k : IntKind) (n : Int) : Int := k.wrap n
def dbyte (s : ByteArray) (i : Int) : Int := if h : i.toNat < s.size then ((s[i.toNat]'h).toNat : Int) else 0
def dsub (s : ByteArray) (a b : Int) : ByteArray := s.extract a.toNat b.toNat
def dcut {α : Type} (l : List α) (a b : Int) : List α := (l.drop a.toNat).take (b.toNat - a.toNat)
def dbind {α β : Type} (x : Option α) (f : α → Option β) : Option β := x.bind f
/-- a map -/
def mnil : Int → Int := fun _ => 0
def mget (g : Int → Int) (k : Int) : Int := g k
def mput (g : Int → Int) (k v : Int) : Int → Int := fun x => if x = k then v else g x
def dif {α : Type} (b : Bool) (x y : α) : α := Bool.rec y x b
def dlen {α : Type} (l : List α) : Int := (l.length : Int)
def dget (row : List CK) (l : List (Row row)) (i : Int) : Row row := l.getD i.toNat (CK.zeros row)
def dset {α : Type} (l : List α) (i : Int) (x : α) : List α := l.set i.toNat x
def dapp {α : Type} (l m : List α) : List α := l ++ m
def dmake {α : Type} (n : Int) (x : α) : List α := List.replicate n.toNat x
def dnil {α : Type} : List α := []
def dcons {α : Type} (x : α) (l : List α) : List α := x :: l

/-- a string out of its bytes -/
def bs (l : List Nat) : ByteArray := ⟨⟨lmap UInt8.ofNat l⟩⟩

inductive V where
  | undef
  | int (k : IntKind) (n : Int)
  | bool (b : Bool)
  | lit (b : Bool)
  | str (s : ByteArray)
  | nil
  | ro (row : List CK) (l : List (Row row))
  | own (o : Nat)
  | ptr (o c : Nat)
  | rp (row : List CK) (l : List (Row row)) (i : Int) (c : Nat)
  | op (o : Nat) (i : Int) (c : Nat)
  | agg (vs : List V)
  | tup (vs : List V)
  | clo (f : Nat) (os : List Nat)
  | map (o : Nat)
  deriving Inhabited

inductive Obj where
  | dead
  | box (cells : List V)
  | arr (row : List CK) (l : List (Row row)) (frozen : Bool)
  | map (g : Int → Int)
  | fbox (row : List CK) (x : Row row)
  deriving Inhabited

/-- n: the next object's number; tmps, objs: the newest first -/
structure St where
  N : Nat
  n : Nat
  tmps : List (Nat × V)
  objs : List (Nat × Obj)

def look {α : Type} (d : α) : List (Nat × α) → Nat → α
  | [], _ => d
  | p :: r, i => sel (Nat.beq p.1 i) p.2 (look d r i)
def St.tmp (s : St) (i : Nat) : V := sel (Nat.blt i s.N) (look .undef s.tmps i) .undef
def St.obj (s : St) (o : Nat) : Obj := look .dead s.objs o
def St.setTmp (s : St) (i : Nat) (v : V) : St := { s with tmps := (i, v) :: s.tmps }
def St.setObj (s : St) (i : Nat) (o : Obj) : St := { s with objs := (i, o) :: s.objs }
def St.new (s : St) (o : Obj) : St := { s with n := Nat.succ s.n, objs := (s.n, o) :: s.objs }

variable {ρ : Type}
/-- a cell's value is brought to its head -/
def V.force1 (v : V) (k : V → Option ρ) : Option ρ := match v with
  | .agg vs => k (.agg vs)
  | .tup vs => k (.tup vs)
  | .undef => k .undef
  | .int a b => k (.int a b)
  | .bool b => k (.bool b)
  | .lit b => k (.lit b)
  | .str s => k (.str s)
  | .nil => k .nil
  | .ro r l => k (.ro r l)
  | .own o => k (.own o)
  | .ptr o c => k (.ptr o c)
  | .rp r l i c => k (.rp r l i c)
  | .op o i c => k (.op o i c)
  | .clo f os => k (.clo f os)
  | .map o => k (.map o)
def V.forces (vs : List V) (k : List V → Option ρ) : Option ρ := match vs with
  | [] => k []
  | v :: vs => V.force1 v fun v => V.forces vs fun vs => k (v :: vs)
def V.forceA (v : V) (k : V → Option ρ) : Option ρ := match v with
  | .agg vs => V.forces vs fun vs => k (.agg vs)
  | v => V.force1 v k
def V.forcesA (vs : List V) (k : List V → Option ρ) : Option ρ := match vs with
  | [] => k []
  | v :: vs => V.forceA v fun v => V.forcesA vs fun vs => k (v :: vs)
def V.force (v : V) (k : V → Option ρ) : Option ρ := match v with
  | .agg vs => V.forces vs fun vs => k (.agg vs)
  | .tup vs => V.forcesA vs fun vs => k (.tup vs)
  | v => V.force1 v k

/-- a cell's typed value as a V -/
def V.of : (k : CK) → k.ty → V
  | .int k, x => .int k x
  | .bool, b => .bool b
  | .str, s => .str s
  | .slice row, l => .ro row l
  | .map, _ => .undef
def V.ofRow : (row : List CK) → Row row → List V
  | [], _ => []
  | [k], x => [V.of k x]
  | k :: k' :: ks, x => V.of k x.1 :: V.ofRow (k' :: ks) x.2

def castL (row' row : List CK) (l : List (Row row')) : Option (List (Row row)) :=
  match h : CK.beqs row' row with
  | true => some (CK.eqs_of_beqs h ▸ l)
  | false => none
/-- a cell as a typed value: what it reads as -/
def V.get (s : St) : (k : CK) → V → Option k.ty
  | .int k, .int k' n => match ikb k k' with | true => some n | false => none
  | .bool, .bool b => some b
  | .bool, .lit b => some b
  | .str, .str s => some s
  | .slice row, .nil => some (dnil : List (Row row))
  | .slice row, .ro row' l => castL row' row l
  | .slice row, .own o => match s.obj o with
    | .arr row' l _ => castL row' row l
    | _ => none
  | .map, .map o => match s.obj o with
    | .map g => some g
    | _ => none
  | _, _ => none
/-- how a cell is handed on: 0: it is read · 1: it is read, and what it leads to is frozen · 2: what it leads to is given away -/
def V.after (s : St) (m : Nat) : V → Option St
  | .own o => match s.obj o with
    | .arr row l fr => match m, fr with
      | 0, _ => some s
      | 1, _ => some (s.setObj o (.arr row l true))
      | _, false => some (s.setObj o .dead)
      | _, true => none
    | _ => none
  | .ro _ _ => match m with
    | 0 => some s
    | 1 => some s
    | _ => none
  | .map o => match m, s.obj o with
    | 2, .map _ => some (s.setObj o .dead)
    | _, _ => none
  | _ => some s
def V.take (s : St) (m : Nat) (k : CK) (v : V) : Option (k.ty × St) :=
  match V.get s k v with
  | none => none
  | some x => match V.after s m v with
    | some s => some (x, s)
    | none => none
def V.takes (s : St) (m : Nat) : (row : List CK) → List V → Option (Row row × St)
  | [], [] => some ((), s)
  | [k], [v] => V.take s m k v
  | k :: k' :: ks, v :: vs => match V.take s m k v with
    | some (x, s) => match V.takes s m (k' :: ks) vs with
      | some (y, s) => some ((x, y), s)
      | none => none
    | none => none
  | _, _ => none

/-- a type: is it a struct? its cells; a struct's fields' places and sizes; a slice's element type; its bytes -/
structure TyI where
  agg : Bool
  cells : List CK
  flds : List (Nat × Nat) := []
  elem : Nat := 0
  bytes : Nat := 8
  deriving Inhabited

abbrev Tab := List (Nat × TyI)
def Tab.at (t : Tab) (i : Nat) : Option TyI := match t with
  | [] => none
  | (j, x) :: r => sel (Nat.beq j i) (some x) (Tab.at r i)

def mkV (agg : Bool) (vs : List V) : V := match agg, vs with | true, vs => .agg vs | false, [v] => v | false, _ => .undef

def CK.zeroV : CK → V
  | .int k => .int k 0 | .bool => .lit false | .str => .str ⟨#[]⟩ | .slice _ => .nil | .map => .undef
def V.zeroCells : List CK → List V
  | [] => []
  | c :: cs => c.zeroV :: V.zeroCells cs

/-- an argument or a result: 0: one cell · 1: an aggregate · 2: a pointer to a variable · 3: a pointer to a variable that holds the closure of fn over the variables js · 4: a pointer to a variable that is only read; its cells, each with: owned? -/
structure Arg where
  mode : Nat
  cells : List (CK × Bool)
  fn : Nat := 0
  js : List Nat := []
abbrev Args := List Arg
def kinds : List (CK × Bool) → List CK
  | [] => []
  | c :: cs => c.1 :: kinds cs
def consR (k : List CK) (rs : List (List CK)) : List (List CK) := match k with
  | [] => rs
  | c :: cs => (c :: cs) :: rs
/-- rows, together -/
def PT : List (List CK) → Type
  | [] => Unit
  | [r] => Row r
  | r :: r' :: rs => Row r × PT (r' :: rs)
def pcons : (k : List CK) → (rs : List (List CK)) → Row k → PT rs → PT (consR k rs)
  | [], _, _, y => y
  | _ :: _, [], x, _ => x
  | _ :: _, _ :: _, x, y => (x, y)
def psplit : (k : List CK) → (rs : List (List CK)) → PT (consR k rs) → Row k × PT rs
  | [], _, y => ((), y)
  | _ :: _, [], x => (x, ())
  | _ :: _, _ :: _, x => (x.1, x.2)
def RT : List (List CK) → List (List CK) → Type
  | o, [] => PT o
  | [], b :: bs => PT (b :: bs)
  | o :: os, b :: bs => PT (o :: os) × PT (b :: bs)
def rpair : (o b : List (List CK)) → PT o → PT b → RT o b
  | [], [], x, _ => x
  | _ :: _, [], x, _ => x
  | [], _ :: _, _, y => y
  | _ :: _, _ :: _, x, y => (x, y)
def rcut : (o b : List (List CK)) → RT o b → PT o × PT b
  | [], [], x => (x, ())
  | _ :: _, [], x => (x, ())
  | [], _ :: _, y => ((), y)
  | _ :: _, _ :: _, x => (x.1, x.2)
def Args.rows : Args → List (List CK)
  | [] => []
  | a :: r => consR (kinds a.cells) (Args.rows r)
/-- what arguments, or results, are together -/
abbrev Args.T (a : Args) : Type := PT a.rows
def ajoin (a : Arg) (r : Args) (x : Row (kinds a.cells)) (y : Args.T r) : Args.T (a :: r) := pcons (kinds a.cells) r.rows x y
def asplit (a : Arg) (r : Args) (x : Args.T (a :: r)) : Row (kinds a.cells) × Args.T r := psplit (kinds a.cells) r.rows x
/-- what is handed back of an argument -/
def Arg.bcells (a : Arg) : List (CK × Bool) := match a.mode with
  | 2 => a.cells
  | _ => []
def Args.brows : Args → List (List CK)
  | [] => []
  | a :: r => consR (kinds a.bcells) (Args.brows r)
abbrev Args.B (a : Args) : Type := PT a.brows
def bjoin (a : Arg) (r : Args) (x : Row (kinds a.bcells)) (y : Args.B r) : Args.B (a :: r) := pcons (kinds a.bcells) r.brows x y
def bsplit (a : Arg) (r : Args) (x : Args.B (a :: r)) : Row (kinds a.bcells) × Args.B r := psplit (kinds a.bcells) r.brows x
/-- results, and what the variables hold that were handed over -/
abbrev Args.R (o b : Args) : Type := RT o.rows b.brows
def rjoin (o b : Args) (x : Args.T o) (y : Args.B b) : Args.R o b := rpair o.rows b.brows x y
def rsplit (o b : Args) (x : Args.R o b) : Args.T o × Args.B b := rcut o.rows b.brows x
/-- the arguments that are pointers -/
def Args.ptrs : Args → Args
  | [] => []
  | c :: cs => sel (Nat.ble 2 c.mode) (c :: Args.ptrs cs) (Args.ptrs cs)
structure FSpec where
  ins : Args
  outs : Args
  f : ins.T → Option (Args.R outs ins.ptrs)

def eval (s : St) : Operand → V
  | .tmp t => s.tmp t
  | .const (.int k n) => .int k n
  | .const (.bool b) => .lit b
  | .const (.string s) => .str s
  | .const (.slice none 0 0) => .nil
  | _ => .undef

def V.cells : V → List V
  | .agg vs => vs
  | v => [v]

abbrev K (ρ : Type) := V → St → Option ρ

def V.asBool : V → Option Bool
  | .bool b => some b
  | .lit b => some b
  | _ => none

def evBin (tb : Bool) (o : BinOp) (x y : V) (s : St) (k : K ρ) : Option ρ :=
  match x, y with
  | .int kx a, .int ky b =>
    match o with
    | .shl => dif (ilt b 0) none (k (.int kx (ishl kx a b)) s)
    | .shr => dif (ilt b 0) none (k (.int kx (ishr kx a b)) s)
    | o => match ikb kx ky with
    | false => none
    | true => match o with
      | .and => k (.int kx (iand kx a b)) s
      | .xor => k (.int kx (ixor kx a b)) s
      | .or => k (.int kx (ior kx a b)) s
      | .add => k (.int kx (iadd kx a b)) s
      | .sub => k (.int kx (isub kx a b)) s
      | .mul => k (.int kx (imul kx a b)) s
      | .eql => k (.bool (ieq a b)) s
      | .neq => k (.bool (ine a b)) s
      | .lss => k (.bool (ilt a b)) s
      | .leq => k (.bool (ile a b)) s
      | .gtr => k (.bool (ilt b a)) s
      | .geq => k (.bool (ile b a)) s
      | .quo => dif (ieq b 0) none (k (.int kx (iquo kx a b)) s)
      | .rem => dif (ieq b 0) none (k (.int kx (irem a b)) s)
      | _ => none
  | .str a, .str b => match o with
      | .eql => k (.bool (deqs a b)) s
      | .neq => k (.bool (dnes a b)) s
      | .add => dif (dcatok a b) (k (.str (dcat a b)) s) none
      | _ => none
  | x, y => match tb, x.asBool, y.asBool with
    | true, some a, some b => match o with
      | .eql => k (.bool (deqb a b)) s
      | .neq => k (.bool (dneb a b)) s
      | _ => none
    | _, _, _ => none

def setRange (cs : List V) (at_ : Nat) (new : List V) : List V := lapp (ltake at_ cs) (lapp new (ldrop (Nat.add at_ (llen new)) cs))

def St.put1 (c : CK) (own : Bool) (x : c.ty) (s : St) (k : V → St → Option ρ) : Option ρ :=
  match own, c, x with
  | true, .slice row, l => k (.own s.n) (s.new (.arr row l false))
  | true, .map, g => k (.map s.n) (s.new (.map g))
  | _, c, x => k (V.of c x) s
/-- makes results: owned cells become new objects -/
def outCells : (cells : List (CK × Bool)) → Row (kinds cells) → St → (List V → St → Option ρ) → Option ρ
  | [], _, s, k => k [] s
  | [(c, own)], x, s, k => s.put1 c own x fun v s' => k [v] s'
  | (c, own) :: c' :: cs, x, s, k => s.put1 c own x.1 fun v s' => outCells (c' :: cs) x.2 s' fun vs s'' => k (v :: vs) s''

def outVals : (outs : Args) → outs.T → St → (List V → St → Option ρ) → Option ρ
  | [], _, s, k => k [] s
  | a :: rest, x, s, k =>
    let p := asplit a rest x
    outCells a.cells p.1 s fun vs s' => match a.mode with
      | 2 => outVals rest p.2 (s'.new (.box vs)) fun ws s'' => k (.ptr s'.n 0 :: ws) s''
      | 1 => outVals rest p.2 s' fun ws s'' => k (.agg vs :: ws) s''
      | 0 => outVals rest p.2 s' fun ws s'' => k (mkV false vs :: ws) s''
      | _ => none

/-- what the variables that were handed over by their addresses hold behind the call; oa: all the variables handed over -/
def backVals (oa : List Nat) : (ptrs : Args) → List Nat → ptrs.B → St → (St → Option ρ) → Option ρ
  | [], _, _, s, k => k s
  | a :: rest, o :: os, x, s, k =>
    let p := bsplit a rest x
    match a.mode with
    | 2 => outCells a.bcells p.1 s fun vs s' => V.forces vs fun vs => backVals oa rest os p.2 (s'.setObj o (.box vs)) k
    | 3 => backVals oa rest os p.2 (s.setObj o (.box [.clo a.fn (lmap (lget 0 oa) a.js)])) k
    | _ => backVals oa rest os p.2 s k
  | _, [], _, _, _ => none

abbrev Env := List (Nat × FSpec)
def Env.at (e : Env) (i : Nat) : Option FSpec := match e with
  | [] => none
  | (j, x) :: r => sel (Nat.beq j i) (some x) (Env.at r i)

/-- a cell's value: no aggregate, nothing unknown -/
def V.one : V → Bool
  | .undef | .agg _ | .tup _ => false
  | _ => true
def ones : List V → Bool
  | [] => true
  | v :: vs => match v.one with | true => ones vs | false => false
def fillParts (flds : List (Nat × Nat)) (ev : Operand → V) : List (Nat × Operand) → List V → Option (List V)
  | [], cs => some cs
  | p :: r, cs => match lget? flds p.1 with
    | some (off, size) => match Nat.beq (llen (ev p.2).cells) size, ones (ev p.2).cells with
      | true, true => fillParts flds ev r (setRange cs off (ev p.2).cells)
      | _, _ => none
    | none => none

def litRows (row : List CK) (ev : Operand → V) (s : St) : Nat → List (Nat × Operand) → Option (List (Row row) × St)
  | _, [] => some (dnil, s)
  | i, p :: r => match Nat.beq p.1 i with
    | true => match V.takes s 1 row (ev p.2).cells with
      | some (x, s) => match litRows row ev s (Nat.succ i) r with
        | some (l, s) => some (dcons x l, s)
        | none => none
      | none => none
    | false => none

/-- does a slice lie inside? -/
def CK.isSl : CK → Bool
  | .slice _ => true
  | _ => false
def anySl : List CK → Bool
  | [] => false
  | c :: cs => match c.isSl with | true => true | false => anySl cs
/-- may a result lead to what an argument leads to? -/
def leads : List (CK × Bool) → Bool
  | [] => false
  | (.slice row, true) :: cs => match anySl row with | true => true | false => leads cs
  | (.slice _, false) :: _ => true
  | _ :: cs => leads cs
def Args.leads : Args → Bool
  | [] => false
  | a :: r => match Rig.leads a.cells with | true => true | false => Args.leads r

def Args.bleads : Args → Bool
  | [] => false
  | a :: r => match Rig.leads a.bcells with | true => true | false => Args.bleads r

def anyOwn : List (CK × Bool) → Bool
  | [] => false
  | c :: cs => match c.2 with | true => true | false => anyOwn cs
/-- the arguments' typed values; the variables handed over by address -/
def takeCells (s : St) (m : Nat) : (cells : List (CK × Bool)) → List V → Option (Row (kinds cells) × St)
  | [], [] => some ((), s)
  | [(c, own)], [v] => V.take s (sel own 2 m) c v
  | (c, own) :: c' :: cs, v :: vs => match V.take s (sel own 2 m) c v with
    | some (x, s) => match takeCells s m (c' :: cs) vs with
      | some (y, s) => some ((x, y), s)
      | none => none
    | none => none
  | _, _ => none
def takeArg (s : St) (m : Nat) (a : Arg) (v : V) : Option (Row (kinds a.cells) × List Nat × St) :=
  match a.mode, v with
  | 2, .ptr o 0 => match s.obj o with
    | .box cs => match takeCells (s.setObj o .dead) m a.cells cs with
      | some (x, s) => some (x, [o], s)
      | none => none
    | _ => none
  | 1, .agg vs => match takeCells s m a.cells vs with
    | some (x, s) => some (x, [], s)
    | none => none
  | 0, v => match takeCells s m a.cells [v] with
    | some (x, s) => some (x, [], s)
    | none => none
  | _, _ => none
def takeArgs (s : St) (m : Nat) : (ins : Args) → List V → Option (ins.T × List Nat × St)
  | [], [] => some ((), [], s)
  | a :: r, v :: vs => match takeArg s m a v with
    | some (x, os, s) => match takeArgs s m r vs with
      | some (y, os', s) => some (ajoin a r x y, lapp os os', s)
      | none => none
    | none => none
  | _, _ => none

/-! what is handed to a function whose results lead to nothing of the arguments' -/
def castR (row' row : List CK) (x : Row row') : Option (Row row) :=
  match h : CK.beqs row' row with
  | true => some (CK.eqs_of_beqs h ▸ x)
  | false => none
def lall {α : Type} (p : α → Bool) : List α → Bool
  | [] => true
  | x :: xs => match p x with | true => lall p xs | false => false
def natsEq : List Nat → List Nat → Bool
  | [], [] => true
  | a :: r, b :: r' => match Nat.beq a b with | true => natsEq r r' | false => false
  | _, _ => false
/-- what is owned is given away -/
def giveCells (s : St) : List (CK × Bool) → List V → Option St
  | [], [] => some s
  | (c, own) :: cs, v :: vs => match own with
    | false => giveCells s cs vs
    | true => match V.get s c v, V.after s 2 v with
      | some _, some s => giveCells s cs vs
      | _, _ => none
  | _, _ => none
/-- what is owned as it was in s, what is read as it is in s1 -/
def V.getro (s : St) : (c : CK) → V → Option c.ty
  | .map, _ => none
  | c, v => V.get s c v
def getOne (s s1 : St) (c : CK) (own : Bool) (v : V) : Option c.ty := match own with
  | true => V.get s c v
  | false => V.getro s1 c v
def pairO {α β : Type} (x : Option α) (y : Option β) : Option (α × β) := match x, y with
  | some x, some y => some (x, y)
  | _, _ => none
def getCells (s s1 : St) : (cells : List (CK × Bool)) → List V → Option (Row (kinds cells))
  | [], [] => some ()
  | [(c, own)], [v] => getOne s s1 c own v
  | (c, own) :: c' :: cs, v :: vs => pairO (getOne s s1 c own v) (getCells s s1 (c' :: cs) vs)
  | _, _ => none
def ptrIds : Args → List V → List Nat
  | a :: r, v :: vs => match Nat.ble 2 a.mode with
    | true => (match v with | .ptr o _ => o | _ => 0) :: ptrIds r vs
    | false => ptrIds r vs
  | _, _ => []
def giveArg (s : St) (ids : List Nat) (a : Arg) (v : V) : Option St :=
  match a.mode, v with
  | 2, .ptr o 0 => match s.obj o with
    | .box cs => giveCells (s.setObj o .dead) a.cells cs
    | _ => none
  | 3, .ptr o 0 => match s.obj o with
    | .box [.clo f os] => match Nat.beq f a.fn, natsEq os (lmap (lget 0 ids) a.js), lall (fun j => Nat.blt j (llen ids)) a.js with
      | true, true, true => some (s.setObj o .dead)
      | _, _, _ => none
    | _ => none
  | 4, .ptr _ 0 => some s
  | 1, .agg vs => giveCells s a.cells vs
  | 0, v => giveCells s a.cells [v]
  | _, _ => none
def giveArgs (s : St) (ids : List Nat) : Args → List V → Option St
  | [], [] => some s
  | a :: r, v :: vs => match giveArg s ids a v with
    | some s => giveArgs s ids r vs
    | none => none
  | _, _ => none
def getArg (s s1 : St) (a : Arg) (v : V) : Option (Row (kinds a.cells)) :=
  match a.mode, v with
  | 2, .ptr o 0 => match s.obj o with
    | .box cs => getCells s s1 a.cells cs
    | _ => none
  | 3, _ => getCells s s1 a.cells []
  | 4, .ptr o 0 => match anyOwn a.cells with
    | false => match s1.obj o with
      | .box cs => getCells s s1 a.cells cs
      | .fbox row x => castR row (kinds a.cells) x
      | _ => none
    | true => none
  | 1, .agg vs => getCells s s1 a.cells vs
  | 0, v => getCells s s1 a.cells [v]
  | _, _ => none
def getArgs (s s1 : St) : (ins : Args) → List V → Option ins.T
  | [], [] => some ()
  | a :: r, v :: vs => match getArg s s1 a v with
    | some x => match getArgs s s1 r vs with
      | some y => some (ajoin a r x y)
      | none => none
    | none => none
  | _, _ => none

def cut (ti : TyI) (c : Nat) (cs : List V) : V := mkV ti.agg (ltake (llen ti.cells) (ldrop c cs))
/-- the cells c .. of n cells are there -/
def fits (ti : TyI) (c : Nat) (n : Nat) : Bool := Nat.ble (Nat.add c (llen ti.cells)) n

/-- the element's type of a slice type -/
def elemOf (Θ : Tab) (t : Nat) : Option TyI := match Θ.at t with
  | some ti => match ti.agg, ti.cells with
    | false, [.slice row] => match Θ.at ti.elem with
      | some ei => match CK.beqs row ei.cells with | true => some ei | false => none
      | none => none
    | _, _ => none
  | none => none
/-- is t a plain type of this kind? -/
def isTy (Θ : Tab) (t : Nat) (c : CK) : Bool := match Θ.at t with
  | some ti => match ti.agg, ti.cells with
    | false, [c'] => match CK.beq c c', Nat.beq ti.elem 0 with
      | true, true => true
      | _, _ => false
    | _, _ => false
  | none => false

def doAppend (ei : TyI) (a x : V) (s : St) (k : K ρ) : Option ρ :=
  match V.get s (.slice ei.cells) x with
  | some ys => match a with
    | .nil => dif (droom 0 (dlen (α := Row ei.cells) ys) ei.bytes) (k (.own s.n) (s.new (.arr ei.cells ys false))) none
    | .own ob => match s.obj ob with
      | .arr row' l false => match castL row' ei.cells l with
        | some l => dif (droom (dlen (α := Row ei.cells) l) (dlen (α := Row ei.cells) ys) ei.bytes)
            (k (.own s.n) ((s.setObj ob .dead).new (.arr ei.cells (dapp (α := Row ei.cells) l ys) false))) none
        | none => none
      | _ => none
    | _ => none
  | none => none

def fold2 (f : Int → Int → Int) (k : IntKind) : Int → List V → Option Int
  | a, [] => some a
  | a, .int k' b :: r => match ikb k k' with | true => fold2 f k (f a b) r | false => none
  | _, _ => none

def evBuiltin (Θ : Tab) (b : Builtin) (args : List V) (argTypes : List TypeId) (s : St) (k : K ρ) : Option ρ :=
  match b with
  | .len => match args, argTypes with
    | [.str x], [t] => match isTy Θ t .str with | true => k (.int .i64 (dsize x)) s | false => none
    | [x], [t] => match elemOf Θ t with
      | some _ => match x with
        | .ro row l => k (.int .i64 (dlen l)) s
        | .nil => k (.int .i64 0) s
        | .own ob => match s.obj ob with | .arr row l _ => k (.int .i64 (dlen l)) s | _ => none
        | _ => none
      | none => none
    | _, _ => none
  | .min => match args with
    | .int kx a :: r => match fold2 imin kx a r with | some x => k (.int kx x) s | none => none
    | _ => none
  | .max => match args with
    | .int kx a :: r => match fold2 imax kx a r with | some x => k (.int kx x) s | none => none
    | _ => none
  | .append => match args, argTypes with
    | [a, x], [t, t'] => match elemOf Θ t, elemOf Θ t' with
      | some ei, some _ => doAppend ei a x s k
      | _, _ => none
    | _, _ => none
  | _ => none

def oneOf (vs : List V) : V := match vs with | [v] => v | vs => .tup vs

/-- the bounds of s[lo:hi] as numbers -/
def bound (s : St) (d : Int) : Option Operand → Option Int
  | none => some d
  | some x => match eval s x with
    | .int _ n => some n
    | _ => none

def eqCells : List V → List V → Option (List Bool)
  | [], [] => some []
  | .int k a :: r, .int k' b :: r' => match ikb k k' with
    | true => match eqCells r r' with | some l => some (ieq a b :: l) | none => none
    | false => none
  | _, _ => none
def allOf : List Bool → Bool
  | [] => true
  | [b] => b
  | b :: r => dand b (allOf r)

def noMap : List CK → Bool
  | [] => true
  | .map :: _ => false
  | _ :: r => noMap r
/-- pointers to variables, whole -/
def allPtrs : List V → Option (List Nat)
  | [] => some []
  | .ptr o 0 :: r => match allPtrs r with
    | some os => some (o :: os)
    | none => none
  | _ => none
/-- a call -/
def callFn (Γ : Env) (f : Nat) (vs : List V) (s : St) (k : K ρ) : Option ρ :=
  match Γ.at f with
  | some sp => match sp.outs.leads, sp.ins.ptrs.bleads with
    | false, false => match giveArgs s (ptrIds sp.ins vs) sp.ins vs with
      | some s' => match getArgs s s' sp.ins vs with
        | some x => dbind (sp.f x) fun r =>
          let p := rsplit sp.outs sp.ins.ptrs r
          outVals sp.outs p.1 s' fun ws s' => backVals (ptrIds sp.ins vs) sp.ins.ptrs (ptrIds sp.ins vs) p.2 s' fun s'' => k (oneOf ws) s''
        | none => none
      | none => none
    | _, _ => match takeArgs s 1 sp.ins vs with
      | some (x, os, s) => dbind (sp.f x) fun r =>
        let p := rsplit sp.outs sp.ins.ptrs r
        outVals sp.outs p.1 s fun ws s' => backVals os sp.ins.ptrs os p.2 s' fun s'' => k (oneOf ws) s''
      | none => none
  | none => none

def evOp (Θ : Tab) (Γ : Env) (o : Op) (s : St) (k : K ρ) : Option ρ :=
  match o with
  | .move x | .assign x => k (eval s x) s
  | .pick c a b => match eval s c with
    | .bool x => dif x (k (eval s a) s) (k (eval s b) s)
    | .lit true => k (eval s a) s
    | .lit false => k (eval s b) s
    | _ => none
  | .alloc t => match Θ.at t with
    | some ti => k (.ptr s.n 0) (s.new (.box (V.zeroCells ti.cells)))
    | none => none
  | .box t x => match ones (eval s x).cells with
    | true => k (.ptr s.n 0) (s.new (.box (eval s x).cells))
    | false => none
  | .build t parts => match Θ.at t with
    | some ti => match ti.agg with
      | true => match fillParts ti.flds (eval s) parts.toList (V.zeroCells ti.cells) with
        | some cs => k (.agg cs) s
        | none => none
      | false => none
    | none => none
  | .load t a => match Θ.at t with
    | some ti => match eval s a with
      | .ptr ob c => match s.obj ob with
        | .box cs => match fits ti c (llen cs) with
          | true => k (cut ti c cs) s
          | false => none
        | .fbox row x => match fits ti c (llen row) with
          | true => k (cut ti c (V.ofRow row x)) s
          | false => none
        | _ => none
      | .rp row l i c => match fits ti c (llen row) with
        | true => k (cut ti c (V.ofRow row (dget row l i))) s
        | false => none
      | .op ob i c => match s.obj ob with
        | .arr row l _ => match fits ti c (llen row) with
          | true => k (cut ti c (V.ofRow row (dget row l i))) s
          | false => none
        | _ => none
      | _ => none
    | none => none
  | .store t a x => match Θ.at t with
    | some ti => match ones (eval s x).cells, Nat.beq (llen (eval s x).cells) (llen ti.cells) with
      | true, true => match eval s a with
        | .ptr ob c => match s.obj ob with
          | .box cs => match fits ti c (llen cs) with
            | true => V.forces (setRange cs c (eval s x).cells) fun cs => k .undef (s.setObj ob (.box cs))
            | false => none
          | _ => none
        | .op ob i c => match s.obj ob with
          | .arr row l false => match fits ti c (llen row) with
            | true => match V.takes (s.setObj ob .dead) 1 row (setRange (V.ofRow row (dget row l i)) c (eval s x).cells) with
              | some (y, s) => k .undef (s.setObj ob (.arr row (dset l i y) false))
              | none => none
            | false => none
          | _ => none
        | _ => none
      | _, _ => none
    | none => none
  | .fieldAddr t a f => match Θ.at t with
    | some ti => match lget? ti.flds f with
      | some (off, size) => match ti.agg, Nat.beq size 0, eval s a with
        | true, false, .ptr ob c => k (.ptr ob (Nat.add c off)) s
        | true, false, .rp row l i c => k (.rp row l i (Nat.add c off)) s
        | true, false, .op ob i c => k (.op ob i (Nat.add c off)) s
        | _, _, _ => none
      | none => none
    | none => none
  | .indexAddr t a i => match elemOf Θ t with
    | some ei => match eval s a, eval s i with
      | .ro row l, .int _ n => match CK.beqs row ei.cells with
        | true => dif (ile 0 n) (dif (ilt n (dlen l)) (k (.rp row l n 0) s) none) none
        | false => none
      | .own ob, .int _ n => match s.obj ob with
        | .arr row l _ => match CK.beqs row ei.cells with
          | true => dif (ile 0 n) (dif (ilt n (dlen l)) (k (.op ob n 0) s) none) none
          | false => none
        | _ => none
      | _, _ => none
    | none => none
  | .index t a i => match isTy Θ t .str, eval s a, eval s i with
    | true, .str x, .int _ n => dif (ile 0 n) (dif (ilt n (dsize x)) (k (.int .u8 (dbyte x n)) s) none) none
    | _, _, _ => none
  | .binOp op t x y _ => evBin (isTy Θ t .bool) op (eval s x) (eval s y) s k
  | .unOp .not _ x => match eval s x with
    | .bool b => k (.bool (dnot b)) s
    | .lit true => k (.lit false) s
    | .lit false => k (.lit true) s
    | _ => none
  | .unOp .neg _ x => match eval s x with
    | .int kx a => k (.int kx (isub kx 0 a)) s
    | _ => none
  | .convert src dst x => match Θ.at src, Θ.at dst, eval s x with
    | some _, some td, .int _ n => match td.agg, td.cells with
      | false, [.int kd] => k (.int kd (iconv kd n)) s
      | _, _ => none
    | some _, some td, .str x => match td.agg, td.cells with
      | false, [.str] => k (.str x) s
      | _, _ => none
    | _, _, _ => none
  | .extract t i => match eval s t with
    | .tup vs => match lget? vs i with
      | some v => k v s
      | none => none
    | _ => none
  | .makeSlice t n c => match elemOf Θ t with
    | some ei => match eval s n, eval s c with
      | .int .i64 n, .int .i64 c => match noMap ei.cells with
        | true => dif (ile 0 n) (dif (ile n c) (dif (droom c 0 ei.bytes)
          (k (.own s.n) (s.new (.arr ei.cells (dmake n (CK.zeros ei.cells)) false))) none) none) none
        | false => none
      | _, _ => none
    | none => none
  | .buildSlice t n parts => match elemOf Θ t with
    | some ei => match Nat.beq n (llen parts.toList), Nat.ble (Nat.mul n (llen ei.cells)) 16777216 with
      | true, true => match litRows ei.cells (eval s) s 0 parts.toList with
        | some (l, s) => k (.own s.n) (s.new (.arr ei.cells l false))
        | none => none
      | _, _ => none
    | none => none
  | .slice t x lo hi none => match eval s x with
    | .str x => match isTy Θ t .str, bound s 0 lo, bound s (dsize x) hi with
      | true, some a, some b => dif (ile 0 a) (dif (ile a b) (dif (ile b (dsize x)) (k (.str (dsub x a b)) s) none) none) none
      | _, _, _ => none
    | .ro row l => match elemOf Θ t, bound s 0 lo, bound s (dlen l) hi with
      | some ei, some a, some b => match CK.beqs row ei.cells with
        | true => dif (ile 0 a) (dif (ile a b) (dif (ile b (dlen l)) (k (.ro row (dcut l a b)) s) none) none) none
        | false => none
      | _, _, _ => none
    | .own ob => match s.obj ob with
      | .arr row l _ => match elemOf Θ t, bound s 0 lo, bound s (dlen l) hi with
        | some ei, some a, some b => match CK.beqs row ei.cells with
          | true => dif (ile 0 a) (dif (ile a b) (dif (ile b (dlen l)) (k (.ro row (dcut l a b)) (s.setObj ob (.arr row l true))) none) none) none
          | false => none
        | _, _, _ => none
      | _ => none
    | _ => none
  | .call { callee := .builtin b, args, argTypes } => evBuiltin Θ b (lmap (eval s) args.toList) argTypes.toList s k
  | .call { callee := .value (.func f), args, .. } => callFn Γ f (lmap (eval s) args.toList) s k
  | .call { callee := .value (.tmp t), args, .. } => match s.tmp t with
    | .clo f os => callFn Γ f (lapp (lmap (eval s) args.toList) (lmap (fun o => V.ptr o 0) os)) s k
    | _ => none
  | .makeFunc (.func f) first caps => match first.toList with
    | [] => match allPtrs (lmap (eval s) caps.toList) with
      | some os => k (.clo f os) s
      | none => none
    | _ => none
  | .makeMap t r => match isTy Θ t .map with
    | true => match r with
      | none => k (.map s.n) (s.new (.map mnil))
      | some x => match eval s x with
        | .int _ _ => k (.map s.n) (s.new (.map mnil))
        | _ => none
    | false => none
  | .lookup t x i false => match isTy Θ t .map, eval s x, eval s i with
    | true, .map o, .int .i64 n => match s.obj o with
      | .map g => k (.int .i64 (mget g n)) s
      | _ => none
    | _, _, _ => none
  | .nilCheck x => match eval s x with
    | .ptr o c => k (.ptr o c) s
    | .rp r l i c => k (.rp r l i c) s
    | .op o i c => k (.op o i c) s
    | .clo f os => k (.clo f os) s
    | _ => none
  | .insert t x i v => match isTy Θ t .map, eval s x with
    | true, .map o => match eval s i, eval s v with
      | .int .i64 n, .int .i64 y => match s.obj o with
        | .map g => k .undef (s.setObj o (.map (mput g n y)))
        | _ => none
      | _, _ => none
    | _, _ => none
  | .mapUpdate t x i v => match isTy Θ t .map, eval s x with
    | true, .map o => match eval s i, eval s v with
      | .int .i64 n, .int .i64 y => match s.obj o with
        | .map g => k .undef (s.setObj o (.map (mput g n y)))
        | _ => none
      | _, _ => none
    | _, _ => none
  | _ => none

def put (s : St) (d : Option Nat) (v : V) : St := match d with
  | some d => s.setTmp d v
  | none => s

/-- one operation of a region, if it is wanted -/
def evOne (Θ : Tab) (Γ : Env) (all : List Oper) (o : Oper) (s : St) (k : St → Option ρ) : Option ρ :=
  match o.guard with
  | none => evOp Θ Γ o.op s fun v s' => V.force v fun v => k (put s' o.dst v)
  | some (j, want) => match lget? all j with
    | some { dst := some d, .. } => match s.tmp d with
      | .lit b => match want, b with
        | true, true => evOp Θ Γ o.op s fun v s' => V.force v fun v => k (put s' o.dst v)
        | false, false => evOp Θ Γ o.op s fun v s' => V.force v fun v => k (put s' o.dst v)
        | _, _ => k (put s o.dst .undef)
      | .bool b => match want with
        | true => dif b (evOp Θ Γ o.op (s.setTmp d (.lit true)) fun v s' => V.force v fun v => k (put s' o.dst v)) (k (put (s.setTmp d (.lit false)) o.dst .undef))
        | false => dif b (k (put (s.setTmp d (.lit true)) o.dst .undef)) (evOp Θ Γ o.op (s.setTmp d (.lit false)) fun v s' => V.force v fun v => k (put s' o.dst v))
      | _ => none
    | _ => none
def evOps (Θ : Tab) (Γ : Env) (all : List Oper) : List Oper → St → (St → Option ρ) → Option ρ
  | [], s, k => k s
  | o :: rest, s, k => evOne Θ Γ all o s fun s => evOps Θ Γ all rest s k

/-! #### regions whose order is drawn -/
/-- an operation that writes no variable -/
def softOp (Γ : Env) (o : Op) : Bool := match o with
  | .store _ _ _ => false
  | .call { callee := .value (.func f), .. } => match Γ.at f with
    | some sp => match sp.ins.ptrs with
      | [] => true
      | _ => false
    | none => false
  | .call { callee := .value (.tmp _), .. } => false
  | _ => true
/-- an operation that yields its value and does nothing else -/
def quietOp (o : Op) : Bool := match o with
  | .nilCheck _ | .makeFunc _ _ _ | .move _ | .assign _ | .pick _ _ _ | .load _ _ | .fieldAddr _ _ _ | .indexAddr _ _ _ | .index _ _ _ | .binOp _ _ _ _ _ | .unOp _ _ _ | .convert _ _ _ | .extract _ _ | .build _ _ => true
  | .call { callee := .builtin .len, .. } | .call { callee := .builtin .min, .. } | .call { callee := .builtin .max, .. } => true
  | _ => false
/-- what it loads is no element of a row of one's own -/
def calmOp (s : St) (o : Op) : Bool := match o with
  | .load _ x => match eval s x with
    | .op _ _ _ => false
    | _ => true
  | _ => true
def memb (i : Nat) : List Nat → Bool
  | [] => false
  | x :: xs => match Nat.beq x i with | true => true | false => memb i xs
def bindsAny (e : Edge) : Bool := match e.ground with
  | .textOnly _ => false
  | .gcOnly _ => false
  | _ => true
def edgeOk (done : List Nat) (e : Edge) : Bool := match bindsAny e with | true => memb e.on done | false => true
def readyL (done : List Nat) : Nat → List Oper → List Nat
  | _, [] => []
  | i, o :: r => match memb i done, lall (edgeOk done) o.after.toList with
    | false, true => i :: readyL done (Nat.succ i) r
    | _, _ => readyL done (Nat.succ i) r
def waitsFor (i : Nat) (o : Oper) : Bool := match lall (fun e => match bindsAny e with | true => (match Nat.beq e.on i with | true => false | false => true) | false => true) o.after.toList with
  | true => false
  | false => true
def freeL (ops : Array Oper) (done : List Nat) (i : Nat) (oi : Oper) : Nat → List Oper → Bool
  | _, [] => true
  | j, oj :: r => match Nat.beq j i, memb j done, waitsFor i oj, oi.apart ops oj with
    | false, false, false, false => false
    | _, _, _, _ => freeL ops done i oi (Nat.succ j) r
def pickQuiet (ops : Array Oper) (done : List Nat) : List Nat → Option Nat
  | [] => none
  | i :: r => match lget? ops.toList i with
    | some o => match quietOp o.op, freeL ops done i o 0 ops.toList with
      | true, true => some i
      | _, _ => pickQuiet ops done r
    | none => none
def notSelect (o : Oper) : Bool := match o.op with
  | .select _ _ => false
  | _ => true
/-- an order: quiet operations first, else the only one that may come up -/
def drawOrder (Γ : Env) (ops : Array Oper) : Nat → List Nat → Option (List (Nat × Bool))
  | 0, done => match readyL done 0 ops.toList with | [] => some [] | _ => none
  | n + 1, done => match readyL done 0 ops.toList with
    | [] => none
    | i :: r => match pickQuiet ops done (i :: r) with
      | some i => match drawOrder Γ ops n (i :: done) with
        | some l => some ((i, true) :: l)
        | none => none
      | none => match r, lget? ops.toList i with
        | [], some o => match softOp Γ o.op, drawOrder Γ ops n (i :: done) with
          | true, some l => some ((i, false) :: l)
          | _, _ => none
        | _, _ => none
def evSeq (Θ : Tab) (Γ : Env) (all : List Oper) : List (Nat × Bool) → St → (St → Option ρ) → Option ρ
  | [], s, k => k s
  | p :: rest, s, k => match lget? all p.1 with
    | some o => match p.2 with
      | true => match calmOp s o.op with
        | true => evOne Θ Γ all o s fun s => evSeq Θ Γ all rest s k
        | false => none
      | false => evOne Θ Γ all o s fun s => evSeq Θ Γ all rest s k
    | none => none
def evDrawn (Θ : Tab) (Γ : Env) (ops : Array Oper) (s : St) (k : St → Option ρ) : Option ρ :=
  match lall notSelect ops.toList with
  | true => match drawOrder Γ ops (llen ops.toList) [] with
    | some order => evSeq Θ Γ ops.toList order s k
    | none => none
  | false => none

/-- the shape of a state at a loop's head: for each slot its kind; par: the variable that argument number j led to -/
inductive Sh where
  | val (k : CK) (own : Bool)
  | box (cells : List (CK × Bool))
  | par (j : Nat) (cells : List (CK × Bool))
  | fpar (j : Nat) (row : List CK)
  | cpar (j : Nat) (fn : Nat) (js : List Nat)
def Sh.row : Sh → List CK
  | .val k _ => [k]
  | .box cells => kinds cells
  | .par _ cells => kinds cells
  | .fpar _ row => row
  | .cpar _ _ _ => []
abbrev Slots := List (Nat × Sh)
def Slots.rows : Slots → List (List CK)
  | [] => []
  | a :: r => consR a.2.row (Slots.rows r)
abbrev Slots.T (a : Slots) : Type := PT a.rows
def sjoin {i : Nat} (a : Sh) (r : Slots) (x : Row a.row) (y : Slots.T r) : Slots.T ((i, a) :: r) := pcons a.row r.rows x y
def ssplit {i : Nat} (a : Sh) (r : Slots) (x : Slots.T ((i, a) :: r)) : Row a.row × Slots.T r := psplit a.row r.rows x
structure LSpec (ρ : Type) where
  slots : Slots
  f : slots.T → Option ρ
/-- a loop: what is carried from round to round; what the function yields from there on, in so many rounds -/
structure LFam (ρ : Type) where
  slots : Slots
  f : Nat → slots.T → Option ρ
abbrev LFams (ρ : Type) := List (Nat × LFam ρ)
def LFam.at (n : Nat) (p : Nat × LFam ρ) : Nat × LSpec ρ := (p.1, ⟨p.2.slots, p.2.f n⟩)

def findL (Λ : List (Nat × LSpec ρ)) (i : Nat) : Option (LSpec ρ) := match Λ with
  | [] => none
  | p :: r => sel (Nat.beq p.1 i) (some p.2) (findL r i)
def findF (Φ : LFams ρ) (i : Nat) : Option (LFam ρ) := match Φ with
  | [] => none
  | p :: r => sel (Nat.beq p.1 i) (some p.2) (findF r i)

def takeSlots (s : St) : (slots : Slots) → Option (slots.T × St)
  | [] => some ((), s)
  | (i, .val c own) :: r => match V.take s (sel own 2 1) c (s.tmp i) with
    | some (x, s) => match takeSlots s r with
      | some (y, s) => some (sjoin (i := i) (.val c own) r x y, s)
      | none => none
    | none => none
  | (i, .box cells) :: r => match s.tmp i with
    | .ptr o 0 => match s.obj o with
      | .box cs => match takeCells (s.setObj o .dead) 1 cells cs with
        | some (x, s) => match takeSlots s r with
          | some (y, s) => some (sjoin (i := i) (.box cells) r x y, s)
          | none => none
        | none => none
      | _ => none
    | _ => none
  | (i, .par j cells) :: r => match s.tmp i with
    | .ptr o 0 => match Nat.beq o j, s.obj o with
      | true, .box cs => match takeCells (s.setObj o .dead) 1 cells cs with
        | some (x, s) => match takeSlots s r with
          | some (y, s) => some (sjoin (i := i) (.par j cells) r x y, s)
          | none => none
        | none => none
      | _, _ => none
    | _ => none
  | (i, .fpar j row) :: r => match s.tmp i with
    | .ptr o 0 => match Nat.beq o j, s.obj o with
      | true, .fbox row' x => match castR row' row x with
        | some x => match takeSlots s r with
          | some (y, s) => some (sjoin (i := i) (.fpar j row) r x y, s)
          | none => none
        | none => none
      | _, _ => none
    | _ => none
  | (i, .cpar j fn js) :: r => match s.tmp i with
    | .ptr o 0 => match Nat.beq o j, s.obj o with
      | true, .box [.clo f os] => match Nat.beq f fn, natsEq os js with
        | true, true => match takeSlots (s.setObj o .dead) r with
          | some (y, s) => some (sjoin (i := i) (.cpar j fn js) r () y, s)
          | none => none
        | _, _ => none
      | _, _ => none
    | _ => none

def initSlots (kp : Nat) : (slots : Slots) → slots.T → St → (St → Option ρ) → Option ρ
  | [], _, s, k => k s
  | (i, .val c own) :: r, x, s, k =>
    let p := ssplit (i := i) (.val c own) r x
    s.put1 c own p.1 fun v s' => initSlots kp r p.2 (s'.setTmp i v) k
  | (i, .box cells) :: r, x, s, k =>
    let p := ssplit (i := i) (.box cells) r x
    outCells cells p.1 s fun vs s' => V.forces vs fun vs => initSlots kp r p.2 ((s'.new (.box vs)).setTmp i (.ptr s'.n 0)) k
  | (i, .par j cells) :: r, x, s, k =>
    match Nat.blt j kp with
    | true =>
      let p := ssplit (i := i) (.par j cells) r x
      outCells cells p.1 s fun vs s' => V.forces vs fun vs => initSlots kp r p.2 ((s'.setObj j (.box vs)).setTmp i (.ptr j 0)) k
    | false => none
  | (i, .fpar j row) :: r, x, s, k =>
    match Nat.blt j kp with
    | true =>
      let p := ssplit (i := i) (.fpar j row) r x
      initSlots kp r p.2 ((s.setObj j (.fbox row p.1)).setTmp i (.ptr j 0)) k
    | false => none
  | (i, .cpar j fn js) :: r, x, s, k =>
    match Nat.blt j kp, lall (fun j => Nat.blt j kp) js with
    | true, true =>
      let p := ssplit (i := i) (.cpar j fn js) r x
      initSlots kp r p.2 ((s.setObj j (.box [.clo fn js])).setTmp i (.ptr j 0)) k
    | _, _ => none

def firstRegion : Code → Nat
  | .region id _ _ => id
  | .seq a _ => firstRegion a
  | .block _ b => firstRegion b
  | .loop b => firstRegion b
  | _ => 0

def toLoop (s : St) (sp : LSpec ρ) : Option ρ := match takeSlots s sp.slots with
  | some (x, _) => sp.f x
  | none => none

def evC (Θ : Tab) (Γ : Env) (Λ : List (Nat × LSpec ρ)) (c : Code) (kn : St → Option ρ) (ke : Nat → St → Option ρ) (kr : St → Option ρ) (s : St) : Option ρ :=
  match c with
  | .skip => kn s
  | .region _ ops draw => match draw with
    | false => evOps Θ Γ ops.toList ops.toList s kn
    | true => evDrawn Θ Γ ops s kn
  | .seq a b => evC Θ Γ Λ a (fun s => evC Θ Γ Λ b kn ke kr s) ke kr s
  | .cond x a b => match eval s x with
    | .bool t => dif t (evC Θ Γ Λ a kn ke kr s) (evC Θ Γ Λ b kn ke kr s)
    | .lit true => evC Θ Γ Λ a kn ke kr s
    | .lit false => evC Θ Γ Λ b kn ke kr s
    | _ => none
  | .block id b => evC Θ Γ Λ b kn (fun j s => sel (Nat.beq j id) (kn s) (ke j s)) kr s
  | .exit id => ke id s
  | .ret => kr s
  | .loop b => match findL Λ (firstRegion b) with
    | some sp => toLoop s sp
    | none => none
  | _ => none

/-- the results at a return -/
def resVal (Θ : Tab) (s : St) : ResultVar → Option V
  | .tmp t => some (s.tmp t)
  | .cell t ty => match Θ.at ty, s.tmp t with
    | some ti, .ptr o 0 => match s.obj o with
      | .box cs => match fits ti 0 (llen cs) with
        | true => some (cut ti 0 cs)
        | false => none
      | _ => none
    | _, _ => none
def resVals (Θ : Tab) (s : St) : List ResultVar → Option (List V)
  | [] => some []
  | r :: rs => match resVal Θ s r with
    | some v => match resVals Θ s rs with
      | some vs => some (v :: vs)
      | none => none
    | none => none

/-- a variable that was handed over by its address is object number 0, 1, .. -/
def takeBack (s : St) : (ptrs : Args) → Nat → Option (ptrs.B × St)
  | [], _ => some ((), s)
  | a :: r, o => match a.mode with
    | 2 => match s.obj o with
      | .box cs => match takeCells (s.setObj o .dead) 1 a.bcells cs with
        | some (x, s) => match takeBack s r (Nat.succ o) with
          | some (y, s) => some (bjoin a r x y, s)
          | none => none
        | none => none
      | _ => none
    | 3 => match s.obj o, takeCells s 1 a.bcells [] with
      | .box [.clo f os], some (x, _) => match Nat.beq f a.fn, natsEq os a.js with
        | true, true => match takeBack (s.setObj o .dead) r (Nat.succ o) with
          | some (y, s) => some (bjoin a r x y, s)
          | none => none
        | _, _ => none
      | _, _ => none
    | _ => match takeCells s 1 a.bcells [] with
      | some (x, _) => match takeBack s r (Nat.succ o) with
        | some (y, s) => some (bjoin a r x y, s)
        | none => none
      | none => none

def ret (Θ : Tab) (fn : Func) (ins outs : Args) (s : St) : Option (Args.R outs ins.ptrs) :=
  match resVals Θ s fn.results.toList with
  | some vs => match takeArgs s 1 outs vs with
    | some (x, _, s) => match takeBack s ins.ptrs 0 with
      | some (y, _) => some (rjoin outs ins.ptrs x y)
      | none => none
    | none => none
  | none => none

/-- the arguments: the variables that pointers lead to are objects 0, 1, .. -/
def initArgs (kp : Nat) : (ins : Args) → ins.T → Nat → Nat → St → (St → Option ρ) → Option ρ
  | [], _, _, _, s, k => k s
  | a :: rest, x, i, o, s, k =>
    let p := asplit a rest x
    match a.mode with
    | 2 => outCells a.cells p.1 s fun vs s' => V.forces vs fun vs => initArgs kp rest p.2 (Nat.succ i) (Nat.succ o) ((s'.setObj o (.box vs)).setTmp i (.ptr o 0)) k
    | 3 => match lall (fun j => Nat.blt j kp) a.js with
      | true => initArgs kp rest p.2 (Nat.succ i) (Nat.succ o) ((s.setObj o (.box [.clo a.fn a.js])).setTmp i (.ptr o 0)) k
      | false => none
    | 4 => initArgs kp rest p.2 (Nat.succ i) (Nat.succ o) ((s.setObj o (.fbox (kinds a.cells) p.1)).setTmp i (.ptr o 0)) k
    | 1 => outCells a.cells p.1 s fun vs s' => V.forces vs fun vs => initArgs kp rest p.2 (Nat.succ i) o (s'.setTmp i (.agg vs)) k
    | 0 => outCells a.cells p.1 s fun vs s' => V.forces vs fun vs => initArgs kp rest p.2 (Nat.succ i) o (s'.setTmp i (mkV false vs)) k
    | _ => none

def run (Θ : Tab) (Γ : Env) (fn : Func) (c : Code) (ins outs : Args) (Λ : List (Nat × LSpec (Args.R outs ins.ptrs))) (x : ins.T) : Option (Args.R outs ins.ptrs) :=
  initArgs (llen ins.ptrs) ins x 0 0 { N := fn.ntmps, n := llen ins.ptrs, tmps := [], objs := [] } fun s => evC Θ Γ Λ c (ret Θ fn ins outs) (fun _ _ => none) (ret Θ fn ins outs) s

/-- one round of a loop -/
def round (N kp : Nat) (Θ : Tab) (Γ : Env) (Λ : List (Nat × LSpec ρ)) (body : Code) (kn : St → Option ρ) (ke : Nat → St → Option ρ) (kr : St → Option ρ) (slots : Slots) (x : slots.T) : Option ρ :=
  initSlots kp slots x { N := N, n := kp, tmps := [], objs := [] } fun s => evC Θ Γ Λ body kn ke kr s
end Rig
