/- A meaning by run: values with numbered blocks, the state, and what each operation comes to. -/
import Derived.Calls
import Derived.Laws.Sem
import Derived.Below
import Derived.Laws.IdiomCopy
import Derived.Deep.AppendSrc
import Derived.Deep.MidRow
import Derived.Laws.Append
set_option linter.unusedVariables false
set_option linter.unusedSimpArgs false
namespace Go.Run
open Go
noncomputable section

/-- A value. A text: its length, and its bytes as one number, the first one the least. 'ivec', 'svec': one of several, lane by lane. -/
inductive V where
  | int (k : IntKind) (n : Int)
  | bool (b : Bool)
  | str (n x : Nat)
  | ivec (k : IntKind) (l : List Int)
  | svec (n : Nat) (l : List Nat)
  | sl (b off len : Nat)
  | sl0
  | sle (b off : Nat)
  | nils
  | ptr (b off : Nat)
  | nilp
  | clo (f : FuncId) (fst caps : List V)
  | nilf
  | nili
  | erri
  | undef
  | agg (xs : List V)
  | tup (xs : List V)
  | junk

/-- .. where a value is there. -/
def ob {α β : Type} (x : Option α) (k : α → Option β) : Option β := Option.rec none k x
/-- .. where it is true. -/
def bt {α : Type} (b : Bool) (x : Option α) : Option α := Bool.rec none x b
theorem ob_some {α β : Type} {x : Option α} {k : α → Option β} {r : β} (h : ob x k = some r) : ∃ a, x = some a ∧ k a = some r := by
  cases x with
  | none => cases h
  | some a => exact ⟨a, rfl, h⟩
theorem bt_some {α : Type} {b : Bool} {x : Option α} {r : α} (h : bt b x = some r) : b = true ∧ x = some r := by
  cases b with
  | false => cases h
  | true => exact ⟨rfl, h⟩

inductive Tr (α : Type) where
  | nil
  | node (l : Tr α) (v : Option α) (r : Tr α)
/-- One of two, by a number's last bit. -/
def par {β : Type} (n : Nat) (x y : β) : β := Nat.rec x (fun _ _ => y) (Nat.mod n 2)
def Tr.get {α : Type} (t : Tr α) : Nat → Option α := Tr.rec (motive := fun _ => Nat → Option α) (fun _ => none)
  (fun _ v _ gl gr k => Nat.rec v (fun j _ => par j (gl (Nat.div j 2)) (gr (Nat.div j 2))) k) t
def Tr.one {α : Type} (f : Nat) : Nat → α → Tr α := Nat.rec (motive := fun _ => Nat → α → Tr α) (fun _ _ => .nil)
  (fun _ g k x => Nat.rec (.node .nil (some x) .nil) (fun j _ => par j (.node (g (Nat.div j 2) x) none .nil) (.node .nil none (g (Nat.div j 2) x))) k) f
def Tr.set {α : Type} (f : Nat) (t : Tr α) (k : Nat) (x : α) : Tr α := Tr.rec (motive := fun _ => Nat → Nat → Tr α) (fun f k => Tr.one f k x)
  (fun l v r sl sr f k => Nat.rec (.node l v r) (fun f _ => Nat.rec (.node l (some x) r) (fun j _ => par j (.node (sl f (Nat.div j 2)) v r) (.node l v (sr f (Nat.div j 2)))) k) f) t f k

/-- A block: its elements' type and size, its cells; may it be written; the blocks that may be its own beginning. -/
structure Blk where
  ty : TypeId
  sz : Nat
  cells : List V
  opn : Bool
  anc : List Nat

structure Hp where
  next : Nat
  t : Tr Blk

/-- A frame: which slots are variables (bit by bit), what a region has yielded, the newest first; the variables. -/
structure Env where
  n : Nat
  m : Nat
  loc : List (Nat × V)
  g : Tr V
/-- By a slot's bit. -/
def bitR {β : Type} (m t : Nat) (x y : β) : β := Nat.rec x (fun _ _ => y) (Nat.mod (Nat.shiftRight m t) 2)
def Env.get (env : Env) (t : Nat) : Option V := bitR env.m t (List.rec none (fun p _ ih => Bool.rec ih (some p.2) (Nat.beq p.1 t)) env.loc) (env.g.get t)
def Env.set (env : Env) (t : Nat) (v : V) : Env := Bool.rec env (bitR env.m t ⟨env.n, env.m, (t, v) :: env.loc, env.g⟩ ⟨env.n, env.m, env.loc, Tr.set 12 env.g t v⟩) (Nat.blt t env.n)
/-- Behind a region. -/
def Env.shut (env : Env) : Env := ⟨env.n, env.m, [], env.g⟩

/-- What is known of a type. -/
structure E where
  row : Bool
  size : Nat
  bytes : Nat
  offs : List (Option Nat)
  elem : Option TypeId
  isBool : Bool
  isStr : Bool
  ik : Option IntKind
  parts : List (Nat × Nat)
  zero : List V
  ones : List (Option (Nat × Nat × Bool))
  kind : Nat
  flat : Option (List Nat)

def nth {α : Type} (l : List α) : Nat → Option α := List.rec (motive := fun _ => Nat → Option α) (fun _ => none) (fun x _ ih k => Nat.rec (some x) (fun j _ => ih j) k) l
def dropN {α : Type} (l : List α) : Nat → List α := List.rec (motive := fun _ => Nat → List α) (fun _ => []) (fun x r ih k => Nat.rec (x :: r) (fun j _ => ih j) k) l
def takeN {α : Type} (l : List α) : Nat → Option (List α) := List.rec (motive := fun _ => Nat → Option (List α)) (fun k => Nat.rec (some []) (fun _ _ => none) k)
  (fun x _ ih k => Nat.rec (some []) (fun j _ => ob (ih j) fun l => some (x :: l)) k) l
/-- Cells written over others, from a place on. -/
def over {α : Type} (vs : List α) : List α → Option (List α) := List.rec (motive := fun _ => List α → Option (List α)) (fun l => some l)
  (fun v _ ih l => List.rec none (fun _ r _ => ob (ih r) fun l => some (v :: l)) l) vs
def splice {α : Type} (vs : List α) (l : List α) : Nat → Option (List α) := List.rec (motive := fun _ => Nat → Option (List α)) (fun k => Nat.rec (over vs []) (fun _ _ => none) k)
  (fun x r ih k => Nat.rec (over vs (x :: r)) (fun j _ => ob (ih j) fun l => some (x :: l)) k) l

/-- A kind's numbers that are no less than 0 lie below it. -/
def lim : IntKind → Nat
  | .i8 => 128 | .i16 => 32768 | .i32 => 2147483648 | .i64 => 9223372036854775808
  | .u8 => 256 | .u16 => 65536 | .u32 => 4294967296 | .u64 => 18446744073709551616
def sgn : IntKind → Bool | .i8 => true | .i16 => true | .i32 => true | .i64 => true | _ => false
def wrapF (k : IntKind) (x : Int) : Int := match x with
  | .ofNat n => Bool.rec (k.wrap x) x (Nat.blt n (lim k))
  | .negSucc n => Bool.rec (k.wrap x) (Bool.rec (k.wrap x) x (Nat.blt n (lim k))) (sgn k)

def encL (l : List UInt8) : Nat := List.rec 0 (fun b _ s => Nat.add b.toNat (Nat.mul 256 s)) l
def encB (s : ByteArray) : V := .str s.data.toList.length (encL s.data.toList)

def ofConst : Value → Option V
  | .int k n => some (.int k n)
  | .bool b => some (.bool b)
  | .string s => some (encB s)
  | .slice none 0 0 => some .nils
  | .pointer none => some .nilp
  | .nilFunc => some .nilf
  | .nilIface => some .nili
  | _ => none
def ev (env : Env) (x : Operand) : Option V := match x with
  | .tmp t => env.get t
  | .const c => ofConst c
  | .func f => some (.clo f [] [])
  | .global _ => none
def evs (env : Env) (l : List Operand) : Option (List V) := List.rec (some []) (fun x _ ih => ob (ev env x) fun v => ob ih fun vs => some (v :: vs)) l
def evp (env : Env) (l : List (Nat × Operand)) : Option (List (Nat × V)) := List.rec (some []) (fun p _ ih => ob (ev env p.2) fun v => ob ih fun vs => some ((p.1, v) :: vs)) l

def V.flat : V → Option (List V)
  | .agg xs => some xs
  | .tup _ => none
  | .junk => none
  | x => some [x]
def asBool : V → Option Bool | .bool b => some b | _ => none
def asNat : V → Option Nat | .int _ (.ofNat n) => some n | _ => none

/-- The texts' order: is the first one less? -/
def less (f : Nat) : Nat → Nat → Nat → Nat → Bool := Nat.rec (motive := fun _ => Nat → Nat → Nat → Nat → Bool) (fun _ _ _ _ => false)
  (fun _ ih n x m y => Nat.rec false (fun m' _ => Nat.rec true (fun n' _ => Bool.rec (Bool.rec false (ih n' (Nat.div x 256) m' (Nat.div y 256)) (Nat.beq (Nat.mod x 256) (Nat.mod y 256))) true (Nat.blt (Nat.mod x 256) (Nat.mod y 256))) n) m) f
def strEq (n x m y : Nat) : Bool := Bool.rec false (Nat.beq x y) (Nat.beq n m)
def intEq : Int → Int → Bool
  | .ofNat a, .ofNat b => Nat.beq a b
  | .negSucc a, .negSucc b => Nat.beq a b
  | _, _ => false
def intLt : Int → Int → Bool
  | .ofNat a, .ofNat b => Nat.blt a b
  | .negSucc a, .negSucc b => Nat.blt b a
  | .negSucc _, .ofNat _ => true
  | .ofNat _, .negSucc _ => false
def bnot (b : Bool) : Bool := Bool.rec true false b
def intLe (a b : Int) : Bool := bnot (intLt b a)
def boolEq (a b : Bool) : Bool := Bool.rec (bnot b) b a
def ikN : IntKind → Nat | .i8 => 0 | .i16 => 1 | .i32 => 2 | .i64 => 3 | .u8 => 4 | .u16 => 5 | .u32 => 6 | .u64 => 7
def ikEq (a b : IntKind) : Bool := Nat.beq (ikN a) (ikN b)

/-- Two numbers' operation: a number. -/
def opI : BinOp → IntKind → Int → Int → Option Int
  | .add, k, a, b => some (wrapF k (Int.add a b))
  | .sub, k, a, b => some (wrapF k (Int.sub a b))
  | .mul, k, a, b => some (wrapF k (Int.mul a b))
  | .quo, k, a, .ofNat (b + 1) => some (wrapF k (Int.tdiv a (.ofNat (b + 1))))
  | .rem, _, a, .ofNat (b + 1) => some (Int.tmod a (.ofNat (b + 1)))
  | .and, k, .ofNat a, .ofNat b => bt (Nat.blt a (lim k)) (bt (Nat.blt b (lim k)) (some (.ofNat (Nat.land a b))))
  | .or, k, .ofNat a, .ofNat b => bt (Nat.blt a (lim k)) (bt (Nat.blt b (lim k)) (some (.ofNat (Nat.lor a b))))
  | .xor, k, .ofNat a, .ofNat b => bt (Nat.blt a (lim k)) (bt (Nat.blt b (lim k)) (some (.ofNat (Nat.xor a b))))
  | _, _, _, _ => none
/-- .. a truth value. -/
def opB : BinOp → Option (Int → Int → Bool)
  | .eql => some intEq
  | .neq => some fun a b => bnot (intEq a b)
  | .lss => some intLt
  | .leq => some intLe
  | .gtr => some fun a b => intLt b a
  | .geq => some fun a b => intLe b a
  | _ => none
def opS : BinOp → Nat → Nat → Nat → Nat → Option V
  | .add, n, x, m, y => bt (Nat.ble (Nat.add n m) 9223372036854775807) (some (.str (Nat.add n m) (Nat.add x (Nat.mul (Nat.pow 256 n) y))))
  | .eql, n, x, m, y => some (.bool (strEq n x m y))
  | .neq, n, x, m, y => some (.bool (bnot (strEq n x m y)))
  | .lss, n, x, m, y => some (.bool (less (Nat.add n (Nat.add m 1)) n x m y))
  | .leq, n, x, m, y => some (.bool (bnot (less (Nat.add n (Nat.add m 1)) m y n x)))
  | .gtr, n, x, m, y => some (.bool (less (Nat.add n (Nat.add m 1)) m y n x))
  | .geq, n, x, m, y => some (.bool (bnot (less (Nat.add n (Nat.add m 1)) n x m y)))
  | _, _, _, _, _ => none
/-- Are they all the same truth value? -/
def uni (l : List Bool) : Option Bool := List.rec none (fun b r _ => bt (List.rec true (fun c _ ih => Bool.rec false ih (boolEq b c)) r) (some b)) l
def zipI (f : Int → Int → Option Int) (a : List Int) : List Int → Option (List Int) := List.rec (motive := fun _ => List Int → Option (List Int)) (fun l => List.rec (some []) (fun _ _ _ => none) l)
  (fun x _ ih l => List.rec none (fun y s _ => ob (f x y) fun z => ob (ih s) fun r => some (z :: r)) l) a
def zipB (f : Int → Int → Bool) (a : List Int) : List Int → Option (List Bool) := List.rec (motive := fun _ => List Int → Option (List Bool)) (fun l => List.rec (some []) (fun _ _ _ => none) l)
  (fun x _ ih l => List.rec none (fun y s _ => ob (ih s) fun r => some (f x y :: r)) l) a
def mapI (f : Int → Option Int) (a : List Int) : Option (List Int) := List.rec (some []) (fun x _ ih => ob (f x) fun z => ob ih fun r => some (z :: r)) a
def binI (op : BinOp) (k : IntKind) (a b : Int) : Option V := Option.rec (ob (opI op k a b) fun n => some (.int k n)) (fun f => some (.bool (f a b))) (opB op)
def binIv (op : BinOp) (k : IntKind) (a b : List Int) : Option V := Option.rec (ob (zipI (opI op k) a b) fun l => some (.ivec k l)) (fun f => ob (zipB f a b) fun l => ob (uni l) fun b => some (.bool b)) (opB op)
def binIl (op : BinOp) (k : IntKind) (a : List Int) (b : Int) : Option V := Option.rec (ob (mapI (fun x => opI op k x b) a) fun l => some (.ivec k l)) (fun f => ob (uni (a.map fun x => f x b)) fun b => some (.bool b)) (opB op)
def binIr (op : BinOp) (k : IntKind) (a : Int) (b : List Int) : Option V := Option.rec (ob (mapI (fun x => opI op k a x) b) fun l => some (.ivec k l)) (fun f => ob (uni (b.map fun x => f a x)) fun b => some (.bool b)) (opB op)
def zipN (f : Nat → Nat → Nat) (a : List Nat) : List Nat → Option (List Nat) := List.rec (motive := fun _ => List Nat → Option (List Nat)) (fun l => List.rec (some []) (fun _ _ _ => none) l)
  (fun x _ ih l => List.rec none (fun y s _ => ob (ih s) fun r => some (f x y :: r)) l) a
/-- Texts, lane by lane. -/
def opSv : BinOp → Nat → List Nat → Nat → List Nat → Option V
  | .add, n, x, m, y => bt (Nat.ble (Nat.add n m) 9223372036854775807) (ob (zipN (fun x y => Nat.add x (Nat.mul (Nat.pow 256 n) y)) x y) fun l => some (.svec (Nat.add n m) l))
  | .eql, n, x, m, y => Bool.rec (some (.bool false)) (ob (zipN (fun x y => Bool.rec 0 1 (Nat.beq x y)) x y) fun l => ob (uni (l.map (Nat.beq 1))) fun b => some (.bool b)) (Nat.beq n m)
  | .neq, n, x, m, y => Bool.rec (some (.bool true)) (ob (zipN (fun x y => Bool.rec 0 1 (Nat.beq x y)) x y) fun l => ob (uni (l.map (Nat.beq 1))) fun b => some (.bool (bnot b))) (Nat.beq n m)
  | _, _, _, _, _ => none

/-- Cells of a kind (0 a truth value, 1 a number, 2 a text): are they alike? -/
def cellEq (kd : Nat) : V → V → Option Bool
  | .int k a, .int k' b => bt (Nat.beq kd 1) (bt (ikEq k k') (some (intEq a b)))
  | .bool a, .bool b => bt (Nat.beq kd 0) (some (boolEq a b))
  | .str n x, .str m y => bt (Nat.beq kd 2) (some (strEq n x m y))
  | .ivec k a, .ivec k' b => bt (Nat.beq kd 1) (bt (ikEq k k') (ob (zipB intEq a b) uni))
  | .ivec k a, .int k' b => bt (Nat.beq kd 1) (bt (ikEq k k') (uni (a.map fun x => intEq x b)))
  | .int k a, .ivec k' b => bt (Nat.beq kd 1) (bt (ikEq k k') (uni (b.map fun x => intEq a x)))
  | _, _ => none
def cellsEq (ks : List Nat) : List V → List V → Option Bool := List.rec (motive := fun _ => List V → List V → Option Bool) (fun xs ys => List.rec (List.rec (some true) (fun _ _ _ => none) ys) (fun _ _ _ => none) xs)
  (fun k _ ih xs ys => List.rec none (fun x xs _ => List.rec none (fun y ys _ => ob (cellEq k x y) fun b => ob (ih xs ys) fun c => some (Bool.rec false c b)) ys) xs) ks
/-- Is it the nil of its kind (1 a slice, 2 a pointer, 3 a function, 4 an interface)? -/
def isNil (kind : Nat) : V → Option Bool
  | .nils => bt (Nat.beq kind 1) (some true)
  | .sl .. => bt (Nat.beq kind 1) (some false)
  | .sl0 => bt (Nat.beq kind 1) (some false)
  | .sle .. => bt (Nat.beq kind 1) (some false)
  | .nilp => bt (Nat.beq kind 2) (some true)
  | .ptr .. => bt (Nat.beq kind 2) (some false)
  | .nilf => bt (Nat.beq kind 3) (some true)
  | .clo .. => bt (Nat.beq kind 3) (some false)
  | .nili => bt (Nat.beq kind 4) (some true)
  | .erri => bt (Nat.beq kind 4) (some false)
  | _ => none
def bor (a b : Bool) : Bool := Bool.rec b true a
def band (a b : Bool) : Bool := Bool.rec false b a
/-- One of two is nil: are they alike? -/
def nilEq (kind : Nat) (cst : Bool) (x y : V) : Option Bool := ob (isNil kind x) fun a => ob (isNil kind y) fun b => bt (bor a b) (bt (bor (bnot (band a b)) (bor cst (bnot (Nat.beq kind 4)))) (some (band a b)))
def eqV (d : E) (cst : Bool) : V → V → Option Bool
  | .bool a, .bool b => bt d.isBool (some (boolEq a b))
  | .agg xs, .agg ys => ob d.flat fun ks => cellsEq ks xs ys
  | x, y => nilEq d.kind cst x y

section
variable (T : TypeId → Option E)
def binE (op : BinOp) (xt : TypeId) (cst : Bool) (x y : V) : Option V := match op with
  | .eql => ob (T xt) fun d => ob (eqV d cst x y) fun b => some (.bool b)
  | .neq => ob (T xt) fun d => ob (eqV d cst x y) fun b => some (.bool (bnot b))
  | _ => none
def shf : BinOp → IntKind → Int → Int → Option V
  | .shl, k, a, .ofNat n => bt (Nat.ble n k.bits) (some (.int k (wrapF k (Int.mul a (.ofNat (Nat.pow 2 n))))))
  | .shr, k, .ofNat a, .ofNat n => bt (Nat.ble n k.bits) (some (.int k (.ofNat (Nat.div a (Nat.pow 2 n)))))
  | _, _, _, _ => none
def asI : V → Option Int | .int _ n => some n | _ => none
def shfL (op : BinOp) (k : IntKind) (a : List Int) (b : Int) : Option V := ob (mapI (fun x => ob (shf op k x b) asI) a) fun l => some (.ivec k l)
def bin (op : BinOp) (xt : TypeId) (cst : Bool) : V → V → Option V
  | .int k a, .int k' b => Bool.rec (shf op k a b) (Option.rec (shf op k a b) (fun v => some v) (binI op k a b)) (ikEq k k')
  | .str n a, .str m b => opS op n a m b
  | .ivec k a, .ivec k' b => bt (ikEq k k') (binIv op k a b)
  | .ivec k a, .int k' b => Bool.rec (shfL op k a b) (Option.rec (shfL op k a b) (fun v => some v) (binIl op k a b)) (ikEq k k')
  | .int k a, .ivec k' b => bt (ikEq k k') (binIr op k a b)
  | .svec n a, .svec m b => opSv op n a m b
  | .svec n a, .str m b => opSv op n a m (a.map fun _ => b)
  | .str n a, .svec m b => opSv op n (b.map fun _ => a) m b
  | x, y => binE T op xt cst x y
def un : UnOp → V → Option V
  | .not, .bool b => some (.bool (bnot b))
  | .neg, .int k n => some (.int k (wrapF k (Int.sub 0 n)))
  | _, _ => none

def getB (h : Hp) (b : Nat) : Option Blk := h.t.get b
def setB (h : Hp) (b : Nat) (x : Blk) : Hp := ⟨h.next, Tr.set 40 h.t b x⟩
def newB (h : Hp) (x : Blk) (k : Nat → V) : Option (V × Hp) := bt (Nat.blt h.next 1000000) (some (k h.next, ⟨Nat.add h.next 1, Tr.set 40 h.t h.next x⟩))
/-- A block of which nothing is known any more. -/
def Blk.dead (x : Blk) : Blk := ⟨x.ty, x.sz, [], false, []⟩
def kill (l : List Nat) : Hp → Hp := List.rec (motive := fun _ => Hp → Hp) (fun h => h) (fun a _ ih h => Option.rec (ih h) (fun x => ih (setB h a x.dead)) (getB h a)) l
def Blk.put (x : Blk) (cs : List V) : Blk := ⟨x.ty, x.sz, cs, x.opn, []⟩
def Blk.shut (x : Blk) : Blk := ⟨x.ty, x.sz, x.cells, false, x.anc⟩
def loadC (h : Hp) (b off n : Nat) : Option (List V) := ob (getB h b) fun x => takeN (dropN x.cells off) n
def storeC (h : Hp) (b off : Nat) (vs : List V) : Option Hp := ob (getB h b) fun x => bt x.opn (ob (splice vs x.cells off) fun cs => some (kill x.anc (setB h b (x.put cs))))

def load (d : E) (h : Hp) : V → Option V
  | .ptr b off => ob (getB h b) fun x => Bool.rec (nth x.cells off) (ob (takeN (dropN x.cells off) d.size) fun l => some (.agg l)) d.row
  | _ => none
def store (d : E) (v : V) (h : Hp) : V → Option Hp
  | .ptr b off => ob v.flat fun xs => bt (Nat.beq xs.length d.size) (storeC h b off xs)
  | _ => none
def fill (place : Nat → Option (Nat × Nat)) (ps : List (Nat × V)) : List V → Option (List V) := List.rec (motive := fun _ => List V → Option (List V)) (fun cells => some cells)
  (fun p _ ih cells => ob (place p.1) fun q => ob p.2.flat fun xs => bt (Nat.beq xs.length q.2) (ob (splice xs cells q.1) ih)) ps
def rep (z : List V) (n : Nat) : List V := Nat.rec [] (fun _ ih => z ++ ih) n
def fieldAddr (d : E) (f : Nat) : V → Option V
  | .ptr b off => ob (nth d.offs f) fun o => ob o fun o => some (.ptr b (Nat.add off o))
  | _ => none
def elemOf (t : TypeId) : Option (TypeId × E) := ob (T t) fun d => ob d.elem fun e => ob (T e) fun de => some (e, de)
def indexAddr (sz : Nat) (i : Nat) : V → Option V
  | .sl b off len => bt (Nat.blt i len) (some (.ptr b (Nat.add off (Nat.mul i sz))))
  | _ => none
def byteN (x i : Nat) : Nat := Nat.mod (Nat.div x (Nat.pow 256 i)) 256
/-- One number, where all lanes have the same one. -/
def same (l : List Nat) : Option Nat := List.rec none (fun n r _ => bt (List.rec true (fun m _ ih => Bool.rec false ih (Nat.beq n m)) r) (some n)) l
def lanesB (l : List Nat) : V := Option.rec (.ivec .u8 (l.map Int.ofNat)) (fun n => .int .u8 (.ofNat n)) (same l)
def lanesS (n : Nat) (l : List Nat) : V := Option.rec (.svec n l) (fun s => .str n s) (same l)
def index (i : Nat) : V → Option V
  | .str n s => bt (Nat.blt i n) (some (.int .u8 (.ofNat (byteN s i))))
  | .svec n l => bt (Nat.blt i n) (some (lanesB (l.map fun s => byteN s i)))
  | _ => none
def cutN (lo hi s : Nat) : Nat := Nat.mod (Nat.div s (Nat.pow 256 lo)) (Nat.pow 256 (Nat.sub hi lo))
/-- An optional bound. -/
def bnd (env : Env) (dflt : Nat) (x : Option Operand) : Option Nat := Option.rec (some dflt) (fun x => ob (ev env x) asNat) x
def sliceSl (h : Hp) (sz b off lo hi : Nat) : Option V := ob (getB h b) fun x => bt (Nat.blt 0 sz) (bt (Nat.beq x.sz sz) (bt (Nat.ble lo hi) (bt (Nat.ble (Nat.add off (Nat.mul hi sz)) x.cells.length)
  (Bool.rec (Nat.rec (some (.sl b off 0)) (fun _ _ => Bool.rec (some (.sle b (Nat.add off (Nat.mul lo sz)))) (some (.sl b (Nat.add off (Nat.mul lo sz)) 0)) (Nat.blt (Nat.add off (Nat.mul lo sz)) x.cells.length)) lo)
    (some (.sl b (Nat.add off (Nat.mul lo sz)) (Nat.sub hi lo))) (Nat.blt lo hi)))))
def slice (env : Env) (h : Hp) (d : E) (lo hi mx : Option Operand) : V → Option V
  | .str n s => bt d.isStr (Option.rec (ob (bnd env 0 lo) fun l => ob (bnd env n hi) fun u => bt (Nat.ble l u) (bt (Nat.ble u n) (some (.str (Nat.sub u l) (cutN l u s))))) (fun _ => none) mx)
  | .svec n s => bt d.isStr (Option.rec (ob (bnd env 0 lo) fun l => ob (bnd env n hi) fun u => bt (Nat.ble l u) (bt (Nat.ble u n) (some (lanesS (Nat.sub u l) (s.map (cutN l u)))))) (fun _ => none) mx)
  | .sl b off len => ob d.elem fun e => ob (T e) fun de => ob (bnd env 0 lo) fun l => ob (bnd env len hi) fun u => Option.rec (sliceSl h de.size b off l u)
      (fun m => ob (bnd env 0 (some m)) fun m => bt hi.isSome (bt (Nat.ble l u) (bt (Nat.ble u m) (Nat.rec (some .sl0) (fun _ _ => ob (getB h b) fun x => bt (Nat.blt 0 de.size) (bt (Nat.beq x.sz de.size) (bt (Nat.ble (Nat.add off (Nat.mul m de.size)) x.cells.length) (some .junk)))) m)))) mx
  | .nils => ob d.elem fun e => ob (T e) fun _ => ob (bnd env 0 lo) fun l => ob (bnd env 0 hi) fun u => ob (bnd env 0 mx) fun m => bt (Nat.beq u 0) (bt (Nat.beq m 0) (bt (Nat.beq l 0) (bt (bor (bnot mx.isSome) hi.isSome) (some .nils))))
  | _ => none
def ikU8 (k : Option IntKind) : Bool := Option.rec false (fun k => Nat.beq (ikN k) 4) k
def natB (x : Int) : Option Nat := match x with | .ofNat n => bt (Nat.blt n 256) (some n) | _ => none
def natsB (l : List Int) : Option (List Nat) := List.rec (some []) (fun x _ ih => ob (natB x) fun n => ob ih fun r => some (n :: r)) l
/-- A byte ahead of a text. -/
def consB : V → V → Option V
  | .int .u8 n, .str m x => ob (natB n) fun n => some (.str (Nat.add m 1) (Nat.add n (Nat.mul 256 x)))
  | .int .u8 n, .svec m l => ob (natB n) fun n => some (.svec (Nat.add m 1) (l.map fun x => Nat.add n (Nat.mul 256 x)))
  | .ivec .u8 l, .str m x => ob (natsB l) fun ns => some (.svec (Nat.add m 1) (ns.map fun n => Nat.add n (Nat.mul 256 x)))
  | .ivec .u8 l, .svec m l' => ob (natsB l) fun ns => ob (zipN (fun n x => Nat.add n (Nat.mul 256 x)) ns l') fun r => some (.svec (Nat.add m 1) r)
  | _, _ => none
def bytesV (l : List V) : Option V := List.rec (some (.str 0 0)) (fun v _ ih => ob ih fun s => consB v s) l
def strCells (n : Nat) : Nat → List V := Nat.rec (motive := fun _ => Nat → List V) (fun _ => []) (fun _ ih s => .int .u8 (.ofNat (Nat.mod s 256)) :: ih (Nat.div s 256)) n
def svecCells (n : Nat) : List Nat → List V := Nat.rec (motive := fun _ => List Nat → List V) (fun _ => []) (fun _ ih l => lanesB (l.map fun s => Nat.mod s 256) :: ih (l.map fun s => Nat.div s 256)) n
/-- What an operation comes to. -/
inductive Rs where
  | val (v : V) (h : Hp)
  | call (f : FuncId) (args : List V)
def rv (h : Hp) (x : Option V) : Option Rs := ob x fun v => some (.val v h)
def rvh (x : Option (V × Hp)) : Option Rs := ob x fun p => some (.val p.1 p.2)
/-- A type of whose rows no texts are made. -/
def rowT : Nat := 51
def conv (s t : TypeId) (h : Hp) : V → Option Rs
  | .int _ n => ob (T s) fun _ => ob (T t) fun d => Option.rec (bt d.isStr (ob (asNat (.int .i64 n)) fun n => bt (Nat.blt n 128) (some (.val (.str 1 n) h)))) (fun k => some (.val (.int k (wrapF k n)) h)) d.ik
  | .ivec _ l => ob (T s) fun _ => ob (T t) fun d => ob d.ik fun k => some (.val (.ivec k (l.map (wrapF k))) h)
  | .str n x => ob (T s) fun _ => ob (T t) fun d => Bool.rec (ob d.elem fun e => ob (T e) fun de => bt (ikU8 de.ik) (bt (Nat.ble n 1000000) (bt (bnot (Nat.beq e rowT)) (rvh (newB h ⟨e, 1, strCells n x, true, []⟩ fun b => .sl b 0 n))))) (some (.val (.str n x) h)) d.isStr
  | .svec n l => ob (T s) fun _ => ob (T t) fun d => bt d.isStr (some (.val (.svec n l) h))
  | .nils => ob (elemOf T s) fun p => ob (T t) fun d => bt (ikU8 p.2.ik) (bt d.isStr (some (.val (.str 0 0) h)))
  | .sl b off len => ob (elemOf T s) fun p => ob (T t) fun d => bt (ikU8 p.2.ik) (Bool.rec (bt (Nat.beq s t) (ob (getB h b) fun x => bt x.opn (bt (bnot (Nat.beq x.ty rowT)) (some (.val (.sl b off len) h))))) (ob (loadC h b off len) fun l => rv h (bytesV l)) d.isStr)
  | _ => none
/-- A slice's cells. -/
def cellsOf (h : Hp) (sz : Nat) : V → Option (Nat × List V)
  | .nils => some (0, [])
  | .sl0 => some (0, [])
  | .sle .. => some (0, [])
  | .sl b off len => ob (loadC h b off (Nat.mul len sz)) fun l => some (len, l)
  | _ => none
def appIn (e : TypeId) (de : E) (b off len n : Nat) (vs : List V) (h : Hp) : Option (V × Hp) := ob (getB h b) fun x => bt x.opn (bt (Nat.ble len 1000000) (bt (Nat.ble (Nat.mul (Nat.add len n) de.bytes) 1000000000) (bt (Nat.beq x.sz de.size) (bt (Nat.beq x.ty e)
  (Bool.rec (bt (Nat.beq (Nat.add off (Nat.mul len de.size)) x.cells.length) (newB (setB h b x.shut) ⟨e, de.size, dropN x.cells off ++ vs, true, b :: x.anc⟩ fun b' => .sl b' 0 (Nat.add len n)))
    (ob (storeC h b (Nat.add off (Nat.mul len de.size)) vs) fun h => some (.sl b off (Nat.add len n), h))
    (Nat.ble (Nat.add (Nat.add off (Nat.mul len de.size)) (Nat.mul n de.size)) x.cells.length))))))
def appE (e : TypeId) (de : E) (b off n : Nat) (vs : List V) (h : Hp) : Option (V × Hp) := ob (getB h b) fun x => bt x.opn (bt (Nat.beq x.sz de.size) (bt (Nat.beq x.ty e) (bt (Nat.beq off x.cells.length) (newB (setB h b x.shut) ⟨e, de.size, vs, true, b :: x.anc⟩ fun b' => .sl b' 0 n))))
def appV (e : TypeId) (de : E) (n : Nat) (vs : List V) (h : Hp) : V → Option (V × Hp)
  | .nils => newB h ⟨e, de.size, vs, true, []⟩ fun b => .sl b 0 n
  | .sl0 => newB h ⟨e, de.size, vs, true, []⟩ fun b => .sl b 0 n
  | .sl b off len => appIn e de b off len n vs h
  | .sle b off => appE e de b off n vs h
  | _ => none
def isSl : V → Bool | .nils => true | .sl0 => true | .sle .. => true | .sl .. => true | _ => false
def appendV (e : TypeId) (de : E) (s : V) (n : Nat) (vs : List V) (h : Hp) : Option (V × Hp) := Nat.rec (bt (isSl s) (some (s, h)))
  (fun _ _ => bt (Nat.ble (Nat.mul n de.bytes) 1000000000) (bt (Nat.ble n 1000000) (bt (Nat.blt 0 de.size) (appV e de n vs h s)))) n
/-- What is appended. -/
def appS (de dx : E) (h : Hp) : V → Option (Nat × List V)
  | .str n y => bt dx.isStr (bt (Nat.beq de.size 1) (bt (ikU8 de.ik) (some (n, strCells n y))))
  | .svec n l => bt dx.isStr (bt (Nat.beq de.size 1) (bt (ikU8 de.ik) (some (n, svecCells n l))))
  | x => bt dx.elem.isSome (cellsOf h de.size x)
def appX (de dx : E) (h : Hp) (x : V) : Option (Nat × List V) := Option.rec (appS de dx h x) (fun _ => ob (asNat x) fun n => bt (Nat.ble n 1000000) (some (n, rep de.zero n))) dx.ik
def lenV : V → Option Nat
  | .str n _ => some n
  | .svec n _ => some n
  | .sl _ _ n => some n
  | .sl0 => some 0
  | .sle .. => some 0
  | .nils => some 0
  | _ => none
def vInt (n : Nat) : V := .int .i64 (.ofNat n)

/-- Is a value of a type whose length is asked? -/
def lenT (d : E) : V → Bool
  | .str .. => d.isStr
  | .svec .. => d.isStr
  | _ => d.elem.isSome
def bLen (h : Hp) (vs : List V) (ts : List TypeId) : Option Rs := match vs, ts with | [x], [t] => ob (T t) fun d => bt (lenT d x) (ob (lenV x) fun n => some (.val (vInt n) h)) | _, _ => none
def bCap (h : Hp) (vs : List V) (ts : List TypeId) : Option Rs := match vs, ts with | [.nils], [t] => ob (elemOf T t) fun _ => some (.val (vInt 0) h) | _, _ => none
def bAppend (h : Hp) (vs : List V) (ts : List TypeId) : Option Rs := match vs, ts with
  | [s, x], [t, t'] => ob (elemOf T t) fun p => ob (T t') fun dx => ob (appX p.2 dx h x) fun q => rvh (appendV p.1 p.2 s q.1 q.2 h)
  | _, _ => none
def bCopy (h : Hp) (vs : List V) (ts : List TypeId) : Option Rs := match vs, ts with
  | [.sl b off len, x], [t, _] => ob (elemOf T t) fun p => ob (cellsOf h p.2.size x) fun q => bt (Nat.ble q.1 len) (ob (storeC h b off q.2) fun h => some (.val (vInt q.1) h))
  | _, _ => none
def bClear (h : Hp) (vs : List V) (ts : List TypeId) : Option Rs := match vs, ts with
  | [.sl b off len], [t] => ob (elemOf T t) fun p => ob (storeC h b off (rep p.2.zero len)) fun h => some (.val (.tup []) h)
  | [x], [t] => ob (elemOf T t) fun _ => bt (isSl x) (some (.val (.tup []) h))
  | _, _ => none
def bMin (h : Hp) (vs : List V) : Option Rs := match vs with | [.int k x, .int k' y] => bt (ikEq k k') (some (.val (.int k (Bool.rec x y (intLt y x))) h)) | _ => none
def bMax (h : Hp) (vs : List V) : Option Rs := match vs with | [.int k x, .int k' y] => bt (ikEq k k') (some (.val (.int k (Bool.rec x y (intLt x y))) h)) | _ => none
def builtin (b : Builtin) (h : Hp) (vs : List V) (ts : List TypeId) : Option Rs := match b with
  | .len => bLen T h vs ts
  | .cap => bCap T h vs ts
  | .append => bAppend T h vs ts
  | .copy => bCopy T h vs ts
  | .clear => bClear T h vs ts
  | .min => bMin h vs
  | .max => bMax h vs
  | _ => none
def cloCall (vs : List V) : V → Option Rs
  | .clo f fst caps => some (.call f (fst ++ (vs ++ caps)))
  | _ => none
def callee (env : Env) (h : Hp) (vs : List V) (ts : List TypeId) (c : Callee) : Option Rs := match c with
  | .value f => ob (ev env f) (cloCall vs)
  | .invoke .. => none
  | .builtin b => builtin T b h vs ts

abbrev St1 := Env → Hp → Option Rs
def oMove (x : Operand) : St1 := fun env h => rv h (ev env x)
def oPick (c a b : Operand) : St1 := fun env h => ob (ev env c) fun c => ob (asBool c) fun c => rv h (Bool.rec (ev env b) (ev env a) c)
def oAlloc (t : TypeId) : St1 := fun _ h => ob (T t) fun d => rvh (newB h ⟨t, d.size, d.zero, true, []⟩ fun b => .ptr b 0)
def oBox (t : TypeId) (x : Operand) : St1 := fun env h => ob (ev env x) fun v => ob v.flat fun xs => rvh (newB h ⟨t, xs.length, xs, true, []⟩ fun b => .ptr b 0)
def oBuild (t : TypeId) (ps : Array (Nat × Operand)) : St1 := fun env h => ob (T t) fun d => ob (evp env ps.toList) fun vs => bt (bnot (List.isEmpty d.parts)) (ob (fill (nth d.parts) vs d.zero) fun l => some (.val (.agg l) h))
def oBuildSlice (t : TypeId) (n : Nat) (ps : Array (Nat × Operand)) : St1 := fun env h => ob (elemOf T t) fun p => ob (evp env ps.toList) fun vs => bt (Nat.ble (Nat.mul n p.2.size) 16777216)
  (ob (fill (fun i => some (Nat.mul i p.2.size, p.2.size)) vs (rep p.2.zero n)) fun l => rvh (newB h ⟨p.1, p.2.size, l, true, []⟩ fun b => .sl b 0 n))
def oLoad (t : TypeId) (x : Operand) : St1 := fun env h => ob (T t) fun d => ob (ev env x) fun p => rv h (load d h p)
def oStore (t : TypeId) (x y : Operand) : St1 := fun env h => ob (T t) fun d => ob (ev env x) fun p => ob (ev env y) fun v => ob (store d v h p) fun h => some (.val .junk h)
def isRef : V → Bool | .ptr .. => true | .clo .. => true | _ => false
def oNil (x : Operand) : St1 := fun env h => ob (ev env x) fun v => bt (isRef v) (some (.val v h))
def isC : Operand → Bool | .const _ => true | _ => false
def oBin (op : BinOp) (xt : TypeId) (cst : Bool) (x y : Operand) : St1 := fun env h => ob (ev env x) fun x => ob (ev env y) fun y => rv h (bin T op xt cst x y)
def oUn (op : UnOp) (x : Operand) : St1 := fun env h => ob (ev env x) fun x => rv h (un op x)
def oConv (s d : TypeId) (x : Operand) : St1 := fun env h => ob (ev env x) fun x => conv T s d h x
def oMakeFunc (f : Fn) (first caps : Array Operand) : St1 := fun env h => match f with
  | .func f => ob (evs env first.toList) fun us => ob (evs env caps.toList) fun vs => some (.val (.clo f us vs) h)
  | _ => none
def oMakeSlice (t : TypeId) (l c : Operand) : St1 := fun env h => ob (elemOf T t) fun p => ob (ev env l) fun l => ob (asNat l) fun l => ob (ev env c) fun c => ob (asNat c) fun c =>
  bt (Nat.ble l c) (bt (Nat.ble (Nat.mul c p.2.bytes) 1000000000) (bt (Nat.ble c 1000000) (rvh (newB h ⟨p.1, p.2.size, rep p.2.zero c, true, []⟩ fun b => .sl b 0 l))))
def oSlice (t : TypeId) (x : Operand) (lo hi mx : Option Operand) : St1 := fun env h => ob (T t) fun d => ob (ev env x) fun x => rv h (slice T env h d lo hi mx x)
def oFieldAddr (t : TypeId) (x : Operand) (f : Nat) : St1 := fun env h => ob (T t) fun d => ob (ev env x) fun x => rv h (fieldAddr d f x)
def fieldV (xs : List V) (o : Nat × Nat × Bool) : Option V := Bool.rec (nth xs o.1) (ob (takeN (dropN xs o.1) o.2.1) fun l => some (.agg l)) o.2.2
def asAgg : V → Option (List V) | .agg xs => some xs | _ => none
def asTup : V → Option (List V) | .tup xs => some xs | _ => none
def oField (t : TypeId) (x : Operand) (f : Nat) : St1 := fun env h => ob (T t) fun d => ob (ev env x) fun x => ob (asAgg x) fun xs => ob (nth d.ones f) fun o => ob o fun o => rv h (fieldV xs o)
def oIndexAddr (t : TypeId) (x i : Operand) : St1 := fun env h => ob (elemOf T t) fun p => ob (ev env x) fun x => ob (ev env i) fun i => ob (asNat i) fun i => rv h (indexAddr p.2.size i x)
def oIndex (t : TypeId) (x i : Operand) : St1 := fun env h => ob (T t) fun d => bt d.isStr (ob (ev env x) fun x => ob (ev env i) fun i => ob (asNat i) fun i => rv h (index i x))
def oExtract (x : Operand) (i : Nat) : St1 := fun env h => ob (ev env x) fun x => ob (asTup x) fun xs => rv h (nth xs i)
def oCall (c : Call) : St1 := fun env h => ob (evs env c.args.toList) fun vs => callee T env h vs c.argTypes.toList c.callee
def oNo : St1 := fun _ _ => none
def step (o : Op) : St1 := match o with
  | .move x => oMove x
  | .assign x => oMove x
  | .pick c a b => oPick c a b
  | .alloc t => oAlloc T t
  | .box t x => oBox t x
  | .build t ps => oBuild T t ps
  | .buildSlice t n ps => oBuildSlice T t n ps
  | .load t p => oLoad T t p
  | .store t p x => oStore T t p x
  | .nilCheck x => oNil x
  | .binOp op xt x y _ => oBin T op xt (bor (isC x) (isC y)) x y
  | .unOp op _ x => oUn op x
  | .convert s d x => oConv T s d x
  | .makeFunc f first caps => oMakeFunc f first caps
  | .makeSlice t l c => oMakeSlice T t l c
  | .slice t x lo hi mx => oSlice T t x lo hi mx
  | .fieldAddr t x f => oFieldAddr T t x f
  | .field t x f => oField T t x f
  | .indexAddr t x i => oIndexAddr T t x i
  | .index t x i => oIndex T t x i
  | .extract x i => oExtract x i
  | .call c => oCall T c
  | _ => oNo

/-- Is an operation wanted? -/
def wantV (b : Bool) : V → Option Bool
  | .bool c => some (boolEq c b)
  | .tup [] => some false
  | _ => none
def want (ops : List Oper) (env : Env) (o : Oper) : Option Bool := Option.rec (some true) (fun g => ob (nth ops g.1) fun p => ob p.dst fun d => ob (env.get d) (wantV g.2)) o.guard
def putE (env : Env) (v : V) (d : Option Tmp) : Env := Option.rec env (fun d => env.set d v) d

abbrev CallF := FuncId → List V → Hp → Option (V × Hp)
def resV (cf : CallF) (h0 : Hp) (r : Rs) : Option (V × Hp) := match r with
  | .val v h => some (v, h)
  | .call f args => cf f args h0
def oneV (cf : CallF) (ops : List Oper) (o : Oper) (env : Env) (h : Hp) : Option (V × Hp) := ob (want ops env o) fun b => Bool.rec (some (.tup [], h)) (ob (step T o.op env h) (resV cf h)) b
def one (cf : CallF) (ops : List Oper) (o : Oper) (env : Env) (h : Hp) : Option (Env × Hp) := ob (oneV T cf ops o env h) fun p => some (putE env p.1 o.dst, p.2)
def listR (cf : CallF) (ops : List Oper) (l : List Oper) : Env → Hp → Option (Env × Hp) := List.rec (motive := fun _ => Env → Hp → Option (Env × Hp)) (fun env h => some (env, h))
  (fun o _ ih env h => ob (one T cf ops o env h) fun p => ih p.1 p.2) l
inductive Ex where
  | normal
  | exit (id : Nat)
  | ret
structure Rt where
  ex : Ex
  env : Env
  h : Hp
def Rt.isNormal (r : Rt) : Bool := match r.ex with | .normal => true | _ => false
def iter (body : Env → Hp → Option Rt) (n : Nat) : Env → Hp → Option Rt := Nat.rec (motive := fun _ => Env → Hp → Option Rt) (fun _ _ => none)
  (fun _ ih env h => ob (body env h) fun r => Bool.rec (some r) (ih r.env r.h) r.isNormal) n
def unblk (id : Nat) (r : Rt) : Rt := match r.ex with
  | .exit k => Bool.rec r ⟨.normal, r.env, r.h⟩ (Nat.beq k id)
  | _ => r
abbrev CodeF := Env → Hp → Option Rt
def cEx (e : Ex) : CodeF := fun env h => some ⟨e, env, h⟩
def cRegion (cf : CallF) (ops : List Oper) : CodeF := fun env h => ob (listR T cf ops ops env h) fun p => some ⟨.normal, p.1.shut, p.2⟩

/-- What an operation waits for. -/
def aft (o : Oper) : List Nat := o.after.toList.filterMap fun e => bif Region.binds .any e then some e.on else none
def tb (m j : Nat) : Bool := Nat.beq (Nat.mod (Nat.shiftRight m j) 2) 1
def bitOf (acc : List Nat) (j : Nat) : Nat := Nat.lor (Nat.shiftLeft 1 j) (acc.getD j 0)
/-- All that comes ahead of each operation, bit by bit. -/
def downs : List Oper → List Nat → List Nat
  | [], acc => acc
  | o :: r, acc => downs r (acc ++ [(aft o).foldl (fun m j => Nat.lor m (bitOf acc j)) 0])
def dnOf (D : List Nat) (i : Nat) : Nat := D.getD i 0
def tmpOf : Operand → List Nat | .tmp t => [t] | _ => []
def guardOf (ops : List Oper) (o : Oper) : List Nat := match o.guard with
  | some g => (match (ops[g.1]?).bind (·.dst) with | some d => [d] | none => [])
  | none => []
/-- The slots that an operation looks at. -/
def looks (ops : List Oper) (o : Oper) : List Nat := o.op.operands.toList.flatMap tmpOf ++ guardOf ops o
def flatT (t : TypeId) : Bool := match T t with | some d => d.isStr || d.elem.isNone | none => false
/-- What an operation is for the order: 0 no variable is looked at, 1 some may be, 3 one is made that anyone may make first, 2 any other one. -/
def cls (o : Oper) : Nat := match o.op with
  | .move _ => 0 | .assign _ => 0 | .pick .. => 0 | .binOp .. => 0 | .unOp .. => 0 | .fieldAddr .. => 0 | .field .. => 0 | .extract .. => 0 | .index .. => 0 | .indexAddr .. => 0
  | .build .. => 0 | .nilCheck _ => 0 | .makeFunc .. => 0
  | .load .. => 1
  | .slice .. => 1
  | .convert _ t _ => bif flatT T t then 1 else 2
  | .call c => (match c.callee with | .builtin .len => 0 | .builtin .min => 0 | .builtin .max => 0 | _ => 2)
  | .alloc _ => bif o.guard.isNone && o.dst.isSome && (aft o).isEmpty then 3 else 2
  | _ => 2
def idx (l : List Oper) : List (Nat × Oper) := (List.range l.length).zip l
/-- Each slot that an operation looks at and that one of the region's sets: one of the two comes ahead of the other. -/
def looksOk (ops : List Oper) (D : List Nat) : Bool := (idx ops).all fun p => (looks ops p.2).all fun t => (idx ops).all fun q => match q.2.dst with | some d => !(Nat.beq d t) || (tb (dnOf D p.1) q.1 || tb (dnOf D q.1) p.1) | none => true
def dstsOk : List Oper → Bool
  | [] => true
  | o :: r => (match o.dst with | some d => r.all (fun p => match p.dst with | some e => !(Nat.beq d e) | none => true) | none => true) && dstsOk r
def isCls (k : Nat) (ops : List Oper) (i : Nat) : Bool := match ops[i]? with | some o => Nat.beq (cls T o) k | none => false
def ofCls (k : Nat) (ops : List Oper) : List Nat := (List.range ops.length).filter (isCls T k ops)
def effs (ops : List Oper) : List Nat := ofCls T 2 ops
def effsOk (D : List Nat) : List Nat → Bool
  | [] => true
  | j :: r => r.all (fun i => tb (dnOf D i) j) && effsOk D r
def ordered (ops : List Oper) : Bool := (idx ops).all fun p => (aft p.2).all fun j => Nat.blt j p.1
def drawOk (ops : List Oper) : Bool := ordered ops && dstsOk ops && looksOk ops (downs ops []) && effsOk (downs ops []) (effs T ops) && Nat.ble (ofCls T 3 ops).length 1
/-- How many of those that may set variables come ahead of an operation at the least, at the most. -/
def lo (ops : List Oper) (D : List Nat) (q : Nat) : Nat := ((effs T ops).filter fun j => tb (dnOf D q) j).length
def hi (ops : List Oper) (D : List Nat) (q : Nat) : Nat := ((effs T ops).filter fun j => !(tb (dnOf D j) q)).length
/-- The states to look at: behind which operations. -/
def phases (ops : List Oper) (a b : Nat) : List Nat := ((0 :: (effs T ops).map (· + 1)).take (b + 1)).drop a
def plan (ops : List Oper) : List (Nat × List Nat) := (ofCls T 1 ops).filterMap fun q => bif Nat.blt (lo T ops (downs ops []) q) (hi T ops (downs ops []) q) then some (q, phases T ops (lo T ops (downs ops []) q) (hi T ops (downs ops []) q)) else none
def freeOf (ops : List Oper) : Option (Nat × List Nat) := match ofCls T 3 ops with | [] => none | f :: _ => some (f, phases T ops 0 (hi T ops (downs ops []) f))

def listEq {α : Type} (f : α → α → Bool) (a : List α) : List α → Bool := List.rec (motive := fun _ => List α → Bool) (fun l => List.rec true (fun _ _ _ => false) l)
  (fun x _ ih l => List.rec false (fun y s _ => Bool.rec false (ih s) (f x y)) l) a
def veq1 : V → V → Bool
  | .int k a, .int k' b => band (ikEq k k') (intEq a b)
  | .bool a, .bool b => boolEq a b
  | .str n x, .str m y => strEq n x m y
  | .ivec k a, .ivec k' b => band (ikEq k k') (listEq intEq a b)
  | .svec n a, .svec m b => band (Nat.beq n m) (listEq Nat.beq a b)
  | .sl b o l, .sl b' o' l' => band (Nat.beq b b') (band (Nat.beq o o') (Nat.beq l l'))
  | .sl0, .sl0 => true
  | .sle b o, .sle b' o' => band (Nat.beq b b') (Nat.beq o o')
  | .nils, .nils => true
  | .ptr b o, .ptr b' o' => band (Nat.beq b b') (Nat.beq o o')
  | .nilp, .nilp => true
  | .clo f [] [], .clo g [] [] => Nat.beq f g
  | .nilf, .nilf => true
  | .nili, .nili => true
  | .erri, .erri => true
  | .undef, .undef => true
  | _, _ => false
def veq : V → V → Bool
  | .agg xs, .agg ys => listEq veq1 xs ys
  | x, y => veq1 x y
abbrev St := Env × Hp
/-- All states on the way. -/
def trace (cf : CallF) (ops : List Oper) (fr : Nat) (l : List Oper) : Nat → Env → Hp → Option (List St) := List.rec (motive := fun _ => Nat → Env → Hp → Option (List St)) (fun _ env h => some [(env, h)])
  (fun o _ ih i env h => ob (Bool.rec (one T cf ops o env h) (some (env, h)) (Nat.beq i fr)) fun p => ob (ih (Nat.add i 1) p.1 p.2) fun r => some ((env, h) :: r)) l
def allN (f : Nat → Bool) (l : List Nat) : Bool := List.rec true (fun x _ ih => Bool.rec false ih (f x)) l
/-- An operation yields the same in other states. -/
def same1 (cf : CallF) (ops : List Oper) (sts : List St) (q : Nat) (is : List Nat) : Option Bool := ob (nth ops q) fun o => ob (nth sts q) fun s => ob (oneV T cf ops o s.1 s.2) fun p => some (allN (fun i => Option.rec false (fun t => Option.rec false (fun r => veq p.1 r.1) (oneV T cf ops o s.1 t.2)) (nth sts i)) is)
def sameAll (cf : CallF) (ops : List Oper) (sts : List St) (l : List (Nat × List Nat)) : Bool := List.rec true (fun p _ ih => Bool.rec false ih (Option.rec false (fun b => b) (same1 T cf ops sts p.1 p.2))) l
/-- A block still holds nothing. -/
def zeroB (d : E) (t m : Nat) (h : Hp) : Bool := Option.rec false (fun x => band (Nat.beq x.ty t) (band (Nat.beq x.sz d.size) (band (listEq veq1 x.cells d.zero) (band x.opn (List.isEmpty x.anc))))) (getB h m)
def allocT (o : Oper) : Option Nat := match o.op with | .alloc t => some t | _ => none
def isPtr (m : Nat) : V → Bool | .ptr b o => band (Nat.beq b m) (Nat.beq o 0) | _ => false
def cFrom (cf : CallF) (ops : List Oper) (fr : Nat) (k : List St → Bool) : CodeF := fun env h => ob (trace T cf ops fr ops 0 env h) fun sts => bt (k sts) (bt (sameAll T cf ops sts (plan T ops)) (ob (nth sts ops.length) fun q => some ⟨.normal, q.1.shut, q.2⟩))
/-- A region that draws its order. -/
def cDraw (cf : CallF) (ops : List Oper) : CodeF := bif drawOk T ops then
    match freeOf T ops with
    | none => cFrom T cf ops ops.length fun _ => true
    | some (f, is) => fun env h => ob (nth ops f) fun o => ob (allocT o) fun t => ob (T t) fun d => ob (newB h ⟨t, d.size, d.zero, true, []⟩ fun b => .ptr b 0) fun p =>
      cFrom T cf ops f (fun sts => allN (fun i => Option.rec false (fun s => zeroB d t h.next s.2) (nth sts i)) is) (putE env p.1 o.dst) p.2
  else fun _ _ => none
def cSeq (a b : CodeF) : CodeF := fun env h => ob (a env h) fun r => Bool.rec (some r) (b r.env r.h) r.isNormal
def cCond (c : Operand) (a b : CodeF) : CodeF := fun env h => ob (ev env c) fun c => ob (asBool c) fun c => Bool.rec (b env h) (a env h) c
def cBlock (id : Nat) (a : CodeF) : CodeF := fun env h => ob (a env h) fun r => some (unblk id r)
def cLoop (a : CodeF) : CodeF := fun env h => iter a 100000 env h
def cNo : CodeF := fun _ _ => none
def code (cf : CallF) (c : Code) : CodeF := Code.rec (motive := fun _ => CodeF) (cEx .normal) (fun _ ops b => Bool.rec (cRegion T cf ops.toList) (cDraw T cf ops.toList) b) (fun _ _ a b => cSeq a b) (fun c _ _ a b => cCond c a b) (fun id _ a => cBlock id a)
  (fun _ a => cLoop a) (fun _ _ _ _ _ _ => cNo) (fun id => cEx (.exit id)) (fun _ _ => cNo) (fun _ => cEx .normal) (fun _ => cNo) (cEx .ret) (fun _ => cNo) c
def res1 (env : Env) (h : Hp) : ResultVar → Option V
  | .tmp t => env.get t
  | .cell a t => ob (T t) fun d => ob (env.get a) fun p => load d h p
def resL (env : Env) (h : Hp) (l : List ResultVar) : Option (List V) := List.rec (some []) (fun r _ ih => ob (res1 T env h r) fun v => ob ih fun vs => some (v :: vs)) l
def tupV : List V → V
  | [v] => v
  | vs => .tup vs
def argE (l : List V) : Nat → Env → Env := List.rec (motive := fun _ => Nat → Env → Env) (fun _ e => e) (fun v _ ih i e => ih (Nat.add i 1) (e.set i v)) l
/-- A function, in short. -/
structure Fn where
  m : Nat
  ntmps : Nat
  results : List ResultVar
  body : Code
def Ex.ends : Ex → Bool | .exit _ => false | _ => true
def callB (cf : CallF) (fn : Fn) (args : List V) (h : Hp) : Option (V × Hp) := bt (Nat.ble args.length fn.ntmps) (bt (Nat.ble fn.ntmps 4000) (ob (code T cf fn.body (argE args 0 ⟨fn.ntmps, fn.m, [], .nil⟩) h) fun r =>
  bt r.ex.ends (ob (resL T r.env r.h fn.results) fun vs => some (tupV vs, r.h))))
abbrev Prim := List V → Hp → Option (V × Hp)
def call (F : FuncId → Option Fn) (prim : FuncId → Option Prim) (n : Nat) : CallF := Nat.rec (motive := fun _ => CallF) (fun _ _ _ => none)
  (fun _ ih f args h => Option.rec (ob (F f) fun fn => callB T ih fn args h) (fun p => p args h) (prim f)) n
end
end
end Go.Run
/- A meaning by run: the table of a program's types, its functions. -/
namespace Go.Run
open Go
noncomputable def ofCell : Value → V
  | .int k n => .int k n
  | .bool b => .bool b
  | .string s => encB s
  | .slice none 0 0 => .nils
  | .pointer none => .nilp
  | .nilFunc => .nilf
  | .nilIface => .nili
  | _ => .undef
noncomputable section
def offsOf (P : Program) : TypeDesc → List (Option Nat)
  | .struct fields => fields.toList.map fun f => match P.info? f.type with | some i => (match i.size with | 0 => none | _ + 1 => some f.offset) | none => none
  | _ => []
def partsOf (P : Program) : TypeDesc → List (Nat × Nat)
  | .struct fields => (fields.toList.mapM fun f => (P.info? f.type).map fun i => (f.offset, i.size)).getD []
  | _ => []
def rowOf : TypeDesc → Bool | .struct _ => true | .array _ _ => true | _ => false
def onesOf (P : Program) : TypeDesc → List (Option (Nat × Nat × Bool))
  | .struct fields => fields.toList.map fun f => match P.info? f.type, P.underlying f.type with | some i, some u => some (f.offset, i.size, rowOf u) | _, _ => none
  | _ => []
def kindOf : TypeDesc → Nat | .slice _ => 1 | .pointer _ => 2 | .func .. => 3 | .interface _ => 4 | _ => 0
def kdOf (P : Program) (t : TypeId) : Option Nat := match P.underlying t with | some .bool => some 0 | some (.int _) => some 1 | some .string => some 2 | _ => none
def kdsOf (P : Program) : Nat → List Field → Option (List Nat)
  | _, [] => some []
  | n, f :: fs => match kdOf P f.type, kdsOf P (n + 1) fs with
    | some k, some ks => if f.offset = n ∧ f.name ≠ "_" then some (k :: ks) else none
    | _, _ => none
def flatOf (P : Program) (t : TypeId) : TypeDesc → Option (List Nat)
  | .struct fields => if P.stoodInHeld t = false ∧ P.eqGuardType P.depth t = false then kdsOf P 0 fields.toList else none
  | _ => none
def eOf (P : Program) (t : TypeId) : Option E := match P.info? t, P.underlying t with
  | some i, some u => (match i.zero with
    | some z => if z.cells.size = i.size ∧ z.cells.toList.all Value.oneCell' = true then some { row := rowOf u, size := i.size, bytes := i.bytes, offs := offsOf P u, elem := (match u with | .slice e => some e | _ => none), isBool := (match u with | .bool => true | _ => false), isStr := (match u with | .string => true | _ => false), ik := (match u with | .int k => some k | _ => none), parts := partsOf P u, zero := z.cells.toList.map ofCell, ones := onesOf P u, kind := kindOf u, flat := flatOf P t u } else none
    | none => none)
  | _, _ => none
def fOf (P : Program) (K : FuncId → Nat) (f : FuncId) : Option Fn := match P.funcs[f]? with
  | some fn => (match fn.body with | some c => some ⟨K f, fn.ntmps, fn.results.toList, c⟩ | none => none)
  | none => none
end
end Go.Run
/- A meaning by run: tries, frames. -/
namespace Go.Run
open Go

theorem par_eq {β : Type} (n : Nat) (x y : β) : par n x y = if n % 2 = 0 then x else y := by
  unfold par
  show (Nat.rec x (fun _ _ => y) (n % 2) : β) = _
  rcases Nat.mod_two_eq_zero_or_one n with h | h <;> rw [h] <;> rfl
section
variable {α : Type}
theorem Tr.get_nil (k : Nat) : (Tr.nil : Tr α).get k = none := rfl
theorem Tr.get_zero (l r : Tr α) (v : Option α) : (Tr.node l v r).get 0 = v := rfl
theorem Tr.get_succ (l r : Tr α) (v : Option α) (j : Nat) : (Tr.node l v r).get (j + 1) = if j % 2 = 0 then l.get (j / 2) else r.get (j / 2) := by
  show par j (l.get (j / 2)) (r.get (j / 2)) = _
  exact par_eq _ _ _
theorem Tr.one_eq (k : Nat) (x : α) : ∀ f, Tr.one (f + 1) k x = match k with
    | 0 => .node .nil (some x) .nil
    | j + 1 => if j % 2 = 0 then .node (Tr.one f (j / 2) x) none .nil else .node .nil none (Tr.one f (j / 2) x) := by
  intro f
  cases k with
  | zero => rfl
  | succ j => exact par_eq _ _ _
theorem Tr.set_nil (f k : Nat) (x : α) : Tr.set f .nil k x = Tr.one f k x := rfl
theorem Tr.set_zero (l r : Tr α) (v : Option α) (k : Nat) (x : α) : Tr.set 0 (.node l v r) k x = .node l v r := rfl
theorem Tr.set_succ (f : Nat) (l r : Tr α) (v : Option α) (k : Nat) (x : α) : Tr.set (f + 1) (.node l v r) k x = match k with
    | 0 => .node l (some x) r
    | j + 1 => if j % 2 = 0 then .node (Tr.set f l (j / 2) x) v r else .node l v (Tr.set f r (j / 2) x) := by
  cases k with
  | zero => rfl
  | succ j => exact par_eq _ _ _
theorem Tr.get_one (x : α) : ∀ (f k : Nat), k + 1 < 2 ^ f → (Tr.one f k x).get k = some x
  | 0, k, h => by omega
  | f + 1, 0, _ => rfl
  | f + 1, j + 1, h => by
    have h' : j / 2 + 1 < 2 ^ f := by rw [Nat.pow_succ] at h; omega
    rw [Tr.one_eq]
    simp only []
    split
    · rename_i he
      rw [Tr.get_succ, if_pos he, Tr.get_one x f _ h']
    · rename_i he
      rw [Tr.get_succ, if_neg he, Tr.get_one x f _ h']
theorem Tr.get_one_ne (x : α) : ∀ (f k j : Nat), j ≠ k → (Tr.one f k x).get j = none
  | 0, _, _, _ => rfl
  | f + 1, 0, j, h => by
    cases j with
    | zero => exact absurd rfl h
    | succ j =>
      show (Tr.node .nil (some x) .nil).get (j + 1) = none
      rw [Tr.get_succ]
      split <;> rfl
  | f + 1, k + 1, j, h => by
    rw [Tr.one_eq]
    simp only []
    split
    · rename_i he
      cases j with
      | zero => rfl
      | succ j =>
        rw [Tr.get_succ]
        split
        · exact Tr.get_one_ne x f _ _ (by omega)
        · rfl
    · rename_i he
      cases j with
      | zero => rfl
      | succ j =>
        rw [Tr.get_succ]
        split
        · rfl
        · exact Tr.get_one_ne x f _ _ (by omega)
theorem Tr.get_set (x : α) : ∀ (f : Nat) (t : Tr α) (k : Nat), k + 1 < 2 ^ f → (Tr.set f t k x).get k = some x
  | f, .nil, k, h => by rw [Tr.set_nil]; exact Tr.get_one x f k h
  | 0, .node l v r, k, h => by omega
  | f + 1, .node l v r, 0, _ => rfl
  | f + 1, .node l v r, j + 1, h => by
    have h' : j / 2 + 1 < 2 ^ f := by rw [Nat.pow_succ] at h; omega
    rw [Tr.set_succ]
    simp only []
    split
    · rename_i he
      rw [Tr.get_succ, if_pos he, Tr.get_set x f _ _ h']
    · rename_i he
      rw [Tr.get_succ, if_neg he, Tr.get_set x f _ _ h']
theorem Tr.get_set_ne (x : α) : ∀ (f : Nat) (t : Tr α) (k j : Nat), j ≠ k → (Tr.set f t k x).get j = t.get j
  | f, .nil, k, j, h => by rw [Tr.set_nil]; exact Tr.get_one_ne x f k j h
  | 0, .node l v r, k, j, h => rfl
  | f + 1, .node l v r, 0, j, h => by
    cases j with
    | zero => exact absurd rfl h
    | succ j => rw [Tr.set_succ, Tr.get_succ, Tr.get_succ]
  | f + 1, .node l v r, k + 1, j, h => by
    rw [Tr.set_succ]
    simp only []
    split
    · rename_i he
      cases j with
      | zero => rfl
      | succ j =>
        rw [Tr.get_succ, Tr.get_succ]
        split
        · exact Tr.get_set_ne x f _ _ _ (by omega)
        · rfl
    · rename_i he
      cases j with
      | zero => rfl
      | succ j =>
        rw [Tr.get_succ, Tr.get_succ]
        split
        · rfl
        · exact Tr.get_set_ne x f _ _ _ (by omega)
theorem Tr.one_succ0 (f : Nat) (x : α) : Tr.one (f + 1) 0 x = .node .nil (some x) .nil := rfl
/-- Two places may be set in either order. -/
theorem Tr.set_comm (x y : α) : ∀ (f : Nat) (t : Tr α) (k j : Nat), j ≠ k → Tr.set f (Tr.set f t k x) j y = Tr.set f (Tr.set f t j y) k x
  | 0, t, k, j, _ => by cases t <;> rfl
  | f + 1, t, k, j, h => by
    have key : ∀ (l r : Tr α) (v : Option α), Tr.set (f + 1) (Tr.set (f + 1) (.node l v r) k x) j y = Tr.set (f + 1) (Tr.set (f + 1) (.node l v r) j y) k x := by
      intro l r v
      cases k with
      | zero =>
        cases j with
        | zero => exact absurd rfl h
        | succ j =>
          simp only [Tr.set_succ]
          split <;> simp only [Tr.set_succ]
      | succ k =>
        cases j with
        | zero =>
          simp only [Tr.set_succ]
          split <;> simp only [Tr.set_succ]
        | succ j =>
          by_cases hk : k % 2 = 0 <;> by_cases hj : j % 2 = 0 <;> simp only [Tr.set_succ, hk, hj, if_true, if_false, if_pos, if_neg, not_false_eq_true] <;>
            first | rfl | (rw [Tr.set_comm x y f _ _ _ (by omega)])
    cases t with
    | node l v r => exact key l r v
    | nil =>
      -- a new node has the shape of a node of nothing
      have e : ∀ (k : Nat) (x : α), Tr.set (f + 1) (.nil : Tr α) k x = Tr.set (f + 1) (.node .nil none .nil) k x := by
        intro k x
        rw [Tr.set_nil, Tr.set_succ, Tr.one_eq]
        cases k with
        | zero => rfl
        | succ k => simp only [Tr.set_nil]
      rw [e k x, e j y]
      exact key .nil .nil none
end

theorem bitR_cases {β : Type} (m t : Nat) (x y : β) : (∀ {γ : Type} (a b : γ), bitR m t a b = a) ∨ (∀ {γ : Type} (a b : γ), bitR m t a b = b) := by
  unfold bitR
  cases h : Nat.mod (Nat.shiftRight m t) 2 with
  | zero => exact .inl fun a b => rfl
  | succ k => exact .inr fun a b => rfl
theorem Env.get_lt {env : Env} (hn : env.n ≤ 4000) {t : Nat} {v : V} (ht : t < env.n) (j : Nat) : (env.set t v).get j = if j = t then some v else env.get j := by
  unfold Env.set
  have e : Nat.blt t env.n = true := Nat.ble_eq_true_of_le ht
  rw [e]
  show (bitR env.m t (⟨env.n, env.m, (t, v) :: env.loc, env.g⟩ : Env) ⟨env.n, env.m, env.loc, Tr.set 12 env.g t v⟩).get j = _
  by_cases hj : j = t
  · subst hj
    rw [if_pos rfl]
    rcases bitR_cases env.m j () () with hb | hb
    · rw [hb]
      unfold Env.get
      rw [hb]
      show (Bool.rec _ (some v) (Nat.beq j j) : Option V) = some v
      rw [Nat.beq_refl]
    · rw [hb]
      unfold Env.get
      rw [hb]
      exact Tr.get_set v 12 env.g j (by omega)
  · rw [if_neg hj]
    rcases bitR_cases env.m t () () with hb | hb
    · rw [hb]
      unfold Env.get
      congr 1
      show (Bool.rec _ (some v) (Nat.beq t j) : Option V) = _
      have : Nat.beq t j = false := by
        cases h : Nat.beq t j with
        | false => rfl
        | true => exact absurd (Nat.eq_of_beq_eq_true h).symm hj
      rw [this]
    · rw [hb]
      unfold Env.get
      congr 1
      exact Tr.get_set_ne v 12 env.g t j hj
theorem Env.get_ge {env : Env} {t : Nat} {v : V} (ht : ¬ t < env.n) : env.set t v = env := by
  unfold Env.set
  have e : Nat.blt t env.n = false := by
    cases h : Nat.blt t env.n with
    | false => rfl
    | true => exact absurd (Nat.le_of_ble_eq_true h) ht
  rw [e]
theorem Env.set_n (env : Env) (t : Nat) (v : V) : (env.set t v).n = env.n := by
  unfold Env.set
  cases Nat.blt t env.n with
  | false => rfl
  | true =>
    show (bitR env.m t (⟨env.n, env.m, (t, v) :: env.loc, env.g⟩ : Env) ⟨env.n, env.m, env.loc, Tr.set 12 env.g t v⟩).n = _
    rcases bitR_cases env.m t () () with hb | hb <;> rw [hb]
theorem Env.get_shut {env : Env} {t : Nat} {v : V} (h : env.shut.get t = some v) : env.get t = some v := by
  unfold Env.get Env.shut at *
  rcases bitR_cases env.m t () () with hb | hb
  · rw [hb] at h
    cases h
  · rw [hb] at h ⊢
    exact h
end Go.Run
/- A meaning by run: what it takes for values and blocks to be the memory's. -/
namespace Go.Run
open Go Go.RowKit

section
variable {α : Type}
theorem nth_eq : ∀ (l : List α) (k : Nat), nth l k = l[k]?
  | [], _ => rfl
  | _ :: _, 0 => rfl
  | _ :: r, k + 1 => by rw [List.getElem?_cons_succ, ← nth_eq r k]; rfl
theorem dropN_eq : ∀ (l : List α) (k : Nat), dropN l k = l.drop k
  | [], k => by cases k <;> rfl
  | _ :: _, 0 => rfl
  | _ :: r, k + 1 => by rw [List.drop_succ_cons, ← dropN_eq r k]; rfl
theorem takeN_some : ∀ (l : List α) (k : Nat) (r : List α), takeN l k = some r → k ≤ l.length ∧ r = l.take k
  | [], 0, r, h => by cases h; exact ⟨Nat.le_refl _, rfl⟩
  | [], k + 1, r, h => by cases h
  | x :: l, 0, r, h => by cases h; exact ⟨Nat.zero_le _, rfl⟩
  | x :: l, k + 1, r, h => by
    obtain ⟨s, hs, h⟩ := ob_some (show ob (takeN l k) (fun l => some (x :: l)) = some r from h)
    cases h
    obtain ⟨h1, rfl⟩ := takeN_some l k s hs
    exact ⟨by simpa using h1, rfl⟩
theorem over_some : ∀ (vs l r : List α), over vs l = some r → vs.length ≤ l.length ∧ r = vs ++ l.drop vs.length
  | [], l, r, h => by cases h; exact ⟨Nat.zero_le _, rfl⟩
  | v :: vs, [], r, h => by cases h
  | v :: vs, x :: l, r, h => by
    obtain ⟨s, hs, h⟩ := ob_some (show ob (over vs l) (fun l => some (v :: l)) = some r from h)
    cases h
    obtain ⟨h1, rfl⟩ := over_some vs l s hs
    exact ⟨by simpa using h1, rfl⟩
theorem splice_some (vs : List α) : ∀ (l : List α) (k : Nat) (r : List α), splice vs l k = some r → k + vs.length ≤ l.length ∧ r = l.take k ++ vs ++ l.drop (k + vs.length)
  | [], 0, r, h => by
    obtain ⟨h1, rfl⟩ := over_some vs [] r h
    exact ⟨by simpa using h1, by simp⟩
  | [], k + 1, r, h => by cases h
  | x :: l, 0, r, h => by
    obtain ⟨h1, rfl⟩ := over_some vs (x :: l) r h
    exact ⟨by simpa using h1, by simp⟩
  | x :: l, k + 1, r, h => by
    obtain ⟨s, hs, h⟩ := ob_some (show ob (splice vs l k) (fun l => some (x :: l)) = some r from h)
    cases h
    obtain ⟨h1, rfl⟩ := splice_some vs l k s hs
    refine ⟨by simp; omega, ?_⟩
    rw [show k + 1 + vs.length = (k + vs.length) + 1 by omega]
    simp
end

/-- Where a block lies: the memory's block, from which of its cells on, how many cells that has, an element's size. -/
structure Pl where
  p : Nat
  o : Nat
  k : Nat
  s : Nat
abbrev Gh := Nat → Option Pl
def Gh.Le (G H : Gh) : Prop := ∀ b y, G b = some y → H b = some y
theorem Gh.Le.refl (G : Gh) : G.Le G := fun _ _ h => h
theorem Gh.Le.trans {G H K : Gh} (h : G.Le H) (k : H.Le K) : G.Le K := fun b y e => k b y (h b y e)

/-- A value is the memory's, in lane 'ln'. -/
inductive RepV (ln : Nat) (G : Gh) : V → Value → Prop where
  | int (k n) : RepV ln G (.int k n) (.int k n)
  | bool (b) : RepV ln G (.bool b) (.bool b)
  | str {n x} (s : ByteArray) (h1 : s.data.toList.length = n) (h2 : encL s.data.toList = x) : RepV ln G (.str n x) (.string s)
  | ivec {k l n} (h : l[ln]? = some n) : RepV ln G (.ivec k l) (.int k n)
  | svec {n l} (s : ByteArray) (h1 : s.data.toList.length = n) (h2 : l[ln]? = some (encL s.data.toList)) : RepV ln G (.svec n l) (.string s)
  | sl {b off len cap y} (hg : G b = some y) (hc : y.o + off + cap * y.s = y.k) (hl : len ≤ cap) : RepV ln G (.sl b off len) (.slice (some ⟨y.p, y.o + off, none⟩) len cap)
  | sl0 (a) : RepV ln G .sl0 (.slice (some a) 0 0)
  | sle {b off a cap y} (hg : G b = some y) (hc : (a = ⟨y.p, y.o + off, none⟩ ∧ y.o + off + cap * y.s = y.k) ∨ cap = 0) : RepV ln G (.sle b off) (.slice (some a) 0 cap)
  | nils : RepV ln G .nils (.slice none 0 0)
  | ptr {b off y} (hg : G b = some y) : RepV ln G (.ptr b off) (.pointer (some ⟨y.p, y.o + off, none⟩))
  | nilp : RepV ln G .nilp (.pointer none)
  | clo (f : FuncId) {us vs : List V} (g k : Nat → Value) (hu : ∀ (i : Nat) x, us[i]? = some x → RepV ln G x (g i)) (hv : ∀ (i : Nat) x, vs[i]? = some x → RepV ln G x (k i)) :
      RepV ln G (.clo f us vs) (.func (.func f) ((List.range us.length).map g).toArray ((List.range vs.length).map k).toArray)
  | nilf : RepV ln G .nilf .nilFunc
  | nili : RepV ln G .nili .nilIface
  | erri (t v) : RepV ln G .erri (.iface t v)
  | undef (v) (h : v.oneCell' = true) : RepV ln G .undef v
  | agg {xs : List V} (f : Nat → Value) (h : ∀ (i : Nat) x, xs[i]? = some x → RepV ln G x (f i)) (h1 : ∀ i, i < xs.length → (f i).oneCell' = true) : RepV ln G (.agg xs) (.agg ((List.range xs.length).map f).toArray)
  | tup {xs : List V} (f : Nat → Value) (h : ∀ (i : Nat) x, xs[i]? = some x → RepV ln G x (f i)) : RepV ln G (.tup xs) (.tuple ((List.range xs.length).map f).toArray)
  | junk (v) : RepV ln G .junk v

section
variable {ln : Nat} {G H : Gh}
theorem RepV.mono (h : G.Le H) {x : V} {v : Value} (r : RepV ln G x v) : RepV ln H x v := by
  induction r with
  | int => exact .int _ _
  | bool => exact .bool _
  | str s h1 h2 => exact .str s h1 h2
  | ivec h => exact .ivec h
  | svec s h1 h2 => exact .svec s h1 h2
  | sl hg hc hl => exact .sl (h _ _ hg) hc hl
  | sl0 a => exact .sl0 a
  | sle hg hc => exact .sle (h _ _ hg) hc
  | nils => exact .nils
  | ptr hg => exact .ptr (h _ _ hg)
  | nilp => exact .nilp
  | clo f g k _ _ ih1 ih2 => exact .clo f g k (fun i x e => ih1 i x e) (fun i x e => ih2 i x e)
  | nilf => exact .nilf
  | nili => exact .nili
  | erri t v => exact .erri t v
  | undef v h => exact .undef v h
  | agg f _ h1 ih => exact .agg f (fun i x e => ih i x e) h1
  | tup f _ ih => exact .tup f (fun i x e => ih i x e)
  | junk v => exact .junk v

/-- Cells, one by one. -/
def RepC (ln : Nat) (G : Gh) (xs : List V) (vs : List Value) : Prop := xs.length = vs.length ∧ ∀ (i : Nat) x v, xs[i]? = some x → vs[i]? = some v → RepV ln G x v ∧ v.oneCell' = true
theorem RepC.mono (h : G.Le H) {xs : List V} {vs : List Value} (r : RepC ln G xs vs) : RepC ln H xs vs := ⟨r.1, fun i x v hx hv => ⟨(r.2 i x v hx hv).1.mono h, (r.2 i x v hx hv).2⟩⟩
theorem RepC.one {xs : List V} {vs : List Value} (r : RepC ln G xs vs) : ∀ v ∈ vs, v.oneCell' = true := by
  intro v hv
  obtain ⟨i, hi, rfl⟩ := List.getElem_of_mem hv
  have hl : i < xs.length := by rw [r.1]; exact hi
  exact (r.2 i xs[i] vs[i] (List.getElem?_eq_getElem hl) (List.getElem?_eq_getElem hi)).2
theorem RepC.append {xs ys : List V} {vs us : List Value} (r : RepC ln G xs vs) (q : RepC ln G ys us) : RepC ln G (xs ++ ys) (vs ++ us) := by
  refine ⟨by rw [List.length_append, List.length_append, r.1, q.1], fun i x v hx hv => ?_⟩
  rcases Nat.lt_or_ge i xs.length with hi | hi
  · rw [List.getElem?_append_left hi] at hx
    rw [List.getElem?_append_left (by rw [← r.1]; exact hi)] at hv
    exact r.2 i x v hx hv
  · rw [List.getElem?_append_right hi] at hx
    rw [List.getElem?_append_right (by rw [← r.1]; exact hi), ← r.1] at hv
    exact q.2 _ x v hx hv
theorem RepC.drop {xs : List V} {vs : List Value} (r : RepC ln G xs vs) (n : Nat) : RepC ln G (xs.drop n) (vs.drop n) := by
  refine ⟨by rw [List.length_drop, List.length_drop, r.1], fun i x v hx hv => ?_⟩
  rw [List.getElem?_drop] at hx hv
  exact r.2 _ x v hx hv
theorem RepC.take {xs : List V} {vs : List Value} (r : RepC ln G xs vs) (n : Nat) : RepC ln G (xs.take n) (vs.take n) := by
  refine ⟨by rw [List.length_take, List.length_take, r.1], fun i x v hx hv => ?_⟩
  rw [List.getElem?_take] at hx hv
  split at hx
  · rw [if_pos (by assumption)] at hv
    exact r.2 _ x v hx hv
  · cases hx
theorem RepC.nil : RepC ln G [] [] := ⟨rfl, fun i x v hx => by simp at hx⟩
theorem RepC.cons {x : V} {v : Value} {xs : List V} {vs : List Value} (h : RepV ln G x v) (h1 : v.oneCell' = true) (r : RepC ln G xs vs) : RepC ln G (x :: xs) (v :: vs) := by
  refine ⟨by simp [r.1], fun i y u hy hu => ?_⟩
  cases i with
  | zero => simp at hy hu; subst hy; subst hu; exact ⟨h, h1⟩
  | succ i => exact r.2 i y u (by simpa using hy) (by simpa using hu)
theorem RepC.of_fun {xs : List V} (f : Nat → Value) (hx : ∀ (i : Nat) x, xs[i]? = some x → RepV ln G x (f i) ∧ (f i).oneCell' = true) : RepC ln G xs ((List.range xs.length).map f) := by
  refine ⟨by simp, fun i x v h1 h2 => ?_⟩
  have hi := (List.getElem?_eq_some_iff.1 h1).1
  rw [List.getElem?_map, List.getElem?_range hi] at h2
  cases h2
  exact hx i x h1
theorem RepC.agg {xs : List V} {vs : List Value} (r : RepC ln G xs vs) : RepV ln G (.agg xs) (.agg vs.toArray) := by
  have e : vs = (List.range xs.length).map fun i => vs[i]?.getD default := by
    apply List.ext_getElem?
    intro i
    rcases Nat.lt_or_ge i xs.length with hi | hi
    · rw [List.getElem?_map, List.getElem?_range hi, List.getElem?_eq_getElem (by rw [← r.1]; exact hi)]
      simp [r.1 ▸ hi]
    · rw [List.getElem?_eq_none (by rw [← r.1]; exact hi), List.getElem?_eq_none (by simp; omega)]
  rw [e]
  refine .agg _ (fun i x hx => ?_) (fun i hi => ?_)
  · have hi : i < vs.length := by rw [← r.1]; exact (List.getElem?_eq_some_iff.1 hx).1
    rw [List.getElem?_eq_getElem hi]
    exact (r.2 i x _ hx (List.getElem?_eq_getElem hi)).1
  · have hi' : i < vs.length := by rw [← r.1]; exact hi
    rw [List.getElem?_eq_getElem hi']
    exact (r.2 i xs[i] _ (List.getElem?_eq_getElem hi) (List.getElem?_eq_getElem hi')).2
theorem RepV.of_agg {xs : List V} {v : Value} (r : RepV ln G (.agg xs) v) : ∃ vs : List Value, v = .agg vs.toArray ∧ RepC ln G xs vs := by
  cases r with
  | agg f h h1 => exact ⟨_, rfl, RepC.of_fun f fun i x hx => ⟨h i x hx, h1 i (List.getElem?_eq_some_iff.1 hx).1⟩⟩

theorem cells_one {v : Value} (h : v.oneCell' = true) : v.cells = #[v] := by cases v <;> first | rfl | (simp [Value.oneCell'] at h)
/-- A value's cells. -/
theorem RepV.flat {x : V} {v : Value} (r : RepV ln G x v) {xs : List V} (h : x.flat = some xs) : RepC ln G xs v.cells.toList := by
  have key : ∀ (x : V) (v : Value), RepV ln G x v → v.oneCell' = true → RepC ln G [x] v.cells.toList := fun x v r h1 => by
    rw [cells_one h1]
    exact .cons r h1 .nil
  cases r with
  | agg f hf h1 =>
    cases h
    simpa [Value.cells] using RepC.of_fun f fun i x hx => ⟨hf i x hx, h1 i (List.getElem?_eq_some_iff.1 hx).1⟩
  | tup => cases h
  | junk => cases h
  | undef v h1 => cases h; exact key _ _ (.undef v h1) h1
  | int => cases h; exact key _ _ (.int _ _) rfl
  | bool => cases h; exact key _ _ (.bool _) rfl
  | str s h1 h2 => cases h; exact key _ _ (.str s h1 h2) rfl
  | ivec h1 => cases h; exact key _ _ (.ivec h1) rfl
  | svec s h1 h2 => cases h; exact key _ _ (.svec s h1 h2) rfl
  | sl hg hc hl => cases h; exact key _ _ (.sl hg hc hl) rfl
  | sl0 a => cases h; exact key _ _ (.sl0 a) rfl
  | sle hg hc => cases h; exact key _ _ (.sle hg hc) rfl
  | nils => cases h; exact key _ _ .nils rfl
  | ptr hg => cases h; exact key _ _ (.ptr hg) rfl
  | nilp => cases h; exact key _ _ .nilp rfl
  | clo f g k h1 h2 => cases h; exact key _ _ (.clo f g k h1 h2) rfl
  | nilf => cases h; exact key _ _ .nilf rfl
  | nili => cases h; exact key _ _ .nili rfl
  | erri t v => cases h; exact key _ _ (.erri t v) rfl
end

/-- What of a block may not be written lies behind its cells. -/
def Fr (k : Nat) (t : TypeId) (fr : Nat × Nat) : Prop := fr.1 = fr.2 ∨ (k ≤ fr.1 ∧ t ≠ rowT)
theorem Fr.no {k : Nat} {t : TypeId} {fr : Nat × Nat} (h : Fr k t fr) {i : Nat} (hi : i < k) : ¬ (fr.1 ≤ i ∧ i < fr.2) := by
  rintro ⟨h1, h2⟩
  rcases h with h | h <;> omega
/-- The state is the memory's. -/
structure HR (ln : Nat) (w0 : World) (U : Nat → Prop) (G : Gh) (h : Hp) (w : World) : Prop where
  blk : ∀ b x, getB h b = some x → G b ≠ none → ∃ y cur fr, G b = some y ∧ y.s = x.sz ∧ w.heap[y.p]? = some (.cells cur x.ty fr) ∧ cur.size = y.k ∧ y.o + x.cells.length ≤ y.k ∧ Fr y.k x.ty fr ∧
    (∀ i c, x.cells[i]? = some c → ∃ v, cur[y.o + i]? = some v ∧ RepV ln G c v ∧ v.oneCell' = true) ∧ (x.opn = true → w0.heap.size ≤ y.p)
  own : ∀ b x, getB h b = some x → b < h.next
  gl : ∀ b y, G b = some y → b < h.next ∧ y.p < w.heap.size
  sep : ∀ b c x z y q, getB h b = some x → getB h c = some z → x.opn = true → b ≠ c → G b = some y → G c = some q → y.p = q.p → (c ∈ x.anc ∨ z.cells = []) ∧ z.opn = false ∧ q.o + z.cells.length ≤ y.o + x.cells.length
  lim : h.next ≤ 1000000
  size : w0.heap.size ≤ w.heap.size
  below : Below w0.heap.size w0 w
  hid : ∀ b, U b → b < h.next ∧ G b = none

section
variable {ln : Nat} {w0 : World} {U : Nat → Prop} {G : Gh} {h : Hp} {w : World}
theorem HR.drew (k : HR ln w0 U G h w) : HR ln w0 U G h w.drew := ⟨k.blk, k.own, k.gl, k.sep, k.lim, k.size, k.below.drew, k.hid⟩
theorem Gh.ne {G : Gh} {b : Nat} {y : Pl} (h : G b = some y) : G b ≠ none := by rw [h]; exact fun e => nomatch e
theorem HR.lt (k : HR ln w0 U G h w) {b : Nat} {x : Blk} (hb : getB h b = some x) : b < h.next := k.own b x hb
theorem getB_set (h : Hp) (n b : Nat) (x : Blk) (c : Nat) (hb : b < 1000000) : getB ⟨n, Tr.set 40 h.t b x⟩ c = if c = b then some x else getB h c := by
  unfold getB
  by_cases e : c = b
  · subst e
    rw [if_pos rfl]
    exact Tr.get_set x 40 h.t c (by omega)
  · rw [if_neg e]
    exact Tr.get_set_ne x 40 h.t b c e
theorem getB_setB (h : Hp) (b : Nat) (x : Blk) (c : Nat) (hb : b < 1000000) : getB (setB h b x) c = if c = b then some x else getB h c := getB_set h h.next b x c hb

theorem heap_alloc_old (w : World) (o : Obj) (b : Nat) (h : b < w.heap.size) : (w.alloc o).heap[b]? = w.heap[b]? := Below.heap_alloc w o b h
theorem heap_alloc_new (w : World) (o : Obj) : (w.alloc o).heap[w.heap.size]? = some o := by
  show (w.heap.push o)[w.heap.size]? = some o
  simp

/-- A block in memory of its own. -/
theorem HR.born (k : HR ln w0 U G h w) {x : Blk} {cur : Array Value} {fr : Nat × Nat} (hx : x.cells.length ≤ cur.size) (hc : ∀ (i : Nat) (c : V), x.cells[i]? = some c → ∃ v, cur[i]? = some v ∧ RepV ln G c v ∧ v.oneCell' = true)
    (hfr : Fr cur.size x.ty fr) (hl : h.next < 1000000) :
    ∃ H, G.Le H ∧ H h.next = some ⟨w.heap.size, 0, cur.size, x.sz⟩ ∧ HR ln w0 U H ⟨h.next + 1, Tr.set 40 h.t h.next x⟩ (w.alloc (.cells cur x.ty fr)) := by
  have hle : G.Le (fun b => if b = h.next then some ⟨w.heap.size, 0, cur.size, x.sz⟩ else G b) := fun b y e => by
    show (if b = h.next then _ else G b) = some y
    rw [if_neg, e]
    have := (k.gl b y e).1
    omega
  refine ⟨_, hle, if_pos rfl, ?_⟩
  have hG : ∀ b, b ≠ h.next → (if b = h.next then some ⟨w.heap.size, 0, cur.size, x.sz⟩ else G b) = G b := fun b hb => if_neg hb
  refine ⟨fun b z hz hg => ?_, fun b z hz => ?_, fun b y hy => ?_, fun b c z u y q hz hu ho hne hy hq hp => ?_, by show h.next + 1 ≤ _; omega, by have := k.size; simp; omega, k.below.alloc k.size _, fun b hb => ⟨Nat.lt_succ_of_lt (k.hid b hb).1, by
    show (if b = h.next then _ else G b) = none
    rw [if_neg (by have := (k.hid b hb).1; omega)]; exact (k.hid b hb).2⟩⟩
  · rw [getB_set h _ _ x b (by omega)] at hz
    split at hz
    · rename_i e
      cases hz
      subst e
      exact ⟨⟨w.heap.size, 0, cur.size, x.sz⟩, cur, fr, if_pos rfl, rfl, heap_alloc_new w _, rfl, by simpa using hx, hfr, fun i c hi => by
        obtain ⟨v, h1, h2, h3⟩ := hc i c hi
        exact ⟨v, by simpa using h1, h2.mono hle, h3⟩, fun _ => k.size⟩
    · rename_i e
      obtain ⟨y, cur', fr', h1, h2, h3, h4, h5, h6, h7, h8⟩ := k.blk b z hz (by rw [hG b e] at hg; exact hg)
      have hlt := (k.gl b y h1).2
      exact ⟨y, cur', fr', hle b y h1, h2, (heap_alloc_old w _ _ hlt).trans h3, h4, h5, h6, fun i c hi => by
        obtain ⟨v, g1, g2, g3⟩ := h7 i c hi
        exact ⟨v, g1, g2.mono hle, g3⟩, h8⟩
  · rw [getB_set h _ _ x b (by omega)] at hz
    show b < h.next + 1
    split at hz
    · omega
    · have := k.own b z hz; omega
  · by_cases e : b = h.next
    · subst e
      rw [if_pos rfl] at hy
      cases hy
      exact ⟨Nat.lt_succ_self _, by simp⟩
    · rw [hG b e] at hy
      have := k.gl b y hy
      exact ⟨Nat.lt_succ_of_lt this.1, by simp; omega⟩
  · rw [getB_set h _ _ x b (by omega)] at hz
    rw [getB_set h _ _ x c (by omega)] at hu
    by_cases eb : b = h.next
    · have ec : c ≠ h.next := fun ec => hne (eb.trans ec.symm)
      rw [eb, if_pos rfl] at hy
      rw [hG c ec] at hq
      cases hy
      have := (k.gl c q hq).2
      have hp : w.heap.size = q.p := hp
      omega
    · rw [if_neg eb] at hz
      rw [hG b eb] at hy
      by_cases ec : c = h.next
      · rw [ec, if_pos rfl] at hq
        cases hq
        have := (k.gl b y hy).2
        have hp : y.p = w.heap.size := hp
        omega
      · rw [if_neg ec] at hu
        rw [hG c ec] at hq
        exact k.sep b c z u y q hz hu ho hne hy hq hp

/-- Nothing is known of a block any more. -/
theorem HR.dead (k : HR ln w0 U G h w) {a : Nat} {x : Blk} (ha : getB h a = some x) : HR ln w0 U G (setB h a x.dead) w := by
  have hl := k.lt ha
  have hl2 := k.lim
  refine ⟨fun b z hz hg => ?_, fun b z hz => ?_, k.gl, fun b c z u y q hz hu ho hne hy hq hp => ?_, k.lim, k.size, k.below, k.hid⟩
  · rw [getB_setB h a _ b (by omega)] at hz
    split at hz
    · rename_i e
      cases hz
      subst e
      obtain ⟨y, cur', fr', h1, h2, h3, h4, h5, h6, h7, h8⟩ := k.blk b x ha hg
      exact ⟨y, cur', fr', h1, h2, h3, h4, by show y.o + 0 ≤ _; omega, h6, fun i c hi => (nomatch hi), fun ho => (nomatch ho)⟩
    · exact k.blk b z hz hg
  · rw [getB_setB h a _ b (by omega)] at hz
    split at hz
    · rename_i e; rw [e]; exact hl
    · exact k.own b z hz
  · rw [getB_setB h a _ b (by omega)] at hz
    rw [getB_setB h a _ c (by omega)] at hu
    by_cases eb : b = a
    · rw [if_pos eb] at hz
      cases hz
      cases ho
    · rw [if_neg eb] at hz
      by_cases ec : c = a
      · rw [if_pos ec] at hu
        cases hu
        subst ec
        obtain ⟨g1, g2, g3⟩ := k.sep b c z x y q hz ha ho hne hy hq hp
        exact ⟨.inr rfl, rfl, by show q.o + 0 ≤ _; omega⟩
      · rw [if_neg ec] at hu
        exact k.sep b c z u y q hz hu ho hne hy hq hp
theorem kill_nil (h : Hp) : kill [] h = h := rfl
theorem kill_cons (a : Nat) (l : List Nat) (h : Hp) : kill (a :: l) h = match getB h a with | some x => kill l (setB h a x.dead) | none => kill l h := by
  show (Option.rec (kill l h) (fun x => kill l (setB h a x.dead)) (getB h a) : Hp) = _
  cases getB h a <;> rfl
theorem HR.killed : ∀ (l : List Nat) {h : Hp}, HR ln w0 U G h w → HR ln w0 U G (kill l h) w
  | [], h, k => k
  | a :: l, h, k => by
    rw [kill_cons]
    cases ha : getB h a with
    | none => exact HR.killed l k
    | some x => exact HR.killed l (k.dead ha)
theorem kill_next : ∀ (l : List Nat) (h : Hp), (kill l h).next = h.next
  | [], h => rfl
  | a :: l, h => by
    rw [kill_cons]
    cases getB h a with
    | none => exact kill_next l h
    | some x => exact kill_next l _
/-- What is behind. -/
theorem getB_kill : ∀ (l : List Nat) (h : Hp) (b : Nat) (z : Blk), (∀ c x, getB h c = some x → c < 1000000) → getB (kill l h) b = some z → ∃ x, getB h b = some x ∧ (z = x ∨ z = x.dead) ∧ (b ∈ l → z.cells = [] ∧ z.opn = false) ∧ (b ∉ l → z = x)
  | [], h, b, z, _, hz => ⟨z, hz, .inl rfl, fun hb => (nomatch hb), fun _ => rfl⟩
  | a :: l, h, b, z, hk, hz => by
    rw [kill_cons] at hz
    cases ha : getB h a with
    | none =>
      rw [ha] at hz
      obtain ⟨x, h1, h2, h3, h4⟩ := getB_kill l h b z hk hz
      refine ⟨x, h1, h2, fun hb => ?_, fun hb => h4 fun hm => hb (List.mem_cons_of_mem _ hm)⟩
      rcases List.mem_cons.1 hb with rfl | hb
      · rw [ha] at h1; cases h1
      · exact h3 hb
    | some x =>
      rw [ha] at hz
      have hal := hk a x ha
      obtain ⟨x', h1, h2, h3, h4⟩ := getB_kill l (setB h a x.dead) b z (fun c u hu => by
        rw [getB_setB h a _ c hal] at hu
        split at hu
        · rename_i e; rw [e]; exact hal
        · exact hk c u hu) hz
      rw [getB_setB h a _ b hal] at h1
      by_cases e : b = a
      · rw [if_pos e] at h1
        cases h1
        subst e
        refine ⟨x, ha, ?_, fun _ => ?_, fun hb => absurd List.mem_cons_self hb⟩
        · rcases h2 with rfl | rfl
          · exact .inr rfl
          · exact .inr rfl
        · rcases h2 with rfl | rfl <;> exact ⟨rfl, rfl⟩
      · rw [if_neg e] at h1
        refine ⟨x', h1, h2, fun hb => ?_, fun hb => h4 fun hm => hb (List.mem_cons_of_mem _ hm)⟩
        rcases List.mem_cons.1 hb with hb | hb
        · exact absurd hb e
        · exact h3 hb
end
end Go.Run
/- A meaning by run: reading, writing and appending to blocks. -/
namespace Go.Run
open Go Go.RowKit

theorem heap_setCell (w : World) (b o : Nat) (v : Value) (k : Nat) : (w.setCell ⟨b, o, none⟩ v).heap[k]? = if k = b then (match w.heap[b]? with | some (.cells c e fr) => some (.cells (c.setIfInBounds o v) e fr) | x => x) else w.heap[k]? := by
  simp only [World.setCell, Array.getElem?_modify]
  by_cases e : k = b
  · subst e
    rw [if_pos rfl, if_pos rfl]
    cases h : w.heap[k]? with
    | none => rfl
    | some x => cases x <;> rfl
  · rw [if_neg (Ne.symm e), if_neg e]
/-- What a run of stores leaves of a block. -/
theorem setCells_block (b : Nat) {t : TypeId} {fr : Nat × Nat} : ∀ (vs : List Value) (o : Nat) (w : World) (cur : Array Value), w.heap[b]? = some (.cells cur t fr) → o + vs.length ≤ cur.size →
    ∃ cur' : Array Value, (w.setCells b o vs).heap[b]? = some (.cells cur' t fr) ∧ cur'.size = cur.size ∧ (∀ j, cur'[j]? = if o ≤ j ∧ j < o + vs.length then vs[j - o]? else cur[j]?) ∧
      (∀ k, k ≠ b → (w.setCells b o vs).heap[k]? = w.heap[k]?) ∧ (w.setCells b o vs).heap.size = w.heap.size ∧ Below b w (w.setCells b o vs)
  | [], o, w, cur, h, _ => ⟨cur, h, rfl, fun j => by rw [if_neg (by simp)], fun _ _ => rfl, rfl, Below.refl _ _⟩
  | v :: vs, o, w, cur, h, hl => by
    have hl' : o + (vs.length + 1) ≤ cur.size := hl
    have h1 : (w.setCell ⟨b, o, none⟩ v).heap[b]? = some (.cells (cur.setIfInBounds o v) t fr) := by rw [heap_setCell, if_pos rfl, h]
    obtain ⟨cur', k1, k2, k3, k4, k5, k6⟩ := setCells_block b vs (o + 1) (w.setCell ⟨b, o, none⟩ v) _ h1 (by simp; omega)
    refine ⟨cur', k1, by simpa using k2, fun j => ?_, fun k hk => (k4 k hk).trans (by rw [heap_setCell, if_neg hk]), k5.trans (by simp [World.setCell]), ((Below.refl b w).setCell (p := ⟨b, o, none⟩) (Nat.le_refl b) v).trans k6⟩
    rw [k3 j, Array.getElem?_setIfInBounds]
    by_cases hj : j = o
    · subst hj
      rw [if_neg (by omega), if_pos rfl, if_pos (by omega), if_pos ⟨Nat.le_refl _, by simp⟩, Nat.sub_self]
      rfl
    · by_cases hj2 : o + 1 ≤ j ∧ j < o + 1 + vs.length
      · rw [if_pos hj2, if_pos ⟨by omega, by simp; omega⟩, show j - o = (j - (o + 1)) + 1 by omega]
        rfl
      · rw [if_neg hj2, if_neg (Ne.symm hj), if_neg (by simp; omega)]

section
variable {ln : Nat} {w0 : World} {U : Nat → Prop} {G : Gh} {h : Hp} {w : World}
/-- A block's cells in memory. -/
theorem HR.cells (k : HR ln w0 U G h w) {b : Nat} {x : Blk} (hb : getB h b = some x) {y0 : Pl} (hg : G b = some y0) : ∃ y us, G b = some y ∧ RepC ln G x.cells us ∧ w.rangeAt y.p y.o us := by
  obtain ⟨y, cur, fr, h1, h2, h3, h4, h5, h6, h7, h8⟩ := k.blk b x hb (Gh.ne hg)
  refine ⟨y, (cur.toList.drop y.o).take x.cells.length, h1, ⟨by simp; omega, fun i c v hc hv => ?_⟩, fun j v hv => ?_⟩
  · obtain ⟨v', g1, g2, g3⟩ := h7 i c hc
    rw [List.getElem?_take] at hv
    split at hv
    · rw [List.getElem?_drop, Array.getElem?_toList, g1] at hv
      cases hv
      exact ⟨g2, g3⟩
    · cases hv
  · rw [List.getElem?_take] at hv
    split at hv
    · rw [List.getElem?_drop, Array.getElem?_toList] at hv
      rw [cell_of_row w y.p _ cur x.ty fr h3]
      exact hv
    · cases hv
theorem range_drop {b o : Nat} {us : List Value} (hr : w.rangeAt b o us) (n : Nat) : w.rangeAt b (o + n) (us.drop n) := fun j v hv => by
  rw [List.getElem?_drop] at hv
  rw [Nat.add_assoc]
  exact hr _ v hv
theorem range_take {b o : Nat} {us : List Value} (hr : w.rangeAt b o us) (n : Nat) : w.rangeAt b o (us.take n) := fun j v hv => by
  rw [List.getElem?_take] at hv
  split at hv
  · exact hr j v hv
  · cases hv
/-- A piece of them. -/
theorem HR.piece (k : HR ln w0 U G h w) {b off n : Nat} {x : Blk} (hb : getB h b = some x) {y0 : Pl} (hg : G b = some y0) {l : List V} (hl : takeN (dropN x.cells off) n = some l) : ∃ y us, G b = some y ∧ RepC ln G l us ∧ us.length = n ∧ w.rangeAt y.p (y.o + off) us := by
  obtain ⟨y, us, h1, h2, h3⟩ := k.cells hb hg
  obtain ⟨g1, rfl⟩ := takeN_some _ _ _ hl
  rw [dropN_eq] at g1 ⊢
  refine ⟨y, (us.drop off).take n, h1, (h2.drop off).take n, ?_, range_take (range_drop h3 off) n⟩
  rw [List.length_take, List.length_drop, ← h2.1, ← List.length_drop]
  omega
theorem HR.loaded (k : HR ln w0 U G h w) {b off n : Nat} {l : List V} {y0 : Pl} (hg : G b = some y0) (hl : loadC h b off n = some l) : ∃ y us, G b = some y ∧ RepC ln G l us ∧ us.length = n ∧ w.rangeAt y.p (y.o + off) us := by
  obtain ⟨x, hx, hl⟩ := ob_some hl
  exact k.piece hx hg hl

/-- Setting. -/
theorem HR.put (k : HR ln w0 U G h w) {b off : Nat} {x : Blk} (hb : getB h b = some x) {y0 : Pl} (hg : G b = some y0) (ho : x.opn = true) {vs cs : List V} (hs : splice vs x.cells off = some cs) {us : List Value} (hr : RepC ln G vs us) :
    ∃ y, G b = some y ∧ HR ln w0 U G (kill x.anc (setB h b (x.put cs))) (w.setCells y.p (y.o + off) us) ∧ (∀ j, j < us.length → (w.cell? ⟨y.p, y.o + off + j, none⟩).isSome = true) ∧ (∀ j, j < us.length → w.frozen? ⟨y.p, y.o + off + j, none⟩ = false) := by
  obtain ⟨y, cur, fr, h1, h2, h3, h4, h5, h6, h7, h8⟩ := k.blk b x hb (Gh.ne hg)
  obtain ⟨g1, rfl⟩ := splice_some _ _ _ _ hs
  have hul : us.length = vs.length := hr.1.symm
  have hbl := k.lt hb
  have hlim := k.lim
  obtain ⟨cur', k1, k2, k3, k4, k5, k6⟩ := setCells_block y.p us (y.o + off) w cur h3 (by omega)
  have hw0 := h8 ho
  refine ⟨y, h1, ?_, fun j hj => ?_, fun j hj => ?_⟩
  · -- ahead of what is forgotten, but for blocks that may be the same one
    have hkl : ∀ c z, getB (setB h b (x.put (x.cells.take off ++ vs ++ x.cells.drop (off + vs.length)))) c = some z → c < 1000000 := fun c z hz => by
      rw [getB_setB h b _ c (by omega)] at hz
      split at hz
      · omega
      · have := k.lt hz; omega
    have hget : ∀ c z, getB (kill x.anc (setB h b (x.put (x.cells.take off ++ vs ++ x.cells.drop (off + vs.length))))) c = some z → (c = b ∧ (z = x.put (x.cells.take off ++ vs ++ x.cells.drop (off + vs.length)) ∨ z = (x.put (x.cells.take off ++ vs ++ x.cells.drop (off + vs.length))).dead)) ∨
        (c ≠ b ∧ ∃ u, getB h c = some u ∧ (z = u ∨ z = u.dead) ∧ (c ∈ x.anc → z.cells = [] ∧ z.opn = false) ∧ (c ∉ x.anc → z = u)) := fun c z hz => by
      obtain ⟨u, q1, q2, q3, q4⟩ := getB_kill x.anc _ c z hkl hz
      rw [getB_setB h b _ c (by omega)] at q1
      split at q1
      · rename_i e
        cases q1
        exact .inl ⟨e, q2⟩
      · rename_i e
        exact .inr ⟨e, u, q1, q2, q3, q4⟩
    refine ⟨fun c z hz hgc => ?_, fun c z hz => ?_, fun c q hq => ?_, fun c d z u q s hz hu hzo hne hq hs hp => ?_, ?_, by rw [k5]; exact k.size, k.below.trans (k6.mono hw0), by rw [kill_next]; exact k.hid⟩
    · rcases hget c z hz with ⟨rfl, hzz⟩ | ⟨hcb, u, q1, q2, q3, q4⟩
      · have hcell : ∀ i a, (x.cells.take off ++ vs ++ x.cells.drop (off + vs.length))[i]? = some a → ∃ v, cur'[y.o + i]? = some v ∧ RepV ln G a v ∧ v.oneCell' = true := fun i a hi => by
          rw [k3 (y.o + i)]
          rw [List.getElem?_append, List.getElem?_append, List.length_append, List.length_take] at hi
          have hm : min off x.cells.length = off := by omega
          rw [hm] at hi
          by_cases c1 : i < off
          · rw [if_pos (by omega), if_pos c1, List.getElem?_take, if_pos c1] at hi
            rw [if_neg (by omega)]
            exact h7 i a hi
          · by_cases c2 : i < off + vs.length
            · rw [if_pos c2, if_neg c1] at hi
              rw [if_pos (by omega), show y.o + i - (y.o + off) = i - off by omega]
              have hlt : i - off < us.length := by omega
              have := hr.2 (i - off) a us[i - off] hi (List.getElem?_eq_getElem hlt)
              exact ⟨_, List.getElem?_eq_getElem hlt, this⟩
            · rw [if_neg c2, List.getElem?_drop] at hi
              rw [if_neg (by omega)]
              have := h7 _ a hi
              rwa [show off + vs.length + (i - (off + vs.length)) = i by omega] at this
        rcases hzz with rfl | rfl
        · refine ⟨y, cur', fr, h1, h2, k1, by omega, ?_, h6, hcell, h8⟩
          show y.o + (x.cells.take off ++ vs ++ x.cells.drop (off + vs.length)).length ≤ _
          simp
          omega
        · exact ⟨y, cur', fr, h1, h2, k1, by omega, by show y.o + 0 ≤ _; omega, h6, fun i a hi => (nomatch hi), fun hh => (nomatch hh)⟩
      · obtain ⟨q, curc, frc, p1, p2, p3, p4, p5, p6, p7, p8⟩ := k.blk c u q1 hgc
        by_cases hp : q.p = y.p
        · obtain ⟨r1, r2, r3⟩ := k.sep b c x u y q hb q1 ho (Ne.symm hcb) h1 p1 hp.symm
          have r4 : z.cells = [] := by
            rcases r1 with r1 | r1
            · exact (q3 r1).1
            · rcases q2 with rfl | rfl
              · exact r1
              · rfl
          have r5 : z.opn = false := by
            rcases q2 with rfl | rfl
            · exact r2
            · rfl
          have hty : u.ty = x.ty ∧ curc = cur ∧ frc = fr := by
            have p3' := p3
            rw [hp, h3] at p3'
            injection p3' with p3'
            injection p3' with e1 e2 e3
            exact ⟨e2.symm, e1.symm, e3.symm⟩
          have hz2 : z.ty = u.ty ∧ z.sz = u.sz := by rcases q2 with rfl | rfl <;> exact ⟨rfl, rfl⟩
          refine ⟨q, cur', fr, p1, by rw [hz2.2]; exact p2, by rw [hp, hz2.1, hty.1]; exact k1, ?_, ?_, ?_, fun i a hi => ?_, fun hh => ?_⟩
          · rw [← p4, hty.2.1, k2]
          · rw [r4]; simp; omega
          · rw [← p4, hty.2.1, h4, hz2.1, hty.1]; exact h6
          · rw [r4] at hi; simp at hi
          · rw [r5] at hh; cases hh
        · have hz2 : z.ty = u.ty ∧ z.sz = u.sz := by rcases q2 with rfl | rfl <;> exact ⟨rfl, rfl⟩
          refine ⟨q, curc, frc, p1, by rw [hz2.2]; exact p2, by rw [hz2.1]; exact (k4 q.p hp).trans p3, p4, ?_, by rw [hz2.1]; exact p6, fun i a hi => ?_, fun hh => ?_⟩
          · rcases q2 with rfl | rfl
            · exact p5
            · show q.o + 0 ≤ _; omega
          · rcases q2 with rfl | rfl
            · exact p7 i a hi
            · cases hi
          · rcases q2 with rfl | rfl
            · exact p8 hh
            · cases hh
    · rw [kill_next]
      show c < h.next
      rcases hget c z hz with ⟨rfl, _⟩ | ⟨_, u, q1, _⟩
      · exact hbl
      · exact k.own c u q1
    · rw [kill_next]
      have := k.gl c q hq
      exact ⟨this.1, by rw [k5]; exact this.2⟩
    · -- apart
      have low : ∀ e z, getB (kill x.anc (setB h b (x.put (x.cells.take off ++ vs ++ x.cells.drop (off + vs.length))))) e = some z → ∃ u, getB h e = some u ∧ (z.opn = true → u.opn = true) ∧ z.cells.length ≤ u.cells.length ∧ (e ≠ b → z.opn = true → z = u) := fun e z hz => by
        rcases hget e z hz with ⟨rfl, hzz⟩ | ⟨hcb, u, q1, q2, q3, q4⟩
        · refine ⟨x, hb, fun _ => ho, ?_, fun hne => absurd rfl hne⟩
          rcases hzz with rfl | rfl
          · show (x.cells.take off ++ vs ++ x.cells.drop (off + vs.length)).length ≤ _
            simp
            omega
          · show 0 ≤ _; omega
        · refine ⟨u, q1, fun hh => ?_, ?_, fun _ hh => ?_⟩
          · rcases q2 with rfl | rfl
            · exact hh
            · cases hh
          · rcases q2 with rfl | rfl
            · exact Nat.le_refl _
            · show 0 ≤ _; omega
          · rcases q2 with rfl | rfl
            · rfl
            · cases hh
      obtain ⟨zu, z1, z2, z3, z4⟩ := low c z hz
      obtain ⟨uu, u1, u2, u3, u4⟩ := low d u hu
      obtain ⟨r1, r2, r3⟩ := k.sep c d zu uu q s z1 u1 (z2 hzo) hne hq hs hp
      by_cases hcb : c = b
      · subst hcb
        rw [hb] at z1
        cases z1
        rw [h1] at hq
        cases hq
        have hzc : z = x.put (x.cells.take off ++ vs ++ x.cells.drop (off + vs.length)) := by
          rcases hget c z hz with ⟨_, hzz⟩ | ⟨hh, _⟩
          · rcases hzz with rfl | rfl
            · rfl
            · cases hzo
          · exact absurd rfl hh
        have hzl : z.cells.length = x.cells.length := by rw [hzc]; show (x.cells.take off ++ vs ++ x.cells.drop (off + vs.length)).length = _; simp; omega
        rcases hget d u hu with ⟨e, _⟩ | ⟨_, v, q1, q2, q3, q4⟩
        · exact absurd e.symm hne
        · rw [u1] at q1
          cases q1
          have r4 : u.cells = [] := by
            rcases r1 with r1 | r1
            · exact (q3 r1).1
            · rcases q2 with rfl | rfl
              · exact r1
              · rfl
          have r5 : u.opn = false := by
            rcases q2 with rfl | rfl
            · exact r2
            · rfl
          exact ⟨.inr r4, r5, by omega⟩
      · have e := z4 hcb hzo
        subst e
        refine ⟨?_, ?_, by omega⟩
        · rcases r1 with r1 | r1
          · exact .inl r1
          · exact .inr (List.eq_nil_of_length_eq_zero (by rw [r1] at u3; simpa using u3))
        · cases hd : u.opn with
          | false => rfl
          | true => rw [u2 hd] at r2; cases r2
    · rw [kill_next]; exact k.lim
  · rw [cell_of_row w y.p _ cur x.ty fr h3, Array.getElem?_eq_getElem (by omega)]
    rfl
  · simp only [World.frozen?, h3]
    have := h6.no (i := y.o + off + j) (by omega)
    simp
    omega
end
end Go.Run
namespace Go.Run
open Go Go.RowKit
section
variable {ln : Nat} {w0 : World} {U : Nat → Prop} {G : Gh} {h : Hp} {w : World}
/-- A block may be written no more. -/
theorem HR.shut (k : HR ln w0 U G h w) {a : Nat} {x : Blk} (ha : getB h a = some x) : HR ln w0 U G (setB h a x.shut) w := by
  have hl := k.lt ha
  have hl2 := k.lim
  refine ⟨fun b z hz hg => ?_, fun b z hz => ?_, k.gl, fun b c z u y q hz hu ho hne hy hq hp => ?_, k.lim, k.size, k.below, k.hid⟩
  · rw [getB_setB h a _ b (by omega)] at hz
    split at hz
    · rename_i e
      cases hz
      subst e
      obtain ⟨y, cur', fr', h1, h2, h3, h4, h5, h6, h7, h8⟩ := k.blk b x ha hg
      exact ⟨y, cur', fr', h1, h2, h3, h4, h5, h6, h7, fun ho => (nomatch ho)⟩
    · exact k.blk b z hz hg
  · rw [getB_setB h a _ b (by omega)] at hz
    split at hz
    · rename_i e; rw [e]; exact hl
    · exact k.own b z hz
  · rw [getB_setB h a _ b (by omega)] at hz
    rw [getB_setB h a _ c (by omega)] at hu
    by_cases eb : b = a
    · rw [if_pos eb] at hz
      cases hz
      cases ho
    · rw [if_neg eb] at hz
      by_cases ec : c = a
      · rw [if_pos ec] at hu
        cases hu
        subst ec
        obtain ⟨g1, g2, g3⟩ := k.sep b c z x y q hz ha ho hne hy hq hp
        exact ⟨g1, rfl, g3⟩
      · rw [if_neg ec] at hu
        exact k.sep b c z u y q hz hu ho hne hy hq hp

/-- More cells behind a block's last one, where there is room for them: a new block, which begins inside of the old one. -/
theorem HR.more (k : HR ln w0 U G h w) {b off : Nat} {x : Blk} (hb : getB h b = some x) (ho : x.opn = true) (hoff : off ≤ x.cells.length) {vs : List V} {us : List Value} (hr : RepC ln G vs us) {y : Pl} (hy : G b = some y)
    (hroom : y.o + x.cells.length + vs.length ≤ y.k) (hl : h.next < 1000000) :
    ∃ H, G.Le H ∧ H h.next = some ⟨y.p, y.o + off, y.k, y.s⟩ ∧ HR ln w0 U H ⟨h.next + 1, Tr.set 40 (setB h b x.shut).t h.next ⟨x.ty, x.sz, x.cells.drop off ++ vs, true, b :: x.anc⟩⟩ (w.setCells y.p (y.o + x.cells.length) us) ∧
      (∀ j, j < us.length → (w.cell? ⟨y.p, y.o + x.cells.length + j, none⟩).isSome = true) ∧ (∀ j, j < us.length → w.frozen? ⟨y.p, y.o + x.cells.length + j, none⟩ = false) := by
  obtain ⟨y', cur, fr, h1, h2, h3, h4, h5, h6, h7, h8⟩ := k.blk b x hb (Gh.ne hy)
  rw [hy] at h1
  cases h1
  have hul : us.length = vs.length := hr.1.symm
  have hbl := k.lt hb
  obtain ⟨cur', k1, k2, k3, k4, k5, k6⟩ := setCells_block y.p us (y.o + x.cells.length) w cur h3 (by omega)
  have hw0 := h8 ho
  have hle : G.Le (fun c => if c = h.next then some ⟨y.p, y.o + off, y.k, y.s⟩ else G c) := fun c q e => by
    show (if c = h.next then _ else G c) = some q
    rw [if_neg, e]
    have := (k.gl c q e).1
    omega
  have hG : ∀ c, c ≠ h.next → (if c = h.next then some ⟨y.p, y.o + off, y.k, y.s⟩ else G c) = G c := fun c hc => if_neg hc
  have hget : ∀ c z, getB ⟨h.next + 1, Tr.set 40 (setB h b x.shut).t h.next ⟨x.ty, x.sz, x.cells.drop off ++ vs, true, b :: x.anc⟩⟩ c = some z →
      (c = h.next ∧ z = ⟨x.ty, x.sz, x.cells.drop off ++ vs, true, b :: x.anc⟩) ∨ (c ≠ h.next ∧ c = b ∧ z = x.shut) ∨ (c ≠ h.next ∧ c ≠ b ∧ getB h c = some z) := fun c z hz => by
    rw [getB_set (setB h b x.shut) _ _ _ c hl] at hz
    split at hz
    · rename_i e; cases hz; exact .inl ⟨e, rfl⟩
    · rename_i e
      rw [getB_setB h b _ c (by omega)] at hz
      split at hz
      · rename_i e2; cases hz; exact .inr (.inl ⟨e, e2, rfl⟩)
      · rename_i e2; exact .inr (.inr ⟨e, e2, hz⟩)
  -- what a block of before holds behind the stores
  have old : ∀ c z (u : Blk), getB h c = some u → G c ≠ none → z = u ∨ (c = b ∧ z = x.shut ∧ u = x) → ∃ q cur fr, (if c = h.next then some ⟨y.p, y.o + off, y.k, y.s⟩ else G c) = some q ∧ q.s = z.sz ∧ (w.setCells y.p (y.o + x.cells.length) us).heap[q.p]? = some (.cells cur z.ty fr) ∧ cur.size = q.k ∧ q.o + z.cells.length ≤ q.k ∧
      Fr q.k z.ty fr ∧ (∀ i a, z.cells[i]? = some a → ∃ v, cur[q.o + i]? = some v ∧ RepV ln (fun c => if c = h.next then some ⟨y.p, y.o + off, y.k, y.s⟩ else G c) a v ∧ v.oneCell' = true) ∧ (z.opn = true → w0.heap.size ≤ q.p) := by
    intro c z u hu hgc hz
    obtain ⟨q, curc, frc, p1, p2, p3, p4, p5, p6, p7, p8⟩ := k.blk c u hu hgc
    have hzz : z.ty = u.ty ∧ z.sz = u.sz ∧ z.cells = u.cells ∧ (z.opn = true → u.opn = true) := by
      rcases hz with rfl | ⟨_, rfl, rfl⟩
      · exact ⟨rfl, rfl, rfl, id⟩
      · exact ⟨rfl, rfl, rfl, fun hh => (nomatch hh)⟩
    obtain ⟨e1, e2, e3, e4⟩ := hzz
    have hcn : c ≠ h.next := by have := k.lt hu; omega
    rw [hG c hcn, e1, e2, e3]
    by_cases hp : q.p = y.p
    · have hend : q.o + u.cells.length ≤ y.o + x.cells.length := by
        by_cases hcb : c = b
        · subst hcb
          rw [hb] at hu
          cases hu
          rw [hy] at p1
          cases p1
          omega
        · exact (k.sep b c x u y q hb hu ho (Ne.symm hcb) hy p1 hp.symm).2.2
      have p3' := p3
      rw [hp, h3] at p3'
      injection p3' with p3'
      injection p3' with g1 g2 g3
      subst g1
      subst g3
      refine ⟨q, cur', fr, p1, p2, by rw [hp, ← g2]; exact k1, by omega, p5, p6, fun i a hi => ?_, fun hh => p8 (e4 hh)⟩
      obtain ⟨v, r1, r2, r3⟩ := p7 i a hi
      have hil := (List.getElem?_eq_some_iff.1 hi).1
      exact ⟨v, by rw [k3, if_neg (by omega)]; exact r1, r2.mono hle, r3⟩
    · exact ⟨q, curc, frc, p1, p2, (k4 q.p hp).trans p3, p4, p5, p6, fun i a hi => by
        obtain ⟨v, r1, r2, r3⟩ := p7 i a hi
        exact ⟨v, r1, r2.mono hle, r3⟩, fun hh => p8 (e4 hh)⟩
  refine ⟨_, hle, if_pos rfl, ⟨fun c z hz hgc => ?_, fun c z hz => ?_, fun c q hq => ?_, fun c d z u q s hz hu hzo hne hq hs hp => ?_, by show h.next + 1 ≤ _; omega, by rw [k5]; exact k.size, k.below.trans (k6.mono hw0), fun b hb => ⟨Nat.lt_succ_of_lt (k.hid b hb).1, by
    show (if b = h.next then _ else G b) = none
    rw [if_neg (by have := (k.hid b hb).1; omega)]; exact (k.hid b hb).2⟩⟩, fun j hj => ?_, fun j hj => ?_⟩
  · rcases hget c z hz with ⟨rfl, rfl⟩ | ⟨_, rfl, rfl⟩ | ⟨_, _, hz⟩
    · refine ⟨⟨y.p, y.o + off, y.k, y.s⟩, cur', fr, if_pos rfl, h2, k1, by show _ = y.k; omega, ?_, h6, fun i a hi => ?_, fun _ => hw0⟩
      · show y.o + off + (x.cells.drop off ++ vs).length ≤ y.k
        simp
        omega
      · show ∃ v, cur'[y.o + off + i]? = some v ∧ _
        have hi : (x.cells.drop off ++ vs)[i]? = some a := hi
        rw [List.getElem?_append, List.length_drop] at hi
        rw [k3]
        by_cases c1 : i < x.cells.length - off
        · rw [if_pos c1, List.getElem?_drop] at hi
          rw [if_neg (by omega)]
          obtain ⟨v, r1, r2, r3⟩ := h7 _ a hi
          exact ⟨v, by rw [Nat.add_assoc]; exact r1, r2.mono hle, r3⟩
        · rw [if_neg c1] at hi
          have hil := (List.getElem?_eq_some_iff.1 hi).1
          rw [if_pos (by omega), show y.o + off + i - (y.o + x.cells.length) = i - (x.cells.length - off) by omega]
          have hlt : i - (x.cells.length - off) < us.length := by omega
          have := hr.2 _ a us[i - (x.cells.length - off)] hi (List.getElem?_eq_getElem hlt)
          exact ⟨_, List.getElem?_eq_getElem hlt, this.1.mono hle, this.2⟩
    · exact old c x.shut x hb (Gh.ne hy) (.inr ⟨rfl, rfl, rfl⟩)
    · rename_i n1 _
      rw [hG c n1] at hgc
      exact old c z z hz hgc (.inl rfl)
  · show c < h.next + 1
    rcases hget c z hz with ⟨rfl, _⟩ | ⟨_, rfl, _⟩ | ⟨_, _, hz⟩
    · omega
    · omega
    · have := k.own c z hz; omega
  · by_cases e : c = h.next
    · subst e
      rw [if_pos rfl] at hq
      cases hq
      exact ⟨Nat.lt_succ_self _, by rw [k5]; exact (k.gl b y hy).2⟩
    · rw [hG c e] at hq
      have := k.gl c q hq
      exact ⟨Nat.lt_succ_of_lt this.1, by rw [k5]; exact this.2⟩
  · rcases hget c z hz with ⟨rfl, rfl⟩ | ⟨_, rfl, rfl⟩ | ⟨n1, n2, hz'⟩
    · rw [if_pos rfl] at hq
      cases hq
      rcases hget d u hu with ⟨rfl, _⟩ | ⟨m1, rfl, rfl⟩ | ⟨m1, m2, hu⟩
      · exact absurd rfl hne
      · rw [hG d m1, hy] at hs
        cases hs
        refine ⟨.inl List.mem_cons_self, rfl, ?_⟩
        show y.o + x.cells.length ≤ y.o + off + (x.cells.drop off ++ vs).length
        simp
        omega
      · rw [hG d m1] at hs
        obtain ⟨r1, r2, r3⟩ := k.sep b d x u y s hb hu ho (Ne.symm m2) hy hs hp
        refine ⟨r1.imp (List.mem_cons_of_mem _) id, r2, ?_⟩
        show s.o + u.cells.length ≤ y.o + off + (x.cells.drop off ++ vs).length
        simp
        omega
    · cases hzo
    · rw [hG c n1] at hq
      rcases hget d u hu with ⟨rfl, rfl⟩ | ⟨m1, rfl, rfl⟩ | ⟨m1, m2, hu⟩
      · rw [if_pos rfl] at hs
        cases hs
        have := (k.sep b c x z y q hb hz' ho (Ne.symm n2) hy hq hp.symm).2.1
        rw [this] at hzo
        cases hzo
      · rw [hG d m1] at hs
        rw [hy] at hs
        cases hs
        have := (k.sep d c x z y q hb hz' ho (Ne.symm n2) hy hq hp.symm).2.1
        rw [this] at hzo
        cases hzo
      · rw [hG d m1] at hs
        exact k.sep c d z u q s hz' hu hzo hne hq hs hp
  · rw [cell_of_row w y.p _ cur x.ty fr h3, Array.getElem?_eq_getElem (by omega)]
    rfl
  · simp only [World.frozen?, h3]
    have := h6.no (i := y.o + x.cells.length + j) (by omega)
    simp
    omega
/-- A block that has no place yet. -/
theorem HR.unborn (k : HR ln w0 U G h w) (x : Blk) (hl : h.next < 1000000) : HR ln w0 (fun b => U b ∨ b = h.next) G ⟨h.next + 1, Tr.set 40 h.t h.next x⟩ w := by
  have hn : G h.next = none := by
    cases hg : G h.next with
    | none => rfl
    | some y => have := (k.gl _ y hg).1; omega
  refine ⟨fun b z hz hg => ?_, fun b z hz => ?_, fun b y hy => ⟨Nat.lt_succ_of_lt (k.gl b y hy).1, (k.gl b y hy).2⟩, fun b c z u y q hz hu ho hne hy hq hp => ?_, by show h.next + 1 ≤ _; omega, k.size, k.below, fun b hb => ?_⟩
  · have hne : b ≠ h.next := fun e => hg (by rw [e]; exact hn)
    rw [getB_set h _ _ x b (by omega), if_neg hne] at hz
    exact k.blk b z hz hg
  · show b < h.next + 1
    rw [getB_set h _ _ x b (by omega)] at hz
    split at hz
    · omega
    · have := k.own b z hz; omega
  · have hb : b ≠ h.next := fun e => by rw [e, hn] at hy; cases hy
    have hc : c ≠ h.next := fun e => by rw [e, hn] at hq; cases hq
    rw [getB_set h _ _ x b (by omega), if_neg hb] at hz
    rw [getB_set h _ _ x c (by omega), if_neg hc] at hu
    exact k.sep b c z u y q hz hu ho hne hy hq hp
  · rcases hb with hb | rfl
    · exact ⟨Nat.lt_succ_of_lt (k.hid b hb).1, (k.hid b hb).2⟩
    · exact ⟨Nat.lt_succ_self _, hn⟩
/-- .. gets one. -/
theorem HR.place {m : Nat} (k : HR ln w0 (fun b => U b ∨ b = m) G h w) (hU : ¬ U m) {x : Blk} (hb : getB h m = some x) {cur : Array Value} {fr : Nat × Nat} (hx : x.cells.length ≤ cur.size)
    (hc : ∀ (i : Nat) (c : V), x.cells[i]? = some c → ∃ v, cur[i]? = some v ∧ RepV ln G c v ∧ v.oneCell' = true) (hfr : Fr cur.size x.ty fr) :
    ∃ H, G.Le H ∧ H m = some ⟨w.heap.size, 0, cur.size, x.sz⟩ ∧ HR ln w0 U H h (w.alloc (.cells cur x.ty fr)) := by
  have hn : G m = none := (k.hid m (.inr rfl)).2
  have hle : G.Le (fun b => if b = m then some ⟨w.heap.size, 0, cur.size, x.sz⟩ else G b) := fun b y e => by
    show (if b = m then _ else G b) = some y
    rw [if_neg, e]
    rintro rfl
    rw [hn] at e
    cases e
  have hG : ∀ b, b ≠ m → (if b = m then some ⟨w.heap.size, 0, cur.size, x.sz⟩ else G b) = G b := fun b hb => if_neg hb
  refine ⟨_, hle, if_pos rfl, ⟨fun b z hz hg => ?_, k.own, fun b y hy => ?_, fun b c z u y q hz hu ho hne hy hq hp => ?_, k.lim, by have := k.size; simp; omega, k.below.alloc k.size _, fun b hb => ?_⟩⟩
  · by_cases e : b = m
    · subst e
      rw [hb] at hz
      cases hz
      exact ⟨⟨w.heap.size, 0, cur.size, x.sz⟩, cur, fr, if_pos rfl, rfl, heap_alloc_new w _, rfl, by simpa using hx, hfr, fun i c hi => by
        obtain ⟨v, h1, h2, h3⟩ := hc i c hi
        exact ⟨v, by simpa using h1, h2.mono hle, h3⟩, fun _ => k.size⟩
    · obtain ⟨y, cur', fr', h1, h2, h3, h4, h5, h6, h7, h8⟩ := k.blk b z hz (by rw [hG b e] at hg; exact hg)
      have hlt := (k.gl b y h1).2
      exact ⟨y, cur', fr', hle b y h1, h2, (heap_alloc_old w _ _ hlt).trans h3, h4, h5, h6, fun i c hi => by
        obtain ⟨v, g1, g2, g3⟩ := h7 i c hi
        exact ⟨v, g1, g2.mono hle, g3⟩, h8⟩
  · by_cases e : b = m
    · subst e
      rw [if_pos rfl] at hy
      cases hy
      exact ⟨(k.hid b (.inr rfl)).1, by simp⟩
    · rw [hG b e] at hy
      have := k.gl b y hy
      exact ⟨this.1, by simp; omega⟩
  · by_cases eb : b = m
    · have ec : c ≠ m := fun ec => hne (eb.trans ec.symm)
      rw [eb, if_pos rfl] at hy
      rw [hG c ec] at hq
      cases hy
      have := (k.gl c q hq).2
      have hp : w.heap.size = q.p := hp
      omega
    · rw [hG b eb] at hy
      by_cases ec : c = m
      · rw [ec, if_pos rfl] at hq
        cases hq
        have := (k.gl b y hy).2
        have hp : y.p = w.heap.size := hp
        omega
      · rw [hG c ec] at hq
        exact k.sep b c z u y q hz hu ho hne hy hq hp
  · refine ⟨(k.hid b (.inl hb)).1, ?_⟩
    show (if b = m then _ else G b) = none
    rw [if_neg (fun e => hU (by rw [← e]; exact hb))]
    exact (k.hid b (.inl hb)).2
end
end Go.Run
