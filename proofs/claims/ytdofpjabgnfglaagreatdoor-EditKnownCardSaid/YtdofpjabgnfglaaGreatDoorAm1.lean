/-
An evaluator of compiled Go functions over an abstract memory: its words. It draws nothing from the tape; what it cannot decide it refuses.
-/
import GoSem.Dispatch
set_option linter.unusedVariables false
namespace Go.Am
open Go
noncomputable section

/-! ### Small words: by recursors, since the kernel reckons them fast -/

def sel {α : Type} (c : Bool) (t e : α) : α := Bool.rec e t c
def ob {α β : Type} (x : Option α) (k : α → Option β) : Option β := Option.rec none k x
def oc {α β : Type} (x : Option α) (e : β) (k : α → β) : β := Option.rec e k x
/-- under a test -/
def whn {α : Type} (c : Bool) (t : Option α) : Option α := Bool.rec none t c

def dropL {α : Type} (n : Nat) : List α → List α :=
  Nat.rec (motive := fun _ => List α → List α) (fun l => l) (fun _ ih l => List.rec [] (fun _ t _ => ih t) l) n
def takeL {α : Type} (n : Nat) : List α → List α :=
  Nat.rec (motive := fun _ => List α → List α) (fun _ => []) (fun _ ih l => List.rec [] (fun x t _ => x :: ih t) l) n
def appL {α : Type} (a b : List α) : List α := List.rec b (fun x _ ih => x :: ih) a
def nthL {α : Type} (n : Nat) : List α → Option α :=
  Nat.rec (motive := fun _ => List α → Option α) (fun l => List.rec none (fun x _ _ => some x) l) (fun _ ih l => List.rec none (fun _ t _ => ih t) l) n
def lenL {α : Type} (l : List α) : Nat := List.rec (nat_lit 0) (fun _ _ ih => Nat.succ ih) l

/-! ### Trees by number -/

inductive D4 where
  | a | b | c | d
  deriving DecidableEq

inductive PT (α : Type) where
  | nil
  | node (v : Option α) (a b c d : PT α)

def getp {α : Type} (p : List D4) : PT α → Option α :=
  List.rec (motive := fun _ => PT α → Option α) (fun t => PT.rec none (fun v _ _ _ _ _ _ _ _ => v) t)
    (fun x _ ih t => PT.rec none (fun _ a b c d _ _ _ _ => ih (D4.rec a b c d x)) t) p

def setp {α : Type} (u : α) (p : List D4) : PT α → PT α :=
  List.rec (motive := fun _ => PT α → PT α)
    (fun t => PT.rec (.node (some u) .nil .nil .nil .nil) (fun _ a b c d _ _ _ _ => .node (some u) a b c d) t)
    (fun x _ ih t => PT.rec (D4.rec (.node none (ih .nil) .nil .nil .nil) (.node none .nil (ih .nil) .nil .nil) (.node none .nil .nil (ih .nil) .nil) (.node none .nil .nil .nil (ih .nil)) x)
      (fun v a b c d _ _ _ _ => D4.rec (.node v (ih a) b c d) (.node v a (ih b) c d) (.node v a b (ih c) d) (.node v a b c (ih d)) x) t) p

def dig (n : Nat) : D4 := sel (Nat.beq n (nat_lit 0)) .a (sel (Nat.beq n (nat_lit 1)) .b (sel (Nat.beq n (nat_lit 2)) .c .d))

def pthF (f : Nat) : Nat → List D4 :=
  Nat.rec (motive := fun _ => Nat → List D4) (fun _ => []) (fun _ ih n => Nat.rec [] (fun m _ => dig (Nat.mod m (nat_lit 4)) :: ih (Nat.div m (nat_lit 4))) n) f

/-- the way to a number -/
def pth (n : Nat) : List D4 := pthF n n

def PT.get {α : Type} (t : PT α) (n : Nat) : Option α := getp (pth n) t
def PT.set {α : Type} (t : PT α) (n : Nat) (x : α) : PT α := setp x (pth n) t

/-! ### Values -/

inductive V where
  | bool (b : Bool)
  | int (k : IntKind) (n : Int)
  | str (n : Nat) (s : List Nat)
  | pnil
  | ptr (b o : Nat)
  | snil
  | slice (b o n c : Nat) (ex : Bool)
  | mnil
  | map (r : Nat)
  | fnil
  | fn (f : Nat) (cap : List V)
  | inil
  | iface (t : Nat) (v : V)
  | agg (cs : List V)
  | tup (vs : List V)
  | yld (b : Nat)

abbrev Tm := PT V

def undefV : V := .tup []

/-! ### Compiled code -/

inductive Opd where
  | t (i : Nat)
  | c (v : V)
  | g (g : Nat)
  | f (f : Nat)

/-- kinds of keys and of what is compared -/
inductive K3 where
  | i | s | b

inductive NK where
  | p | s | m | f | i

inductive EqK where
  | one (k : K3)
  | nilp (k : NK)
  | struct (ks : List K3)

inductive LK where
  | s | l | m

inductive COp where
  | mv (x : Opd)
  | pick (c a b : Opd)
  | newv (z : List V)
  | box (x : Opd)
  | bld (z : List V) (ps : List (Nat × Nat × Opd))
  | bsl (z : List V) (n s : Nat) (ps : List (Nat × Nat × Opd))
  | ld (a : Opd)
  | lda (n : Nat) (a : Opd)
  | sto (n : Nat) (a v : Opd)
  | nchk (x : Opd)
  | bin (op : BinOp) (x y : Opd)
  | eq (neg : Bool) (k : EqK) (x y : Opd)
  | isn (neg : Bool) (x : Opd)
  | not (x : Opd)
  | neg (x : Opd)
  | cvi (k : IntKind) (x : Opd)
  | cvss (x : Opd)
  | cvsb (x : Opd)
  | cvbs (x : Opd)
  | cvbb (x : Opd)
  | mkf (f : Nat) (cap : List Opd)
  | mkm
  | mks (z : List V) (s bytes : Nat) (l c : Opd)
  | sls (x : Opd) (lo hi : Option Opd)
  | sl (s : Nat) (x : Opd) (lo hi mx : Option Opd)
  | fa (off : Nat) (x : Opd)
  | fld (off : Nat) (x : Opd)
  | flda (off n : Nat) (x : Opd)
  | ia (s : Nat) (x i : Opd)
  | iap (n s : Nat) (x i : Opd)
  | ixs (x i : Opd)
  | ixa (n s : Nat) (agg : Bool) (x i : Opd)
  | lk (k : EqK) (z : V) (ok : Bool) (m i : Opd)
  | mu (k : EqK) (m i x : Opd)
  | mki (t : Nat) (x : Opd)
  | ext (x : Opd) (i : Nat)
  | call (f : Opd) (args : List Opd)
  | len (k : LK) (x : Opd)
  | lena (n : Nat) (x : Opd)
  | cap (x : Opd)
  | min (x y : Opd)
  | max (x y : Opd)
  | app (s bytes : Nat) (x y : Opd)
  | appz (z : List V) (s bytes : Nat) (x y : Opd)
  | cpy (s : Nat) (x y : Opd)
  | clr (z : List V) (s : Nat) (x : Opd)
  | del (k : EqK) (m i : Opd)
  | eqi (neg : Bool) (l : List (Nat × K3)) (x y : Opd)

structure It where
  dst : Option Nat
  gd : Option (Nat × Bool)
  op : COp

/-- of what kind an operation of a region is, whose order is drawn: an effect; something new; blind to the memory; a look at the memory, with the states at which it may come beside its own -/
inductive DK where
  | eff
  | alc
  | pur
  | ld (chk : List Nat)

structure DIt where
  it : It
  k : DK

inductive CC where
  | skip
  | reg (its : List It)
  | dreg (its : List DIt)
  | seq (a b : CC)
  | cond (c : Opd) (a b : CC)
  | block (id : Nat) (c : CC)
  | loop (c : CC)
  | exit (id : Nat)
  | scope (c : CC)
  | label (l : Nat)
  /-- a loop over a function -/
  | rng (g : Opd) (ps : List Nat) (a c : CC)
  | ret
  | no

inductive CRes where
  | t (t : Nat)
  | c1 (a : Nat)
  | cn (a n : Nat)

structure CFun where
  ntmps : Nat
  res : List CRes
  body : CC

/-! ### Objects, states -/

inductive Obj where
  | cells (cs : PT V) (n esz : Nat)
  | map (es : List (V × V))
  | dead
  /-- a loop over a function: its rounds' parameters, code, temporaries -/
  | lrec (ps : List Nat) (a c : CC) (T : Tm)

structure St where
  heap : PT Obj
  next : Nat

abbrev R := Option (V × St)

def St.alloc (st : St) (o : Obj) : St := ⟨st.heap.set st.next o, Nat.succ st.next⟩
def St.put (st : St) (b : Nat) (o : Obj) : St := ⟨st.heap.set b o, st.next⟩

/-- what lies in the package's variables that are only read: besides what the state has -/
class GT where
  gt : PT Obj

variable [GT]

/-! ### Operations -/

def ev (T : Tm) (x : Opd) : Option V :=
  Opd.rec (fun i => T.get i) (fun v => some v) (fun g => some (.ptr g 0)) (fun f => some (.fn f [])) x

def evs (T : Tm) (l : List Opd) : Option (List V) :=
  List.rec (some []) (fun x _ ih => ob (ev T x) fun a => ob ih fun l => some (a :: l)) l

def loadN (cs : PT V) (n : Nat) : Nat → Option (List V) :=
  Nat.rec (motive := fun _ => Nat → Option (List V)) (fun _ => some []) (fun _ ih o => ob (cs.get o) fun v => ob (ih (Nat.succ o)) fun l => some (v :: l)) n

def storeN (l : List V) : PT V → Nat → PT V :=
  List.rec (motive := fun _ => PT V → Nat → PT V) (fun cs _ => cs) (fun v _ ih cs o => ih (cs.set o v) (Nat.succ o)) l

/-- a row of cells, from the first on -/
def rowOf (l : List V) : PT V := storeN l .nil (nat_lit 0)

/-- the cells of a value -/
def vcells (v : V) : Option (List V) :=
  match v with
  | .agg cs => some cs
  | .tup _ => none
  | v => some [v]

def repV (z : List V) (n : Nat) : List V := Nat.rec [] (fun _ ih => appL z ih) n

def beqL (a : List Nat) : List Nat → Bool :=
  List.rec (motive := fun _ => List Nat → Bool) (fun b => List.rec true (fun _ _ _ => false) b)
    (fun x _ ih b => List.rec false (fun y t _ => sel (Nat.beq x y) (ih t) false) b) a

def bltL (a : List Nat) : List Nat → Bool :=
  List.rec (motive := fun _ => List Nat → Bool) (fun b => List.rec false (fun _ _ _ => true) b)
    (fun x _ ih b => List.rec false (fun y t _ => sel (Nat.blt x y) true (sel (Nat.beq x y) (ih t) false)) b) a

def intEq (x y : Int) : Bool :=
  Int.rec (fun a => Int.rec (fun b => Nat.beq a b) (fun _ => false) y) (fun a => Int.rec (fun _ => false) (fun b => Nat.beq a b) y) x

def intLt (x y : Int) : Bool :=
  Int.rec (fun a => Int.rec (fun b => Nat.blt a b) (fun _ => false) y) (fun a => Int.rec (fun _ => true) (fun b => Nat.blt b a) y) x

/-- two cells that hold no addresses, of one kind -/
def eqC (k : K3) (x y : V) : Option Bool :=
  match k, x, y with
  | .b, .bool a, .bool b => some (sel a b (!b))
  | .i, .int k a, .int j b => whn (decide (k = j)) (some (intEq a b))
  | .s, .str _ a, .str _ b => some (beqL a b)
  | _, _, _ => none

def eqCs (ks : List K3) : List V → List V → Option Bool :=
  List.rec (motive := fun _ => List V → List V → Option Bool) (fun a b => List.rec (List.rec (some true) (fun _ _ _ => none) b) (fun _ _ _ => none) a)
    (fun k _ ih a b => List.rec none (fun x s _ => List.rec none (fun y t _ => ob (eqC k x y) fun r => sel r (ih s t) (some false)) b) a) ks

/-- one of the two is nil -/
def eqN (k : NK) (x y : V) : Option Bool :=
  match k, x, y with
  | .p, .pnil, .pnil => some true
  | .p, .pnil, .ptr _ _ => some false
  | .p, .ptr _ _, .pnil => some false
  | .s, .snil, .snil => some true
  | .s, .snil, .slice _ _ _ _ _ => some false
  | .s, .slice _ _ _ _ _, .snil => some false
  | .m, .mnil, .mnil => some true
  | .m, .mnil, .map _ => some false
  | .m, .map _, .mnil => some false
  | .f, .fnil, .fnil => some true
  | .f, .fnil, .fn _ _ => some false
  | .f, .fn _ _, .fnil => some false
  | .i, .inil, .iface _ _ => some false
  | .i, .iface _ _, .inil => some false
  | _, _, _ => none

def eqS (ks : List K3) (x y : V) : Option Bool :=
  match x, y with
  | .agg a, .agg b => eqCs ks a b
  | _, _ => none

/-- types of numbers and texts, by their number -/
def lookT (t : Nat) (l : List (Nat × K3)) : Option K3 := List.rec none (fun p _ ih => sel (Nat.beq t p.1) (some p.2) ih) l

/-- two interfaces -/
def eqT (l : List (Nat × K3)) (x y : V) : Option Bool :=
  match x, y with
  | .inil, .iface _ _ => some false
  | .iface _ _, .inil => some false
  | .iface t x, .iface u y => sel (Nat.beq t u) (ob (lookT t l) fun k => eqC k x y) (some false)
  | _, _ => none

def eqV (k : EqK) (x y : V) : Option Bool :=
  match k with
  | .nilp k => eqN k x y
  | .struct ks => eqS ks x y
  | .one k => eqC k x y

def w64 (n : Int) : Int :=
  Int.rec (fun m => sel (Nat.blt m (nat_lit 9223372036854775808)) (.ofNat m) (IntKind.i64.wrap n)) (fun m => sel (Nat.blt m (nat_lit 9223372036854775808)) (.negSucc m) (IntKind.i64.wrap n)) n

def wrapF (k : IntKind) (n : Int) : Int :=
  match k with
  | .i64 => w64 n
  | k => k.wrap n

def binI (op : BinOp) (k : IntKind) (a b : Int) : Option V :=
  match op with
  | .add => some (.int k (wrapF k (Int.add a b)))
  | .sub => some (.int k (wrapF k (Int.sub a b)))
  | .mul => some (.int k (wrapF k (Int.mul a b)))
  | .quo => sel (intEq b 0) none (some (.int k (wrapF k (Int.tdiv a b))))
  | .rem => sel (intEq b 0) none (some (.int k (Int.tmod a b)))
  | .and => some (.int k (k.wrap (BitVec.ofInt k.bits a &&& BitVec.ofInt k.bits b).toNat))
  | .or => some (.int k (k.wrap (BitVec.ofInt k.bits a ||| BitVec.ofInt k.bits b).toNat))
  | .xor => some (.int k (k.wrap (BitVec.ofInt k.bits a ^^^ BitVec.ofInt k.bits b).toNat))
  | .andNot => some (.int k (k.wrap (BitVec.ofInt k.bits a &&& ~~~ BitVec.ofInt k.bits b).toNat))
  | .shl => none
  | .shr => none
  | .eql => some (.bool (intEq a b))
  | .neq => some (.bool (!intEq a b))
  | .lss => some (.bool (intLt a b))
  | .leq => some (.bool (!intLt b a))
  | .gtr => some (.bool (intLt b a))
  | .geq => some (.bool (!intLt a b))

/-- what no length passes here -/
def big : Nat := nat_lit 1099511627776

def binS (op : BinOp) (n : Nat) (a : List Nat) (m : Nat) (b : List Nat) : Option V :=
  match op with
  | .add => whn (Nat.blt (Nat.add n m) big) (some (.str (Nat.add n m) (appL a b)))
  | .eql => some (.bool (beqL a b))
  | .neq => some (.bool (!beqL a b))
  | .lss => some (.bool (bltL a b))
  | .leq => some (.bool (bltL a b || beqL a b))
  | .gtr => some (.bool (!(bltL a b || beqL a b)))
  | .geq => some (.bool (!bltL a b))
  | _ => none

def shf (op : BinOp) (k : IntKind) (a b : Int) : Option V :=
  sel (intLt b 0) none
  (match op with
  | .shl => some (.int k (wrapF k (a * 2 ^ (Nat.min b.toNat k.bits))))
  | .shr => some (.int k (a.fdiv (2 ^ (Nat.min b.toNat k.bits))))
  | _ => none)

def isSh (op : BinOp) : Bool :=
  match op with
  | .shl => true
  | .shr => true
  | _ => false

def binV (op : BinOp) (x y : V) : Option V :=
  match x, y with
  | .int k a, .int j b => sel (isSh op) (shf op k a b) (whn (decide (k = j)) (binI op k a b))
  | .str n a, .str m b => binS op n a m b
  | _, _ => none

def natI (n : Int) : Option Nat := Int.rec (fun n => some n) (fun _ => none) n

def vnat (v : V) : Option Nat :=
  match v with
  | .int _ n => natI n
  | _ => none

/-- a bound of a slice -/
def bnd (T : Tm) (d : Nat) (x : Option Opd) : Option Nat := oc x (some d) fun x => ob (ev T x) vnat

def pur (v : Option V) (st : St) : R := ob v fun v => some (v, st)

def asBool (v : V) : Option Bool :=
  match v with
  | .bool b => some b
  | _ => none

def asPtr (v : V) : Option (Nat × Nat) :=
  match v with
  | .ptr b o => some (b, o)
  | _ => none

def asInt (v : V) : Option (IntKind × Int) :=
  match v with
  | .int k n => some (k, n)
  | _ => none

def asStr (v : V) : Option (Nat × List Nat) :=
  match v with
  | .str n l => some (n, l)
  | _ => none

def asAgg (v : V) : Option (List V) :=
  match v with
  | .agg l => some l
  | _ => none

/-- from here on the numbers of functions stand for rounds of loops over functions -/
def YN : Nat := nat_lit 1000000007

def asFn (v : V) : Option (Nat × List V) :=
  match v with
  | .fn f c => whn (Nat.blt f YN) (some (f, c))
  | .yld b => some (Nat.add YN b, [])
  | _ => none

def opPick (T : Tm) (c a b : Opd) (st : St) : R :=
  ob (ev T c) fun c => ob (asBool c) fun c => sel c (pur (ev T a) st) (pur (ev T b) st)

def opNew (z : List V) (st : St) : R :=
  some (.ptr st.next (nat_lit 0), st.alloc (.cells (rowOf z) (lenL z) (lenL z)))

def opBox (v : Option V) (st : St) : R := ob v fun v => ob (vcells v) fun z => opNew z st

/-- the parts of what is built, laid into a row -/
def fillV (T : Tm) (lim : Nat) (l : List (Nat × Nat × Opd)) : PT V → Option (PT V) :=
  List.rec (motive := fun _ => PT V → Option (PT V)) (fun cs => some cs)
    (fun p _ ih cs => ob (ev T p.2.2) fun v => ob (vcells v) fun l => whn (Nat.beq (lenL l) p.2.1) (whn (Nat.ble (Nat.add p.1 p.2.1) lim) (ih (storeN l cs p.1)))) l

def opBld (T : Tm) (z : List V) (ps : List (Nat × Nat × Opd)) (st : St) : R :=
  ob (fillV T (lenL z) ps (rowOf z)) fun cs => ob (loadN cs (lenL z) (nat_lit 0)) fun l => some (.agg l, st)

def opBsl (T : Tm) (z : List V) (n s : Nat) (ps : List (Nat × Nat × Opd)) (st : St) : R :=
  ob (fillV T (Nat.mul n s) ps (rowOf (repV z n))) fun cs => some (.slice st.next (nat_lit 0) n n true, st.alloc (.cells cs (Nat.mul n s) s))

def asCells (o : Obj) : Option (PT V × Nat × Nat) :=
  match o with
  | .cells cs n e => some (cs, n, e)
  | _ => none

def asMap (o : Obj) : Option (List (V × V)) :=
  match o with
  | .map es => some es
  | _ => none

def getCells (st : St) (b : Nat) : Option (PT V × Nat × Nat) := ob (st.heap.get b) asCells
/-- of what is only read, too -/
def rdCells (st : St) (b : Nat) : Option (PT V × Nat × Nat) := ob (oc (st.heap.get b) (GT.gt.get b) some) asCells
def getMap (st : St) (b : Nat) : Option (List (V × V)) := ob (st.heap.get b) asMap

def opLd (a : Option V) (st : St) : R :=
  ob a fun a => ob (asPtr a) fun p => ob (rdCells st p.1) fun q => ob (q.1.get p.2) fun v => some (v, st)

def opLda (n : Nat) (a : Option V) (st : St) : R :=
  ob a fun a => ob (asPtr a) fun p => ob (rdCells st p.1) fun q => ob (loadN q.1 n p.2) fun l => some (.agg l, st)

def opSto (n : Nat) (a v : Option V) (st : St) : R :=
  ob a fun a => ob v fun v => ob (asPtr a) fun p => ob (vcells v) fun l => whn (Nat.beq (lenL l) n)
    (ob (getCells st p.1) fun q => whn (Nat.ble (Nat.add p.2 n) q.2.1) (some (undefV, st.put p.1 (.cells (storeN l q.1 p.2) q.2.1 q.2.2))))

def opNchk (x : Option V) (st : St) : R :=
  ob x fun x => match x with
  | .ptr b o => some (.ptr b o, st)
  | .fn f c => some (.fn f c, st)
  | _ => none

def opEq (neg : Bool) (k : EqK) (x y : Option V) (st : St) : R :=
  ob x fun a => ob y fun b => ob (eqV k a b) fun r => some (.bool (sel neg (!r) r), st)

def opEqi (neg : Bool) (l : List (Nat × K3)) (x y : Option V) (st : St) : R :=
  ob x fun a => ob y fun b => ob (eqT l a b) fun r => some (.bool (sel neg (!r) r), st)

/-- an interface against the literal nil -/
def opIsn (neg : Bool) (x : Option V) (st : St) : R :=
  ob x fun x => match x with
  | .inil => some (.bool (!neg), st)
  | .iface _ _ => some (.bool neg, st)
  | _ => none

def opBin (op : BinOp) (x y : Option V) (st : St) : R :=
  ob x fun a => ob y fun b => pur (binV op a b) st

def opNot (x : Option V) (st : St) : R := ob x fun x => ob (asBool x) fun b => some (.bool (!b), st)

def opNeg (x : Option V) (st : St) : R := ob x fun x => ob (asInt x) fun p => some (.int p.1 (wrapF p.1 (Int.sub 0 p.2)), st)

def opCvi (k : IntKind) (x : Option V) (st : St) : R := ob x fun x => ob (asInt x) fun p => some (.int k (wrapF k p.2), st)

def opCvss (x : Option V) (st : St) : R := ob x fun x => ob (asStr x) fun p => some (.str p.1 p.2, st)

def byteV (b : Nat) : V := .int .u8 (.ofNat b)
def bytesV (l : List Nat) : List V := List.rec [] (fun b _ ih => byteV b :: ih) l

def opCvsb (x : Option V) (st : St) : R :=
  ob x fun x => ob (asStr x) fun p => some (.slice st.next (nat_lit 0) p.1 p.1 false, st.alloc (.cells (rowOf (bytesV p.2)) p.1 (nat_lit 1)))

def isU8 (k : IntKind) : Bool :=
  match k with
  | .u8 => true
  | _ => false

def byteN (v : V) : Option Nat :=
  ob (asInt v) fun p => whn (isU8 p.1) (ob (natI p.2) fun n => whn (Nat.blt n (nat_lit 256)) (some n))

def bytesN (l : List V) : Option (List Nat) := List.rec (some []) (fun v _ ih => ob (byteN v) fun n => ob ih fun l => some (n :: l)) l

def opCvbs (x : Option V) (st : St) : R :=
  ob x fun x => match x with
  | .snil => some (.str (nat_lit 0) [], st)
  | .slice b o n _ _ => ob (getCells st b) fun q => ob (loadN q.1 n o) fun l => ob (bytesN l) fun s => some (.str n s, st)
  | _ => none

/-- a row of bytes to a row of bytes: the machine marks its block -/
def opCvbb (x : Option V) (st : St) : R :=
  ob x fun x => match x with
  | .slice b o n c ex => ob (getCells st b) fun q => whn (Nat.beq q.2.2 (nat_lit 1)) (some (.slice b o n c ex, st))
  | _ => none

def opMks (z : List V) (s bytes : Nat) (l c : Option V) (st : St) : R :=
  ob l fun l => ob c fun c => ob (vnat l) fun l => ob (vnat c) fun c => whn (Nat.ble l c) <| whn (Nat.blt c big) <| (whn (Nat.blt (Nat.mul c bytes) big)
    (some (.slice st.next (nat_lit 0) l c true, st.alloc (.cells (rowOf (repV z c)) (Nat.mul c s) s))))

def opSls (T : Tm) (x : Option V) (lo hi : Option Opd) (st : St) : R :=
  ob x fun x => ob (asStr x) fun p => ob (bnd T (nat_lit 0) lo) fun a => ob (bnd T p.1 hi) fun b => whn (Nat.ble a b) (whn (Nat.ble b p.1)
    (some (.str (Nat.sub b a) (takeL (Nat.sub b a) (dropL a p.2)), st)))

def opSl (T : Tm) (s : Nat) (x : Option V) (lo hi mx : Option Opd) (st : St) : R :=
  ob x fun x => match x with
  | .snil => ob (bnd T (nat_lit 0) lo) fun l => ob (bnd T (nat_lit 0) hi) fun h => whn (Nat.beq l (nat_lit 0)) (whn (Nat.beq h (nat_lit 0)) (oc mx (some (.snil, st)) fun _ => none))
  | .slice b o n c ex => ob (getCells st b) fun q => whn (Nat.beq q.2.2 s) (ob (bnd T (nat_lit 0) lo) fun l => ob (bnd T n hi) fun h => whn (Nat.ble l h)
      (oc mx (whn (Nat.ble h c) (some (.slice b (Nat.add o (Nat.mul l s)) (Nat.sub h l) (Nat.sub c l) ex, st)))
        fun m => ob hi fun _ => ob (ev T m) fun m => ob (vnat m) fun m => whn (Nat.ble h m) (whn (Nat.ble m c) (some (.slice b (Nat.add o (Nat.mul l s)) (Nat.sub h l) (Nat.sub m l) true, st)))))
  | _ => none

def opFa (off : Nat) (x : Option V) (st : St) : R := ob x fun x => ob (asPtr x) fun p => some (.ptr p.1 (Nat.add p.2 off), st)

def opFld (off : Nat) (x : Option V) (st : St) : R := ob x fun x => ob (asAgg x) fun cs => ob (nthL off cs) fun v => some (v, st)

def opFlda (off n : Nat) (x : Option V) (st : St) : R :=
  ob x fun x => ob (asAgg x) fun cs => whn (Nat.ble (Nat.add off n) (lenL cs)) (some (.agg (takeL n (dropL off cs)), st))

def asSl (v : V) : Option (Nat × Nat × Nat) :=
  match v with
  | .slice b o n _ _ => some (b, o, n)
  | _ => none

def opIa (s : Nat) (x i : Option V) (st : St) : R :=
  ob x fun x => ob i fun i => ob (asSl x) fun p => ob (vnat i) fun k => whn (Nat.blt k p.2.2) (some (.ptr p.1 (Nat.add p.2.1 (Nat.mul k s)), st))

def opIap (n s : Nat) (x i : Option V) (st : St) : R :=
  ob x fun x => ob i fun i => ob (asPtr x) fun p => ob (vnat i) fun k => whn (Nat.blt k n) (some (.ptr p.1 (Nat.add p.2 (Nat.mul k s)), st))

def opIxs (x i : Option V) (st : St) : R :=
  ob x fun x => ob i fun i => ob (asStr x) fun p => ob (vnat i) fun k => ob (nthL k p.2) fun c => some (byteV c, st)

def opIxa (n s : Nat) (agg : Bool) (x i : Option V) (st : St) : R :=
  ob i fun i => ob (vnat i) fun k => whn (Nat.blt k n) (sel agg (opFlda (Nat.mul k s) s x st) (opFld (Nat.mul k s) x st))

def lookV (q : EqK) (k : V) (l : List (V × V)) : Option (Option V) :=
  List.rec (some none) (fun e _ ih => ob (eqV q k e.1) fun r => sel r (some (some e.2)) ih) l

def updV (q : EqK) (k v : V) (l : List (V × V)) : Option (List (V × V)) :=
  List.rec (some [(k, v)]) (fun e t ih => ob (eqV q k e.1) fun r => sel r (some ((k, v) :: t)) (ob ih fun l => some (e :: l))) l

def delV (q : EqK) (k : V) (l : List (V × V)) : Option (List (V × V)) :=
  List.rec (some []) (fun e t ih => ob (eqV q k e.1) fun r => sel r (some t) (ob ih fun l => some (e :: l))) l

def okRes (ok : Bool) (v : V) (b : Bool) : V := sel ok (.tup [v, .bool b]) v

def opLk (q : EqK) (z : V) (ok : Bool) (m i : Option V) (st : St) : R :=
  ob m fun m => ob i fun k => ob (eqV q k k) fun p => whn p <| match m with
  | .mnil => some (okRes ok z false, st)
  | .map r => ob (getMap st r) fun es => ob (lookV q k es) fun o => oc o (some (okRes ok z false, st)) fun v => some (okRes ok v true, st)
  | _ => none

def asM (v : V) : Option Nat :=
  match v with
  | .map r => some r
  | _ => none

def opMu (q : EqK) (m i x : Option V) (st : St) : R :=
  ob m fun m => ob i fun k => ob x fun x => ob (asM m) fun r => ob (getMap st r) fun es => ob (eqV q k k) fun p => whn p (ob (updV q k x es) fun es => some (undefV, st.put r (.map es)))

def opDel (q : EqK) (m i : Option V) (st : St) : R :=
  ob m fun m => ob i fun k => ob (asM m) fun r => ob (getMap st r) fun es => ob (eqV q k k) fun p => whn p <| ob (delV q k es) fun es => some (undefV, st.put r (.map es))

def asTup (v : V) : Option (List V) :=
  match v with
  | .tup l => some l
  | _ => none

def opExt (x : Option V) (i : Nat) (st : St) : R := ob x fun x => ob (asTup x) fun vs => ob (nthL i vs) fun v => some (v, st)

def opLen (k : LK) (x : Option V) (st : St) : R :=
  ob x fun x => match k, x with
  | .s, .str n _ => some (.int .i64 (.ofNat n), st)
  | .l, .snil => some (.int .i64 (.ofNat (nat_lit 0)), st)
  | .l, .slice _ _ n _ _ => some (.int .i64 (.ofNat n), st)
  | .m, .mnil => some (.int .i64 (.ofNat (nat_lit 0)), st)
  | .m, .map r => ob (getMap st r) fun es => some (.int .i64 (.ofNat (lenL es)), st)
  | _, _ => none

def opCap (x : Option V) (st : St) : R :=
  ob x fun x => match x with
  | .snil => some (.int .i64 (.ofNat (nat_lit 0)), st)
  | .slice _ _ _ c ex => whn ex (some (.int .i64 (.ofNat c), st))
  | _ => none

def opMin (x y : Option V) (st : St) : R :=
  ob x fun x => ob y fun y => ob (asInt x) fun p => ob (asInt y) fun q => some (.int p.1 (sel (intLt q.2 p.2) q.2 p.2), st)

def opMax (x y : Option V) (st : St) : R :=
  ob x fun x => ob y fun y => ob (asInt x) fun p => ob (asInt y) fun q => some (.int p.1 (sel (intLt p.2 q.2) q.2 p.2), st)

/-- m elements of s cells, loaded already, behind a slice: into the room that is known; else into a new row (where there may be room that is not known, the old row is dead then). -/
def appR (s : Nat) (b o n m : Nat) (ex : Bool) (cs : PT V) (new : List V) (st : St) : R :=
  some (.slice st.next (nat_lit 0) (Nat.add n m) (Nat.add n m) false,
    (sel ex st (st.put b .dead)).alloc (.cells (storeN new cs (Nat.mul n s)) (Nat.mul (Nat.add n m) s) s))

def appS (s bytes : Nat) (b o n c : Nat) (ex : Bool) (new : List V) (m : Nat) (st : St) : R :=
  ob (getCells st b) fun q => whn (Nat.beq q.2.2 s)
    (sel (Nat.ble (Nat.add n m) c)
      (whn (Nat.ble (Nat.add o (Nat.mul (Nat.add n m) s)) q.2.1) (some (.slice b o (Nat.add n m) c ex, st.put b (.cells (storeN new q.1 (Nat.add o (Nat.mul n s))) q.2.1 q.2.2))))
      (whn (Nat.blt (Nat.add n m) big) <| whn (Nat.blt (Nat.mul (Nat.add n m) bytes) big)
        (sel (sel (Nat.beq o (nat_lit 0)) (Nat.beq q.2.1 (Nat.mul n s)) false)
          (appR s b o n m ex q.1 new st)
          (ob (loadN q.1 (Nat.mul n s) o) fun l => appR s b o n m ex (rowOf l) new st))))

def appV (s bytes : Nat) (x : V) (new : List V) (m : Nat) (st : St) : R :=
  match x with
  | .snil => sel (Nat.beq m (nat_lit 0)) (some (.snil, st)) (whn (Nat.blt m big) <| whn (Nat.blt (Nat.mul m bytes) big)
      (some (.slice st.next (nat_lit 0) m m false, st.alloc (.cells (rowOf new) (Nat.mul m s) s))))
  | .slice b o n c ex => appS s bytes b o n c ex new m st
  | _ => none

def elemsV (s : Nat) (y : V) (st : St) : Option (List V × Nat) :=
  match y with
  | .snil => some ([], nat_lit 0)
  | .str n l => whn (Nat.beq s (nat_lit 1)) (some (bytesV l, n))
  | .slice b o n _ _ => ob (getCells st b) fun q => ob (loadN q.1 (Nat.mul n s) o) fun l => some (l, n)
  | _ => none

def opApp (s bytes : Nat) (x y : Option V) (st : St) : R :=
  ob x fun x => ob y fun y => ob (elemsV s y st) fun p => appV s bytes x p.1 p.2 st

def opAppz (z : List V) (s bytes : Nat) (x y : Option V) (st : St) : R :=
  ob x fun x => ob y fun y => ob (vnat y) fun m => whn (Nat.blt m big) <| whn (Nat.blt (Nat.mul m bytes) big) <| appV s bytes x (repV z m) m st

/-- no more than so many elements -/
def cutV (k : Nat) (v : V) : V :=
  match v with
  | .slice b o n c ex => .slice b o (Nat.min k n) c ex
  | v => v

def opCpy (s : Nat) (x y : Option V) (st : St) : R :=
  ob x fun x => ob y fun y => match x with
  | .snil => ob (elemsV s y st) fun _ => some (.int .i64 (.ofNat (nat_lit 0)), st)
  | .slice b o n _ _ => ob (elemsV s (cutV n y) st) fun p => ob (getCells st b) fun q => whn (Nat.beq q.2.2 s) (whn (Nat.ble (Nat.add o (Nat.mul n s)) q.2.1)
      (some (.int .i64 (.ofNat (Nat.min p.2 n)), st.put b (.cells (storeN (takeL (Nat.mul (Nat.min p.2 n) s) p.1) q.1 o) q.2.1 q.2.2))))
  | _ => none

def opClr (z : List V) (s : Nat) (x : Option V) (st : St) : R :=
  ob x fun x => match x with
  | .snil => some (undefV, st)
  | .slice b o n _ _ => ob (getCells st b) fun q => whn (Nat.beq q.2.2 s) (whn (Nat.ble (Nat.add o (Nat.mul n s)) q.2.1)
      (some (undefV, st.put b (.cells (storeN (repV z n) q.1 o) q.2.1 q.2.2))))
  | _ => none

abbrev CallF := Nat → List V → St → R

def opCall (call : CallF) (f : Option V) (args : Option (List V)) (st : St) : R :=
  ob f fun f => ob args fun l => ob (asFn f) fun p => call p.1 (appL l p.2) st

def opMkf (f : Nat) (cap : Option (List V)) (st : St) : R := ob cap fun l => some (.fn f l, st)

def opMki (t : Nat) (x : Option V) (st : St) : R := ob x fun v => some (.iface t v, st)

def opV (call : CallF) (T : Tm) (o : COp) (st : St) : R :=
  match o with
  | .mv x => pur (ev T x) st
  | .pick c a b => opPick T c a b st
  | .newv z => opNew z st
  | .box x => opBox (ev T x) st
  | .bld z ps => opBld T z ps st
  | .bsl z n s ps => opBsl T z n s ps st
  | .ld a => opLd (ev T a) st
  | .lda n a => opLda n (ev T a) st
  | .sto n a v => opSto n (ev T a) (ev T v) st
  | .nchk x => opNchk (ev T x) st
  | .bin op x y => opBin op (ev T x) (ev T y) st
  | .eq neg k x y => opEq neg k (ev T x) (ev T y) st
  | .isn neg x => opIsn neg (ev T x) st
  | .not x => opNot (ev T x) st
  | .neg x => opNeg (ev T x) st
  | .cvi k x => opCvi k (ev T x) st
  | .cvss x => opCvss (ev T x) st
  | .cvsb x => opCvsb (ev T x) st
  | .cvbs x => opCvbs (ev T x) st
  | .cvbb x => opCvbb (ev T x) st
  | .mkf f cap => opMkf f (evs T cap) st
  | .mkm => some (.map st.next, st.alloc (.map []))
  | .mks z s bytes l c => opMks z s bytes (ev T l) (ev T c) st
  | .sls x lo hi => opSls T (ev T x) lo hi st
  | .sl s x lo hi mx => opSl T s (ev T x) lo hi mx st
  | .fa off x => opFa off (ev T x) st
  | .fld off x => opFld off (ev T x) st
  | .flda off n x => opFlda off n (ev T x) st
  | .ia s x i => opIa s (ev T x) (ev T i) st
  | .iap n s x i => opIap n s (ev T x) (ev T i) st
  | .ixs x i => opIxs (ev T x) (ev T i) st
  | .ixa n s agg x i => opIxa n s agg (ev T x) (ev T i) st
  | .lk k z ok m i => opLk k z ok (ev T m) (ev T i) st
  | .mu k m i x => opMu k (ev T m) (ev T i) (ev T x) st
  | .mki t x => opMki t (ev T x) st
  | .ext x i => opExt (ev T x) i st
  | .call f args => opCall call (ev T f) (evs T args) st
  | .len k x => opLen k (ev T x) st
  | .lena n _ => some (.int .i64 (.ofNat n), st)
  | .cap x => opCap (ev T x) st
  | .min x y => opMin (ev T x) (ev T y) st
  | .max x y => opMax (ev T x) (ev T y) st
  | .app s bytes x y => opApp s bytes (ev T x) (ev T y) st
  | .appz z s bytes x y => opAppz z s bytes (ev T x) (ev T y) st
  | .cpy s x y => opCpy s (ev T x) (ev T y) st
  | .clr z s x => opClr z s (ev T x) st
  | .del k m i => opDel k (ev T m) (ev T i) st
  | .eqi neg l x y => opEqi neg l (ev T x) (ev T y) st

/-! ### Runs -/

inductive Ex where
  | norm
  | exit (n : Nat)
  | ret

def putT (T : Tm) (d : Option Nat) (v : V) : Tm := oc d T fun d => T.set d v

def isOn (v : V) (want : Bool) : Option Bool :=
  match v with
  | .bool b => some (sel b want (!want))
  | .tup _ => some false
  | _ => none

/-- is the guard met? none: not known -/
def met (T : Tm) (g : Option (Nat × Bool)) : Option Bool := oc g (some true) fun p => ob (T.get p.1) fun v => isOn v p.2

abbrev TS := Option (Tm × St)

def itsV (call : CallF) (l : List It) : Tm → St → TS :=
  List.rec (motive := fun _ => Tm → St → TS) (fun T st => some (T, st))
    (fun i _ ih T st => ob (met T i.gd) fun b => sel b (ob (opV call T i.op st) fun r => ih (putT T i.dst r.1) r.2) (ih (putT T i.dst undefV) st)) l

def initT (l : List V) : Nat → Tm → Tm :=
  List.rec (motive := fun _ => Nat → Tm → Tm) (fun _ T => T) (fun v _ ih i T => ih (Nat.succ i) (T.set i v)) l

def resOf (T : Tm) (st : St) (r : CRes) : R :=
  CRes.rec (fun t => pur (T.get t) st) (fun a => opLd (T.get a) st) (fun a n => opLda n (T.get a) st) r

def resV (T : Tm) (st : St) (l : List CRes) : Option (List V) :=
  List.rec (some []) (fun r _ ih => ob (resOf T st r) fun p => ob ih fun l => some (p.1 :: l)) l

def resOne (l : List V) : V := List.rec (.tup []) (fun v t _ => List.rec v (fun _ _ _ => .tup l) t) l

abbrev RS := Option (Ex × Tm × St)

def retV (fn : CFun) (o : RS) : R :=
  ob o fun p => Ex.rec (ob (resV p.2.1 p.2.2 fn.res) fun l => some (resOne l, p.2.2)) (fun _ => none) (ob (resV p.2.1 p.2.2 fn.res) fun l => some (resOne l, p.2.2)) p.1

abbrev Ext := Nat → Option (List V → St → R)
abbrev CP := Nat → Option CFun

abbrev RunF := CC → Tm → St → RS

/-- the parameters of a round -/
def putsT (ps : List Nat) : List V → Tm → Tm :=
  List.rec (motive := fun _ => List V → Tm → Tm) (fun _ T => T) (fun p _ ih l T => List.rec T (fun v t _ => ih t (T.set p v)) l) ps

def onNorm {α : Type} (r : RS) (k : Tm → St → Option α) : Option α := ob r fun p => Ex.rec (k p.2.1 p.2.2) (fun _ => none) none p.1

def asRec (o : Obj) : Option (List Nat × CC × CC × Tm) :=
  match o with
  | .lrec ps a c T => some (ps, a, c, T)
  | _ => none

/-- a round of a loop over a function -/
def yieldW (rec : RunF) (b : Nat) (args : List V) (st : St) : R :=
  ob (st.heap.get b) fun o => ob (asRec o) fun q => whn (Nat.beq (lenL q.1) (lenL args))
    (onNorm (rec q.2.1 (putsT q.1 args q.2.2.2) (st.put b .dead)) fun T st => onNorm (rec q.2.2.1 T st) fun _ st => some (.bool true, st.put b (.lrec q.1 q.2.1 q.2.2.1 q.2.2.2)))

def callW (P : CP) (X : Ext) (rec : RunF) : CallF := fun f args st =>
  sel (Nat.ble YN f) (yieldW rec (Nat.sub f YN) args st)
    (oc (X f) (ob (P f) fun fn => retV fn (rec fn.body (initT args (nat_lit 0) .nil) st)) fun g => g args st)

/-- a loop over a function: the function is called with what stands for the rounds -/
def rngW (P : CP) (X : Ext) (call : CallF) (g : Option V) (ps : List Nat) (a c : CC) (T : Tm) (st : St) : RS :=
  ob g fun g => ob (asFn g) fun p => whn (Nat.blt p.1 YN) <| whn (oc (X p.1) true fun _ => false)
    (ob (call p.1 (.yld st.next :: p.2) (st.alloc (.lrec ps a c T))) fun r =>
      ob (r.2.heap.get st.next) fun o => ob (asRec o) fun _ => some (.norm, T, r.2.put st.next .dead))

def norm (r : TS) : RS := ob r fun p => some (.norm, p.1, p.2)

def thn (r : RS) (k : Tm → St → RS) : RS := ob r fun p => Ex.rec (k p.2.1 p.2.2) (fun n => some (.exit n, p.2)) (some (.ret, p.2)) p.1

def blk (id : Nat) (r : RS) : RS := ob r fun p => Ex.rec (some (.norm, p.2)) (fun n => sel (Nat.beq n id) (some (.norm, p.2)) (some (.exit n, p.2))) (some (.ret, p.2)) p.1

def cnd (v : Option V) (a b : RS) : RS := ob v fun v => ob (asBool v) fun c => sel c a b

/-! ### A region whose order is drawn: run in the order of its text; what looks at the memory looks again at each state at which it may come -/

def dstep (b : Bool) (call : CallF) (i : It) (T : Tm) (st cur : St) (k : Tm → St → Option (Tm × St × List St)) : Option (Tm × St × List St) :=
  sel b (ob (opV call T i.op st) fun r => k (putT T i.dst r.1) r.2) (k (putT T i.dst undefV) cur)

def runD (call : CallF) (l : List DIt) : Tm → St → St → List St → Option (Tm × St × List St) :=
  List.rec (motive := fun _ => Tm → St → St → List St → Option (Tm × St × List St)) (fun T base cur S => some (T, cur, S))
    (fun i _ ih T base cur S => ob (met T i.it.gd) fun b =>
      DK.rec
        (dstep b call i.it T cur cur fun T cur => ih T cur cur (cur :: S))
        (dstep b call i.it T cur cur fun T cur => ih T base cur S)
        (dstep b call i.it T base base fun T _ => ih T base cur S)
        (fun _ => dstep b call i.it T base base fun T _ => ih T base cur S)
        i.k) l

/-- alike, for sure -/
def sameF (x y : V) : Bool :=
  match x, y with
  | .bool a, .bool b => sel a b (!b)
  | .int k a, .int j b => sel (decide (k = j)) (intEq a b) false
  | .str n a, .str m b => sel (Nat.beq n m) (beqL a b) false
  | .pnil, .pnil => true
  | .ptr a b, .ptr c d => sel (Nat.beq a c) (Nat.beq b d) false
  | .snil, .snil => true
  | .slice b o n c e, .slice b' o' n' c' e' => sel (Nat.beq b b') (sel (Nat.beq o o') (sel (Nat.beq n n') (sel (Nat.beq c c') (sel e e' (!e')) false) false) false) false
  | .mnil, .mnil => true
  | .map a, .map b => Nat.beq a b
  | .fnil, .fnil => true
  | .inil, .inil => true
  | _, _ => false

def sameL (x : List V) : List V → Bool :=
  List.rec (motive := fun _ => List V → Bool) (fun y => List.rec true (fun _ _ _ => false) y)
    (fun a _ ih y => List.rec false (fun b t _ => sel (sameF a b) (ih t) false) y) x

def sameV (x y : V) : Bool :=
  match x, y with
  | .agg a, .agg b => sameL a b
  | .tup a, .tup b => sameL a b
  | .iface t a, .iface u b => sel (Nat.beq t u) (sameF a b) false
  | .fn f a, .fn g b => sel (Nat.beq f g) (sameL a b) false
  | x, y => sameF x y

def looks (call : CallF) (T : Tm) (o : COp) (v : V) (S : List St) (chk : List Nat) : Bool :=
  List.rec true (fun m _ ih => oc (nthL m S) false fun st => oc (opV call T o st) false fun r => sel (sameV r.1 v) ih false) chk

/-- the looks again, with the last temporaries; S: the states between the effects, the last first -/
def chkD (call : CallF) (T : Tm) (S : List St) (l : List DIt) : Bool :=
  List.rec true (fun i _ ih =>
    DK.rec ih ih ih (fun chk => List.rec ih (fun _ _ _ => oc (met T i.it.gd) false fun b => sel b (oc i.it.dst false fun d => oc (T.get d) false fun v => sel (looks call T i.it.op v S chk) ih false) ih) chk) i.k) l

def dregV (call : CallF) (its : List DIt) (T : Tm) (st : St) : TS :=
  ob (runD call its T st st [st]) fun r => whn (chkD call r.1 r.2.2 its) (some (r.1, r.2.1))

def stepR (P : CP) (X : Ext) (rec : RunF) : RunF := fun c T st =>
  match c with
  | .skip => some (.norm, T, st)
  | .seq a b => thn (rec a T st) fun T st => rec b T st
  | .cond c a b => cnd (ev T c) (rec a T st) (rec b T st)
  | .block id c => blk id (rec c T st)
  | .loop c => thn (rec c T st) fun T st => rec (.loop c) T st
  | .exit k => some (.exit k, T, st)
  | .ret => some (.ret, T, st)
  | .reg its => norm (itsV (callW P X rec) its T st)
  | .dreg its => norm (dregV (callW P X rec) its T st)
  | .scope c => rec c T st
  | .label _ => some (.norm, T, st)
  | .rng g ps a c => rngW P X (callW P X rec) (ev T g) ps a c T st
  | .no => none

def run (P : CP) (X : Ext) (n : Nat) : RunF := Nat.rec (motive := fun _ => RunF) (fun _ _ _ => none) (fun _ ih => stepR P X ih) n

def callF (P : CP) (X : Ext) (n : Nat) : CallF := callW P X (run P X n)

end
end Go.Am
