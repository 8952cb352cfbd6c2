/-
A twin of the evaluator that the kernel reckons faster: every choice by a recursor over closed words.
-/
import Derived.Test.YtdofpjabgnfglaaGreatDoorAm2
set_option linter.unusedVariables false
namespace Go.Am
open Go
set_option linter.unusedSectionVars false
variable [GT]
noncomputable section

/-! ### Looks at a value -/

def fBool : V → Option (Bool) := fun v => V.rec (motive_1 := fun _ => Option (Bool)) (motive_2 := fun _ => Unit) (fun b => some b) (fun _ _ => none) (fun _ _ => none) (none) (fun _ _ => none) (none) (fun _ _ _ _ _ => none) (none) (fun _ => none) (none) (fun _ _ _ => none) (none) (fun _ _ _ => none) (fun _ _ => none) (fun _ _ => none) (fun _ => none) () (fun _ _ _ _ => ()) v

theorem fBool_eq : fBool = asBool := by funext v; cases v <;> rfl

def fInt : V → Option (IntKind × Int) := fun v => V.rec (motive_1 := fun _ => Option (IntKind × Int)) (motive_2 := fun _ => Unit) (fun _ => none) (fun k n => some (k, n)) (fun _ _ => none) (none) (fun _ _ => none) (none) (fun _ _ _ _ _ => none) (none) (fun _ => none) (none) (fun _ _ _ => none) (none) (fun _ _ _ => none) (fun _ _ => none) (fun _ _ => none) (fun _ => none) () (fun _ _ _ _ => ()) v

theorem fInt_eq : fInt = asInt := by funext v; cases v <;> rfl

def fStr : V → Option (Nat × List Nat) := fun v => V.rec (motive_1 := fun _ => Option (Nat × List Nat)) (motive_2 := fun _ => Unit) (fun _ => none) (fun _ _ => none) (fun n s => some (n, s)) (none) (fun _ _ => none) (none) (fun _ _ _ _ _ => none) (none) (fun _ => none) (none) (fun _ _ _ => none) (none) (fun _ _ _ => none) (fun _ _ => none) (fun _ _ => none) (fun _ => none) () (fun _ _ _ _ => ()) v

theorem fStr_eq : fStr = asStr := by funext v; cases v <;> rfl

def fPtr : V → Option (Nat × Nat) := fun v => V.rec (motive_1 := fun _ => Option (Nat × Nat)) (motive_2 := fun _ => Unit) (fun _ => none) (fun _ _ => none) (fun _ _ => none) (none) (fun b o => some (b, o)) (none) (fun _ _ _ _ _ => none) (none) (fun _ => none) (none) (fun _ _ _ => none) (none) (fun _ _ _ => none) (fun _ _ => none) (fun _ _ => none) (fun _ => none) () (fun _ _ _ _ => ()) v

theorem fPtr_eq : fPtr = asPtr := by funext v; cases v <;> rfl

def fAgg : V → Option (List V) := fun v => V.rec (motive_1 := fun _ => Option (List V)) (motive_2 := fun _ => Unit) (fun _ => none) (fun _ _ => none) (fun _ _ => none) (none) (fun _ _ => none) (none) (fun _ _ _ _ _ => none) (none) (fun _ => none) (none) (fun _ _ _ => none) (none) (fun _ _ _ => none) (fun z0 _ => (fun l => some l) z0) (fun _ _ => none) (fun _ => none) () (fun _ _ _ _ => ()) v

theorem fAgg_eq : fAgg = asAgg := by funext v; cases v <;> rfl

def fTup : V → Option (List V) := fun v => V.rec (motive_1 := fun _ => Option (List V)) (motive_2 := fun _ => Unit) (fun _ => none) (fun _ _ => none) (fun _ _ => none) (none) (fun _ _ => none) (none) (fun _ _ _ _ _ => none) (none) (fun _ => none) (none) (fun _ _ _ => none) (none) (fun _ _ _ => none) (fun _ _ => none) (fun z0 _ => (fun l => some l) z0) (fun _ => none) () (fun _ _ _ _ => ()) v

theorem fTup_eq : fTup = asTup := by funext v; cases v <;> rfl

def fM : V → Option (Nat) := fun v => V.rec (motive_1 := fun _ => Option (Nat)) (motive_2 := fun _ => Unit) (fun _ => none) (fun _ _ => none) (fun _ _ => none) (none) (fun _ _ => none) (none) (fun _ _ _ _ _ => none) (none) (fun r => some r) (none) (fun _ _ _ => none) (none) (fun _ _ _ => none) (fun _ _ => none) (fun _ _ => none) (fun _ => none) () (fun _ _ _ _ => ()) v

theorem fM_eq : fM = asM := by funext v; cases v <;> rfl

def fFn : V → Option (Nat × List V) := fun v => V.rec (motive_1 := fun _ => Option (Nat × List V)) (motive_2 := fun _ => Unit) (fun _ => none) (fun _ _ => none) (fun _ _ => none) (none) (fun _ _ => none) (none) (fun _ _ _ _ _ => none) (none) (fun _ => none) (none) (fun z0 z1 _ => (fun f c => whn (Nat.blt f YN) (some (f, c))) z0 z1) (none) (fun _ _ _ => none) (fun _ _ => none) (fun _ _ => none) (fun b => some (Nat.add YN b, [])) () (fun _ _ _ _ => ()) v

theorem fFn_eq : fFn = asFn := by funext v; cases v <;> rfl

def fSlc : V → Option (Nat × Nat × Nat) := fun v => V.rec (motive_1 := fun _ => Option (Nat × Nat × Nat)) (motive_2 := fun _ => Unit) (fun _ => none) (fun _ _ => none) (fun _ _ => none) (none) (fun _ _ => none) (none) (fun b o n _ _ => some (b, o, n)) (none) (fun _ => none) (none) (fun _ _ _ => none) (none) (fun _ _ _ => none) (fun _ _ => none) (fun _ _ => none) (fun _ => none) () (fun _ _ _ _ => ()) v

theorem fSlc_eq : fSlc = asSl := by funext v; cases v <;> rfl

def fNat : V → Option (Nat) := fun v => V.rec (motive_1 := fun _ => Option (Nat)) (motive_2 := fun _ => Unit) (fun _ => none) (fun _ n => natI n) (fun _ _ => none) (none) (fun _ _ => none) (none) (fun _ _ _ _ _ => none) (none) (fun _ => none) (none) (fun _ _ _ => none) (none) (fun _ _ _ => none) (fun _ _ => none) (fun _ _ => none) (fun _ => none) () (fun _ _ _ _ => ()) v

theorem fNat_eq : fNat = vnat := by funext v; cases v <;> rfl

def fCells : V → Option (List V) := fun v => V.rec (motive_1 := fun _ => Option (List V)) (motive_2 := fun _ => Unit) (fun b => some [.bool b]) (fun k n => some [.int k n]) (fun n s => some [.str n s]) (some [.pnil]) (fun b o => some [.ptr b o]) (some [.snil]) (fun b o n c ex => some [.slice b o n c ex]) (some [.mnil]) (fun r => some [.map r]) (some [.fnil]) (fun z0 z1 _ => (fun f cap => some [.fn f cap]) z0 z1) (some [.inil]) (fun z0 z1 _ => (fun t x => some [.iface t x]) z0 z1) (fun z0 _ => (fun l => some l) z0) (fun z0 _ => (fun _ => none) z0) (fun b => some [.yld b]) () (fun _ _ _ _ => ()) v

theorem fCells_eq : fCells = vcells := by funext v; cases v <;> rfl

def fOCells : Obj → Option (PT V × Nat × Nat) := fun o => Obj.rec (motive := fun _ => Option (PT V × Nat × Nat)) (fun cs n e => some (cs, n, e)) (fun _ => none) none (fun _ _ _ _ => none) o
theorem fOCells_eq : fOCells = asCells := by funext o; cases o <;> rfl
def fOMap : Obj → Option (List (V × V)) := fun o => Obj.rec (motive := fun _ => Option (List (V × V))) (fun _ _ _ => none) (fun es => some es) none (fun _ _ _ _ => none) o
theorem fOMap_eq : fOMap = asMap := by funext o; cases o <;> rfl

def hCells (st : St) (b : Nat) : Option (PT V × Nat × Nat) := ob (st.heap.get b) fOCells
theorem hCells_eq : hCells = getCells := by funext st b; unfold hCells getCells; rw [fOCells_eq]
def hRd (st : St) (b : Nat) : Option (PT V × Nat × Nat) := ob (oc (st.heap.get b) (GT.gt.get b) some) fOCells
theorem hRd_eq : hRd = rdCells := by funext st b; unfold hRd rdCells; rw [fOCells_eq]
def hMap (st : St) (b : Nat) : Option (List (V × V)) := ob (st.heap.get b) fOMap
theorem hMap_eq : hMap = getMap := by funext st b; unfold hMap getMap; rw [fOMap_eq]

/-! ### Numbers -/

def fW64 (n : Int) : Int :=
  Int.rec (fun m => Nat.rec (.ofNat (nat_lit 0)) (fun k _ => sel (Nat.blt (Nat.succ k) (nat_lit 9223372036854775808)) (.ofNat (Nat.succ k)) (IntKind.i64.wrap (.ofNat (Nat.succ k)))) m)
    (fun m => Nat.rec (.negSucc (nat_lit 0)) (fun k _ => sel (Nat.blt (Nat.succ k) (nat_lit 9223372036854775808)) (.negSucc (Nat.succ k)) (IntKind.i64.wrap (.negSucc (Nat.succ k)))) m) n
theorem fW64_eq : fW64 = w64 := by
  funext n
  cases n with
  | ofNat m => cases m <;> rfl
  | negSucc m => cases m <;> rfl

def fWrap : IntKind → Int → Int := fun k => IntKind.rec (motive := fun _ => Int → Int) (IntKind.wrap .i8) (IntKind.wrap .i16) (IntKind.wrap .i32) fW64 (IntKind.wrap .u8) (IntKind.wrap .u16) (IntKind.wrap .u32) (IntKind.wrap .u64) k
theorem fWrap_eq : fWrap = wrapF := by
  funext k n
  cases k <;> first
    | rfl
    | (show fW64 n = w64 n; rw [fW64_eq])

def kI : IntKind → Nat := fun k => IntKind.rec (motive := fun _ => Nat) (nat_lit 0) (nat_lit 1) (nat_lit 2) (nat_lit 3) (nat_lit 4) (nat_lit 5) (nat_lit 6) (nat_lit 7) k
theorem kI_eq (j k : IntKind) : Nat.beq (kI j) (kI k) = decide (j = k) := by cases j <;> cases k <;> rfl

def bI (k : IntKind) (n : Int) : Option V := some (.int k n)
def bB (b : Bool) : Option V := some (.bool b)
def fBinI : BinOp → IntKind → Int → Int → Option V := fun op => BinOp.rec (motive := fun _ => IntKind → Int → Int → Option V)

  (fun k a b => some (.int k (fWrap k (Int.add a b)))) (fun k a b => some (.int k (fWrap k (Int.sub a b)))) (fun k a b => some (.int k (fWrap k (Int.mul a b)))) (fun k a b => sel (intEq b 0) none (some (.int k (fWrap k (Int.tdiv a b))))) (fun k a b => sel (intEq b 0) none (some (.int k (Int.tmod a b)))) (fun k a b => binI .and k a b) (fun k a b => binI .or k a b) (fun k a b => binI .xor k a b) (fun _ _ _ => none) (fun _ _ _ => none) (fun k a b => binI .andNot k a b) (fun _ a b => some (.bool (intEq a b))) (fun _ a b => some (.bool (!intEq a b))) (fun _ a b => some (.bool (intLt a b))) (fun _ a b => some (.bool (!intLt b a))) (fun _ a b => some (.bool (intLt b a))) (fun _ a b => some (.bool (!intLt a b))) op

theorem fBinI_eq : fBinI = binI := by
  funext op k a b
  cases op <;> first | rfl | (simp only [fBinI, binI, fWrap_eq])

def fBinS : BinOp → Nat → List Nat → Nat → List Nat → Option V := fun op => BinOp.rec (motive := fun _ => Nat → List Nat → Nat → List Nat → Option V)
  (fun n a m b => whn (Nat.blt (Nat.add n m) big) (some (.str (Nat.add n m) (appL a b)))) (fun _ _ _ _ => none) (fun _ _ _ _ => none) (fun _ _ _ _ => none) (fun _ _ _ _ => none) (fun _ _ _ _ => none) (fun _ _ _ _ => none) (fun _ _ _ _ => none) (fun _ _ _ _ => none) (fun _ _ _ _ => none) (fun _ _ _ _ => none) (fun _ a _ b => some (.bool (beqL a b))) (fun _ a _ b => some (.bool (!beqL a b))) (fun _ a _ b => some (.bool (bltL a b))) (fun _ a _ b => some (.bool (bltL a b || beqL a b))) (fun _ a _ b => some (.bool (!(bltL a b || beqL a b)))) (fun _ a _ b => some (.bool (!bltL a b))) op
theorem fBinS_eq : fBinS = binS := by funext op n a m b; cases op <;> rfl

def fIsSh : BinOp → Bool := fun op => BinOp.rec (motive := fun _ => Bool) false false false false false false false false true true false false false false false false false op
theorem fIsSh_eq : fIsSh = isSh := by funext op; cases op <;> rfl

def fShl (k : IntKind) (a b : Int) : Option V := some (.int k (fWrap k (a * 2 ^ (Nat.min b.toNat k.bits))))
def fShr (k : IntKind) (a b : Int) : Option V := some (.int k (a.fdiv (2 ^ (Nat.min b.toNat k.bits))))
def fShB : BinOp → IntKind → Int → Int → Option V := fun op => BinOp.rec (motive := fun _ => IntKind → Int → Int → Option V) (fun _ _ _ => none) (fun _ _ _ => none) (fun _ _ _ => none) (fun _ _ _ => none) (fun _ _ _ => none) (fun _ _ _ => none) (fun _ _ _ => none) (fun _ _ _ => none) fShl fShr (fun _ _ _ => none) (fun _ _ _ => none) (fun _ _ _ => none) (fun _ _ _ => none) (fun _ _ _ => none) (fun _ _ _ => none) (fun _ _ _ => none) op
def fShf (op : BinOp) (k : IntKind) (a b : Int) : Option V := sel (intLt b 0) none (fShB op k a b)
theorem fShf_eq : fShf = shf := by
  funext op k a b
  unfold fShf shf
  cases op <;> first | rfl | (simp only [fShB, fShl, fWrap_eq])

def fBin2 (op : BinOp) (k : IntKind) (a : Int) (j : IntKind) (b : Int) : Option V := sel (fIsSh op) (fShf op k a b) (whn (Nat.beq (kI k) (kI j)) (fBinI op k a b))

def fBinIV : V → BinOp → IntKind → Int → Option V := fun v => V.rec (motive_1 := fun _ => BinOp → IntKind → Int → Option V) (motive_2 := fun _ => Unit) (fun _ => fun _ _ _ => none) (fun j b op k a => fBin2 op k a j b) (fun _ _ => fun _ _ _ => none) (fun _ _ _ => none) (fun _ _ => fun _ _ _ => none) (fun _ _ _ => none) (fun _ _ _ _ _ => fun _ _ _ => none) (fun _ _ _ => none) (fun _ => fun _ _ _ => none) (fun _ _ _ => none) (fun _ _ _ => fun _ _ _ => none) (fun _ _ _ => none) (fun _ _ _ => fun _ _ _ => none) (fun _ _ => fun _ _ _ => none) (fun _ _ => fun _ _ _ => none) (fun _ => fun _ _ _ => none) () (fun _ _ _ _ => ()) v
def fBinSV : V → BinOp → Nat → List Nat → Option V := fun v => V.rec (motive_1 := fun _ => BinOp → Nat → List Nat → Option V) (motive_2 := fun _ => Unit) (fun _ => fun _ _ _ => none) (fun _ _ => fun _ _ _ => none) (fun m b op n a => fBinS op n a m b) (fun _ _ _ => none) (fun _ _ => fun _ _ _ => none) (fun _ _ _ => none) (fun _ _ _ _ _ => fun _ _ _ => none) (fun _ _ _ => none) (fun _ => fun _ _ _ => none) (fun _ _ _ => none) (fun _ _ _ => fun _ _ _ => none) (fun _ _ _ => none) (fun _ _ _ => fun _ _ _ => none) (fun _ _ => fun _ _ _ => none) (fun _ _ => fun _ _ _ => none) (fun _ => fun _ _ _ => none) () (fun _ _ _ _ => ()) v
def fBinV2 : V → BinOp → V → Option V := fun v => V.rec (motive_1 := fun _ => BinOp → V → Option V) (motive_2 := fun _ => Unit) (fun _ => fun _ _ => none) (fun k a op y => fBinIV y op k a) (fun n a op y => fBinSV y op n a) (fun _ _ => none) (fun _ _ => fun _ _ => none) (fun _ _ => none) (fun _ _ _ _ _ => fun _ _ => none) (fun _ _ => none) (fun _ => fun _ _ => none) (fun _ _ => none) (fun _ _ _ => fun _ _ => none) (fun _ _ => none) (fun _ _ _ => fun _ _ => none) (fun _ _ => fun _ _ => none) (fun _ _ => fun _ _ => none) (fun _ => fun _ _ => none) () (fun _ _ _ _ => ()) v
def fBinV (op : BinOp) (x y : V) : Option V := fBinV2 x op y
theorem fBinV_eq : fBinV = binV := by
  funext op x y
  unfold fBinV binV
  cases x <;> first
    | rfl
    | (cases y <;> first
        | rfl
        | (simp only [fBinV2, fBinIV, fBinSV, fBin2, fIsSh_eq, fShf_eq, fBinI_eq, kI_eq, fBinS_eq]; done))

/-! ### What is alike -/

def eBool : V → Bool → Option Bool := fun v => V.rec (motive_1 := fun _ => Bool → Option Bool) (motive_2 := fun _ => Unit) (fun b a => some (sel a b (!b))) (fun _ _ => fun _ => none) (fun _ _ => fun _ => none) (fun _ => none) (fun _ _ => fun _ => none) (fun _ => none) (fun _ _ _ _ _ => fun _ => none) (fun _ => none) (fun _ => fun _ => none) (fun _ => none) (fun _ _ _ => fun _ => none) (fun _ => none) (fun _ _ _ => fun _ => none) (fun _ _ => fun _ => none) (fun _ _ => fun _ => none) (fun _ => fun _ => none) () (fun _ _ _ _ => ()) v
def eInt : V → IntKind → Int → Option Bool := fun v => V.rec (motive_1 := fun _ => IntKind → Int → Option Bool) (motive_2 := fun _ => Unit) (fun _ => fun _ _ => none) (fun j b k a => whn (Nat.beq (kI k) (kI j)) (some (intEq a b))) (fun _ _ => fun _ _ => none) (fun _ _ => none) (fun _ _ => fun _ _ => none) (fun _ _ => none) (fun _ _ _ _ _ => fun _ _ => none) (fun _ _ => none) (fun _ => fun _ _ => none) (fun _ _ => none) (fun _ _ _ => fun _ _ => none) (fun _ _ => none) (fun _ _ _ => fun _ _ => none) (fun _ _ => fun _ _ => none) (fun _ _ => fun _ _ => none) (fun _ => fun _ _ => none) () (fun _ _ _ _ => ()) v
def eStr : V → List Nat → Option Bool := fun v => V.rec (motive_1 := fun _ => List Nat → Option Bool) (motive_2 := fun _ => Unit) (fun _ => fun _ => none) (fun _ _ => fun _ => none) (fun _ b a => some (beqL a b)) (fun _ => none) (fun _ _ => fun _ => none) (fun _ => none) (fun _ _ _ _ _ => fun _ => none) (fun _ => none) (fun _ => fun _ => none) (fun _ => none) (fun _ _ _ => fun _ => none) (fun _ => none) (fun _ _ _ => fun _ => none) (fun _ _ => fun _ => none) (fun _ _ => fun _ => none) (fun _ => fun _ => none) () (fun _ _ _ _ => ()) v
def cB : V → V → Option Bool := fun v => V.rec (motive_1 := fun _ => V → Option Bool) (motive_2 := fun _ => Unit) (fun a y => eBool y a) (fun _ _ => fun _ => none) (fun _ _ => fun _ => none) (fun _ => none) (fun _ _ => fun _ => none) (fun _ => none) (fun _ _ _ _ _ => fun _ => none) (fun _ => none) (fun _ => fun _ => none) (fun _ => none) (fun _ _ _ => fun _ => none) (fun _ => none) (fun _ _ _ => fun _ => none) (fun _ _ => fun _ => none) (fun _ _ => fun _ => none) (fun _ => fun _ => none) () (fun _ _ _ _ => ()) v
def cI : V → V → Option Bool := fun v => V.rec (motive_1 := fun _ => V → Option Bool) (motive_2 := fun _ => Unit) (fun _ => fun _ => none) (fun k a y => eInt y k a) (fun _ _ => fun _ => none) (fun _ => none) (fun _ _ => fun _ => none) (fun _ => none) (fun _ _ _ _ _ => fun _ => none) (fun _ => none) (fun _ => fun _ => none) (fun _ => none) (fun _ _ _ => fun _ => none) (fun _ => none) (fun _ _ _ => fun _ => none) (fun _ _ => fun _ => none) (fun _ _ => fun _ => none) (fun _ => fun _ => none) () (fun _ _ _ _ => ()) v
def cS : V → V → Option Bool := fun v => V.rec (motive_1 := fun _ => V → Option Bool) (motive_2 := fun _ => Unit) (fun _ => fun _ => none) (fun _ _ => fun _ => none) (fun _ a y => eStr y a) (fun _ => none) (fun _ _ => fun _ => none) (fun _ => none) (fun _ _ _ _ _ => fun _ => none) (fun _ => none) (fun _ => fun _ => none) (fun _ => none) (fun _ _ _ => fun _ => none) (fun _ => none) (fun _ _ _ => fun _ => none) (fun _ _ => fun _ => none) (fun _ _ => fun _ => none) (fun _ => fun _ => none) () (fun _ _ _ _ => ()) v
def fEqC : K3 → V → V → Option Bool := fun k => K3.rec (motive := fun _ => V → V → Option Bool) cI cS cB k
theorem fEqC_eq : fEqC = eqC := by
  funext k x y
  cases k <;> cases x <;> first
    | rfl
    | (cases y <;> first
        | rfl
        | (simp only [fEqC, cI, eInt, eqC, kI_eq]; done))

def fEqCs (ks : List K3) : List V → List V → Option Bool :=
  List.rec (motive := fun _ => List V → List V → Option Bool) (fun a b => List.rec (List.rec (some true) (fun _ _ _ => none) b) (fun _ _ _ => none) a)
    (fun k _ ih a b => List.rec none (fun x s _ => List.rec none (fun y t _ => ob (fEqC k x y) fun r => sel r (ih s t) (some false)) b) a) ks
theorem fEqCs_eq : fEqCs = eqCs := by unfold fEqCs eqCs; rw [fEqC_eq]

def nNp : V → Option Bool := fun y => V.rec (motive_1 := fun _ => Option Bool) (motive_2 := fun _ => Unit) (fun _ => none) (fun _ _ => none) (fun _ _ => none) (some true) (fun _ _ => some false) (none) (fun _ _ _ _ _ => none) (none) (fun _ => none) (none) (fun _ _ _ => none) (none) (fun _ _ _ => none) (fun _ _ => none) (fun _ _ => none) (fun _ => none) () (fun _ _ _ _ => ()) y
def nOp : V → Option Bool := fun y => V.rec (motive_1 := fun _ => Option Bool) (motive_2 := fun _ => Unit) (fun _ => none) (fun _ _ => none) (fun _ _ => none) (some false) (fun _ _ => none) (none) (fun _ _ _ _ _ => none) (none) (fun _ => none) (none) (fun _ _ _ => none) (none) (fun _ _ _ => none) (fun _ _ => none) (fun _ _ => none) (fun _ => none) () (fun _ _ _ _ => ()) y
def eNp : V → V → Option Bool := fun x => V.rec (motive_1 := fun _ => V → Option Bool) (motive_2 := fun _ => Unit) (fun _ => fun _ => none) (fun _ _ => fun _ => none) (fun _ _ => fun _ => none) (nNp) (fun _ _ => nOp) (fun _ => none) (fun _ _ _ _ _ => fun _ => none) (fun _ => none) (fun _ => fun _ => none) (fun _ => none) (fun _ _ _ => fun _ => none) (fun _ => none) (fun _ _ _ => fun _ => none) (fun _ _ => fun _ => none) (fun _ _ => fun _ => none) (fun _ => fun _ => none) () (fun _ _ _ _ => ()) x
def nNs : V → Option Bool := fun y => V.rec (motive_1 := fun _ => Option Bool) (motive_2 := fun _ => Unit) (fun _ => none) (fun _ _ => none) (fun _ _ => none) (none) (fun _ _ => none) (some true) (fun _ _ _ _ _ => some false) (none) (fun _ => none) (none) (fun _ _ _ => none) (none) (fun _ _ _ => none) (fun _ _ => none) (fun _ _ => none) (fun _ => none) () (fun _ _ _ _ => ()) y
def nOs : V → Option Bool := fun y => V.rec (motive_1 := fun _ => Option Bool) (motive_2 := fun _ => Unit) (fun _ => none) (fun _ _ => none) (fun _ _ => none) (none) (fun _ _ => none) (some false) (fun _ _ _ _ _ => none) (none) (fun _ => none) (none) (fun _ _ _ => none) (none) (fun _ _ _ => none) (fun _ _ => none) (fun _ _ => none) (fun _ => none) () (fun _ _ _ _ => ()) y
def eNs : V → V → Option Bool := fun x => V.rec (motive_1 := fun _ => V → Option Bool) (motive_2 := fun _ => Unit) (fun _ => fun _ => none) (fun _ _ => fun _ => none) (fun _ _ => fun _ => none) (fun _ => none) (fun _ _ => fun _ => none) (nNs) (fun _ _ _ _ _ => nOs) (fun _ => none) (fun _ => fun _ => none) (fun _ => none) (fun _ _ _ => fun _ => none) (fun _ => none) (fun _ _ _ => fun _ => none) (fun _ _ => fun _ => none) (fun _ _ => fun _ => none) (fun _ => fun _ => none) () (fun _ _ _ _ => ()) x
def nNm : V → Option Bool := fun y => V.rec (motive_1 := fun _ => Option Bool) (motive_2 := fun _ => Unit) (fun _ => none) (fun _ _ => none) (fun _ _ => none) (none) (fun _ _ => none) (none) (fun _ _ _ _ _ => none) (some true) (fun _ => some false) (none) (fun _ _ _ => none) (none) (fun _ _ _ => none) (fun _ _ => none) (fun _ _ => none) (fun _ => none) () (fun _ _ _ _ => ()) y
def nOm : V → Option Bool := fun y => V.rec (motive_1 := fun _ => Option Bool) (motive_2 := fun _ => Unit) (fun _ => none) (fun _ _ => none) (fun _ _ => none) (none) (fun _ _ => none) (none) (fun _ _ _ _ _ => none) (some false) (fun _ => none) (none) (fun _ _ _ => none) (none) (fun _ _ _ => none) (fun _ _ => none) (fun _ _ => none) (fun _ => none) () (fun _ _ _ _ => ()) y
def eNm : V → V → Option Bool := fun x => V.rec (motive_1 := fun _ => V → Option Bool) (motive_2 := fun _ => Unit) (fun _ => fun _ => none) (fun _ _ => fun _ => none) (fun _ _ => fun _ => none) (fun _ => none) (fun _ _ => fun _ => none) (fun _ => none) (fun _ _ _ _ _ => fun _ => none) (nNm) (fun _ => nOm) (fun _ => none) (fun _ _ _ => fun _ => none) (fun _ => none) (fun _ _ _ => fun _ => none) (fun _ _ => fun _ => none) (fun _ _ => fun _ => none) (fun _ => fun _ => none) () (fun _ _ _ _ => ()) x
def nNf : V → Option Bool := fun y => V.rec (motive_1 := fun _ => Option Bool) (motive_2 := fun _ => Unit) (fun _ => none) (fun _ _ => none) (fun _ _ => none) (none) (fun _ _ => none) (none) (fun _ _ _ _ _ => none) (none) (fun _ => none) (some true) (fun z0 z1 _ => (fun _ _ => some false) z0 z1) (none) (fun _ _ _ => none) (fun _ _ => none) (fun _ _ => none) (fun _ => none) () (fun _ _ _ _ => ()) y
def nOf : V → Option Bool := fun y => V.rec (motive_1 := fun _ => Option Bool) (motive_2 := fun _ => Unit) (fun _ => none) (fun _ _ => none) (fun _ _ => none) (none) (fun _ _ => none) (none) (fun _ _ _ _ _ => none) (none) (fun _ => none) (some false) (fun _ _ _ => none) (none) (fun _ _ _ => none) (fun _ _ => none) (fun _ _ => none) (fun _ => none) () (fun _ _ _ _ => ()) y
def eNf : V → V → Option Bool := fun x => V.rec (motive_1 := fun _ => V → Option Bool) (motive_2 := fun _ => Unit) (fun _ => fun _ => none) (fun _ _ => fun _ => none) (fun _ _ => fun _ => none) (fun _ => none) (fun _ _ => fun _ => none) (fun _ => none) (fun _ _ _ _ _ => fun _ => none) (fun _ => none) (fun _ => fun _ => none) (nNf) (fun z0 z1 _ => (fun _ _ => nOf) z0 z1) (fun _ => none) (fun _ _ _ => fun _ => none) (fun _ _ => fun _ => none) (fun _ _ => fun _ => none) (fun _ => fun _ => none) () (fun _ _ _ _ => ()) x
def nNi : V → Option Bool := fun y => V.rec (motive_1 := fun _ => Option Bool) (motive_2 := fun _ => Unit) (fun _ => none) (fun _ _ => none) (fun _ _ => none) (none) (fun _ _ => none) (none) (fun _ _ _ _ _ => none) (none) (fun _ => none) (none) (fun _ _ _ => none) (none) (fun z0 z1 _ => (fun _ _ => some false) z0 z1) (fun _ _ => none) (fun _ _ => none) (fun _ => none) () (fun _ _ _ _ => ()) y
def nOi : V → Option Bool := fun y => V.rec (motive_1 := fun _ => Option Bool) (motive_2 := fun _ => Unit) (fun _ => none) (fun _ _ => none) (fun _ _ => none) (none) (fun _ _ => none) (none) (fun _ _ _ _ _ => none) (none) (fun _ => none) (none) (fun _ _ _ => none) (some false) (fun _ _ _ => none) (fun _ _ => none) (fun _ _ => none) (fun _ => none) () (fun _ _ _ _ => ()) y
def nTi : V → List (Nat × K3) → Nat → V → Option Bool := fun y => V.rec (motive_1 := fun _ => List (Nat × K3) → Nat → V → Option Bool) (motive_2 := fun _ => Unit) (fun _ => fun _ _ _ => none) (fun _ _ => fun _ _ _ => none) (fun _ _ => fun _ _ _ => none) (fun _ _ _ => none) (fun _ _ => fun _ _ _ => none) (fun _ _ _ => none) (fun _ _ _ _ _ => fun _ _ _ => none) (fun _ _ _ => none) (fun _ => fun _ _ _ => none) (fun _ _ _ => none) (fun _ _ _ => fun _ _ _ => none) (fun _ _ _ => some false) (fun z0 z1 _ => (fun u y l t x => sel (Nat.beq t u) (ob (lookT t l) fun k => fEqC k x y) (some false)) z0 z1) (fun _ _ => fun _ _ _ => none) (fun _ _ => fun _ _ _ => none) (fun _ => fun _ _ _ => none) () (fun _ _ _ _ => ()) y
def eTi : V → List (Nat × K3) → V → Option Bool := fun x => V.rec (motive_1 := fun _ => List (Nat × K3) → V → Option Bool) (motive_2 := fun _ => Unit) (fun _ => fun _ _ => none) (fun _ _ => fun _ _ => none) (fun _ _ => fun _ _ => none) (fun _ _ => none) (fun _ _ => fun _ _ => none) (fun _ _ => none) (fun _ _ _ _ _ => fun _ _ => none) (fun _ _ => none) (fun _ => fun _ _ => none) (fun _ _ => none) (fun _ _ _ => fun _ _ => none) (fun _ y => nNi y) (fun z0 z1 _ => (fun t x l y => nTi y l t x) z0 z1) (fun _ _ => fun _ _ => none) (fun _ _ => fun _ _ => none) (fun _ => fun _ _ => none) () (fun _ _ _ _ => ()) x
def eNi : V → V → Option Bool := fun x => V.rec (motive_1 := fun _ => V → Option Bool) (motive_2 := fun _ => Unit) (fun _ => fun _ => none) (fun _ _ => fun _ => none) (fun _ _ => fun _ => none) (fun _ => none) (fun _ _ => fun _ => none) (fun _ => none) (fun _ _ _ _ _ => fun _ => none) (fun _ => none) (fun _ => fun _ => none) (fun _ => none) (fun _ _ _ => fun _ => none) (nNi) (fun z0 z1 _ => (fun _ _ => nOi) z0 z1) (fun _ _ => fun _ => none) (fun _ _ => fun _ => none) (fun _ => fun _ => none) () (fun _ _ _ _ => ()) x
def fEqN : NK → V → V → Option Bool := fun k => NK.rec (motive := fun _ => V → V → Option Bool) eNp eNs eNm eNf eNi k
theorem fEqN_eq : fEqN = eqN := by
  funext k x y
  cases k <;> cases x <;> first
    | rfl
    | (cases y <;> first
        | rfl
        | (simp only [fEqN, eNi, nOi, eqN]; done))
theorem eTi_eq (l : List (Nat × K3)) (x y : V) : eTi x l y = eqT l x y := by
  cases x <;> first
    | rfl
    | (cases y <;> first
        | rfl
        | (simp only [eTi, nTi, eqT, fEqC_eq]; done))
def eAgg : V → List K3 → List V → Option Bool := fun y => V.rec (motive_1 := fun _ => List K3 → List V → Option Bool) (motive_2 := fun _ => Unit) (fun _ => fun _ _ => none) (fun _ _ => fun _ _ => none) (fun _ _ => fun _ _ => none) (fun _ _ => none) (fun _ _ => fun _ _ => none) (fun _ _ => none) (fun _ _ _ _ _ => fun _ _ => none) (fun _ _ => none) (fun _ => fun _ _ => none) (fun _ _ => none) (fun _ _ _ => fun _ _ => none) (fun _ _ => none) (fun _ _ _ => fun _ _ => none) (fun z0 _ => (fun b ks a => fEqCs ks a b) z0) (fun _ _ => fun _ _ => none) (fun _ => fun _ _ => none) () (fun _ _ _ _ => ()) y
def fEqS2 : V → List K3 → V → Option Bool := fun x => V.rec (motive_1 := fun _ => List K3 → V → Option Bool) (motive_2 := fun _ => Unit) (fun _ => fun _ _ => none) (fun _ _ => fun _ _ => none) (fun _ _ => fun _ _ => none) (fun _ _ => none) (fun _ _ => fun _ _ => none) (fun _ _ => none) (fun _ _ _ _ _ => fun _ _ => none) (fun _ _ => none) (fun _ => fun _ _ => none) (fun _ _ => none) (fun _ _ _ => fun _ _ => none) (fun _ _ => none) (fun _ _ _ => fun _ _ => none) (fun z0 _ => (fun a ks y => eAgg y ks a) z0) (fun _ _ => fun _ _ => none) (fun _ => fun _ _ => none) () (fun _ _ _ _ => ()) x
theorem fEqS_eq (ks : List K3) (x y : V) : fEqS2 x ks y = eqS ks x y := by
  cases x <;> first
    | rfl
    | (cases y <;> first
        | rfl
        | (simp only [fEqS2, eAgg, eqS, fEqCs_eq]; done))
def fEqV : EqK → V → V → Option Bool := fun k => EqK.rec (motive := fun _ => V → V → Option Bool) fEqC fEqN (fun ks x y => fEqS2 x ks y) k
theorem fEqV_eq : fEqV = eqV := by
  funext k x y
  cases k with
  | one k => show fEqC k x y = eqC k x y; rw [fEqC_eq]
  | nilp k => show fEqN k x y = eqN k x y; rw [fEqN_eq]
  | struct ks => exact fEqS_eq ks x y

/-! ### Operations -/

def fBnd (T : Tm) (d : Nat) (x : Option Opd) : Option Nat := oc x (some d) fun x => ob (ev T x) fNat
theorem fBnd_eq : fBnd = bnd := by unfold fBnd bnd; rw [fNat_eq]

def fFill (T : Tm) (lim : Nat) (l : List (Nat × Nat × Opd)) : PT V → Option (PT V) :=
  List.rec (motive := fun _ => PT V → Option (PT V)) (fun cs => some cs)
    (fun p _ ih cs => ob (ev T p.2.2) fun v => ob (fCells v) fun l => whn (Nat.beq (lenL l) p.2.1) (whn (Nat.ble (Nat.add p.1 p.2.1) lim) (ih (storeN l cs p.1)))) l
theorem fFill_eq : fFill = fillV := by unfold fFill fillV; rw [fCells_eq]

def gPick (c a b : Opd) (call : CallF) (T : Tm) (st : St) : R := ob (ev T c) fun c => ob (fBool c) fun c => sel c (pur (ev T a) st) (pur (ev T b) st)
def gBox (x : Opd) (call : CallF) (T : Tm) (st : St) : R := ob (ev T x) fun v => ob (fCells v) fun z => opNew z st
def gBld (z : List V) (ps : List (Nat × Nat × Opd)) (call : CallF) (T : Tm) (st : St) : R := ob (fFill T (lenL z) ps (rowOf z)) fun cs => ob (loadN cs (lenL z) (nat_lit 0)) fun l => some (.agg l, st)
def gBsl (z : List V) (n s : Nat) (ps : List (Nat × Nat × Opd)) (call : CallF) (T : Tm) (st : St) : R :=
  ob (fFill T (Nat.mul n s) ps (rowOf (repV z n))) fun cs => some (.slice st.next (nat_lit 0) n n true, st.alloc (.cells cs (Nat.mul n s) s))
def fLd (a : Option V) (st : St) : R := ob a fun a => ob (fPtr a) fun p => ob (hRd st p.1) fun q => ob (q.1.get p.2) fun v => some (v, st)
theorem fLd_eq : fLd = opLd := by unfold fLd opLd; rw [fPtr_eq, hRd_eq]
def fLda (n : Nat) (a : Option V) (st : St) : R := ob a fun a => ob (fPtr a) fun p => ob (hRd st p.1) fun q => ob (loadN q.1 n p.2) fun l => some (.agg l, st)
theorem fLda_eq : fLda = opLda := by unfold fLda opLda; rw [fPtr_eq, hRd_eq]
def gLd (a : Opd) (call : CallF) (T : Tm) (st : St) : R := fLd (ev T a) st
def gLda (n : Nat) (a : Opd) (call : CallF) (T : Tm) (st : St) : R := fLda n (ev T a) st
def gSto (n : Nat) (a v : Opd) (call : CallF) (T : Tm) (st : St) : R :=
  ob (ev T a) fun a => ob (ev T v) fun v => ob (fPtr a) fun p => ob (fCells v) fun l => whn (Nat.beq (lenL l) n)
    (ob (hCells st p.1) fun q => whn (Nat.ble (Nat.add p.2 n) q.2.1) (some (undefV, st.put p.1 (.cells (storeN l q.1 p.2) q.2.1 q.2.2))))
def kNchk : V → St → R := fun v => V.rec (motive_1 := fun _ => St → R) (motive_2 := fun _ => Unit) (fun _ => fun _ => none) (fun _ _ => fun _ => none) (fun _ _ => fun _ => none) (fun _ => none) (fun b o st => some (.ptr b o, st)) (fun _ => none) (fun _ _ _ _ _ => fun _ => none) (fun _ => none) (fun _ => fun _ => none) (fun _ => none) (fun z0 z1 _ => (fun f c st => some (.fn f c, st)) z0 z1) (fun _ => none) (fun _ _ _ => fun _ => none) (fun _ _ => fun _ => none) (fun _ _ => fun _ => none) (fun _ => fun _ => none) () (fun _ _ _ _ => ()) v
def gNchk (x : Opd) (call : CallF) (T : Tm) (st : St) : R := ob (ev T x) fun v => kNchk v st
def gBin (op : BinOp) (x y : Opd) (call : CallF) (T : Tm) (st : St) : R := ob (ev T x) fun a => ob (ev T y) fun b => ob (fBinV op a b) fun v => some (v, st)
def gEq (neg : Bool) (k : EqK) (x y : Opd) (call : CallF) (T : Tm) (st : St) : R := ob (ev T x) fun a => ob (ev T y) fun b => ob (fEqV k a b) fun r => some (.bool (sel neg (!r) r), st)
def gEqi (neg : Bool) (l : List (Nat × K3)) (x y : Opd) (call : CallF) (T : Tm) (st : St) : R := ob (ev T x) fun a => ob (ev T y) fun b => ob (eTi a l b) fun r => some (.bool (sel neg (!r) r), st)
def kIsn : V → Bool → St → R := fun v => V.rec (motive_1 := fun _ => Bool → St → R) (motive_2 := fun _ => Unit) (fun _ => fun _ _ => none) (fun _ _ => fun _ _ => none) (fun _ _ => fun _ _ => none) (fun _ _ => none) (fun _ _ => fun _ _ => none) (fun _ _ => none) (fun _ _ _ _ _ => fun _ _ => none) (fun _ _ => none) (fun _ => fun _ _ => none) (fun _ _ => none) (fun _ _ _ => fun _ _ => none) (fun neg st => some (.bool (!neg), st)) (fun z0 z1 _ => (fun _ _ neg st => some (.bool neg, st)) z0 z1) (fun _ _ => fun _ _ => none) (fun _ _ => fun _ _ => none) (fun _ => fun _ _ => none) () (fun _ _ _ _ => ()) v
def gIsn (neg : Bool) (x : Opd) (call : CallF) (T : Tm) (st : St) : R := ob (ev T x) fun v => kIsn v neg st
def gNot (x : Opd) (call : CallF) (T : Tm) (st : St) : R := ob (ev T x) fun x => ob (fBool x) fun b => some (.bool (!b), st)
def gNeg (x : Opd) (call : CallF) (T : Tm) (st : St) : R := ob (ev T x) fun x => ob (fInt x) fun p => some (.int p.1 (fWrap p.1 (Int.sub 0 p.2)), st)
def gCvi (k : IntKind) (x : Opd) (call : CallF) (T : Tm) (st : St) : R := ob (ev T x) fun x => ob (fInt x) fun p => some (.int k (fWrap k p.2), st)
def gCvss (x : Opd) (call : CallF) (T : Tm) (st : St) : R := ob (ev T x) fun x => ob (fStr x) fun p => some (.str p.1 p.2, st)
def gCvsb (x : Opd) (call : CallF) (T : Tm) (st : St) : R :=
  ob (ev T x) fun x => ob (fStr x) fun p => some (.slice st.next (nat_lit 0) p.1 p.1 false, st.alloc (.cells (rowOf (bytesV p.2)) p.1 (nat_lit 1)))
def fU8 : IntKind → Bool := fun k => IntKind.rec (motive := fun _ => Bool) false false false false true false false false k
def fByteN (v : V) : Option Nat := ob (fInt v) fun p => whn (fU8 p.1) (ob (natI p.2) fun n => whn (Nat.blt n (nat_lit 256)) (some n))
theorem fByteN_eq : fByteN = byteN := by
  funext v
  unfold fByteN byteN
  rw [fInt_eq]
  have : fU8 = isU8 := by funext k; cases k <;> rfl
  rw [this]
def fBytesN (l : List V) : Option (List Nat) := List.rec (some []) (fun v _ ih => ob (fByteN v) fun n => ob ih fun l => some (n :: l)) l
theorem fBytesN_eq : fBytesN = bytesN := by unfold fBytesN bytesN; rw [fByteN_eq]
def kCvbs : V → St → R := fun v => V.rec (motive_1 := fun _ => St → R) (motive_2 := fun _ => Unit) (fun _ => fun _ => none) (fun _ _ => fun _ => none) (fun _ _ => fun _ => none) (fun _ => none) (fun _ _ => fun _ => none) (fun st => some (.str (nat_lit 0) [], st)) (fun b o n _ _ st => ob (hCells st b) fun q => ob (loadN q.1 n o) fun l => ob (fBytesN l) fun s => some (.str n s, st)) (fun _ => none) (fun _ => fun _ => none) (fun _ => none) (fun _ _ _ => fun _ => none) (fun _ => none) (fun _ _ _ => fun _ => none) (fun _ _ => fun _ => none) (fun _ _ => fun _ => none) (fun _ => fun _ => none) () (fun _ _ _ _ => ()) v
def gCvbs (x : Opd) (call : CallF) (T : Tm) (st : St) : R := ob (ev T x) fun v => kCvbs v st
def kCvbb : V → St → R := fun v => V.rec (motive_1 := fun _ => St → R) (motive_2 := fun _ => Unit) (fun _ => fun _ => none) (fun _ _ => fun _ => none) (fun _ _ => fun _ => none) (fun _ => none) (fun _ _ => fun _ => none) (fun _ => none) (fun b o n c ex st => ob (hCells st b) fun q => whn (Nat.beq q.2.2 (nat_lit 1)) (some (.slice b o n c ex, st))) (fun _ => none) (fun _ => fun _ => none) (fun _ => none) (fun _ _ _ => fun _ => none) (fun _ => none) (fun _ _ _ => fun _ => none) (fun _ _ => fun _ => none) (fun _ _ => fun _ => none) (fun _ => fun _ => none) () (fun _ _ _ _ => ()) v
def gCvbb (x : Opd) (call : CallF) (T : Tm) (st : St) : R := ob (ev T x) fun v => kCvbb v st
def gMks (z : List V) (s bytes : Nat) (l c : Opd) (call : CallF) (T : Tm) (st : St) : R :=
  ob (ev T l) fun l => ob (ev T c) fun c => ob (fNat l) fun l => ob (fNat c) fun c => whn (Nat.ble l c) <| whn (Nat.blt c big) <| (whn (Nat.blt (Nat.mul c bytes) big)
    (some (.slice st.next (nat_lit 0) l c true, st.alloc (.cells (rowOf (repV z c)) (Nat.mul c s) s))))
def gSls (x : Opd) (lo hi : Option Opd) (call : CallF) (T : Tm) (st : St) : R :=
  ob (ev T x) fun x => ob (fStr x) fun p => ob (fBnd T (nat_lit 0) lo) fun a => ob (fBnd T p.1 hi) fun b => whn (Nat.ble a b) (whn (Nat.ble b p.1)
    (some (.str (Nat.sub b a) (takeL (Nat.sub b a) (dropL a p.2)), st)))
def kSlNil (T : Tm) (s : Nat) (lo hi mx : Option Opd) (st : St) : R :=
  ob (fBnd T (nat_lit 0) lo) fun l => ob (fBnd T (nat_lit 0) hi) fun h => whn (Nat.beq l (nat_lit 0)) (whn (Nat.beq h (nat_lit 0)) (oc mx (some (.snil, st)) fun _ => none))
def kSlOn (b o n c : Nat) (ex : Bool) (T : Tm) (s : Nat) (lo hi mx : Option Opd) (st : St) : R :=
  ob (hCells st b) fun q => whn (Nat.beq q.2.2 s) (ob (fBnd T (nat_lit 0) lo) fun l => ob (fBnd T n hi) fun h => whn (Nat.ble l h)
      (oc mx (whn (Nat.ble h c) (some (.slice b (Nat.add o (Nat.mul l s)) (Nat.sub h l) (Nat.sub c l) ex, st)))
        fun m => ob hi fun _ => ob (ev T m) fun m => ob (fNat m) fun m => whn (Nat.ble h m) (whn (Nat.ble m c) (some (.slice b (Nat.add o (Nat.mul l s)) (Nat.sub h l) (Nat.sub m l) true, st)))))
def kSl : V → Tm → Nat → Option Opd → Option Opd → Option Opd → St → R := fun v => V.rec (motive_1 := fun _ => Tm → Nat → Option Opd → Option Opd → Option Opd → St → R) (motive_2 := fun _ => Unit) (fun _ => fun _ _ _ _ _ _ => none) (fun _ _ => fun _ _ _ _ _ _ => none) (fun _ _ => fun _ _ _ _ _ _ => none) (fun _ _ _ _ _ _ => none) (fun _ _ => fun _ _ _ _ _ _ => none) (kSlNil) (kSlOn) (fun _ _ _ _ _ _ => none) (fun _ => fun _ _ _ _ _ _ => none) (fun _ _ _ _ _ _ => none) (fun _ _ _ => fun _ _ _ _ _ _ => none) (fun _ _ _ _ _ _ => none) (fun _ _ _ => fun _ _ _ _ _ _ => none) (fun _ _ => fun _ _ _ _ _ _ => none) (fun _ _ => fun _ _ _ _ _ _ => none) (fun _ => fun _ _ _ _ _ _ => none) () (fun _ _ _ _ => ()) v
def gSl (s : Nat) (x : Opd) (lo hi mx : Option Opd) (call : CallF) (T : Tm) (st : St) : R := ob (ev T x) fun v => kSl v T s lo hi mx st
def gFa (off : Nat) (x : Opd) (call : CallF) (T : Tm) (st : St) : R := ob (ev T x) fun x => ob (fPtr x) fun p => some (.ptr p.1 (Nat.add p.2 off), st)
def fFld (off : Nat) (x : Option V) (st : St) : R := ob x fun x => ob (fAgg x) fun cs => ob (nthL off cs) fun v => some (v, st)
theorem fFld_eq : fFld = opFld := by unfold fFld opFld; rw [fAgg_eq]
def fFlda (off n : Nat) (x : Option V) (st : St) : R := ob x fun x => ob (fAgg x) fun cs => whn (Nat.ble (Nat.add off n) (lenL cs)) (some (.agg (takeL n (dropL off cs)), st))
theorem fFlda_eq : fFlda = opFlda := by unfold fFlda opFlda; rw [fAgg_eq]
def gFld (off : Nat) (x : Opd) (call : CallF) (T : Tm) (st : St) : R := fFld off (ev T x) st
def gFlda (off n : Nat) (x : Opd) (call : CallF) (T : Tm) (st : St) : R := fFlda off n (ev T x) st
def gIa (s : Nat) (x i : Opd) (call : CallF) (T : Tm) (st : St) : R :=
  ob (ev T x) fun x => ob (ev T i) fun i => ob (fSlc x) fun p => ob (fNat i) fun k => whn (Nat.blt k p.2.2) (some (.ptr p.1 (Nat.add p.2.1 (Nat.mul k s)), st))
def gIap (n s : Nat) (x i : Opd) (call : CallF) (T : Tm) (st : St) : R :=
  ob (ev T x) fun x => ob (ev T i) fun i => ob (fPtr x) fun p => ob (fNat i) fun k => whn (Nat.blt k n) (some (.ptr p.1 (Nat.add p.2 (Nat.mul k s)), st))
def gIxs (x i : Opd) (call : CallF) (T : Tm) (st : St) : R :=
  ob (ev T x) fun x => ob (ev T i) fun i => ob (fStr x) fun p => ob (fNat i) fun k => ob (nthL k p.2) fun c => some (byteV c, st)
def gIxa (n s : Nat) (agg : Bool) (x i : Opd) (call : CallF) (T : Tm) (st : St) : R :=
  ob (ev T i) fun i => ob (fNat i) fun k => whn (Nat.blt k n) (sel agg (fFlda (Nat.mul k s) s (ev T x) st) (fFld (Nat.mul k s) (ev T x) st))
def fLook (q : EqK) (k : V) (l : List (V × V)) : Option (Option V) :=
  List.rec (some none) (fun e _ ih => ob (fEqV q k e.1) fun r => sel r (some (some e.2)) ih) l
theorem fLook_eq : fLook = lookV := by unfold fLook lookV; rw [fEqV_eq]
def fUpd (q : EqK) (k v : V) (l : List (V × V)) : Option (List (V × V)) :=
  List.rec (some [(k, v)]) (fun e t ih => ob (fEqV q k e.1) fun r => sel r (some ((k, v) :: t)) (ob ih fun l => some (e :: l))) l
theorem fUpd_eq : fUpd = updV := by unfold fUpd updV; rw [fEqV_eq]
def fDel (q : EqK) (k : V) (l : List (V × V)) : Option (List (V × V)) :=
  List.rec (some []) (fun e t ih => ob (fEqV q k e.1) fun r => sel r (some t) (ob ih fun l => some (e :: l))) l
theorem fDel_eq : fDel = delV := by unfold fDel delV; rw [fEqV_eq]
def kLk : V → EqK → V → Bool → V → St → R := fun v => V.rec (motive_1 := fun _ => EqK → V → Bool → V → St → R) (motive_2 := fun _ => Unit) (fun _ => fun _ _ _ _ _ => none) (fun _ _ => fun _ _ _ _ _ => none) (fun _ _ => fun _ _ _ _ _ => none) (fun _ _ _ _ _ => none) (fun _ _ => fun _ _ _ _ _ => none) (fun _ _ _ _ _ => none) (fun _ _ _ _ _ => fun _ _ _ _ _ => none) (fun q z ok k st => some (okRes ok z false, st)) (fun r q z ok k st => ob (hMap st r) fun es => ob (fLook q k es) fun o => oc o (some (okRes ok z false, st)) fun v => some (okRes ok v true, st)) (fun _ _ _ _ _ => none) (fun _ _ _ => fun _ _ _ _ _ => none) (fun _ _ _ _ _ => none) (fun _ _ _ => fun _ _ _ _ _ => none) (fun _ _ => fun _ _ _ _ _ => none) (fun _ _ => fun _ _ _ _ _ => none) (fun _ => fun _ _ _ _ _ => none) () (fun _ _ _ _ => ()) v
def gLk (q : EqK) (z : V) (ok : Bool) (m i : Opd) (call : CallF) (T : Tm) (st : St) : R :=
  ob (ev T m) fun m => ob (ev T i) fun k => ob (fEqV q k k) fun p => whn p (kLk m q z ok k st)
def gMu (q : EqK) (m i x : Opd) (call : CallF) (T : Tm) (st : St) : R :=
  ob (ev T m) fun m => ob (ev T i) fun k => ob (ev T x) fun x => ob (fM m) fun r => ob (hMap st r) fun es => ob (fEqV q k k) fun p => whn p (ob (fUpd q k x es) fun es => some (undefV, st.put r (.map es)))
def gDel (q : EqK) (m i : Opd) (call : CallF) (T : Tm) (st : St) : R :=
  ob (ev T m) fun m => ob (ev T i) fun k => ob (fM m) fun r => ob (hMap st r) fun es => ob (fEqV q k k) fun p => whn p <| ob (fDel q k es) fun es => some (undefV, st.put r (.map es))
def gExt (x : Opd) (i : Nat) (call : CallF) (T : Tm) (st : St) : R := ob (ev T x) fun x => ob (fTup x) fun vs => ob (nthL i vs) fun v => some (v, st)
def kLenS : V → St → R := fun v => V.rec (motive_1 := fun _ => St → R) (motive_2 := fun _ => Unit) (fun _ => fun _ => none) (fun _ _ => fun _ => none) (fun n _ st => some (.int .i64 (.ofNat n), st)) (fun _ => none) (fun _ _ => fun _ => none) (fun _ => none) (fun _ _ _ _ _ => fun _ => none) (fun _ => none) (fun _ => fun _ => none) (fun _ => none) (fun _ _ _ => fun _ => none) (fun _ => none) (fun _ _ _ => fun _ => none) (fun _ _ => fun _ => none) (fun _ _ => fun _ => none) (fun _ => fun _ => none) () (fun _ _ _ _ => ()) v
def kLenL : V → St → R := fun v => V.rec (motive_1 := fun _ => St → R) (motive_2 := fun _ => Unit) (fun _ => fun _ => none) (fun _ _ => fun _ => none) (fun _ _ => fun _ => none) (fun _ => none) (fun _ _ => fun _ => none) (fun st => some (.int .i64 (.ofNat (nat_lit 0)), st)) (fun _ _ n _ _ st => some (.int .i64 (.ofNat n), st)) (fun _ => none) (fun _ => fun _ => none) (fun _ => none) (fun _ _ _ => fun _ => none) (fun _ => none) (fun _ _ _ => fun _ => none) (fun _ _ => fun _ => none) (fun _ _ => fun _ => none) (fun _ => fun _ => none) () (fun _ _ _ _ => ()) v
def kLenM : V → St → R := fun v => V.rec (motive_1 := fun _ => St → R) (motive_2 := fun _ => Unit) (fun _ => fun _ => none) (fun _ _ => fun _ => none) (fun _ _ => fun _ => none) (fun _ => none) (fun _ _ => fun _ => none) (fun _ => none) (fun _ _ _ _ _ => fun _ => none) (fun st => some (.int .i64 (.ofNat (nat_lit 0)), st)) (fun r st => ob (hMap st r) fun es => some (.int .i64 (.ofNat (lenL es)), st)) (fun _ => none) (fun _ _ _ => fun _ => none) (fun _ => none) (fun _ _ _ => fun _ => none) (fun _ _ => fun _ => none) (fun _ _ => fun _ => none) (fun _ => fun _ => none) () (fun _ _ _ _ => ()) v
def gLen (k : LK) (x : Opd) (call : CallF) (T : Tm) (st : St) : R := ob (ev T x) fun v => LK.rec (motive := fun _ => V → St → R) kLenS kLenL kLenM k v st
def kCap : V → St → R := fun v => V.rec (motive_1 := fun _ => St → R) (motive_2 := fun _ => Unit) (fun _ => fun _ => none) (fun _ _ => fun _ => none) (fun _ _ => fun _ => none) (fun _ => none) (fun _ _ => fun _ => none) (fun st => some (.int .i64 (.ofNat (nat_lit 0)), st)) (fun _ _ _ c ex st => whn ex (some (.int .i64 (.ofNat c), st))) (fun _ => none) (fun _ => fun _ => none) (fun _ => none) (fun _ _ _ => fun _ => none) (fun _ => none) (fun _ _ _ => fun _ => none) (fun _ _ => fun _ => none) (fun _ _ => fun _ => none) (fun _ => fun _ => none) () (fun _ _ _ _ => ()) v
def gCap (x : Opd) (call : CallF) (T : Tm) (st : St) : R := ob (ev T x) fun v => kCap v st
def gMin (x y : Opd) (call : CallF) (T : Tm) (st : St) : R := ob (ev T x) fun x => ob (ev T y) fun y => ob (fInt x) fun p => ob (fInt y) fun q => some (.int p.1 (sel (intLt q.2 p.2) q.2 p.2), st)
def gMax (x y : Opd) (call : CallF) (T : Tm) (st : St) : R := ob (ev T x) fun x => ob (ev T y) fun y => ob (fInt x) fun p => ob (fInt y) fun q => some (.int p.1 (sel (intLt p.2 q.2) q.2 p.2), st)
def fAppS (s bytes : Nat) (b o n c : Nat) (ex : Bool) (new : List V) (m : Nat) (st : St) : R :=
  ob (hCells st b) fun q => whn (Nat.beq q.2.2 s)
    (sel (Nat.ble (Nat.add n m) c)
      (whn (Nat.ble (Nat.add o (Nat.mul (Nat.add n m) s)) q.2.1) (some (.slice b o (Nat.add n m) c ex, st.put b (.cells (storeN new q.1 (Nat.add o (Nat.mul n s))) q.2.1 q.2.2))))
      (whn (Nat.blt (Nat.add n m) big) <| whn (Nat.blt (Nat.mul (Nat.add n m) bytes) big)
        (sel (sel (Nat.beq o (nat_lit 0)) (Nat.beq q.2.1 (Nat.mul n s)) false)
          (appR s b o n m ex q.1 new st)
          (ob (loadN q.1 (Nat.mul n s) o) fun l => appR s b o n m ex (rowOf l) new st))))
theorem fAppS_eq : fAppS = appS := by unfold fAppS appS; rw [hCells_eq]
def kApp : V → Nat → Nat → List V → Nat → St → R := fun v => V.rec (motive_1 := fun _ => Nat → Nat → List V → Nat → St → R) (motive_2 := fun _ => Unit) (fun _ => fun _ _ _ _ _ => none) (fun _ _ => fun _ _ _ _ _ => none) (fun _ _ => fun _ _ _ _ _ => none) (fun _ _ _ _ _ => none) (fun _ _ => fun _ _ _ _ _ => none) (fun s bytes new m st => sel (Nat.beq m (nat_lit 0)) (some (.snil, st)) (whn (Nat.blt m big) <| whn (Nat.blt (Nat.mul m bytes) big) (some (.slice st.next (nat_lit 0) m m false, st.alloc (.cells (rowOf new) (Nat.mul m s) s))))) (fun b o n c ex s bytes new m st => fAppS s bytes b o n c ex new m st) (fun _ _ _ _ _ => none) (fun _ => fun _ _ _ _ _ => none) (fun _ _ _ _ _ => none) (fun _ _ _ => fun _ _ _ _ _ => none) (fun _ _ _ _ _ => none) (fun _ _ _ => fun _ _ _ _ _ => none) (fun _ _ => fun _ _ _ _ _ => none) (fun _ _ => fun _ _ _ _ _ => none) (fun _ => fun _ _ _ _ _ => none) () (fun _ _ _ _ => ()) v
def fAppV (s bytes : Nat) (x : V) (new : List V) (m : Nat) (st : St) : R := kApp x s bytes new m st
theorem fAppV_eq : fAppV = appV := by
  funext s bytes x new m st
  cases x <;> first | rfl | (show fAppS _ _ _ _ _ _ _ _ _ _ = appS _ _ _ _ _ _ _ _ _ _; rw [fAppS_eq])
def kElems : V → Nat → St → Option (List V × Nat) := fun v => V.rec (motive_1 := fun _ => Nat → St → Option (List V × Nat)) (motive_2 := fun _ => Unit) (fun _ => fun _ _ => none) (fun _ _ => fun _ _ => none) (fun n l s _ => whn (Nat.beq s (nat_lit 1)) (some (bytesV l, n))) (fun _ _ => none) (fun _ _ => fun _ _ => none) (fun _ _ => some ([], nat_lit 0)) (fun b o n _ _ s st => ob (hCells st b) fun q => ob (loadN q.1 (Nat.mul n s) o) fun l => some (l, n)) (fun _ _ => none) (fun _ => fun _ _ => none) (fun _ _ => none) (fun _ _ _ => fun _ _ => none) (fun _ _ => none) (fun _ _ _ => fun _ _ => none) (fun _ _ => fun _ _ => none) (fun _ _ => fun _ _ => none) (fun _ => fun _ _ => none) () (fun _ _ _ _ => ()) v
def fElems (s : Nat) (y : V) (st : St) : Option (List V × Nat) := kElems y s st
theorem fElems_eq : fElems = elemsV := by
  funext s y st
  cases y <;> first | rfl | (simp only [fElems, kElems, elemsV, hCells_eq]; done)
def gApp (s bytes : Nat) (x y : Opd) (call : CallF) (T : Tm) (st : St) : R := ob (ev T x) fun x => ob (ev T y) fun y => ob (fElems s y st) fun p => fAppV s bytes x p.1 p.2 st
def gAppz (z : List V) (s bytes : Nat) (x y : Opd) (call : CallF) (T : Tm) (st : St) : R :=
  ob (ev T x) fun x => ob (ev T y) fun y => ob (fNat y) fun m => whn (Nat.blt m big) <| whn (Nat.blt (Nat.mul m bytes) big) <| fAppV s bytes x (repV z m) m st
def kCut : V → Nat → V → V := fun v => V.rec (motive_1 := fun _ => Nat → V → V) (motive_2 := fun _ => Unit) (fun _ => fun _ d => d) (fun _ _ => fun _ d => d) (fun _ _ => fun _ d => d) (fun _ d => d) (fun _ _ => fun _ d => d) (fun _ d => d) (fun b o n c ex k _ => .slice b o (Nat.min k n) c ex) (fun _ d => d) (fun _ => fun _ d => d) (fun _ d => d) (fun _ _ _ => fun _ d => d) (fun _ d => d) (fun _ _ _ => fun _ d => d) (fun _ _ => fun _ d => d) (fun _ _ => fun _ d => d) (fun _ => fun _ d => d) () (fun _ _ _ _ => ()) v
def fCut (k : Nat) (v : V) : V := kCut v k v
theorem fCut_eq : fCut = cutV := by
  funext k v
  cases v <;> rfl
def kCpy : V → Nat → V → St → R := fun v => V.rec (motive_1 := fun _ => Nat → V → St → R) (motive_2 := fun _ => Unit) (fun _ => fun _ _ _ => none) (fun _ _ => fun _ _ _ => none) (fun _ _ => fun _ _ _ => none) (fun _ _ _ => none) (fun _ _ => fun _ _ _ => none) (fun s y st => ob (fElems s y st) fun _ => some (.int .i64 (.ofNat (nat_lit 0)), st)) (fun b o n _ _ s y st => ob (fElems s (fCut n y) st) fun p => ob (hCells st b) fun q => whn (Nat.beq q.2.2 s) (whn (Nat.ble (Nat.add o (Nat.mul n s)) q.2.1) (some (.int .i64 (.ofNat (Nat.min p.2 n)), st.put b (.cells (storeN (takeL (Nat.mul (Nat.min p.2 n) s) p.1) q.1 o) q.2.1 q.2.2))))) (fun _ _ _ => none) (fun _ => fun _ _ _ => none) (fun _ _ _ => none) (fun _ _ _ => fun _ _ _ => none) (fun _ _ _ => none) (fun _ _ _ => fun _ _ _ => none) (fun _ _ => fun _ _ _ => none) (fun _ _ => fun _ _ _ => none) (fun _ => fun _ _ _ => none) () (fun _ _ _ _ => ()) v
def gCpy (s : Nat) (x y : Opd) (call : CallF) (T : Tm) (st : St) : R := ob (ev T x) fun x => ob (ev T y) fun y => kCpy x s y st
def kClr : V → List V → Nat → St → R := fun v => V.rec (motive_1 := fun _ => List V → Nat → St → R) (motive_2 := fun _ => Unit) (fun _ => fun _ _ _ => none) (fun _ _ => fun _ _ _ => none) (fun _ _ => fun _ _ _ => none) (fun _ _ _ => none) (fun _ _ => fun _ _ _ => none) (fun _ _ st => some (undefV, st)) (fun b o n _ _ z s st => ob (hCells st b) fun q => whn (Nat.beq q.2.2 s) (whn (Nat.ble (Nat.add o (Nat.mul n s)) q.2.1) (some (undefV, st.put b (.cells (storeN (repV z n) q.1 o) q.2.1 q.2.2))))) (fun _ _ _ => none) (fun _ => fun _ _ _ => none) (fun _ _ _ => none) (fun _ _ _ => fun _ _ _ => none) (fun _ _ _ => none) (fun _ _ _ => fun _ _ _ => none) (fun _ _ => fun _ _ _ => none) (fun _ _ => fun _ _ _ => none) (fun _ => fun _ _ _ => none) () (fun _ _ _ _ => ()) v
def gClr (z : List V) (s : Nat) (x : Opd) (call : CallF) (T : Tm) (st : St) : R := ob (ev T x) fun v => kClr v z s st
def gCall (f : Opd) (args : List Opd) (call : CallF) (T : Tm) (st : St) : R := ob (ev T f) fun f => ob (evs T args) fun l => ob (fFn f) fun p => call p.1 (appL l p.2) st
def gMkf (f : Nat) (cap : List Opd) (call : CallF) (T : Tm) (st : St) : R := ob (evs T cap) fun l => some (.fn f l, st)
def gMki (t : Nat) (x : Opd) (call : CallF) (T : Tm) (st : St) : R := ob (ev T x) fun v => some (.iface t v, st)
def gMv (x : Opd) (call : CallF) (T : Tm) (st : St) : R := ob (ev T x) fun v => some (v, st)
def gNew (z : List V) (call : CallF) (T : Tm) (st : St) : R := opNew z st
def gMkm (call : CallF) (T : Tm) (st : St) : R := some (.map st.next, st.alloc (.map []))
def gLena (n : Nat) (x : Opd) (call : CallF) (T : Tm) (st : St) : R := some (.int .i64 (.ofNat n), st)

/-- an operation -/
def fOp : COp → CallF → Tm → St → R := fun o => COp.rec (motive := fun _ => CallF → Tm → St → R) gMv gPick gNew gBox gBld gBsl gLd gLda gSto gNchk gBin gEq gIsn gNot gNeg gCvi gCvss gCvsb gCvbs gCvbb gMkf gMkm gMks gSls gSl gFa gFld gFlda gIa gIap gIxs gIxa gLk gMu gMki gExt
  gCall gLen gLena gCap gMin gMax gApp gAppz gCpy gClr gDel gEqi o

theorem fOp_eq (call : CallF) (T : Tm) (o : COp) (st : St) : fOp o call T st = opV call T o st := by
  cases o
  case mv x => rfl
  case pick c a b => simp only [fOp, gPick, opV, opPick, fBool_eq]
  case newv z => rfl
  case box x => simp only [fOp, gBox, opV, opBox, fCells_eq]
  case bld z ps => simp only [fOp, gBld, opV, opBld, fFill_eq]
  case bsl z n s ps => simp only [fOp, gBsl, opV, opBsl, fFill_eq]
  case ld a => simp only [fOp, gLd, opV, fLd_eq]
  case lda n a => simp only [fOp, gLda, opV, fLda_eq]
  case sto n a v => simp only [fOp, gSto, opV, opSto, fPtr_eq, fCells_eq, hCells_eq]
  case nchk x => simp only [fOp, gNchk, opV, opNchk]; congr 1; funext v; cases v <;> rfl
  case bin op x y => simp only [fOp, gBin, opV, opBin, pur, fBinV_eq]
  case eq neg k x y => simp only [fOp, gEq, opV, opEq, fEqV_eq]
  case eqi neg l x y => simp only [fOp, gEqi, opV, opEqi, eTi_eq]
  case isn neg x => simp only [fOp, gIsn, opV, opIsn]; congr 1; funext v; cases v <;> rfl
  case not x => simp only [fOp, gNot, opV, opNot, fBool_eq]
  case neg x => simp only [fOp, gNeg, opV, opNeg, fInt_eq, fWrap_eq]
  case cvi k x => simp only [fOp, gCvi, opV, opCvi, fInt_eq, fWrap_eq]
  case cvss x => simp only [fOp, gCvss, opV, opCvss, fStr_eq]
  case cvsb x => simp only [fOp, gCvsb, opV, opCvsb, fStr_eq]
  case cvbs x => simp only [fOp, gCvbs, opV, opCvbs]; congr 1; funext v; cases v <;> first | rfl | (simp only [kCvbs, hCells_eq, fBytesN_eq]; done)
  case cvbb x => simp only [fOp, gCvbb, opV, opCvbb]; congr 1; funext v; cases v <;> first | rfl | (simp only [kCvbb, hCells_eq]; done)
  case mkf f cap => rfl
  case mkm => rfl
  case mks z s bytes l c => simp only [fOp, gMks, opV, opMks, fNat_eq]
  case sls x lo hi => simp only [fOp, gSls, opV, opSls, fStr_eq, fBnd_eq]
  case sl s x lo hi mx => simp only [fOp, gSl, opV, opSl]; congr 1; funext v; cases v <;> first | rfl | (simp only [kSl, kSlNil, kSlOn, hCells_eq, fBnd_eq, fNat_eq]; done)
  case fa off x => simp only [fOp, gFa, opV, opFa, fPtr_eq]
  case fld off x => simp only [fOp, gFld, opV, fFld_eq]
  case flda off n x => simp only [fOp, gFlda, opV, fFlda_eq]
  case ia s x i => simp only [fOp, gIa, opV, opIa, fSlc_eq, fNat_eq]
  case iap n s x i => simp only [fOp, gIap, opV, opIap, fPtr_eq, fNat_eq]
  case ixs x i => simp only [fOp, gIxs, opV, opIxs, fStr_eq, fNat_eq]
  case ixa n s agg x i => simp only [fOp, gIxa, opV, opIxa, fNat_eq, fFlda_eq, fFld_eq]
  case lk k z ok m i =>
    simp only [fOp, gLk, opV, opLk, fEqV_eq]
    congr 1; funext m; congr 1; funext i; congr 1; funext p; congr 1
    cases m <;> first | rfl | (simp only [kLk, hMap_eq, fLook_eq]; done)
  case mu k m i x => simp only [fOp, gMu, opV, opMu, fM_eq, hMap_eq, fEqV_eq, fUpd_eq]
  case mki t x => rfl
  case ext x i => simp only [fOp, gExt, opV, opExt, fTup_eq]
  case call f args => simp only [fOp, gCall, opV, opCall, fFn_eq]
  case len k x => simp only [fOp, gLen, opV, opLen]; congr 1; funext v; cases k <;> cases v <;> first | rfl | (simp only [kLenM, hMap_eq]; done)
  case lena n x => rfl
  case cap x => simp only [fOp, gCap, opV, opCap]; congr 1; funext v; cases v <;> rfl
  case min x y => simp only [fOp, gMin, opV, opMin, fInt_eq]
  case max x y => simp only [fOp, gMax, opV, opMax, fInt_eq]
  case app s bytes x y => simp only [fOp, gApp, opV, opApp, fElems_eq, fAppV_eq]
  case appz z s bytes x y => simp only [fOp, gAppz, opV, opAppz, fNat_eq, fAppV_eq]
  case cpy s x y => simp only [fOp, gCpy, opV, opCpy]; congr 1; funext x; congr 1; funext y; cases x <;> first | rfl | (simp only [kCpy, hCells_eq, fElems_eq, fCut_eq]; done)
  case clr z s x => simp only [fOp, gClr, opV, opClr]; congr 1; funext v; cases v <;> first | rfl | (simp only [kClr, hCells_eq]; done)
  case del k m i => simp only [fOp, gDel, opV, opDel, fM_eq, hMap_eq, fEqV_eq, fDel_eq]

end
end Go.Am
