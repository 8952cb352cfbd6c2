/-
The compiler of loaded Go functions to the evaluator's code.
-/
import Derived.Test.YtdofpjabgnfglaaGreatDoorAm1
set_option linter.unusedVariables false
namespace Go.Am
noncomputable section
open Go

mutual
def ofVal : Value → Option V
  | .bool b => some (.bool b)
  | .int k n => some (.int k n)
  | .string s => some (.str s.size (s.data.toList.map UInt8.toNat))
  | .pointer none => some .pnil
  | .slice none 0 0 => some .snil
  | .map none => some .mnil
  | .nilFunc => some .fnil
  | .nilIface => some .inil
  | .agg ⟨cs⟩ => match ofCells cs with
    | some l => some (.agg l)
    | none => none
  | .tuple ⟨[]⟩ => some (.tup [])
  | _ => none
def ofCells : List Value → Option (List V)
  | [] => some []
  | v :: r => match v with
    | .agg _ => none
    | .tuple _ => none
    | v => match ofVal v, ofCells r with
      | some a, some l => some (a :: l)
      | _, _ => none
end

def cOpd (P : Program) : Operand → Option Opd
  | .tmp t => some (.t t)
  | .const v => match ofVal v with
    | some v => some (.c v)
    | none => none
  | .global g => whn (Nat.blt g P.globals.size) (some (.g g))
  | .func f => some (.f f)

def cOpds (P : Program) : List Operand → Option (List Opd)
  | [] => some []
  | x :: r => match cOpd P x, cOpds P r with
    | some a, some l => some (a :: l)
    | _, _ => none

def cOpt (P : Program) : Option Operand → Option (Option Opd)
  | none => some none
  | some x => match cOpd P x with
    | some a => some (some a)
    | none => none

def isAggD : TypeDesc → Bool
  | .struct _ | .array _ _ => true
  | _ => false

def size? (P : Program) (t : Nat) : Option Nat :=
  match P.info? t with
  | some i => some i.size
  | none => none

def bytes? (P : Program) (t : Nat) : Option Nat :=
  match P.info? t with
  | some i => some i.bytes
  | none => none

def zero? (P : Program) (t : Nat) : Option Value :=
  match P.info? t with
  | some i => i.zero
  | none => none

def zeroV? (P : Program) (t : Nat) : Option V :=
  match zero? P t with
  | some z => ofVal z
  | none => none

def zeroC? (P : Program) (t : Nat) : Option (List V) :=
  match zero? P t with
  | some z => match ofVal z with
    | some v => vcells v
    | none => none
  | none => none

/-- of what kind is what is compared, by its type -/
def k3? (P : Program) (t : Nat) : Option K3 :=
  match P.underlying t with
  | some (.int _) => some .i
  | some .string => some .s
  | some .bool => some .b
  | _ => none

def eqF (P : Program) : List Field → Nat → Option (List K3)
  | [], _ => some []
  | f :: r, n => whn (f.name != "_") <| whn (f.offset.beq n) <| match k3? P f.type, eqF P r (n + 1) with
      | some k, some l => some (k :: l)
      | _, _ => none

def eqK? (P : Program) (t : Nat) : Option EqK :=
  match P.underlying t with
  | some (.int _) => some (.one .i)
  | some .string => some (.one .s)
  | some .bool => some (.one .b)
  | some (.struct fs) => whn (!P.eqGuardType P.depth t) <| whn (!P.stoodInHeld t) <| match eqF P fs.toList 0 with
      | some ks => whn (ks.length.beq ((size? P t).getD 0)) (some (.struct ks))
      | none => none
  | some (.pointer _) => some (.nilp .p)
  | some (.slice _) => some (.nilp .s)
  | some (.map _ _) => some (.nilp .m)
  | some (.func _ _ _) => some (.nilp .f)
  | some (.interface _) => some (.nilp .i)
  | _ => none

def isPlainK : EqK → Bool
  | .nilp _ => false
  | _ => true

def allSz (P : Program) : List Field → Bool
  | [] => true
  | f :: r => match size? P f.type with
    | some _ => allSz P r
    | none => false

/-- parts of a struct that is built: offset, size, operand -/
def cParts (P : Program) (fs : Array Field) : List (Nat × Operand) → Option (List (Nat × Nat × Opd))
  | [] => some []
  | (i, x) :: r => match fs[i]? with
    | some f => match size? P f.type, cOpd P x, cParts P fs r with
      | some s, some a, some l => some ((f.offset, s, a) :: l)
      | _, _, _ => none
    | none => none

def cElems (P : Program) (s : Nat) : List (Nat × Operand) → Option (List (Nat × Nat × Opd))
  | [] => some []
  | (i, x) :: r => match cOpd P x, cElems P s r with
    | some a, some l => some ((i * s, s, a) :: l)
    | _, _ => none

def cBuiltin (P : Program) (b : Builtin) (ts : List Nat) (args : List Opd) : Option COp :=
  match b, ts, args with
  | .len, [t], [x] => match P.underlying t with
    | some .string => some (.len .s x)
    | some (.slice _) => some (.len .l x)
    | some (.map _ _) => some (.len .m x)
    | some (.array n _) => some (.lena n x)
    | _ => none
  | .cap, [t], [x] => match P.underlying t with
    | some (.slice _) => some (.cap x)
    | _ => none
  | .min, [_, _], [x, y] => some (.min x y)
  | .max, [_, _], [x, y] => some (.max x y)
  | .append, [t, u], [x, y] => match P.underlying t with
    | some (.slice e) => match size? P e, bytes? P e, P.underlying u with
      | some s, some bs, some (.int _) => match zeroC? P e with
        | some z => bif z.length.beq s then some (.appz z s bs x y) else none
        | none => none
      | some s, some bs, some (.slice _) => match zeroC? P e with
        | some z => bif z.length.beq s then some (.app s bs x y) else none
        | none => none
      | some s, some bs, some .string => match zeroC? P e with
        | some z => bif z.length.beq s then some (.app s bs x y) else none
        | none => none
      | _, _, _ => none
    | _ => none
  | .copy, [t, u], [x, y] => match P.underlying t, P.underlying u with
    | some (.slice e), some (.slice _) => match size? P e with
      | some s => some (.cpy s x y)
      | none => none
    | _, _ => none
  | .clear, [t], [x] => match P.underlying t with
    | some (.slice e) => match size? P e, zeroC? P e with
      | some s, some z => bif z.length.beq s then some (.clr z s x) else none
      | _, _ => none
    | _ => none
  | .delete, [t, _], [m, i] => match P.underlying t with
    | some (.map k _) => match eqK? P k with
      | some q => bif isPlainK q then some (.del q m i) else none
      | none => none
    | _ => none
  | _, _, _ => none

def iota : Nat → Nat → List Nat
  | _, 0 => []
  | i, n + 1 => i :: iota (i + 1) n

/-- the types of numbers and texts -/
def ifTys (P : Program) : List (Nat × K3) :=
  (iota 0 P.types.size).filterMap fun t => match k3? P t, P.info? t with
    | some k, some i => bif i.comparable then some (t, k) else none
    | _, _ => none

/-- what is compared for being alike, of other kinds than numbers and strings -/
def eqOp (P : Program) (neg : Bool) (q : EqK) (x y : Operand) (a b : Opd) : COp :=
  match q, x, y with
  | .nilp .i, _, .const .nilIface => .isn neg a
  | .nilp .i, .const .nilIface, _ => .isn neg b
  | .nilp .i, _, _ => .eqi neg (ifTys P) a b
  | q, _, _ => .eq neg q a b

def cOp (P : Program) (o : Op) : Option COp :=
  match o with
  | .move x | .assign x => match cOpd P x with
    | some a => some (.mv a)
    | none => none
  | .pick c a b => match cOpd P c, cOpd P a, cOpd P b with
    | some c, some a, some b => some (.pick c a b)
    | _, _, _ => none
  | .alloc t => match zeroC? P t with
    | some z => some (.newv z)
    | none => none
  | .box _ x => match cOpd P x with
    | some a => some (.box a)
    | none => none
  | .build t ps => match P.underlying t with
    | some (.struct fs) => match zeroC? P t, cParts P fs ps.toList with
      | some z, some l => bif allSz P fs.toList then some (.bld z l) else none
      | _, _ => none
    | some (.array _ e) => match size? P e with
      | some s => match zeroC? P t, cElems P s ps.toList with
        | some z, some l => some (.bld z l)
        | _, _ => none
      | none => none
    | _ => none
  | .buildSlice t n ps => match P.underlying t with
    | some (.slice e) => match size? P e, zeroC? P e with
      | some s, some z => match cElems P s ps.toList with
        | some l => bif z.length.beq s && (n * s).ble 16777216 then some (.bsl z n s l) else none
        | none => none
      | _, _ => none
    | _ => none
  | .load t a => match P.underlying t, cOpd P a with
    | some d, some a => bif isAggD d then (match size? P t with
        | some n => some (.lda n a)
        | none => none) else some (.ld a)
    | _, _ => none
  | .store t a v => match size? P t, cOpd P a, cOpd P v with
    | some n, some a, some v => some (.sto n a v)
    | _, _, _ => none
  | .nilCheck x => match cOpd P x with
    | some a => some (.nchk a)
    | none => none
  | .binOp op t x y _ => match cOpd P x, cOpd P y, P.underlying t with
    | some a, some b, some (.int _) => some (.bin op a b)
    | some a, some b, some .string => some (.bin op a b)
    | some a, some b, some _ => match op, eqK? P t with
      | .eql, some q => some (eqOp P false q x y a b)
      | .neq, some q => some (eqOp P true q x y a b)
      | _, _ => none
    | _, _, _ => none
  | .unOp .not _ x => match cOpd P x with
    | some a => some (.not a)
    | none => none
  | .unOp .neg _ x => match cOpd P x with
    | some a => some (.neg a)
    | none => none
  | .convert s d x => match P.underlying s, P.underlying d, cOpd P x with
    | some (.int _), some (.int k), some a => some (.cvi k a)
    | some .string, some .string, some a => some (.cvss a)
    | some .string, some (.slice e), some a => match P.underlying e with
      | some (.int .u8) => some (.cvsb a)
      | _ => none
    | some (.slice e), some .string, some a => match P.underlying e with
      | some (.int .u8) => some (.cvbs a)
      | _ => none
    | some (.slice _), some (.slice e), some a => bif Nat.beq s d then (match P.underlying e with
      | some (.int .u8) => some (.cvbb a)
      | _ => none) else none
    | _, _, _ => none
  | .makeFunc (.func f) first cap => match first.toList, cOpds P cap.toList with
    | [], some l => some (.mkf f l)
    | _, _ => none
  | .makeMap _ none => some .mkm
  | .makeSlice t l c => match P.underlying t with
    | some (.slice e) => match size? P e, bytes? P e, zeroC? P e with
      | some s, some bs, some z => match cOpd P l, cOpd P c with
        | some l, some c => bif z.length.beq s then some (.mks z s bs l c) else none
        | _, _ => none
      | _, _, _ => none
    | _ => none
  | .slice t x lo hi mx => match P.underlying t with
    | some .string => match cOpd P x, cOpt P lo, cOpt P hi, mx with
      | some a, some l, some h, none => some (.sls a l h)
      | _, _, _, _ => none
    | some (.slice e) => match size? P e with
      | some s => match cOpd P x, cOpt P lo, cOpt P hi, cOpt P mx with
        | some a, some l, some h, some m => some (.sl s a l h m)
        | _, _, _, _ => none
      | none => none
    | _ => none
  | .fieldAddr t x f => match P.underlying t with
    | some (.struct fs) => match fs[f]?, cOpd P x with
      | some f, some a => match size? P f.type with
        | some s => bif s.beq 0 then none else some (.fa f.offset a)
        | none => none
      | _, _ => none
    | _ => none
  | .field t x f => match P.underlying t with
    | some (.struct fs) => match fs[f]?, cOpd P x with
      | some f, some a => match P.underlying f.type, size? P f.type with
        | some d, some n => some (bif isAggD d then .flda f.offset n a else .fld f.offset a)
        | _, _ => none
      | _, _ => none
    | _ => none
  | .indexAddr t x i => match P.underlying t with
    | some (.slice e) => match size? P e, cOpd P x, cOpd P i with
      | some s, some a, some b => some (.ia s a b)
      | _, _, _ => none
    | some (.array n e) => match size? P e, cOpd P x, cOpd P i with
      | some s, some a, some b => some (.iap n s a b)
      | _, _, _ => none
    | _ => none
  | .index t x i => match P.underlying t with
    | some .string => match cOpd P x, cOpd P i with
      | some a, some b => some (.ixs a b)
      | _, _ => none
    | some (.array n e) => match P.underlying e, size? P e with
      | some d, some s => match cOpd P x, cOpd P i with
        | some a, some b => some (.ixa n s (isAggD d) a b)
        | _, _ => none
      | _, _ => none
    | _ => none
  | .lookup t x i ok => match P.underlying t with
    | some (.map k e) => match eqK? P k, zeroV? P e with
      | some q, some z => match cOpd P x, cOpd P i with
        | some a, some b => bif isPlainK q then some (.lk q z ok a b) else none
        | _, _ => none
      | _, _ => none
    | _ => none
  | .mapUpdate t m k x | .insert t m k x => match P.underlying t with
    | some (.map kt _) => match eqK? P kt with
      | some q => match cOpd P m, cOpd P k, cOpd P x with
        | some a, some b, some c => bif isPlainK q then some (.mu q a b c) else none
        | _, _, _ => none
      | none => none
    | _ => none
  | .makeInterface t x => match P.underlying t, cOpd P x with
    | some (.interface _), _ => none
    | some _, some a => some (.mki t a)
    | _, _ => none
  | .extract x i => match cOpd P x with
    | some a => some (.ext a i)
    | none => none
  | .call c => match cOpds P c.args.toList with
    | some l => match c.callee with
      | .builtin b => cBuiltin P b c.argTypes.toList l
      | .value f => match cOpd P f with
        | some a => some (.call a l)
        | none => none
      | _ => none
    | none => none
  | _ => none

def dstAt : List Oper → Nat → Option Nat
  | [], _ => none
  | o :: _, 0 => o.dst
  | _ :: r, n + 1 => dstAt r n

def cIt (P : Program) (N : Nat) (all : List Oper) (o : Oper) : Option It :=
  whn (oc o.dst true fun d => Nat.blt d N) <| match cOp P o.op with
  | some c => match o.guard with
    | none => some ⟨o.dst, none, c⟩
    | some (j, want) => match dstAt all j with
      | some d => some ⟨o.dst, some (d, want), c⟩
      | none => none
  | none => none

def cIts (P : Program) (N : Nat) (all : List Oper) : List Oper → Option (List It)
  | [] => some []
  | o :: r => match cIt P N all o, cIts P N all r with
    | some i, some l => some (i :: l)
    | _, _ => none

/-! ### Regions whose order is drawn -/

/-- the operands that an operation reads -/
def opdsOf : COp → List Opd
  | .mv x | .box x | .ld x | .lda _ x | .nchk x | .isn _ x | .not x | .neg x | .cvi _ x | .cvss x | .cvsb x | .cvbs x | .cvbb x | .fa _ x | .fld _ x | .flda _ _ x | .mki _ x
  | .ext x _ | .len _ x | .lena _ x | .cap x | .clr _ _ x => [x]
  | .pick c a b => [c, a, b]
  | .newv _ | .mkm => []
  | .bld _ ps => ps.map (·.2.2)
  | .bsl _ _ _ ps => ps.map (·.2.2)
  | .sto _ a b | .bin _ a b | .eq _ _ a b | .ia _ a b | .iap _ _ a b | .ixs a b | .ixa _ _ _ a b | .lk _ _ _ a b | .min a b | .max a b | .app _ _ a b | .appz _ _ _ a b
  | .cpy _ a b | .del _ a b | .mks _ _ _ a b | .eqi _ _ a b => [a, b]
  | .mkf _ cap => cap
  | .sls x lo hi => x :: (lo.toList ++ hi.toList)
  | .sl _ x lo hi mx => x :: (lo.toList ++ hi.toList ++ mx.toList)
  | .mu _ a b c => [a, b, c]
  | .call f args => f :: args

def kindOf : COp → DK
  | .sto .. | .call .. | .app .. | .appz .. | .cpy .. | .clr .. | .mu .. | .del .. | .cvbb .. => .eff
  | .newv .. | .box .. | .bsl .. | .cvsb .. | .mks .. | .mkm => .alc
  | .ld .. | .lda .. | .cvbs .. | .sl .. | .lk .. | .len .. => .ld []
  | _ => .pur

/-- by the text: who must come before (a number of marks for each) -/
def ancsF (ops : List Oper) (i : Nat) (seen : List Nat) : Option (List Nat) :=
  match ops with
  | [] => some seen
  | o :: r => match ancE o.after.toList i seen with
    | some m => ancsF r (i + 1) (seen ++ [m])
    | none => none
where
  ancE : List Edge → Nat → List Nat → Option Nat
  | [], _, _ => some 0
  | e :: r, i, seen => match ancE r i seen with
    | some m => bif Region.binds .any e then (match seen[e.on]? with
        | some s => some (Nat.lor (Nat.lor s (Nat.pow 2 e.on)) m)
        | none => none) else some m
    | none => none

structure DInfo where
  i : Nat
  anc : Nat
  it : It
  k : DK

def isEff : DK → Bool
  | .eff => true
  | _ => false

def isAlc : DK → Bool
  | .alc => true
  | _ => false

def isLd : DK → Bool
  | .ld _ => true
  | _ => false

def zipD : List It → List Nat → Nat → List DInfo
  | a :: l, m :: r, i => ⟨i, m, a, kindOf a.op⟩ :: zipD l r (i + 1)
  | _, _, _ => []

def readsT (x : It) (d : Nat) : Bool :=
  (match x.gd with
  | some (g, _) => Nat.beq g d
  | none => false) || (opdsOf x.op).any fun
    | .t t => Nat.beq t d
    | _ => false

def bitOf (m i : Nat) : Bool := Nat.beq (Nat.mod (Nat.div m (Nat.pow 2 i)) 2) 1

/-- x comes ahead of y in the text: is their order settled, as far as it must be? -/
def pairOk (x y : DInfo) : Bool :=
  bif bitOf y.anc x.i then true else
    !((isEff x.k || isAlc x.k) && isEff y.k) &&
    (match x.it.dst with
    | some d => !readsT y.it d
    | none => true)

/-- x comes ahead of y in the text: what y writes x neither reads nor writes, or it is settled that x comes first -/
def tmpOk (x y : DInfo) : Bool :=
  bif bitOf y.anc x.i then true else
    match y.it.dst with
    | some d => !readsT x.it d && (match x.it.dst with
      | some e => !Nat.beq d e
      | none => true)
    | none => true

/-- nothing behind x writes what x reads or writes -/
def lastOk (x : DInfo) (l : List DInfo) : Bool :=
  (match x.it.dst with
  | some d => !readsT x.it d
  | none => true) && l.all fun y => Nat.ble y.i x.i || (match y.it.dst with
    | some d => !readsT x.it d && (match x.it.dst with
      | some e => !Nat.beq d e
      | none => true)
    | none => true)

def pairsOk : List DInfo → Bool
  | [] => true
  | x :: r => r.all (fun y => pairOk x y && tmpOk x y) && pairsOk r

/-- the states (by the number of effects before them) at which x may come: none of the effects passed has x ahead of it, none of those to come is ahead of x -/
def mayAt (x : DInfo) (effs : List DInfo) (m : Nat) : Bool :=
  (effs.take m).all (fun e => !bitOf e.anc x.i) && (effs.drop m).all (fun e => !bitOf x.anc e.i)

/-- the states at which x may come, but for its own by the text -/
def chkOf (effs : List DInfo) (x : DInfo) : List Nat :=
  (iota 0 (effs.length + 1)).filter fun m => mayAt x effs m && !Nat.beq m ((effs.filter fun e => Nat.blt e.i x.i).length)

def lookAt (effs l : List DInfo) (x : DInfo) : Option DIt :=
  bif isLd x.k then
    match chkOf effs x with
    | [] => some ⟨x.it, .ld []⟩
    | ms => bif lastOk x l then some ⟨x.it, .ld (ms.map fun m => Nat.sub effs.length m)⟩ else none
  else some ⟨x.it, x.k⟩

def lookAll (effs l : List DInfo) : List DInfo → Option (List DIt)
  | [] => some []
  | x :: r => match lookAt effs l x, lookAll effs l r with
    | some a, some b => some (a :: b)
    | _, _ => none

def cDreg (ops : List Oper) (its : List It) : Option (List DIt) :=
  match ancsF ops 0 [] with
  | some anc =>
    let ds := zipD its anc 0
    let effs := ds.filter fun x => isEff x.k
    bif pairsOk ds then lookAll effs ds ds else none
  | none => none

/-- no loop over a function within -/
def noRng : CC → Bool
  | .rng _ _ _ _ => false
  | .seq a b => noRng a && noRng b
  | .cond _ a b => noRng a && noRng b
  | .block _ c => noRng c
  | .loop c => noRng c
  | .scope c => noRng c
  | _ => true

def comp (P : Program) (N : Nat) : Code → CC
  | .skip => .skip
  | .region _ ops draw => match cIts P N ops.toList ops.toList with
    | some l => bif draw then (match cDreg ops.toList l with
      | some l => .dreg l
      | none => .no) else .reg l
    | none => .no
  | .seq a b => .seq (comp P N a) (comp P N b)
  | .cond c a b => match cOpd P c with
    | some c => .cond c (comp P N a) (comp P N b)
    | none => .no
  | .block id c => .block id (comp P N c)
  | .loop c => .loop (comp P N c)
  | .exit id => .exit id
  | .scope _ => .no
  | .label l => .label l
  | .rangeFunc g ps a c => match cOpd P g with
    | some g => bif (noRng (comp P N a) && noRng (comp P N c)) && ps.toList.all (fun t => Nat.blt t N) then .rng g ps.toList (comp P N a) (comp P N c) else .no
    | none => .no
  | .ret => .ret
  | _ => .no

def compRes (P : Program) : List ResultVar → Option (List CRes)
  | [] => some []
  | .tmp t :: r => match compRes P r with
    | some l => some (.t t :: l)
    | none => none
  | .cell a t :: r => match P.underlying t, size? P t, compRes P r with
    | some d, some n, some l => some ((bif isAggD d then .cn a n else .c1 a) :: l)
    | _, _, _ => none

def compF (P : Program) (fn : Func) : Option CFun :=
  match fn.body, compRes P fn.results.toList with
  | some b, some r => bif fn.name == "runtime.NumGoroutine" then none else some ⟨fn.ntmps, r, comp P fn.ntmps b⟩
  | _, _ => none

/-- the whole program, function by function -/
def cpOf (P : Program) : CP := fun f => match P.funcs[f]? with
  | some fn => compF P fn
  | none => none

end
end Go.Am
