/-
The faster twin, runs: it answers what the evaluator answers.
-/
import Derived.Test.YtdofpjabgnfglaaGreatDoorAm30
set_option linter.unusedVariables false
set_option linter.unusedSectionVars false
namespace Go.Am
open Go
variable [GT]
noncomputable section

def isU (v : V) (want : Bool) : Option Bool := isOn v want

def fOn : V → Bool → Option Bool := fun v =>
  V.rec (motive_1 := fun _ => Bool → Option Bool) (motive_2 := fun _ => Unit) (fun b want => some (sel b want (!want))) (fun _ _ _ => none) (fun _ _ _ => none) (fun _ => none) (fun _ _ _ => none) (fun _ => none) (fun _ _ _ _ _ _ => none) (fun _ => none)
    (fun _ _ => none) (fun _ => none) (fun _ _ _ _ => none) (fun _ => none) (fun _ _ _ _ => none) (fun _ _ _ => none) (fun _ _ _ => some false) (fun _ _ => none) () (fun _ _ _ _ => ()) v
theorem fOn_eq : fOn = isOn := by funext v w; cases v <;> rfl

def fMet (T : Tm) (g : Option (Nat × Bool)) : Option Bool := oc g (some true) fun p => ob (T.get p.1) fun v => fOn v p.2
theorem fMet_eq : fMet = met := by unfold fMet met; rw [fOn_eq]

def goNo (call : CallF) (d : Option Nat) (o : COp) (ih : Tm → St → TS) (T : Tm) (st : St) : TS :=
  ob (fOp o call T st) fun r => Prod.rec (motive := fun _ => TS) (fun v st => ih (putT T d v) st) r
def goIf (p : Nat × Bool) (call : CallF) (d : Option Nat) (o : COp) (ih : Tm → St → TS) (T : Tm) (st : St) : TS :=
  ob (ob (T.get p.1) fun v => fOn v p.2) fun b => sel b (goNo call d o ih T st) (ih (putT T d undefV) st)
def goIt : It → CallF → (Tm → St → TS) → Tm → St → TS := fun i =>
  It.rec (motive := fun _ => CallF → (Tm → St → TS) → Tm → St → TS) (fun d g o call ih T st => Option.rec (motive := fun _ => CallF → Option Nat → COp → (Tm → St → TS) → Tm → St → TS) goNo goIf g call d o ih T st) i

def itsF (call : CallF) (l : List It) : Tm → St → TS :=
  List.rec (motive := fun _ => Tm → St → TS) (fun T st => some (T, st)) (fun i _ ih => goIt i call ih) l

theorem itsF_eq (call : CallF) : ∀ (l : List It) (T : Tm) (st : St), itsF call l T st = itsV call l T st
  | [], T, st => rfl
  | i :: l, T, st => by
    have ih : itsF call l = itsV call l := by funext T st; exact itsF_eq call l T st
    obtain ⟨d, g, o⟩ := i
    show goIt ⟨d, g, o⟩ call (itsF call l) T st = ob (met T g) (fun b => sel b (ob (opV call T o st) fun r => itsV call l (putT T d r.1) r.2) (itsV call l (putT T d undefV) st))
    rw [ih]
    have hno : ∀ T st, goNo call d o (itsV call l) T st = ob (opV call T o st) fun r => itsV call l (putT T d r.1) r.2 := fun T st => by
      unfold goNo; rw [fOp_eq]
    cases g with
    | none => exact hno T st
    | some p =>
      show goIf p call d o (itsV call l) T st = _
      unfold goIf
      rw [hno, fOn_eq]; rfl

/-! ### Regions whose order is drawn -/

def dstepF (b : Bool) (call : CallF) (i : It) (T : Tm) (st cur : St) (k : Tm → St → Option (Tm × St × List St)) : Option (Tm × St × List St) :=
  sel b (ob (fOp i.op call T st) fun r => Prod.rec (motive := fun _ => Option (Tm × St × List St)) (fun v st => k (putT T i.dst v) st) r) (k (putT T i.dst undefV) cur)
theorem dstepF_eq : dstepF = dstep := by
  funext b call i T st cur k
  unfold dstepF dstep
  rw [fOp_eq]

def runDF (call : CallF) (l : List DIt) : Tm → St → St → List St → Option (Tm × St × List St) :=
  List.rec (motive := fun _ => Tm → St → St → List St → Option (Tm × St × List St)) (fun T base cur S => some (T, cur, S))
    (fun i _ ih T base cur S => ob (fMet T i.it.gd) fun b =>
      DK.rec
        (dstepF b call i.it T cur cur fun T cur => ih T cur cur (cur :: S))
        (dstepF b call i.it T cur cur fun T cur => ih T base cur S)
        (dstepF b call i.it T base base fun T _ => ih T base cur S)
        (fun _ => dstepF b call i.it T base base fun T _ => ih T base cur S)
        i.k) l
theorem runDF_eq : runDF = runD := by unfold runDF runD; rw [dstepF_eq, fMet_eq]

def looksF (call : CallF) (T : Tm) (o : COp) (v : V) (S : List St) (chk : List Nat) : Bool :=
  List.rec true (fun m _ ih => oc (nthL m S) false fun st => oc (fOp o call T st) false fun r => sel (sameV r.1 v) ih false) chk
theorem looksF_eq : looksF = looks := by
  funext call T o v S chk
  unfold looksF looks
  simp only [fOp_eq]

def chkDF (call : CallF) (T : Tm) (S : List St) (l : List DIt) : Bool :=
  List.rec true (fun i _ ih =>
    DK.rec ih ih ih (fun chk => List.rec ih (fun _ _ _ => oc (fMet T i.it.gd) false fun b => sel b (oc i.it.dst false fun d => oc (T.get d) false fun v => sel (looksF call T i.it.op v S chk) ih false) ih) chk) i.k) l
theorem chkDF_eq : chkDF = chkD := by unfold chkDF chkD; rw [looksF_eq, fMet_eq]

def dregF (call : CallF) (its : List DIt) (T : Tm) (st : St) : TS :=
  ob (runDF call its T st st [st]) fun r => whn (chkDF call r.1 r.2.2 its) (some (r.1, r.2.1))
theorem dregF_eq : dregF = dregV := by unfold dregF dregV; rw [runDF_eq, chkDF_eq]

/-! ### Results, calls -/

def resOfF (T : Tm) (st : St) (r : CRes) : R := CRes.rec (fun t => pur (T.get t) st) (fun a => fLd (T.get a) st) (fun a n => fLda n (T.get a) st) r
theorem resOfF_eq : resOfF = resOf := by unfold resOfF resOf; rw [fLd_eq, fLda_eq]
def resF (T : Tm) (st : St) (l : List CRes) : Option (List V) := List.rec (some []) (fun r _ ih => ob (resOfF T st r) fun p => ob ih fun l => some (p.1 :: l)) l
theorem resF_eq : resF = resV := by unfold resF resV; rw [resOfF_eq]
def retF (fn : CFun) (o : RS) : R :=
  ob o fun p => Ex.rec (ob (resF p.2.1 p.2.2 fn.res) fun l => some (resOne l, p.2.2)) (fun _ => none) (ob (resF p.2.1 p.2.2 fn.res) fun l => some (resOne l, p.2.2)) p.1
theorem retF_eq : retF = retV := by unfold retF retV; rw [resF_eq]

def fRec (o : Obj) : Option (List Nat × CC × CC × Tm) := Obj.rec (motive := fun _ => Option (List Nat × CC × CC × Tm)) (fun _ _ _ => none) (fun _ => none) none (fun ps a c T => some (ps, a, c, T)) o
theorem fRec_eq : fRec = asRec := by funext o; cases o <;> rfl

def yieldF (rec : RunF) (b : Nat) (args : List V) (st : St) : R :=
  ob (st.heap.get b) fun o => ob (fRec o) fun q => whn (Nat.beq (lenL q.1) (lenL args))
    (onNorm (rec q.2.1 (putsT q.1 args q.2.2.2) (st.put b .dead)) fun T st => onNorm (rec q.2.2.1 T st) fun _ st => some (.bool true, st.put b (.lrec q.1 q.2.1 q.2.2.1 q.2.2.2)))
theorem yieldF_eq : yieldF = yieldW := by unfold yieldF yieldW; rw [fRec_eq]

def callWF (P : CP) (X : Ext) (rec : RunF) : CallF := fun f args st =>
  sel (Nat.ble YN f) (yieldF rec (Nat.sub f YN) args st)
    (oc (X f) (ob (P f) fun fn => retF fn (rec fn.body (initT args (nat_lit 0) .nil) st)) fun g => g args st)
theorem callWF_eq : callWF = callW := by unfold callWF callW; rw [yieldF_eq, retF_eq]

def rngF (P : CP) (X : Ext) (call : CallF) (g : Option V) (ps : List Nat) (a c : CC) (T : Tm) (st : St) : RS :=
  ob g fun g => ob (fFn g) fun p => whn (Nat.blt p.1 YN) <| whn (oc (X p.1) true fun _ => false)
    (ob (call p.1 (.yld st.next :: p.2) (st.alloc (.lrec ps a c T))) fun r =>
      ob (r.2.heap.get st.next) fun o => ob (fRec o) fun _ => some (.norm, T, r.2.put st.next .dead))
theorem rngF_eq : rngF = rngW := by unfold rngF rngW; rw [fRec_eq, fFn_eq]

/-! ### Code -/

abbrev SF := CP → Ext → RunF → Tm → St → RS

def sSkip : SF := fun _ _ _ T st => some (.norm, T, st)
def sReg (its : List It) : SF := fun P X rec T st => norm (itsF (callWF P X rec) its T st)
def sDreg (its : List DIt) : SF := fun P X rec T st => norm (dregF (callWF P X rec) its T st)
def sSeq (a b : CC) (_ _ : SF) : SF := fun P X rec T st => thn (rec a T st) fun T st => rec b T st
def fCnd (v : Option V) (a b : RS) : RS := ob v fun v => ob (fBool v) fun c => sel c a b
theorem fCnd_eq : fCnd = cnd := by unfold fCnd cnd; rw [fBool_eq]
def sCond (c : Opd) (a b : CC) (_ _ : SF) : SF := fun P X rec T st => fCnd (ev T c) (rec a T st) (rec b T st)
def sBlock (id : Nat) (c : CC) (_ : SF) : SF := fun P X rec T st => blk id (rec c T st)
def sLoop (c : CC) (_ : SF) : SF := fun P X rec T st => thn (rec c T st) fun T st => rec (.loop c) T st
def sExit (k : Nat) : SF := fun _ _ _ T st => some (.exit k, T, st)
def sScope (c : CC) (_ : SF) : SF := fun P X rec T st => rec c T st
def sLabel (_ : Nat) : SF := fun _ _ _ T st => some (.norm, T, st)
def sRng (g : Opd) (ps : List Nat) (a c : CC) (_ _ : SF) : SF := fun P X rec T st => rngF P X (callWF P X rec) (ev T g) ps a c T st
def sRet : SF := fun _ _ _ T st => some (.ret, T, st)
def sNo : SF := fun _ _ _ _ _ => none

def stepF (P : CP) (X : Ext) (rec : RunF) : RunF := fun c T st =>
  CC.rec (motive := fun _ => SF) sSkip sReg sDreg sSeq sCond sBlock sLoop sExit sScope sLabel sRng sRet sNo c P X rec T st

theorem stepF_eq : stepF = stepR := by
  funext P X rec c T st
  cases c
  case reg its =>
    show norm (itsF (callWF P X rec) its T st) = norm (itsV (callW P X rec) its T st)
    rw [callWF_eq, itsF_eq]
  case dreg its =>
    show norm (dregF (callWF P X rec) its T st) = norm (dregV (callW P X rec) its T st)
    rw [callWF_eq, dregF_eq]
  case cond c a b =>
    show fCnd (ev T c) (rec a T st) (rec b T st) = cnd (ev T c) (rec a T st) (rec b T st)
    rw [fCnd_eq]
  case rng g ps a c =>
    show rngF P X (callWF P X rec) (ev T g) ps a c T st = rngW P X (callW P X rec) (ev T g) ps a c T st
    rw [callWF_eq, rngF_eq]
  all_goals rfl

def runF (P : CP) (X : Ext) (n : Nat) : RunF := Nat.rec (motive := fun _ => RunF) (fun _ _ _ => none) (fun _ ih => stepF P X ih) n
theorem runF_eq : runF = run := by
  funext P X n
  induction n with
  | zero => rfl
  | succ n ih =>
    show stepF P X (runF P X n) = stepR P X (run P X n)
    rw [ih, stepF_eq]

def callFF (P : CP) (X : Ext) (n : Nat) : CallF := callWF P X (runF P X n)
theorem callFF_eq : callFF = callF := by
  funext P X n
  unfold callFF callF
  rw [runF_eq, callWF_eq]

end
end Go.Am
