/-
More fuel, more code: what was answered is answered still.
-/
import Derived.Test.YtdofpjabgnfglaaGreatDoorAm31
import Derived.Test.YtdofpjabgnfglaaGreatDoorAm21
set_option linter.unusedVariables false
set_option linter.unusedSectionVars false
namespace Go.Am
open Go
variable [GT]

/-- what the one answers, the other answers -/
def Le {α : Type} (a b : Option α) : Prop := ∀ x, a = some x → b = some x

theorem Le.refl {α : Type} (a : Option α) : Le a a := fun _ h => h
theorem Le.none {α : Type} (b : Option α) : Le none b := fun _ h => by cases h
theorem leOb {α β : Type} {x y : Option α} {k k' : α → Option β} (h : Le x y) (hk : ∀ a, Le (k a) (k' a)) : Le (ob x k) (ob y k') := fun r e => by
  obtain ⟨a, h1, h2⟩ := ob_some.1 e
  exact ob_some.2 ⟨a, h a h1, hk a r h2⟩
theorem leOb1 {α β : Type} {x : Option α} {k k' : α → Option β} (hk : ∀ a, Le (k a) (k' a)) : Le (ob x k) (ob x k') := leOb (Le.refl _) hk
theorem leSel {α : Type} {c : Bool} {a b a' b' : Option α} (h : Le a a') (h' : Le b b') : Le (sel c a b) (sel c a' b') := by
  cases c with
  | true => exact h
  | false => exact h'
theorem leWhn {α : Type} {c : Bool} {a a' : Option α} (h : Le a a') : Le (whn c a) (whn c a') := by
  cases c with
  | true => exact h
  | false => exact Le.refl _

def CLe (call call' : CallF) : Prop := ∀ f args st, Le (call f args st) (call' f args st)
def RLe (rec rec' : RunF) : Prop := ∀ c T st, Le (rec c T st) (rec' c T st)

theorem opV_mono {call call' : CallF} (h : CLe call call') (T : Tm) (o : COp) (st : St) : Le (opV call T o st) (opV call' T o st) := by
  cases o <;> first
    | exact Le.refl _
    | exact leOb1 fun f => leOb1 fun l => leOb1 fun p => h _ _ _

theorem itsV_mono {call call' : CallF} (h : CLe call call') : ∀ (l : List It) (T : Tm) (st : St), Le (itsV call l T st) (itsV call' l T st)
  | [], _, _ => Le.refl _
  | i :: l, T, st => by
    show Le (ob (met T i.gd) fun b => sel b (ob (opV call T i.op st) fun r => itsV call l (putT T i.dst r.1) r.2) (itsV call l (putT T i.dst undefV) st))
      (ob (met T i.gd) fun b => sel b (ob (opV call' T i.op st) fun r => itsV call' l (putT T i.dst r.1) r.2) (itsV call' l (putT T i.dst undefV) st))
    exact leOb1 fun b => leSel (leOb (opV_mono h _ _ _) fun r => itsV_mono h l _ _) (itsV_mono h l _ _)

theorem dstep_mono {call call' : CallF} (h : CLe call call') {b : Bool} {i : It} {T : Tm} {st cur : St} {k k' : Tm → St → Option (Tm × St × List St)} (hk : ∀ T st, Le (k T st) (k' T st)) : Le (dstep b call i T st cur k) (dstep b call' i T st cur k') :=
  leSel (leOb (opV_mono h _ _ _) fun r => hk _ _) (hk _ _)

theorem runD_mono {call call' : CallF} (h : CLe call call') : ∀ (l : List DIt) (T : Tm) (base cur : St) (S : List St), Le (runD call l T base cur S) (runD call' l T base cur S)
  | [], _, _, _, _ => Le.refl _
  | ⟨it, k⟩ :: l, T, base, cur, S => by
    cases k with
    | eff => exact leOb1 (x := met T it.gd) fun b => dstep_mono h fun T st => runD_mono h l _ _ _ _
    | alc => exact leOb1 (x := met T it.gd) fun b => dstep_mono h fun T st => runD_mono h l _ _ _ _
    | pur => exact leOb1 (x := met T it.gd) fun b => dstep_mono h fun T st => runD_mono h l _ _ _ _
    | ld c => exact leOb1 (x := met T it.gd) fun b => dstep_mono h fun T st => runD_mono h l _ _ _ _

theorem looks_mono {call call' : CallF} (h : CLe call call') {T : Tm} {o : COp} {v : V} {S : List St} : ∀ {chk : List Nat}, looks call T o v S chk = true → looks call' T o v S chk = true
  | [], _ => rfl
  | a :: chk, e => by
    obtain ⟨st, h1, h2⟩ := oc_false (show oc (nthL a S) false (fun st => oc (opV call T o st) false fun r => sel (sameV r.1 v) (looks call T o v S chk) false) = true from e)
    obtain ⟨r, h3, h4⟩ := oc_false h2
    obtain ⟨h5, h6⟩ := sel_false h4
    show oc (nthL a S) false (fun st => oc (opV call' T o st) false fun r => sel (sameV r.1 v) (looks call' T o v S chk) false) = true
    rw [h1, oc_some, opV_mono h _ _ _ _ h3, oc_some, h5, looks_mono h h6]; rfl

theorem chkD_mono {call call' : CallF} (h : CLe call call') {T : Tm} {S : List St} : ∀ {l : List DIt}, chkD call T S l = true → chkD call' T S l = true
  | [], _ => rfl
  | ⟨it, k⟩ :: l, e => by
    cases k with
    | eff => exact chkD_mono (l := l) h e
    | alc => exact chkD_mono (l := l) h e
    | pur => exact chkD_mono (l := l) h e
    | ld c =>
      cases c with
      | nil => exact chkD_mono (l := l) h e
      | cons m c =>
        obtain ⟨b, h1, h2⟩ := oc_false (show oc (met T it.gd) false (fun b => sel b (oc it.dst false fun d => oc (T.get d) false fun v => sel (looks call T it.op v S (m :: c)) (chkD call T S l) false) (chkD call T S l)) = true from e)
        show oc (met T it.gd) false (fun b => sel b (oc it.dst false fun d => oc (T.get d) false fun v => sel (looks call' T it.op v S (m :: c)) (chkD call' T S l) false) (chkD call' T S l)) = true
        rw [h1, oc_some]
        cases b with
        | false => exact chkD_mono (l := l) h h2
        | true =>
          obtain ⟨d, h3, h4⟩ := oc_false (show oc it.dst false (fun d => oc (T.get d) false fun v => sel (looks call T it.op v S (m :: c)) (chkD call T S l) false) = true from h2)
          obtain ⟨v, h5, h6⟩ := oc_false h4
          obtain ⟨h7, h8⟩ := sel_false h6
          show oc it.dst false (fun d => oc (T.get d) false fun v => sel (looks call' T it.op v S (m :: c)) (chkD call' T S l) false) = true
          rw [h3, oc_some, h5, oc_some, looks_mono h h7, chkD_mono (l := l) h h8]; rfl

theorem dregV_mono {call call' : CallF} (h : CLe call call') (l : List DIt) (T : Tm) (st : St) : Le (dregV call l T st) (dregV call' l T st) := fun x e => by
  obtain ⟨r, h1, h2⟩ := ob_some.1 e
  obtain ⟨h3, h4⟩ := whn_some.1 h2
  exact ob_some.2 ⟨r, runD_mono h _ _ _ _ _ _ h1, whn_some.2 ⟨chkD_mono h h3, h4⟩⟩

theorem onNorm_mono {α : Type} {r r' : RS} {k k' : Tm → St → Option α} (h : Le r r') (hk : ∀ T st, Le (k T st) (k' T st)) : Le (onNorm r k) (onNorm r' k') := fun x e => by
  obtain ⟨T, st, h1, h2⟩ := onNorm_some e
  show ob r' _ = some x
  rw [h _ h1]
  exact hk T st x h2

def PLe (P P' : CP) : Prop := ∀ f, Le (P f) (P' f)

theorem callW_mono {P P' : CP} {E : Ext} {rec rec' : RunF} (hP : PLe P P') (h : RLe rec rec') : CLe (callW P E rec) (callW P' E rec') := fun f args st => by
  show Le (sel (Nat.ble YN f) (yieldW rec (Nat.sub f YN) args st) (oc (E f) (ob (P f) fun fn => retV fn (rec fn.body (initT args 0 .nil) st)) fun g => g args st))
    (sel (Nat.ble YN f) (yieldW rec' (Nat.sub f YN) args st) (oc (E f) (ob (P' f) fun fn => retV fn (rec' fn.body (initT args 0 .nil) st)) fun g => g args st))
  refine leSel ?_ ?_
  · exact leOb1 fun o => leOb1 fun q => leWhn (onNorm_mono (h _ _ _) fun T st => onNorm_mono (h _ _ _) fun _ _ => Le.refl _)
  · cases E f with
    | none => exact leOb (hP f) fun fn => leOb (h _ _ _) fun p => Le.refl _
    | some g => exact Le.refl _

theorem thn_mono {r r' : RS} {k k' : Tm → St → RS} (h : Le r r') (hk : ∀ T st, Le (k T st) (k' T st)) : Le (thn r k) (thn r' k') :=
  leOb h fun p => by
    obtain ⟨e, T, st⟩ := p
    cases e with
    | norm => exact hk T st
    | exit k => exact Le.refl _
    | ret => exact Le.refl _

theorem stepR_mono {P P' : CP} {E : Ext} {rec rec' : RunF} (hP : PLe P P') (h : RLe rec rec') : RLe (stepR P E rec) (stepR P' E rec') := fun c T st => by
  have hc := callW_mono (E := E) hP h
  cases c with
  | reg its => exact leOb (itsV_mono hc its T st) fun p => Le.refl _
  | dreg its => exact leOb (dregV_mono hc its T st) fun p => Le.refl _
  | seq a b => exact thn_mono (h _ _ _) fun T st => h _ _ _
  | loop c => exact thn_mono (h _ _ _) fun T st => h _ _ _
  | cond c a b => exact leOb1 fun v => leOb1 fun c => leSel (h _ _ _) (h _ _ _)
  | block id c => exact leOb (h _ _ _) fun p => Le.refl _
  | scope c => exact h _ _ _
  | rng g ps a c => exact leOb1 fun g => leOb1 fun p => leWhn <| leWhn <| leOb (hc _ _ _) fun r => Le.refl _
  | _ => exact Le.refl _

theorem run_mono {P P' : CP} {E : Ext} (hP : PLe P P') : ∀ {n m : Nat}, n ≤ m → RLe (run P E n) (run P' E m)
  | 0, m, _ => fun c T st => Le.none _
  | n + 1, m, h => by
    obtain ⟨m, rfl⟩ : ∃ k, m = k + 1 := ⟨m - 1, by omega⟩
    rw [run_succ, run_succ]
    exact stepR_mono hP (run_mono hP (by omega))

theorem callF_mono {P P' : CP} {E : Ext} (hP : PLe P P') {n m : Nat} (h : n ≤ m) : CLe (callF P E n) (callF P' E m) := callW_mono hP (run_mono hP h)

end Go.Am
