/-
What an operation reads and what it leaves alone: for regions whose order is drawn.
-/
import Derived.Test.YtdofpjabgnfglaaGreatDoorAm16
set_option linter.unusedVariables false
set_option linter.unusedSectionVars false
set_option linter.unusedSimpArgs false
namespace Go.Am
open Go
variable [GT]

/-! ### Blind: neither reads nor turns the memory -/

def Bl (r : St → R) : Prop := ∀ st v st', r st = some (v, st') → st' = st ∧ ∀ st2, r st2 = some (v, st2)

theorem Bl.ob {α : Type} {x : Option α} {k : α → St → R} (h : ∀ a, Bl (k a)) : Bl fun st => ob x fun a => k a st := fun st v st' e => by
  obtain ⟨a, h1, h2⟩ := ob_some.1 e
  subst h1
  exact h a st v st' h2
theorem Bl.whn {c : Bool} {t : St → R} (h : Bl t) : Bl fun st => whn c (t st) := fun st v st' e => by
  obtain ⟨h1, h2⟩ := whn_some.1 e
  subst h1
  exact h st v st' h2
theorem Bl.sel {c : Bool} {t e : St → R} (h : Bl t) (h' : Bl e) : Bl fun st => sel c (t st) (e st) := by
  cases c with
  | false => exact h'
  | true => exact h
theorem Bl.same (v : V) : Bl fun st => some (v, st) := fun _ _ _ e => by cases e; exact ⟨rfl, fun _ => rfl⟩
theorem Bl.none : Bl fun _ => none := fun _ _ _ e => by cases e

theorem pur_bl {call : CallF} {T : Tm} {c : COp} (hk : kindOf c = .pur) : Bl fun st => opV call T c st := by
  cases c <;> simp only [kindOf, reduceCtorEq] at hk
  case mv x => exact Bl.ob fun _ => Bl.same _
  case pick c a b => exact Bl.ob fun _ => Bl.ob fun _ => Bl.sel (Bl.ob fun _ => Bl.same _) (Bl.ob fun _ => Bl.same _)
  case bld z ps => exact Bl.ob fun _ => Bl.ob fun _ => Bl.same _
  case nchk x => exact Bl.ob fun u => by cases u <;> first | exact Bl.same _ | exact Bl.none
  case bin op x y => exact Bl.ob fun _ => Bl.ob fun _ => Bl.ob fun _ => Bl.same _
  case eq neg k x y => exact Bl.ob fun _ => Bl.ob fun _ => Bl.ob fun _ => Bl.same _
  case isn neg x => exact Bl.ob fun u => by cases u <;> first | exact Bl.same _ | exact Bl.none
  case eqi neg l x y => exact Bl.ob fun _ => Bl.ob fun _ => Bl.ob fun _ => Bl.same _
  case not x => exact Bl.ob fun _ => Bl.ob fun _ => Bl.same _
  case neg x => exact Bl.ob fun _ => Bl.ob fun _ => Bl.same _
  case cvi k x => exact Bl.ob fun _ => Bl.ob fun _ => Bl.same _
  case cvss x => exact Bl.ob fun _ => Bl.ob fun _ => Bl.same _
  case mkf f cap => exact Bl.ob fun _ => Bl.same _
  case sls x lo hi => exact Bl.ob fun _ => Bl.ob fun _ => Bl.ob fun _ => Bl.ob fun _ => Bl.whn <| Bl.whn <| Bl.same _
  case fa off x => exact Bl.ob fun _ => Bl.ob fun _ => Bl.same _
  case fld off x => exact Bl.ob fun _ => Bl.ob fun _ => Bl.ob fun _ => Bl.same _
  case flda off n x => exact Bl.ob fun _ => Bl.ob fun _ => Bl.whn <| Bl.same _
  case ia s x i => exact Bl.ob fun _ => Bl.ob fun _ => Bl.ob fun _ => Bl.ob fun _ => Bl.whn <| Bl.same _
  case iap n s x i => exact Bl.ob fun _ => Bl.ob fun _ => Bl.ob fun _ => Bl.ob fun _ => Bl.whn <| Bl.same _
  case ixs x i => exact Bl.ob fun _ => Bl.ob fun _ => Bl.ob fun _ => Bl.ob fun _ => Bl.ob fun _ => Bl.same _
  case ixa n s agg x i =>
    refine Bl.ob fun _ => Bl.ob fun _ => Bl.whn <| Bl.sel ?_ ?_
    · exact Bl.ob fun _ => Bl.ob fun _ => Bl.whn <| Bl.same _
    · exact Bl.ob fun _ => Bl.ob fun _ => Bl.ob fun _ => Bl.same _
  case mki t x => exact Bl.ob fun _ => Bl.same _
  case ext x i => exact Bl.ob fun _ => Bl.ob fun _ => Bl.ob fun _ => Bl.same _
  case lena n x => exact Bl.same _
  case cap x => exact Bl.ob fun u => by cases u <;> first | exact Bl.none | exact Bl.same _ | exact Bl.whn (Bl.same _)
  case min x y => exact Bl.ob fun _ => Bl.ob fun _ => Bl.ob fun _ => Bl.ob fun _ => Bl.same _
  case max x y => exact Bl.ob fun _ => Bl.ob fun _ => Bl.ob fun _ => Bl.ob fun _ => Bl.same _

/-! ### A look: leaves the memory as it is -/

def Lk (st : St) (r : R) : Prop := ∀ v st', r = some (v, st') → st' = st

theorem Lk.ob {st : St} {α : Type} {x : Option α} {k : α → R} (h : ∀ a, Lk st (k a)) : Lk st (ob x k) := fun v st' e => by
  obtain ⟨a, _, h2⟩ := ob_some.1 e
  exact h a v st' h2
theorem Lk.whn {st : St} {c : Bool} {t : R} (h : Lk st t) : Lk st (whn c t) := fun v st' e => h v st' (whn_some.1 e).2
theorem Lk.oc {st : St} {α : Type} {x : Option α} {e : R} {k : α → R} (h' : Lk st e) (h : ∀ a, Lk st (k a)) : Lk st (oc x e k) := by
  cases x with
  | none => exact h'
  | some a => exact h a
theorem Lk.same {st : St} (v : V) : Lk st (some (v, st)) := fun _ _ e => by cases e; rfl
theorem Lk.none {st : St} : Lk st none := fun _ _ e => by cases e

theorem ld_lk {call : CallF} {T : Tm} {c : COp} {l : List Nat} (hk : kindOf c = .ld l) {st : St} : Lk st (opV call T c st) := by
  cases c <;> simp only [kindOf, reduceCtorEq] at hk
  case ld a => exact Lk.ob fun _ => Lk.ob fun _ => Lk.ob fun _ => Lk.ob fun _ => Lk.same _
  case lda n a => exact Lk.ob fun _ => Lk.ob fun _ => Lk.ob fun _ => Lk.ob fun _ => Lk.same _
  case cvbs x => exact Lk.ob fun u => by cases u <;> first | exact Lk.none | exact Lk.same _ | exact Lk.ob fun _ => Lk.ob fun _ => Lk.ob fun _ => Lk.same _
  case sl s x lo hi mx =>
    refine Lk.ob fun u => ?_
    cases u <;> first
      | exact Lk.none
      | exact Lk.ob fun _ => Lk.ob fun _ => Lk.whn <| Lk.whn <| Lk.oc (Lk.same _) fun _ => Lk.none
      | exact Lk.ob fun _ => Lk.whn <| Lk.ob fun _ => Lk.ob fun _ => Lk.whn <| Lk.oc (Lk.whn <| Lk.same _) fun _ => Lk.ob fun _ => Lk.ob fun _ => Lk.ob fun _ => Lk.whn <| Lk.whn <| Lk.same _
  case lk k z ok m i =>
    refine Lk.ob fun u => Lk.ob fun _ => Lk.ob fun _ => Lk.whn ?_
    cases u <;> first
      | exact Lk.none
      | exact Lk.same _
      | exact Lk.ob fun _ => Lk.ob fun _ => Lk.oc (Lk.same _) fun _ => Lk.same _
  case len k x =>
    refine Lk.ob fun u => ?_
    cases k <;> cases u <;> first | exact Lk.none | exact Lk.same _ | exact Lk.ob fun _ => Lk.same _

/-! ### Something new: it hangs on the next number alone -/

def Nw (r : St → R) : Prop := ∀ st v st', r st = some (v, st') → ∃ o : Obj, o.live ∧ st' = st.alloc o ∧ ∀ h, r ⟨h, st.next⟩ = some (v, (⟨h, st.next⟩ : St).alloc o)

theorem Nw.ob {α : Type} {x : Option α} {k : α → St → R} (h : ∀ a, Nw (k a)) : Nw fun st => ob x fun a => k a st := fun st v st' e => by
  obtain ⟨a, h1, h2⟩ := ob_some.1 e
  subst h1
  exact h a st v st' h2
theorem Nw.whn {c : Bool} {t : St → R} (h : Nw t) : Nw fun st => whn c (t st) := fun st v st' e => by
  obtain ⟨h1, h2⟩ := whn_some.1 e
  subst h1
  exact h st v st' h2
theorem Nw.new {o : Obj} (hl : o.live) (f : Nat → V) : Nw fun st => some (f st.next, st.alloc o) := fun _ _ _ e => by cases e; exact ⟨o, hl, rfl, fun _ => rfl⟩

theorem alc_nw {call : CallF} {T : Tm} {c : COp} (hk : kindOf c = .alc) : Nw fun st => opV call T c st := by
  cases c <;> simp only [kindOf, reduceCtorEq] at hk
  case newv z => exact Nw.new (o := .cells (rowOf z) (lenL z) (lenL z)) trivial fun n => .ptr n 0
  case box x => exact Nw.ob fun _ => Nw.ob fun z => Nw.new (o := .cells (rowOf z) (lenL z) (lenL z)) trivial fun n => .ptr n 0
  case bsl z n s ps => exact Nw.ob fun cs => Nw.new (o := .cells cs (Nat.mul n s) s) trivial fun k => .slice k 0 n n true
  case cvsb x => exact Nw.ob fun _ => Nw.ob fun p => Nw.new (o := .cells (rowOf (bytesV p.2)) p.1 1) trivial fun k => .slice k 0 p.1 p.1 false
  case mks z s bytes l c => exact Nw.ob fun _ => Nw.ob fun _ => Nw.ob fun l => Nw.ob fun c => Nw.whn <| Nw.whn <| Nw.whn <| Nw.new (o := .cells (rowOf (repV z c)) (Nat.mul c s) s) trivial fun k => .slice k 0 l c true
  case mkm => exact Nw.new (o := .map []) trivial fun k => .map k

end Go.Am
