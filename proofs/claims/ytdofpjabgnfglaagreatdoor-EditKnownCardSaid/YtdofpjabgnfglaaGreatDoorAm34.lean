/-
A table of code tells what the program bears, if each of its entries does.
-/
import Derived.Test.YtdofpjabgnfglaaGreatDoorAm32
set_option linter.unusedVariables false
namespace Go.Am
open Go

/-- of all that a tree bears -/
def PT.All {α : Type} : PT α → (List D4 → α → Prop) → Prop
  | .nil, _ => True
  | .node v a b c d, q => (match v with | none => True | some x => q [] x) ∧ PT.All a (fun l x => q (.a :: l) x) ∧ PT.All b (fun l x => q (.b :: l) x) ∧ PT.All c (fun l x => q (.c :: l) x) ∧ PT.All d (fun l x => q (.d :: l) x)

theorem PT.All.getp {α : Type} : ∀ {t : PT α} {q : List D4 → α → Prop}, PT.All t q → ∀ (l : List D4) (x : α), Am.getp l t = some x → q l x
  | .nil, q, _, l, x, hx => by cases l <;> cases hx
  | .node v a b c d, q, h, l, x, hx => by
    obtain ⟨h0, h1, h2, h3, h4⟩ := h
    cases l with
    | nil =>
      have hx : v = some x := hx
      subst hx
      exact h0
    | cons y l =>
      cases y with
      | a => exact h1.getp l x hx
      | b => exact h2.getp l x hx
      | c => exact h3.getp l x hx
      | d => exact h4.getp l x hx

/-- an entry of the table -/
theorem entry {α : Type} {p : Nat → α → Prop} {k : Nat} {x : α} (h : p k x) : ∀ f, pth f = pth k → p f x := fun f hf => by
  have := @pth_inj ⟨.nil⟩ _ _ hf
  subst this
  exact h

theorem PT.all_get {α : Type} {p : Nat → α → Prop} (t : PT α) (h : PT.All t fun l x => ∀ f, pth f = l → p f x) (f : Nat) (x : α) (hx : t.get f = some x) : p f x :=
  h.getp (pth f) x hx f rfl

end Go.Am
