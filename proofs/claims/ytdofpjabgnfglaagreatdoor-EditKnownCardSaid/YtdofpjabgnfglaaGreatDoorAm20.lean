/-
The run of a region whose order is drawn, step by step; the static checks, one by one.
-/
import Derived.Test.YtdofpjabgnfglaaGreatDoorAm19
set_option linter.unusedVariables false
set_option linter.unusedSectionVars false
set_option linter.unusedSimpArgs false
namespace Go.Am
open Go
variable [GT]

/-- one step of the run by the text -/
def Stp1 (call : CallF) (d : DIt) (b : Bool) (v : V) (T : Tm) (base cur : St) (S : List St) (T2 : Tm) (base2 cur2 : St) (S2 : List St) : Prop :=
  met T d.it.gd = some b ∧ T2 = putT T d.it.dst v ∧ (b = false → v = undefV) ∧
  match d.k with
  | .eff => base2 = cur2 ∧ S2 = cur2 :: S ∧ (b = true → opV call T d.it.op cur = some (v, cur2)) ∧ (b = false → cur2 = cur)
  | .alc => base2 = base ∧ S2 = S ∧ (b = true → opV call T d.it.op cur = some (v, cur2)) ∧ (b = false → cur2 = cur)
  | _ => base2 = base ∧ cur2 = cur ∧ S2 = S ∧ (b = true → ∃ st', opV call T d.it.op base = some (v, st'))

structure Canon (call : CallF) (l : List DIt) (b : Nat → Bool) (v : Nat → V) (T : Nat → Tm) (base cur : Nat → St) (S : Nat → List St) : Prop where
  step : ∀ i d, l[i]? = some d → Stp1 call d (b i) (v i) (T i) (base i) (cur i) (S i) (T (i + 1)) (base (i + 1)) (cur (i + 1)) (S (i + 1))

def cons0 {α : Type} (a : α) (f : Nat → α) : Nat → α
  | 0 => a
  | i + 1 => f i

theorem Canon.cons {call : CallF} {d : DIt} {l : List DIt} {b v T base cur S} {b0 : Bool} {v0 : V} {T0 : Tm} {base0 cur0 : St} {S0 : List St} (h : Canon call l b v T base cur S)
    (h0 : Stp1 call d b0 v0 T0 base0 cur0 S0 (T 0) (base 0) (cur 0) (S 0)) : Canon call (d :: l) (cons0 b0 b) (cons0 v0 v) (cons0 T0 T) (cons0 base0 base) (cons0 cur0 cur) (cons0 S0 S) where
  step i e he := by
    cases i with
    | zero => simp at he; subst he; exact h0
    | succ i => exact h.step i e (by simpa using he)

theorem runD_canon (call : CallF) : ∀ (l : List DIt) (T0 : Tm) (base0 cur0 : St) (S0 : List St) (T' : Tm) (c' : St) (S' : List St), runD call l T0 base0 cur0 S0 = some (T', c', S') →
    ∃ b v T base cur S, Canon call l b v T base cur S ∧ T 0 = T0 ∧ base 0 = base0 ∧ cur 0 = cur0 ∧ S 0 = S0 ∧ T l.length = T' ∧ cur l.length = c' ∧ S l.length = S'
  | [], T0, base0, cur0, S0, T', c', S', h => by
    have h : some (T0, cur0, S0) = some (T', c', S') := h
    cases h
    exact ⟨fun _ => true, fun _ => undefV, fun _ => T0, fun _ => base0, fun _ => cur0, fun _ => S0, ⟨fun i d hd => by simp at hd⟩, rfl, rfl, rfl, rfl, rfl, rfl, rfl⟩
  | d :: l, T0, base0, cur0, S0, T', c', S', h => by
    obtain ⟨b0, h1, h2⟩ := ob_some.1 (show ob (met T0 d.it.gd) (fun b => DK.rec
        (dstep b call d.it T0 cur0 cur0 fun T cur => runD call l T cur cur (cur :: S0))
        (dstep b call d.it T0 cur0 cur0 fun T cur => runD call l T base0 cur S0)
        (dstep b call d.it T0 base0 base0 fun T _ => runD call l T base0 cur0 S0)
        (fun _ => dstep b call d.it T0 base0 base0 fun T _ => runD call l T base0 cur0 S0)
        d.k) = some (T', c', S') from h)
    have fin : ∀ {v0 : V} {T1 : Tm} {base1 cur1 : St} {S1 : List St}, runD call l T1 base1 cur1 S1 = some (T', c', S') → Stp1 call d b0 v0 T0 base0 cur0 S0 T1 base1 cur1 S1 →
        ∃ b v T base cur S, Canon call (d :: l) b v T base cur S ∧ T 0 = T0 ∧ base 0 = base0 ∧ cur 0 = cur0 ∧ S 0 = S0 ∧ T (d :: l).length = T' ∧ cur (d :: l).length = c' ∧ S (d :: l).length = S' := by
      intro v0 T1 base1 cur1 S1 hr hs
      obtain ⟨b, v, T, base, cur, S, hc, e1, e2, e3, e4, e5, e6, e7⟩ := runD_canon call l T1 base1 cur1 S1 T' c' S' hr
      subst e1; subst e2; subst e3; subst e4
      exact ⟨_, _, _, _, _, _, hc.cons hs, rfl, rfl, rfl, rfl, e5, e6, e7⟩
    obtain ⟨dit, k⟩ := d
    cases k with
    | eff =>
      rcases dstep_some h2 with ⟨rfl, v0, st1, h3, h4⟩ | ⟨rfl, h4⟩
      · exact fin h4 ⟨h1, rfl, by simp, rfl, rfl, fun _ => h3, by simp⟩
      · exact fin h4 ⟨h1, rfl, fun _ => rfl, rfl, rfl, by simp, fun _ => rfl⟩
    | alc =>
      rcases dstep_some h2 with ⟨rfl, v0, st1, h3, h4⟩ | ⟨rfl, h4⟩
      · exact fin h4 ⟨h1, rfl, by simp, rfl, rfl, fun _ => h3, by simp⟩
      · exact fin h4 ⟨h1, rfl, fun _ => rfl, rfl, rfl, by simp, fun _ => rfl⟩
    | pur =>
      rcases dstep_some h2 with ⟨rfl, v0, st1, h3, h4⟩ | ⟨rfl, h4⟩
      · exact fin h4 ⟨h1, rfl, by simp, rfl, rfl, rfl, fun _ => ⟨st1, h3⟩⟩
      · exact fin h4 ⟨h1, rfl, fun _ => rfl, rfl, rfl, rfl, by simp⟩
    | ld c =>
      rcases dstep_some h2 with ⟨rfl, v0, st1, h3, h4⟩ | ⟨rfl, h4⟩
      · exact fin h4 ⟨h1, rfl, by simp, rfl, rfl, rfl, fun _ => ⟨st1, h3⟩⟩
      · exact fin h4 ⟨h1, rfl, fun _ => rfl, rfl, rfl, rfl, by simp⟩

/-! ### The static checks -/

theorem zipD_get : ∀ {its : List It} {anc : List Nat} {i0 : Nat}, its.length = anc.length → ∀ (k : Nat) (it : It), its[k]? = some it → ∃ m, anc[k]? = some m ∧ (zipD its anc i0)[k]? = some (⟨i0 + k, m, it, kindOf it.op⟩ : DInfo)
  | [], _, _, _, k, it, h => by simp at h
  | a :: its, [], _, hl, k, it, h => by simp at hl
  | a :: its, m :: anc, i0, hl, 0, it, h => by
    simp at h; subst h
    exact ⟨m, by simp, by simp [zipD]⟩
  | a :: its, m :: anc, i0, hl, k + 1, it, h => by
    obtain ⟨m2, h1, h2⟩ := zipD_get (i0 := i0 + 1) (its := its) (anc := anc) (by simpa using hl) k it (by simpa using h)
    exact ⟨m2, by simpa using h1, by simp only [zipD, List.getElem?_cons_succ]; rw [h2, show i0 + 1 + k = i0 + (k + 1) by omega]⟩

theorem zipD_length : ∀ {its : List It} {anc : List Nat} {i0 : Nat}, its.length = anc.length → (zipD its anc i0).length = its.length
  | [], [], _, _ => rfl
  | a :: its, [], _, hl => by simp at hl
  | [], _ :: _, _, hl => by simp at hl
  | a :: its, m :: anc, i0, hl => by
    simp only [zipD, List.length_cons]
    rw [zipD_length (its := its) (anc := anc) (by simpa using hl)]

theorem pairsOk_get : ∀ {l : List DInfo}, pairsOk l = true → ∀ (i j : Nat) (x y : DInfo), i < j → l[i]? = some x → l[j]? = some y → pairOk x y = true ∧ tmpOk x y = true
  | [], _, i, j, x, y, _, hx, _ => by simp at hx
  | a :: l, h, i, j, x, y, hij, hx, hy => by
    simp only [pairsOk, Bool.and_eq_true, List.all_eq_true] at h
    cases j with
    | zero => omega
    | succ j =>
      have hy : l[j]? = some y := by simpa using hy
      cases i with
      | zero =>
        simp at hx; subst hx
        have := h.1 y (List.mem_of_getElem? hy)
        exact this
      | succ i => exact pairsOk_get h.2 i j x y (by omega) (by simpa using hx) hy

theorem lookAll_get {effs ds : List DInfo} : ∀ {r : List DInfo} {l : List DIt}, lookAll effs ds r = some l → l.length = r.length ∧ ∀ (k : Nat) (x : DInfo), r[k]? = some x → ∃ d, l[k]? = some d ∧ lookAt effs ds x = some d
  | [], l, h => by
    simp only [lookAll, Option.some.injEq] at h
    subst h
    exact ⟨rfl, fun k x hx => by simp at hx⟩
  | a :: r, l, h => by
    simp only [lookAll] at h
    split at h <;> first | (simp at h; done) | skip
    rename_i d b h1 h2
    simp only [Option.some.injEq] at h
    subst h
    obtain ⟨g1, g2⟩ := lookAll_get h2
    refine ⟨by simp [g1], fun k x hx => ?_⟩
    cases k with
    | zero => simp at hx; subst hx; exact ⟨d, by simp, h1⟩
    | succ k =>
      obtain ⟨d2, k1, k2⟩ := g2 k x (by simpa using hx)
      exact ⟨d2, by simpa using k1, k2⟩

end Go.Am
