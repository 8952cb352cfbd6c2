/-
The looks again; what is read.
-/
import Derived.Test.YtdofpjabgnfglaaGreatDoorAm20
set_option linter.unusedVariables false
set_option linter.unusedSectionVars false
set_option linter.unusedSimpArgs false
namespace Go.Am
open Go
variable [GT]

theorem oc_false {α : Type} {x : Option α} {k : α → Bool} (h : oc x false k = true) : ∃ a, x = some a ∧ k a = true := by
  cases x with
  | none => cases h
  | some a => exact ⟨a, rfl, h⟩

theorem sel_false {a b : Bool} (h : sel a b false = true) : a = true ∧ b = true := by
  cases a with
  | false => cases h
  | true => exact ⟨rfl, h⟩

theorem looks_spec {call : CallF} {T : Tm} {o : COp} {v : V} {S : List St} : ∀ {chk : List Nat}, looks call T o v S chk = true → ∀ m, m ∈ chk → ∃ st r, nthL m S = some st ∧ opV call T o st = some r ∧ r.1 = v
  | [], _, m, hm => by simp at hm
  | a :: chk, h, m, hm => by
    obtain ⟨st, h1, h2⟩ := oc_false (show oc (nthL a S) false (fun st => oc (opV call T o st) false fun r => sel (sameV r.1 v) (looks call T o v S chk) false) = true from h)
    obtain ⟨r, h3, h4⟩ := oc_false h2
    obtain ⟨h5, h6⟩ := sel_false h4
    rcases List.mem_cons.1 hm with rfl | hm
    · exact ⟨st, r, h1, h3, sameV_eq h5⟩
    · exact looks_spec h6 m hm

theorem chkD_spec {call : CallF} {T : Tm} {S : List St} : ∀ {l : List DIt}, chkD call T S l = true → ∀ (i : Nat) (d : DIt) (chk : List Nat), l[i]? = some d → d.k = .ld chk → chk ≠ [] →
    ∃ b, met T d.it.gd = some b ∧ (b = true → ∃ t v, d.it.dst = some t ∧ T.get t = some v ∧ ∀ m, m ∈ chk → ∃ st r, nthL m S = some st ∧ opV call T d.it.op st = some r ∧ r.1 = v)
  | [], _, i, d, chk, hd, _, _ => by simp at hd
  | a :: l, h, i, d, chk, hd, hk, hne => by
    have hrest : chkD call T S l = true := by
      obtain ⟨ait, ak⟩ := a
      cases ak with
      | eff => exact h
      | alc => exact h
      | pur => exact h
      | ld c =>
        cases c with
        | nil => exact h
        | cons m c =>
          obtain ⟨b, h1, h2⟩ := oc_false (show oc (met T ait.gd) false (fun b => sel b (oc ait.dst false fun d => oc (T.get d) false fun v => sel (looks call T ait.op v S (m :: c)) (chkD call T S l) false) (chkD call T S l)) = true from h)
          cases b with
          | false => exact h2
          | true =>
            obtain ⟨t, _, h3⟩ := oc_false (show oc ait.dst false (fun d => oc (T.get d) false fun v => sel (looks call T ait.op v S (m :: c)) (chkD call T S l) false) = true from h2)
            obtain ⟨v, _, h4⟩ := oc_false h3
            exact (sel_false h4).2
    cases i with
    | succ i => exact chkD_spec hrest i d chk (by simpa using hd) hk hne
    | zero =>
      simp at hd; subst hd
      obtain ⟨ait, ak⟩ := a
      simp only at hk; subst hk
      cases chk with
      | nil => exact absurd rfl hne
      | cons m c =>
        obtain ⟨b, h1, h2⟩ := oc_false (show oc (met T ait.gd) false (fun b => sel b (oc ait.dst false fun d => oc (T.get d) false fun v => sel (looks call T ait.op v S (m :: c)) (chkD call T S l) false) (chkD call T S l)) = true from h)
        refine ⟨b, h1, fun hb => ?_⟩
        subst hb
        obtain ⟨t, h5, h3⟩ := oc_false (show oc ait.dst false (fun d => oc (T.get d) false fun v => sel (looks call T ait.op v S (m :: c)) (chkD call T S l) false) = true from h2)
        obtain ⟨v, h6, h4⟩ := oc_false h3
        exact ⟨t, v, h5, h6, looks_spec (sel_false h4).1⟩

/-! ### What is read -/

theorem reads_gd {x : It} {g : Nat} {want : Bool} (h : x.gd = some (g, want)) : readsT x g = true := by
  simp [readsT, h]

theorem reads_op {x : It} {t : Nat} (h : Opd.t t ∈ opdsOf x.op) : readsT x t = true := by
  unfold readsT
  rw [Bool.or_eq_true]
  right
  rw [List.any_eq_true]
  exact ⟨_, h, Nat.beq_refl t⟩

/-- two rows of temporaries agree on what an operation reads -/
def Agree (x : It) (T T' : Tm) : Prop := ∀ d, readsT x d = true → T.get d = T'.get d

theorem Agree.met {x : It} {T T' : Tm} (h : Agree x T T') : met T x.gd = met T' x.gd := by
  cases hg : x.gd with
  | none => rfl
  | some p =>
    obtain ⟨g, want⟩ := p
    show ob (T.get g) _ = ob (T'.get g) _
    rw [h g (reads_gd hg)]

theorem Agree.op {x : It} {T T' : Tm} (h : Agree x T T') (call : CallF) (st : St) : opV call T x.op st = opV call T' x.op st :=
  opV_congr fun y hy => by
    cases y with
    | t t => exact h t (reads_op hy)
    | _ => rfl

end Go.Am
