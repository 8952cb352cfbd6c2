/-
What this seat's runs are given from outside, and that it is good.
-/
import Derived.Test.YtdofpjabgnfglaaGreatDoorExt
set_option maxRecDepth 100000
set_option linter.unusedVariables false
namespace Go.Proofs.YtdofpjabgnfglaaGreatDoor
open Go Go.Am

/-- the variables that are read -/
noncomputable def gt0 (x : Int) (T : Nat) : PT Am.Obj :=
  .node (some (.cells (.node (some (.int .i64 x)) .nil .nil .nil .nil) 0 1))
    (.node (some (.cells (.node (some (.iface T (.ptr 901 0))) .nil .nil .nil .nil) 0 1)) .nil .nil .nil .nil)
    .nil
    (.node (some (.cells (rowOf (Lib.pow10Tab.map fun z => V.int .u64 z)) 20 1)) .nil .nil .nil .nil) .nil
@[reducible] noncomputable def theGT (x : Int) (T : Nat) : Am.GT := ⟨gt0 x T⟩

noncomputable def g51 (x : Int) (T : Nat) : List V → St → R := letI := theGT x T; fun args st => oc (eIns 7 args st) (callFF cpL EO 200 51 args st) some

noncomputable def E1 (x : Int) (T : Nat) : Ext := letI := theGT x T; fun f => sel (Nat.beq f 205) (some eIxB) <| sel (Nat.beq f 118) (some eIxS) <| sel (Nat.beq f 211) (some eCnB) <| sel (Nat.beq f 37) (some eIto) <|
  sel (Nat.beq f 213) (some eCln) <| sel (Nat.beq f 36) (some eJoi) <| sel (Nat.beq f 51) (some (g51 x T)) none

theorem sel_some {α : Type} {c : Bool} {a : α} {b : Option α} {r : α} (h : sel c (some a) b = some r) : (c = true ∧ a = r) ∨ b = some r := by
  cases c with
  | true => cases h; exact .inl ⟨rfl, rfl⟩
  | false => exact .inr h

theorem good_g51 (x : Int) (T : Nat) : letI := theGT x T; CallGood Tryz.prog fun f' args st => sel (Nat.beq f' 51) (g51 x T args st) none := by
  letI := theGT x T
  intro f' args st v st' hlt hr
  simp only at hr
  rw [sel_eq] at hr
  split at hr <;> first | (cases hr; done) | skip
  rename_i hff
  have := Nat.eq_of_beq_eq_true hff
  subst this
  have hr : oc (eIns 7 args st) (callFF cpL EO 200 51 args st) some = some (v, st') := hr
  cases h : eIns 7 args st with
  | some r =>
    rw [h] at hr
    have hr : some r = some (v, st') := hr
    refine good_ins 51 args st v st' hlt ?_
    show sel (Nat.beq 51 51) (eIns 7 args st) none = _
    rw [h, Nat.beq_refl]; exact hr
  | none =>
    rw [h] at hr
    have hr : callFF cpL EO 200 51 args st = some (v, st') := hr
    rw [callFF_eq] at hr
    exact callF_good dreg_is EO_good 200 51 args st v st' hlt (callF_mono cpL_le (Nat.le_refl _) _ _ _ _ hr)

theorem E1_good (x : Int) (T : Nat) : letI := theGT x T; ExtGood Tryz.prog (E1 x T) := by
  letI := theGT x T
  have key : ∀ f g, E1 x T f = some g → (f = 205 ∧ g = eIxB) ∨ (f = 118 ∧ g = eIxS) ∨ (f = 211 ∧ g = eCnB) ∨ (f = 37 ∧ g = eIto) ∨ (f = 213 ∧ g = eCln) ∨ (f = 36 ∧ g = eJoi) ∨ (f = 51 ∧ g = g51 x T) := fun f g h => by
    rcases sel_some h with ⟨e, rfl⟩ | h
    · exact .inl ⟨Nat.eq_of_beq_eq_true e, rfl⟩
    rcases sel_some h with ⟨e, rfl⟩ | h
    · exact .inr (.inl ⟨Nat.eq_of_beq_eq_true e, rfl⟩)
    rcases sel_some h with ⟨e, rfl⟩ | h
    · exact .inr (.inr (.inl ⟨Nat.eq_of_beq_eq_true e, rfl⟩))
    rcases sel_some h with ⟨e, rfl⟩ | h
    · exact .inr (.inr (.inr (.inl ⟨Nat.eq_of_beq_eq_true e, rfl⟩)))
    rcases sel_some h with ⟨e, rfl⟩ | h
    · exact .inr (.inr (.inr (.inr (.inl ⟨Nat.eq_of_beq_eq_true e, rfl⟩))))
    rcases sel_some h with ⟨e, rfl⟩ | h
    · exact .inr (.inr (.inr (.inr (.inr (.inl ⟨Nat.eq_of_beq_eq_true e, rfl⟩)))))
    rcases sel_some h with ⟨e, rfl⟩ | h
    · exact .inr (.inr (.inr (.inr (.inr (.inr ⟨Nat.eq_of_beq_eq_true e, rfl⟩)))))
    · cases h
  refine ⟨fun f g h => ?_, fun f g args st v st' h hr => ?_⟩
  · rcases key f g h with ⟨rfl, rfl⟩ | ⟨rfl, rfl⟩ | ⟨rfl, rfl⟩ | ⟨rfl, rfl⟩ | ⟨rfl, rfl⟩ | ⟨rfl, rfl⟩ | ⟨rfl, rfl⟩
    · exact good_IxB (fn := Tryz.f205) (by kernel_rfl) (by kernel_rfl) (by kernel_rfl) (by kernel_rfl) (by kernel_rfl)
    · exact good_ix (x := x) rfl
    · exact good_CnB (fn := Tryz.f211) (by kernel_rfl) (by kernel_rfl) (by kernel_rfl) (by kernel_rfl) (by kernel_rfl)
    · exact good_ito rfl
    · exact good_cln
    · exact good_joi
    · exact good_g51 x T
  · rcases key f g h with ⟨rfl, rfl⟩ | ⟨rfl, rfl⟩ | ⟨rfl, rfl⟩ | ⟨rfl, rfl⟩ | ⟨rfl, rfl⟩ | ⟨rfl, rfl⟩ | ⟨rfl, rfl⟩
    · obtain ⟨_, _, _, _, _, _, rfl⟩ := eIxB_some hr; exact Nat.le_refl _
    · obtain ⟨_, _, _, _, _, _, _, rfl⟩ := eIxS_some hr; exact Nat.le_refl _
    · obtain ⟨_, _, _, _, _, _, rfl⟩ := eCnB_some hr; exact Nat.le_refl _
    · unfold eIto at hr
      split at hr
      · obtain ⟨_, hr⟩ := whn_some.1 hr
        cases hr; exact Nat.le_refl _
      · cases hr
    · unfold eCln at hr
      split at hr
      · obtain ⟨_, hr⟩ := whn_some.1 hr
        obtain ⟨_, hr⟩ := whn_some.1 hr
        cases hr; exact Nat.le_refl _
      · cases hr
    · obtain ⟨_, _, _, _, _, _, _, _, _, _, _, _, _, _, _, _, _, _, _, _, rfl⟩ := eJoi_some hr
      exact Nat.le_refl _
    · have hr : oc (eIns 7 args st) (callFF cpL EO 200 51 args st) some = some (v, st') := hr
      cases h : eIns 7 args st with
      | some r =>
        rw [h] at hr
        have hr : some r = some (v, st') := hr
        rw [hr] at h
        obtain ⟨_, _, _, _, _, _, _, _, _, _, _, _, _, _, _, _, _, _, _, _, _, _, rfl⟩ := eIns_some h
        exact Nat.le_succ _
      | none =>
        rw [h] at hr
        have hr : callFF cpL EO 200 51 args st = some (v, st') := hr
        rw [callFF_eq] at hr
        exact callF_up dreg_is EO_good 200 51 args st v st' (callF_mono cpL_le (Nat.le_refl _) _ _ _ _ hr)

noncomputable def st0 : St := ⟨.nil, low⟩
noncomputable def does (x : Int) (T : Nat) (t : List V) : R := letI := theGT x T; callFF cpL (E1 x T) 100000 11 t st0
noncomputable def val (r : R) : Option V := ob r fun p => some p.1
theorem val_some {r : R} {v : V} (h : val r = some v) : ∃ s, r = some (v, s) := by
  cases r with
  | none => cases h
  | some p => cases h; exact ⟨p.2, rfl⟩
end Go.Proofs.YtdofpjabgnfglaaGreatDoor
