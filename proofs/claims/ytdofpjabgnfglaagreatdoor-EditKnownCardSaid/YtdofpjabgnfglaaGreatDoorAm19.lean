/-
The static checks of a region whose order is drawn: what they say.
-/
import Derived.Test.YtdofpjabgnfglaaGreatDoorAm18
import Derived.Orders
set_option linter.unusedVariables false
set_option linter.unusedSectionVars false
set_option linter.unusedSimpArgs false
namespace Go.Am
open Go
variable [GT]

theorem bitOf_eq (m i : Nat) : bitOf m i = m.testBit i := by
  rw [Nat.testBit_eq_decide_div_mod_eq]
  unfold bitOf
  by_cases h : m / 2 ^ i % 2 = 1
  · have h2 : (m.div (Nat.pow 2 i)).mod 2 = 1 := h
    rw [h2]; simp [h]
  · have : Nat.beq ((m.div (Nat.pow 2 i)).mod 2) 1 = false := by
      cases hb : Nat.beq ((m.div (Nat.pow 2 i)).mod 2) 1 with
      | false => rfl
      | true => exact absurd (Nat.eq_of_beq_eq_true hb) h
    rw [this]; simp [h]

theorem ancE_spec {seen : List Nat} {i : Nat} : ∀ {l : List Edge} {m : Nat}, ancsF.ancE l i seen = some m → ∀ j, bitOf m j = true →
    ∃ e ∈ l, Region.binds .any e = true ∧ ∃ s, seen[e.on]? = some s ∧ (j = e.on ∨ bitOf s j = true)
  | [], m, h, j, hj => by
    simp only [ancsF.ancE, Option.some.injEq] at h
    subst h
    rw [bitOf_eq] at hj
    simp at hj
  | e :: l, m, h, j, hj => by
    simp only [ancsF.ancE] at h
    split at h <;> first | (simp at h; done) | skip
    rename_i m1 h1
    cases hb : Region.binds .any e with
    | false =>
      rw [hb] at h
      simp only [cond_false, Option.some.injEq] at h
      subst h
      obtain ⟨e2, g1, g2⟩ := ancE_spec h1 j hj
      exact ⟨e2, by simp [g1], g2⟩
    | true =>
      rw [hb] at h
      simp only [cond_true] at h
      split at h <;> first | (simp at h; done) | skip
      rename_i s hs
      simp only [Option.some.injEq] at h
      subst h
      have hj2 : ((s ||| 2 ^ e.on) ||| m1).testBit j = true := by rw [← bitOf_eq]; exact hj
      rw [Nat.testBit_or, Nat.testBit_or, Nat.testBit_two_pow] at hj2
      simp only [Bool.or_eq_true, decide_eq_true_eq] at hj2
      rcases hj2 with (h2 | h2) | h2
      · exact ⟨e, by simp, hb, s, hs, .inr (by rw [bitOf_eq]; exact h2)⟩
      · exact ⟨e, by simp, hb, s, hs, .inl h2.symm⟩
      · obtain ⟨e2, g1, g2⟩ := ancE_spec h1 j (by rw [bitOf_eq]; exact h2)
        exact ⟨e2, by simp [g1], g2⟩

theorem ancsF_spec : ∀ {ops : List Oper} {i : Nat} {seen out : List Nat}, seen.length = i → ancsF ops i seen = some out →
    out.length = i + ops.length ∧ (∀ j, j < i → out[j]? = seen[j]?) ∧
    ∀ k o, ops[k]? = some o → ∃ m, out[i + k]? = some m ∧ ∀ j, bitOf m j = true → ∃ e ∈ o.after.toList, Region.binds .any e = true ∧ e.on < i + k ∧ ∃ s, out[e.on]? = some s ∧ (j = e.on ∨ bitOf s j = true)
  | [], i, seen, out, hl, h => by
    simp only [ancsF, Option.some.injEq] at h
    subst h
    exact ⟨by simp [hl], fun _ _ => rfl, fun k o hk => by simp at hk⟩
  | o :: ops, i, seen, out, hl, h => by
    simp only [ancsF] at h
    split at h <;> first | (simp at h; done) | skip
    rename_i m hm
    obtain ⟨g1, g2, g3⟩ := ancsF_spec (i := i + 1) (seen := seen ++ [m]) (by simp [hl]) h
    have hseen : ∀ j, j < i → out[j]? = seen[j]? := fun j hj => by
      rw [g2 j (by omega), List.getElem?_append_left (by omega)]
    refine ⟨by rw [g1]; simp; omega, hseen, fun k o2 hk => ?_⟩
    cases k with
    | zero =>
      simp only [List.getElem?_cons_zero, Option.some.injEq] at hk
      subst hk
      refine ⟨m, ?_, fun j hj => ?_⟩
      · rw [Nat.add_zero, g2 i (by omega), List.getElem?_append_right (by omega), hl]; simp
      · obtain ⟨e, k1, k2, s, k3, k4⟩ := ancE_spec hm j hj
        have hlt : e.on < i := by
          have := (List.getElem?_eq_some_iff.1 k3).1
          omega
        exact ⟨e, k1, k2, by omega, s, by rw [hseen _ hlt]; exact k3, k4⟩
    | succ k =>
      obtain ⟨m2, k1, k2⟩ := g3 k o2 (by simpa using hk)
      refine ⟨m2, by rw [show i + (k + 1) = i + 1 + k by omega]; exact k1, fun j hj => ?_⟩
      obtain ⟨e, q1, q2, q3, q4⟩ := k2 j hj
      exact ⟨e, q1, q2, by omega, q4⟩

/-- what must come ahead of one that may come has come -/
theorem anc_listed {ops : List Oper} {out : List Nat} (h : ancsF ops 0 [] = some out) (L : Nat → Prop)
    (hL : ∀ (i : Nat) (o : Oper), ops[i]? = some o → L i → ∀ e ∈ o.after.toList, Region.binds .any e = true → L e.on) :
    ∀ (i : Nat) (o : Oper) (m : Nat), ops[i]? = some o → out[i]? = some m → (∀ e ∈ o.after.toList, Region.binds .any e = true → L e.on) → ∀ j, bitOf m j = true → L j ∧ j < i := by
  obtain ⟨g1, _, g3⟩ := ancsF_spec (i := 0) rfl h
  intro i
  induction i using Nat.strongRecOn with
  | ind i ih =>
    intro o m ho hm hr j hj
    obtain ⟨m2, k1, k2⟩ := g3 i o ho
    rw [Nat.zero_add] at k1
    rw [hm] at k1; cases k1
    obtain ⟨e, q1, q2, q3, s, q4, q5⟩ := k2 j hj
    rw [Nat.zero_add] at q3
    have hLe := hr e q1 q2
    rcases q5 with rfl | q5
    · exact ⟨hLe, q3⟩
    · have hlt : e.on < ops.length := by
        have := (List.getElem?_eq_some_iff.1 ho).1
        omega
      obtain ⟨oe, hoe⟩ : ∃ oe, ops[e.on]? = some oe := ⟨_, List.getElem?_eq_getElem hlt⟩
      obtain ⟨r1, r2⟩ := ih e.on q3 oe s hoe q4 (hL e.on oe hoe hLe) j q5
      exact ⟨r1, by omega⟩

end Go.Am
