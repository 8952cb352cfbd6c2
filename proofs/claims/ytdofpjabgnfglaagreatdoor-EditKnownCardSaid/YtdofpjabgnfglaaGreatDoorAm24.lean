/-
Along the run by the text: the states.
-/
import Derived.Test.YtdofpjabgnfglaaGreatDoorAm23
set_option linter.unusedVariables false
set_option linter.unusedSectionVars false
set_option linter.unusedSimpArgs false
namespace Go.Am
open Go
variable [GT]

variable {ops : List Oper} {its : List It} {l : List DIt} {B : Nat → Nat → Prop} {call : CallF} {b : Nat → Bool} {v : Nat → V} {T : Nat → Tm} {base cur : Nat → St} {S : Nat → List St}

theorem cntE_succ {i : Nat} {x : It} (h : its[i]? = some x) : cntE its (i + 1) = cntE its i + if isEff (kindOf x.op) then 1 else 0 := by
  unfold cntE
  rw [List.take_add_one, h]
  simp only [Option.toList_some, List.filter_append, List.length_append]
  congr 1
  cases hk : isEff (kindOf x.op) <;> simp [hk]

theorem cntE_mono {i j : Nat} (h : i ≤ j) : cntE its i ≤ cntE its j := by
  unfold cntE
  exact (List.Sublist.filter _ ((List.take_prefix_take_left h).sublist)).length_le

/-- what a step does to the states -/
theorem Canon.states (hs : Stat ops its l B) (hc : Canon call l b v T base cur S) {i : Nat} {x : It} (hx : its[i]? = some x) :
    (kindOf x.op = .eff ∧ base (i + 1) = cur (i + 1) ∧ S (i + 1) = cur (i + 1) :: S i) ∨ (kindOf x.op ≠ .eff ∧ base (i + 1) = base i ∧ S (i + 1) = S i) := by
  have hlt : i < l.length := by
    have := (List.getElem?_eq_some_iff.1 hx).1
    rw [hs.lenL, ← hs.lenI]; exact this
  obtain ⟨d, hd⟩ : ∃ d, l[i]? = some d := ⟨_, List.getElem?_eq_getElem hlt⟩
  have h1 := hs.it i d hd
  rw [hx] at h1; cases h1
  have h2 := hs.kind i d hd
  obtain ⟨_, _, _, h3⟩ := hc.step i d hd
  obtain ⟨x, k⟩ := d
  cases k with
  | eff => exact .inl ⟨h2, h3.1, h3.2.1⟩
  | alc => exact .inr ⟨by simp only at h2; rw [h2]; simp, h3.1, h3.2.1⟩
  | pur => exact .inr ⟨by simp only at h2; rw [h2]; simp, h3.1, h3.2.2.1⟩
  | ld c => exact .inr ⟨by simp only at h2; rw [h2]; simp, h3.1, h3.2.2.1⟩

/-- the states between the effects -/
theorem Canon.at (hs : Stat ops its l B) (hc : Canon call l b v T base cur S) (h0 : S 0 = [base 0]) : ∀ j, j ≤ its.length → ∀ i, i ≤ j → (S j)[cntE its j - cntE its i]? = some (base i)
  | 0, _, i, hi => by
    have : i = 0 := by omega
    subst this
    rw [h0]; simp
  | j + 1, hj, i, hi => by
    obtain ⟨x, hx⟩ : ∃ x, its[j]? = some x := ⟨_, List.getElem?_eq_getElem (by omega)⟩
    have hcnt := cntE_succ hx
    rcases hc.states hs hx with ⟨hk, h1, h2⟩ | ⟨hk, h1, h2⟩
    · have he : isEff (kindOf x.op) = true := by rw [hk]; rfl
      rw [he] at hcnt
      simp only [if_true] at hcnt
      by_cases hij : i = j + 1
      · subst hij
        rw [h2, h1]; simp
      · have hle : i ≤ j := by omega
        have := cntE_mono (its := its) hle
        rw [h2, show cntE its (j + 1) - cntE its i = (cntE its j - cntE its i) + 1 by omega, List.getElem?_cons_succ]
        exact hc.at hs h0 j (by omega) i hle
    · have he : isEff (kindOf x.op) = false := by
        cases hq : isEff (kindOf x.op) with
        | false => rfl
        | true => exact absurd (isEff_eq.1 hq) hk
      rw [he] at hcnt
      simp only [Bool.false_eq_true, if_false, Nat.add_zero] at hcnt
      by_cases hij : i = j + 1
      · subst hij
        rw [h2, h1, Nat.sub_self]
        have := hc.at hs h0 j (by omega) j (Nat.le_refl _)
        rwa [Nat.sub_self] at this
      · rw [h2, hcnt]
        exact hc.at hs h0 j (by omega) i (by omega)

/-- a step, by its kind -/
theorem Canon.item (hs : Stat ops its l B) (hc : Canon call l b v T base cur S) {i : Nat} {x : It} (hx : its[i]? = some x) :
    ∃ d, l[i]? = some d ∧ d.it = x ∧ met (T i) x.gd = some (b i) ∧ T (i + 1) = putT (T i) x.dst (v i) ∧ (b i = false → v i = undefV) ∧
      ((d.k = .eff ∧ kindOf x.op = .eff ∧ base (i + 1) = cur (i + 1) ∧ (b i = true → opV call (T i) x.op (cur i) = some (v i, cur (i + 1))) ∧ (b i = false → cur (i + 1) = cur i)) ∨
       (d.k = .alc ∧ kindOf x.op = .alc ∧ base (i + 1) = base i ∧ (b i = true → opV call (T i) x.op (cur i) = some (v i, cur (i + 1))) ∧ (b i = false → cur (i + 1) = cur i)) ∨
       (d.k = .pur ∧ kindOf x.op = .pur ∧ base (i + 1) = base i ∧ cur (i + 1) = cur i ∧ (b i = true → ∃ st', opV call (T i) x.op (base i) = some (v i, st'))) ∨
       (∃ c, d.k = .ld c ∧ kindOf x.op = .ld [] ∧ base (i + 1) = base i ∧ cur (i + 1) = cur i ∧ (b i = true → ∃ st', opV call (T i) x.op (base i) = some (v i, st')))) := by
  have hlt : i < l.length := by
    have := (List.getElem?_eq_some_iff.1 hx).1
    rw [hs.lenL, ← hs.lenI]; exact this
  obtain ⟨d, hd⟩ : ∃ d, l[i]? = some d := ⟨_, List.getElem?_eq_getElem hlt⟩
  have h1 := hs.it i d hd
  rw [hx] at h1; cases h1
  have h2 := hs.kind i d hd
  obtain ⟨g1, g2, g3, h3⟩ := hc.step i d hd
  refine ⟨d, hd, rfl, g1, g2, g3, ?_⟩
  obtain ⟨x, k⟩ := d
  cases k with
  | eff => exact .inl ⟨rfl, h2, h3.1, h3.2.2⟩
  | alc => exact .inr (.inl ⟨rfl, h2, h3.1, h3.2.2⟩)
  | pur => exact .inr (.inr (.inl ⟨rfl, h2, h3.1, h3.2.1, h3.2.2.2⟩))
  | ld c => exact .inr (.inr (.inr ⟨c, rfl, h2, h3.1, h3.2.1, h3.2.2.2⟩))

theorem Canon.next1 (hs : Stat ops its l B) (hu : CallUp call) (hc : Canon call l b v T base cur S) {i : Nat} (hi : i < its.length) (hb : (base i).next ≤ (cur i).next) :
    (cur i).next ≤ (cur (i + 1)).next ∧ (base (i + 1)).next ≤ (cur (i + 1)).next ∧ (base i).next ≤ (base (i + 1)).next := by
  obtain ⟨x, hx⟩ : ∃ x, its[i]? = some x := ⟨_, List.getElem?_eq_getElem hi⟩
  obtain ⟨d, hd, _, _, _, _, h⟩ := hc.item hs hx
  have hup : (b i = true → opV call (T i) x.op (cur i) = some (v i, cur (i + 1))) → (b i = false → cur (i + 1) = cur i) → (cur i).next ≤ (cur (i + 1)).next := fun h1 h2 => by
    cases hbi : b i with
    | true => exact opV_up hu _ _ (h1 hbi)
    | false => rw [h2 hbi]; exact Nat.le_refl _
  rcases h with ⟨_, _, h1, h2, h3⟩ | ⟨_, _, h1, h2, h3⟩ | ⟨_, _, h1, h2, _⟩ | ⟨_, _, _, h1, h2, _⟩
  · have := hup h2 h3
    rw [h1]; exact ⟨this, Nat.le_refl _, Nat.le_trans hb this⟩
  · have := hup h2 h3
    rw [h1]; exact ⟨this, Nat.le_trans hb this, Nat.le_refl _⟩
  · rw [h1, h2]; exact ⟨Nat.le_refl _, hb, Nat.le_refl _⟩
  · rw [h1, h2]; exact ⟨Nat.le_refl _, hb, Nat.le_refl _⟩

theorem Canon.base_cur (hs : Stat ops its l B) (hu : CallUp call) (hc : Canon call l b v T base cur S) (h0 : (base 0).next ≤ (cur 0).next) : ∀ i, i ≤ its.length → (base i).next ≤ (cur i).next
  | 0, _ => h0
  | i + 1, hi => (hc.next1 hs hu (by omega) (hc.base_cur hs hu h0 i (by omega))).2.1

theorem Canon.mono (hs : Stat ops its l B) (hu : CallUp call) (hc : Canon call l b v T base cur S) (h0 : (base 0).next ≤ (cur 0).next) {i : Nat} : ∀ {j : Nat}, i ≤ j → j ≤ its.length →
    (cur i).next ≤ (cur j).next ∧ (base i).next ≤ (base j).next
  | 0, hij, _ => by
    have : i = 0 := by omega
    subst this; exact ⟨Nat.le_refl _, Nat.le_refl _⟩
  | j + 1, hij, hj => by
    by_cases h : i = j + 1
    · subst h; exact ⟨Nat.le_refl _, Nat.le_refl _⟩
    · obtain ⟨h1, h2⟩ := hc.mono hs hu h0 (i := i) (j := j) (by omega) (by omega)
      obtain ⟨h3, _, h4⟩ := hc.next1 hs hu (i := j) (by omega) (hc.base_cur hs hu h0 j (by omega))
      exact ⟨Nat.le_trans h1 h3, Nat.le_trans h2 h4⟩

/-- as long as no effect stands between, the state behind the last effect is the same -/
theorem Canon.base_eq (hs : Stat ops its l B) (hc : Canon call l b v T base cur S) {i : Nat} : ∀ {j : Nat}, i ≤ j → j ≤ its.length → cntE its i = cntE its j → base i = base j
  | 0, hij, _, _ => by
    have : i = 0 := by omega
    subst this; rfl
  | j + 1, hij, hj, he => by
    by_cases h : i = j + 1
    · subst h; rfl
    · obtain ⟨x, hx⟩ : ∃ x, its[j]? = some x := ⟨_, List.getElem?_eq_getElem (by omega)⟩
      have hcnt := cntE_succ hx
      have h1 := cntE_mono (its := its) (show i ≤ j by omega)
      rcases hc.states hs hx with ⟨hk, _, _⟩ | ⟨hk, h2, _⟩
      · have : isEff (kindOf x.op) = true := by rw [hk]; rfl
        rw [this] at hcnt; simp only [if_true] at hcnt; omega
      · rw [h2]
        exact hc.base_eq hs (i := i) (j := j) (by omega) (by omega) (by
          have := cntE_mono (its := its) (show j ≤ j + 1 by omega)
          omega)

/-- behind an effect -/
theorem Canon.past (hs : Stat ops its l B) (hu : CallUp call) (hc : Canon call l b v T base cur S) (h0 : (base 0).next ≤ (cur 0).next) {i : Nat} : ∀ {j : Nat}, i ≤ j → j ≤ its.length → cntE its i < cntE its j →
    ∃ e, i ≤ e ∧ e < j ∧ (cur (e + 1)).next ≤ (base j).next ∧ ∃ y, its[e]? = some y ∧ kindOf y.op = .eff
  | 0, hij, _, he => by
    have : i = 0 := by omega
    subst this; omega
  | j + 1, hij, hj, he => by
    obtain ⟨x, hx⟩ : ∃ x, its[j]? = some x := ⟨_, List.getElem?_eq_getElem (by omega)⟩
    have hcnt := cntE_succ hx
    have hij' : i ≤ j := by
      by_cases h : i = j + 1
      · subst h; omega
      · omega
    rcases hc.states hs hx with ⟨hk, h1, _⟩ | ⟨hk, h2, _⟩
    · exact ⟨j, hij', by omega, by rw [h1]; exact Nat.le_refl _, x, hx, hk⟩
    · have hne : isEff (kindOf x.op) = false := by
        cases hq : isEff (kindOf x.op) with
        | false => rfl
        | true => exact absurd (isEff_eq.1 hq) hk
      rw [hne] at hcnt
      simp only [Bool.false_eq_true, if_false, Nat.add_zero] at hcnt
      obtain ⟨e, k1, k2, k3, k4⟩ := hc.past hs hu h0 (i := i) (j := j) hij' (by omega) (by omega)
      exact ⟨e, k1, by omega, by rw [h2]; exact k3, k4⟩

end Go.Am
