/-
The temporaries of a region whose order is drawn.
-/
import Derived.Test.YtdofpjabgnfglaaGreatDoorAm24
set_option linter.unusedVariables false
set_option linter.unusedSectionVars false
set_option linter.unusedSimpArgs false
namespace Go.Am
open Go
variable [GT]

/-- the temporaries when those in L have run: the last of them (by the text) that writes a temporary has written it -/
def TmpOk (its : List It) (v : Nat → V) (T0 : Tm) (L : Nat → Prop) (TL : Tm) : Prop := ∀ d : Nat,
  (∀ (i : Nat) (x : It), its[i]? = some x → L i → x.dst = some d → (∀ (j : Nat) (y : It), i < j → its[j]? = some y → L j → y.dst ≠ some d) → TL.get d = some (v i)) ∧
  ((∀ (i : Nat) (x : It), its[i]? = some x → L i → x.dst ≠ some d) → TL.get d = T0.get d)

theorem last_of (Q : Nat → Prop) : ∀ n, (∃ j, j < n ∧ Q j) → ∃ j, j < n ∧ Q j ∧ ∀ k, j < k → k < n → ¬ Q k
  | 0, ⟨j, hj, _⟩ => absurd hj (Nat.not_lt_zero _)
  | n + 1, ⟨j, hj, hq⟩ => by
    by_cases h : Q n
    · exact ⟨n, Nat.lt_succ_self _, h, fun k h1 h2 => by omega⟩
    · obtain ⟨j2, h1, h2, h3⟩ := last_of Q n ⟨j, by
        by_cases e : j = n
        · subst e; exact absurd hq h
        · omega, hq⟩
      exact ⟨j2, by omega, h2, fun k g1 g2 => by
        by_cases e : k = n
        · subst e; exact h
        · exact h3 k g1 (by omega)⟩

theorem TmpOk.uniq {its : List It} {v : Nat → V} {T0 : Tm} {L L' : Nat → Prop} {TL TL' : Tm} (h : TmpOk its v T0 L TL) (h' : TmpOk its v T0 L' TL') {d : Nat}
    (hL : ∀ (j : Nat) (y : It), its[j]? = some y → y.dst = some d → (L j ↔ L' j)) : TL.get d = TL'.get d := by
  by_cases hw : ∃ j, j < its.length ∧ ∃ y, its[j]? = some y ∧ L j ∧ y.dst = some d
  · obtain ⟨j, hj, ⟨y, h1, h2, h3⟩, h4⟩ := last_of (fun j => ∃ y, its[j]? = some y ∧ L j ∧ y.dst = some d) _ hw
    rw [(h d).1 j y h1 h2 h3 fun k z hk hz hLk hzd => h4 k hk (List.getElem?_eq_some_iff.1 hz).1 ⟨z, hz, hLk, hzd⟩,
      (h' d).1 j y h1 ((hL j y h1 h3).1 h2) h3 fun k z hk hz hLk hzd => h4 k hk (List.getElem?_eq_some_iff.1 hz).1 ⟨z, hz, (hL k z hz hzd).2 hLk, hzd⟩]
  · have hn : ∀ (i : Nat) (x : It), its[i]? = some x → L i → x.dst ≠ some d := fun i x hx hLi hd => hw ⟨i, (List.getElem?_eq_some_iff.1 hx).1, x, hx, hLi, hd⟩
    rw [(h d).2 hn, (h' d).2 fun i x hx hLi hd => hn i x hx ((hL i x hx hd).2 hLi) hd]

theorem putT_get (T : Tm) (t : Option Nat) (u : V) (d : Nat) : (putT T t u).get d = if t = some d then some u else T.get d := by
  cases t with
  | none => simp [putT, oc]
  | some t =>
    show (T.set t u).get d = _
    rw [PT.get_set]
    by_cases h : t = d
    · simp [h]
    · simp [h]

theorem TmpOk.put {its : List It} {v : Nat → V} {T0 : Tm} {L : Nat → Prop} {TL : Tm} (h : TmpOk its v T0 L TL) {i : Nat} {x : It} (hx : its[i]? = some x)
    (hL : ∀ (j : Nat) (y : It) (d : Nat), i < j → its[j]? = some y → L j → x.dst = some d → y.dst ≠ some d) : TmpOk its v T0 (fun j => L j ∨ j = i) (putT TL x.dst (v i)) := by
  intro d
  constructor
  · intro k z hz hk hzd hlast
    rw [putT_get]
    by_cases hxd : x.dst = some d
    · rw [if_pos hxd]
      rcases hk with hk | rfl
      · by_cases hki : i < k
        · exact absurd hzd (hL k z d hki hz hk hxd)
        · by_cases e : k = i
          · subst e; rfl
          · exact absurd hxd (hlast i x (by omega) hx (.inr rfl))
      · rfl
    · rw [if_neg hxd]
      rcases hk with hk | rfl
      · exact (h d).1 k z hz hk hzd fun j y h1 h2 h3 => hlast j y h1 h2 (.inl h3)
      · rw [hx] at hz; cases hz; exact absurd hzd hxd
  · intro hno
    rw [putT_get, if_neg (hno i x hx (.inr rfl))]
    exact (h d).2 fun k z hz hk => hno k z hz (.inl hk)

theorem TmpOk.congr {its : List It} {v : Nat → V} {T0 : Tm} {L L' : Nat → Prop} {TL : Tm} (h : TmpOk its v T0 L TL) (hL : ∀ j, j < its.length → (L j ↔ L' j)) : TmpOk its v T0 L' TL := fun d =>
  ⟨fun i x hx hi hd hl => (h d).1 i x hx ((hL i (List.getElem?_eq_some_iff.1 hx).1).2 hi) hd fun j y h1 h2 h3 => hl j y h1 h2 ((hL j (List.getElem?_eq_some_iff.1 h2).1).1 h3),
    fun hn => (h d).2 fun i x hx hi => hn i x hx ((hL i (List.getElem?_eq_some_iff.1 hx).1).1 hi)⟩

theorem Canon.tmp {ops : List Oper} {its : List It} {l : List DIt} {B : Nat → Nat → Prop} {call : CallF} {b : Nat → Bool} {v : Nat → V} {T : Nat → Tm} {base cur : Nat → St} {S : Nat → List St}
    (hs : Stat ops its l B) (hc : Canon call l b v T base cur S) : ∀ i, i ≤ its.length → TmpOk its v (T 0) (fun j => j < i) (T i)
  | 0, _ => fun d => ⟨fun i x _ hi => absurd hi (Nat.not_lt_zero _), fun _ => rfl⟩
  | i + 1, hi => by
    obtain ⟨x, hx⟩ : ∃ x, its[i]? = some x := ⟨_, List.getElem?_eq_getElem (by omega)⟩
    obtain ⟨d, _, _, _, h1, _, _⟩ := hc.item hs hx
    rw [h1]
    exact ((hc.tmp hs i (by omega)).put hx fun j y d h1 h2 h3 => by omega).congr fun j _ => by
      show (j < i ∨ j = i) ↔ j < i + 1
      omega

end Go.Am
