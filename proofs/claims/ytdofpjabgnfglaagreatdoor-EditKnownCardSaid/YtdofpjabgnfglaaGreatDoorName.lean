/-
One type alone bears the name of the errors that errors.New makes.
-/
import Derived.Test.YtdofpjabgnfglaaGreatDoorProg
import Derived.KernelRfl
import GoSem.ClaimData
set_option maxRecDepth 100000
set_option linter.unusedVariables false
namespace Go.Proofs.YtdofpjabgnfglaaGreatDoor
open Go

/-- what a made type's row says -/
theorem made_row {T : Tables} {f : Nat} {t : TypeId} {i : TypeInfo} (h : Made.infoAt T (f + 1) t = some i) (ht : ¬ t < T.types.size) :
    (∃ e j, i.desc = .pointer e ∧ Made.infoAt T f e = some j ∧ ∀ n r, j.desc ≠ .named n r) ∨
    (match i.desc with | .pointer _ | .named _ _ | .bool | .int _ | .float _ | .string => False | _ => True) := by
  unfold Made.infoAt at h
  rw [if_neg ht] at h
  obtain ⟨d, h1, h2⟩ := Option.bind_eq_some_iff.1 h
  cases d with
  | pointer e =>
    left
    simp only [Made.reckon, Option.bind_eq_bind, Option.bind_eq_some_iff] at h2
    obtain ⟨j, h3, h4⟩ := h2
    split at h4
    · cases h4
    · rename_i fs hd
      refine ⟨e, j, ?_, h3, fun n r hh => by rw [hd] at hh; cases hh⟩
      split at h4
      · cases h4
      · simp only [Option.bind_eq_some_iff, Option.pure_def, Option.some.injEq] at h4
        obtain ⟨s, _, rfl⟩ := h4
        rfl
    · rename_i hno hno2
      refine ⟨e, j, ?_, h3, fun n r hh => hno n r hh⟩
      simp only [Option.bind_eq_some_iff, Option.pure_def, Option.some.injEq] at h4
      obtain ⟨s, _, rfl⟩ := h4
      rfl
  | slice e =>
    right
    simp only [Made.reckon, Option.bind_eq_bind, Option.bind_eq_some_iff, Option.pure_def, Option.some.injEq] at h2
    obtain ⟨_, _, _, _, rfl⟩ := h2
    trivial
  | map k e =>
    right
    simp only [Made.reckon, Option.bind_eq_bind, Option.bind_eq_some_iff, Option.pure_def, Option.some.injEq] at h2
    obtain ⟨_, _, _, _, _, _, _, _, rfl⟩ := h2
    trivial
  | chan d e =>
    right
    simp only [Made.reckon, Option.bind_eq_bind, Option.bind_eq_some_iff, Option.pure_def, Option.some.injEq] at h2
    obtain ⟨_, _, _, _, rfl⟩ := h2
    trivial
  | func ps rs v =>
    right
    simp only [Made.reckon, Option.bind_eq_bind, Option.bind_eq_some_iff, Option.pure_def, Option.some.injEq] at h2
    obtain ⟨_, _, rfl⟩ := h2
    trivial
  | array n e =>
    right
    simp only [Made.reckon, Option.bind_eq_bind, Option.bind_eq_some_iff, Option.pure_def, Option.some.injEq] at h2
    obtain ⟨_, _, _, _, rfl⟩ := h2
    trivial
  | struct fs =>
    right
    simp only [Made.reckon, Made.reckonStruct, Option.bind_eq_bind, Option.bind_eq_some_iff, Option.pure_def, Option.some.injEq] at h2
    obtain ⟨a, _, h3⟩ := h2
    first
      | (subst h3; trivial)
      | (split at h3 <;> first | (subst h3; trivial) | (cases h3; trivial))
  | _ => cases h2
theorem made_named {P : Program} {e : TypeId} {s : String} (he : ¬ e < P.types.size) (hs : P.typeName? 2 e = some s) : ∃ r, s = "*" ++ r := by
  unfold Program.typeName? at hs
  cases hi : P.info? e with
  | none => rw [hi] at hs; cases hs
  | some i =>
    rw [hi] at hs
    simp only at hs
    have hi2 : Made.infoAt P.toTables (99 + 1) e = some i := by
      have h : P.toTables.info? e = some i := hi
      unfold Tables.info? at h
      rw [if_neg he] at h
      exact h
    rcases made_row hi2 he with ⟨e2, j, h1, _, _⟩ | h
    · rw [h1] at hs
      obtain ⟨r, _, h2⟩ := Option.map_eq_some_iff.1 hs
      exact ⟨r, h2.symm⟩
    · revert h hs
      cases i.desc <;> simp

theorem only_one : ∀ u, Tryz.prog.typeName? 3 u = some "*errors.errorString" → u = 270 := by
  intro u hu
  have hall : ((List.range Tryz.prog.types.size).all fun u => (Tryz.prog.typeName? 3 u != some "*errors.errorString") || u == 270) = true := by kernel_rfl
  have hall2 : ((List.range Tryz.prog.types.size).all fun u => (Tryz.prog.typeName? 2 u != some "errors.errorString") || (match Tryz.prog.types[u]? with | some i => (match i.desc with | .named _ _ => true | _ => false) | none => false)) = true := by kernel_rfl
  by_cases h : u < Tryz.prog.types.size
  · have := List.all_eq_true.1 hall u (List.mem_range.2 h)
    rw [hu] at this
    simpa using this
  · exfalso
    unfold Program.typeName? at hu
    cases hi : Tryz.prog.info? u with
    | none => rw [hi] at hu; cases hu
    | some i =>
      rw [hi] at hu
      simp only at hu
      have hi2 : Made.infoAt Tryz.prog.toTables (99 + 1) u = some i := by
        have h3 : Tryz.prog.toTables.info? u = some i := hi
        unfold Tables.info? at h3
        rw [if_neg h] at h3
        exact h3
      rcases made_row hi2 h with ⟨e, j, h1, h2, h3⟩ | h4
      · rw [h1] at hu
        obtain ⟨s, h5, h6⟩ := Option.map_eq_some_iff.1 hu
        have hs : s = "errors.errorString" := by
          have h9 := congrArg String.toList h6
          simp at h9
          first
            | exact String.toList_inj.1 (by simpa using h9)
            | exact String.toList_injective (by simpa using h9)
            | exact String.ext (by simpa using h9)
        subst hs
        by_cases he : e < Tryz.prog.types.size
        · have := List.all_eq_true.1 hall2 e (List.mem_range.2 he)
          rw [h5] at this
          have h7 : Tryz.prog.types[e]? = some j := by
            unfold Made.infoAt at h2
            rw [if_pos he] at h2
            exact h2
          rw [h7] at this
          revert this
          cases hd : j.desc <;> simp
          all_goals first
            | done
            | (rename_i n r; exact absurd hd (h3 n r))
        · obtain ⟨r, hr⟩ := made_named he h5
          have := congrArg String.toList hr
          simp at this
      · revert h4 hu
        cases i.desc <;> simp

end Go.Proofs.YtdofpjabgnfglaaGreatDoor
