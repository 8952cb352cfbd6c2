/-
The runs as a table; the whole run.
-/
import Derived.Test.YtdofpjabgnfglaaGreatDoorDoes0
import Derived.Test.YtdofpjabgnfglaaGreatDoorDoes1
import Derived.Test.YtdofpjabgnfglaaGreatDoorDoes2
set_option maxRecDepth 100000
set_option linter.unusedVariables false
namespace Go.Proofs.YtdofpjabgnfglaaGreatDoor
open Go Go.Am
noncomputable def tabD : List (List V × V) := [([.str 6 [100,114,111,112,32,52]], .tup [.str 23 [118,97,114,32,120,32,48,32,50,32,48,10,112,114,111,99,32,112,32,97,32,98,10], .int .i64 0]),
  ([.str 15 [97,100,100,32,51,32,112,32,98,32,97,32,45,32,49]], .tup [.str 71 [118,97,114,32,120,32,48,32,50,32,48,10,112,114,111,99,32,112,32,97,32,98,10,116,114,97,110,115,32,51,32,112,32,98,32,97,32,45,32,49,10,116,114,97,110,115,32,52,32,112,32,97,32,98,32,45,32,120,60,50,32,59,32,120,32,61,32,120,43,49,10], .int .i64 0]),
  ([.str 15 [97,100,100,32,52,32,112,32,98,32,97,32,45,32,49]], .tup [.str 0 [], .int .i64 7]),
  ([.str 15 [97,100,100,32,53,32,113,32,98,32,97,32,45,32,49]], .tup [.str 0 [], .int .i64 10]),
  ([.str 6 [100,114,111,112,32,53]], .tup [.str 0 [], .int .i64 6]),
  ([.str 12 [103,117,97,114,100,32,52,32,120,61,61,48]], .tup [.str 54 [118,97,114,32,120,32,48,32,50,32,48,10,112,114,111,99,32,112,32,97,32,98,10,116,114,97,110,115,32,52,32,112,32,97,32,98,32,45,32,120,61,61,48,32,59,32,120,32,61,32,120,43,49,10], .int .i64 0]),
  ([.str 9 [103,117,97,114,100,32,52,32,121]], .tup [.str 0 [], .int .i64 10]),
  ([.str 9 [103,117,97,114,100,32,53,32,49]], .tup [.str 0 [], .int .i64 6]),
  ([.str 9 [101,102,102,101,99,116,115,32,52]], .tup [.str 43 [118,97,114,32,120,32,48,32,50,32,48,10,112,114,111,99,32,112,32,97,32,98,10,116,114,97,110,115,32,52,32,112,32,97,32,98,32,45,32,120,60,50,10], .int .i64 0]),
  ([.str 25 [101,102,102,101,99,116,115,32,52,32,59,32,120,32,61,32,48,32,59,32,120,32,61,32,49]], .tup [.str 59 [118,97,114,32,120,32,48,32,50,32,48,10,112,114,111,99,32,112,32,97,32,98,10,116,114,97,110,115,32,52,32,112,32,97,32,98,32,45,32,120,60,50,32,59,32,120,32,61,32,48,32,59,32,120,32,61,32,49,10], .int .i64 0]),
  ([.str 12 [118,97,114,32,120,32,45,49,32,49,32,48]], .tup [.str 54 [118,97,114,32,120,32,45,49,32,49,32,48,10,112,114,111,99,32,112,32,97,32,98,10,116,114,97,110,115,32,52,32,112,32,97,32,98,32,45,32,120,60,50,32,59,32,120,32,61,32,120,43,49,10], .int .i64 0]),
  ([.str 11 [118,97,114,32,121,32,48,32,49,32,48]], .tup [.str 0 [], .int .i64 6]),
  ([.str 11 [118,97,114,32,120,32,48,32,49,32,50]], .tup [.str 0 [], .int .i64 10]),
  ([.str 7 [100,114,111,112,32,32,52]], .tup [.str 1 [63], .int .i64 2]),
  ([.str 7 [100,114,111,112,32,48,52]], .tup [.str 1 [63], .int .i64 2]),
  ([.str 0 []], .tup [.str 1 [63], .int .i64 2])]

theorem does_is {x : Int} {t : List V} {v : V} (h : val (does x 270 t) = some v) : letI := theGT x 270; ∃ st1, callF (cpOf Tryz.prog) (E1 x 270) 100000 11 t ⟨.nil, low⟩ = some (v, st1) := by
  letI := theGT x 270
  obtain ⟨s, h⟩ := val_some h
  refine ⟨s, ?_⟩
  have h : callFF cpL (E1 x 270) 100000 11 t st0 = some (v, s) := h
  rw [callFF_eq] at h
  exact callF_mono cpL_le (Nat.le_refl _) _ _ _ _ h

theorem allD (x : Int) : letI := theGT x 270; ∀ p ∈ tabD, plainL p.1 = true ∧ plainV p.2 = true ∧ ∃ st1, callF (cpOf Tryz.prog) (E1 x 270) 100000 11 p.1 ⟨.nil, low⟩ = some (p.2, st1) := by
  letI := theGT x 270
  intro p hp
  simp only [tabD, List.mem_cons, List.not_mem_nil, or_false] at hp
  rcases hp with rfl | rfl | rfl | rfl | rfl | rfl | rfl | rfl | rfl | rfl | rfl | rfl | rfl | rfl | rfl | rfl
  · exact ⟨rfl, rfl, does_is (d0 x 270)⟩
  · exact ⟨rfl, rfl, does_is (d1 x 270)⟩
  · exact ⟨rfl, rfl, does_is (d2 x 270)⟩
  · exact ⟨rfl, rfl, does_is (d3 x 270)⟩
  · exact ⟨rfl, rfl, does_is (d4 x 270)⟩
  · exact ⟨rfl, rfl, does_is (d5 x 270)⟩
  · exact ⟨rfl, rfl, does_is (d6 x 270)⟩
  · exact ⟨rfl, rfl, does_is (d7 x 270)⟩
  · exact ⟨rfl, rfl, does_is (d8 x 270)⟩
  · exact ⟨rfl, rfl, does_is (d9 x 270)⟩
  · exact ⟨rfl, rfl, does_is (d10 x 270)⟩
  · exact ⟨rfl, rfl, does_is (d11 x 270)⟩
  · exact ⟨rfl, rfl, does_is (d12 x)⟩
  · exact ⟨rfl, rfl, does_is (d13 x)⟩
  · exact ⟨rfl, rfl, does_is (d14 x)⟩
  · exact ⟨rfl, rfl, does_is (d15 x)⟩

theorem gt_low (x : Int) : letI := theGT x 270; GtLow := by
  letI := theGT x 270
  intro g cs n e h
  have key : ∀ f o, (gt0 x 270).get f = some o → f < low ∧ ∀ cs n e, o = .cells cs n e → ∀ i v, cs.get i = some v → lowV v = true := fun f o h => by
    refine PT.all_get (p := fun f o => f < low ∧ ∀ cs n e, o = .cells cs n e → ∀ i v, cs.get i = some v → lowV v = true) (gt0 x 270) ?_ f o h
    have one : ∀ (u : V), lowV u = true → ∀ cs n e, Am.Obj.cells (.node (some u) .nil .nil .nil .nil) 0 1 = .cells cs n e → ∀ i v, PT.get cs i = some v → lowV v = true := fun u hu cs n e he i v hv => by
      cases he
      refine PT.all_get (p := fun _ v => lowV v = true) (.node (some u) .nil .nil .nil .nil) ⟨fun _ _ => hu, trivial, trivial, trivial, trivial⟩ i v hv
    refine ⟨entry (k := 0) ⟨by decide, one _ rfl⟩, ⟨entry (k := 1) ⟨by decide, one _ rfl⟩, trivial, trivial, trivial, trivial⟩, trivial, ⟨entry (k := 3) ⟨by decide, fun cs n e he i v hv => ?_⟩, trivial, trivial, trivial, trivial⟩, trivial⟩
    cases he
    rw [rowOf_get] at hv
    simp only [List.getElem?_map, Option.map_eq_some_iff] at hv
    obtain ⟨z, _, rfl⟩ := hv
    rfl
  obtain ⟨h1, h2⟩ := key g _ h
  exact ⟨h1, h2 cs n e rfl⟩

noncomputable def E2 (x : Int) : Ext := letI := theGT x 270; fun f => sel (Nat.beq f 11) (some (eTab tabD)) (E1 x 270 f)

theorem E2_good (x : Int) : letI := theGT x 270; ExtGood Tryz.prog (E2 x) := by
  letI := theGT x 270
  refine ⟨fun f g h => ?_, fun f g args st v st' h hr => ?_⟩
  · rcases sel_some h with ⟨e, rfl⟩ | h
    · obtain rfl := Nat.eq_of_beq_eq_true e
      exact good_tab (callF_good dreg_is (E1_good x 270) 100000) (gt_low x) (show 8 ≤ 1000 by decide) (allD x)
    · exact (E1_good x 270).good f g h
  · rcases sel_some h with ⟨e, rfl⟩ | h
    · obtain ⟨rfl, _⟩ := eTab_some hr
      exact Nat.le_refl _
    · exact (E1_good x 270).up f g args st v st' h hr

noncomputable def main (x : Int) : R := letI := theGT x 270; callFF cpL (E2 x) 100000 3 [] st0
theorem ran (x : Int) : val (main x) = some (.bool true) := by kernel_rfl
theorem main_is (x : Int) : letI := theGT x 270; ∃ st1, callF (cpOf Tryz.prog) (E2 x) 100000 3 [] ⟨.nil, low⟩ = some (.bool true, st1) := by
  letI := theGT x 270
  obtain ⟨s, h⟩ := val_some (ran x)
  refine ⟨s, ?_⟩
  have h : callFF cpL (E2 x) 100000 3 [] st0 = some (.bool true, s) := h
  rw [callFF_eq] at h
  exact callF_mono cpL_le (Nat.le_refl _) _ _ _ _ h
end Go.Proofs.YtdofpjabgnfglaaGreatDoor
