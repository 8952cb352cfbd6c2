/-
EditKnown answers true, whatever stands in memory, as long as the variables that the row lists read as it says; the card of that statement.
-/
import Derived.Test.YtdofpjabgnfglaaGreatDoorRun
import Derived.Test.YtdofpjabgnfglaaGreatDoorStart
import Derived.WalkKit
import Derived.ProofKit
import Derived.OpenShut
import Derived.Deep.DeepHandedRow
import Derived.Deep.DeepWitnessRowRef
import Derived.LaidLaws
set_option maxRecDepth 100000
set_option linter.unusedVariables false
namespace Go.Proofs.YtdofpjabgnfglaaGreatDoor
open Go.ChangeShapes Go.WideShapes Go.ChangeAt Go.RowKit

theorem own : ownKnob Tryz.prog.godebug = none := by kernel_rfl

/-- WHAT THE CALL COMES TO. -/
theorem called {W : World} (hL : laidMetH Tryz.prog Rows.editKnownRow.laid W) (hS : W.ShapedOpen Tryz.prog) : Calls Tryz.prog 3 #[] W fun e W' => e = .returned (.bool true) ∧ Below W.heap.size W W' := by
  obtain ⟨x, ι, hh⟩ := start hL hS
  letI := theGT x 270
  obtain ⟨st1, h1⟩ := main_is x
  have hfin : ∀ (v' : Value) (W' : World), Am.Ends Tryz.prog (fun _ => False) ι ⟨.nil, Am.low⟩ W (.bool true) st1 v' W' → v' = .bool true ∧ Below W.heap.size W W' := fun v' W' ⟨ι', k1, k2, k3⟩ => by
    cases k1
    exact ⟨rfl, k3.os, k3.tape, k3.out, k3.size, fun B hB => k3.kept B hB fun b o l hb => by
      rw [show (⟨.nil, Am.low⟩ : Am.St).heap = .nil from rfl, Am.PT.get_nil] at hb; cases hb⟩
  rcases Am.callF_good dreg_is (E2_good x) 100000 3 [] _ _ _ (by decide) h1 (fun _ => False) ι W #[] hh .nil (fun b hb => hb.elim) with ⟨_, k2⟩ | ⟨v', w', k1, _⟩
  · refine k2.mono fun e W' ⟨v', he, hE⟩ => ?_
    obtain ⟨rfl, hb⟩ := hfin v' W' hE
    exact ⟨he, hb⟩
  · rw [Am.enter_run (fn := Tryz.f3) Tryz.func3 rfl (by kernel_rfl)] at k1
    cases k1

theorem contract (H : Type) (enc : TypeId × Value → H) (W : World) (base : Nat) (args : Array Value) (ds gs : List (DataW H)) (before : List MemPlace)
    (hW : DataW.Whole enc Tryz.prog Tryz.f3.params.toList Rows.editKnownSpec.vars false W args.toList ds gs before) (hL : laidMetH Tryz.prog Rows.editKnownRow.laid W) (hS : W.ShapedOpen Tryz.prog) :
    Calls Tryz.prog 3 args W fun e W' => ∃ v, e = .returned v ∧ Rows.editKnownSpec.post enc Tryz.prog Tryz.f3 false true false false W args v W' := by
  have hW' := hW
  obtain ⟨p, q, hA0, hV, rfl, hfz, hnd⟩ := hW
  have hA : DataW.TrodAll enc Tryz.prog W 0 (fun _ => true) true Tryz.f3.params.toList args.toList ds p := hA0
  rw [Tryz.params3] at hA
  obtain ⟨ha, rfl, rfl⟩ := trodAll_nil hA
  obtain rfl : args = #[] := by cases args; simp_all
  obtain ⟨rfl, rfl⟩ := trodVars_none hV
  refine (called hL hS).mono fun e W' ⟨he, hb⟩ => ⟨_, he, ?_⟩
  have hres : ∀ (b : Nat) (sp : Nat → Bool) (hd : Bool), DataW.TrodAll enc Tryz.prog W' b sp hd Tryz.f3.resultTypes.toList ((Value.bool true).resultList Tryz.f3.resultTypes.size) (Rows.editKnownSpec.fn H ([] ++ [])).results [] :=
    fun _ _ _ => trodAll_cons_mk (shut_bool Tryz.underlying4 _) trodAll_mk0
  have hargs : ∀ sp : Nat → Bool, DataW.TrodAll enc Tryz.prog W' 0 sp true Tryz.f3.params.toList (#[] : Array Value).toList (Rows.editKnownSpec.fn H ([] ++ [])).args [] := fun _ => trodAll_mk0
  have hvars : ∀ sp : Nat → Bool, DataW.TrodVars enc Tryz.prog W' sp Rows.editKnownSpec.vars (Rows.editKnownSpec.fn H ([] ++ [])).vars [] := fun _ => rfl
  refine ⟨[], [], [], [], [], [], hW', hres _ _ _, hargs _, hvars _, hb.frame _, fun _ => ⟨ok_one (by kernel_rfl) rfl (okWide_bool_mk Tryz.underlying4 _), _, _, [], ⟨[], [], trodAll_append (hargs _) (hres _ _ _), hvars _, rfl, ?_, ?_⟩, ?_⟩⟩
  · intro b off hp
    cases hp
  · intro _
    exact List.nodup_nil
  · intro p hp _
    cases hp
/-! ### A memory in which the variables read so -/

def cellsOf1 (d : DataW Unit) : List Value :=
  match d with
  | .lit (.int k n) => [.int k n]
  | _ => []
def cellsOf2 (d : DataW Unit) : List Value :=
  match d with
  | .agg l => l.flatMap cellsOf1
  | d => cellsOf1 d
def cellsOfT (d : DataW Unit) : Array Value :=
  match d with
  | .agg l => (l.flatMap cellsOf2).toArray
  | _ => #[]
def textOf (d : DataW Unit) : Value :=
  match d with
  | .iface _ (.ptr (.agg [.lit (.string s)])) => .string ⟨s.toArray⟩
  | _ => .string ⟨#[]⟩
def lay (h : Array Obj) (g : Nat) (cs : Array Value) : Array Obj :=
  h.modify g fun
    | .cells _ t frozen => .cells cs t frozen
    | o => o
noncomputable def laidWorld (os : Os) : World :=
  let n := (World.settled Tryz.prog os).heap.size
  let w := World.holding Tryz.prog os ⟨#[.cells #[textOf Rows.laid_strconv_ErrSyntax] 272, .cells #[textOf Rows.laid_strconv_ErrRange] 272], #[], []⟩
  { w with heap := lay (lay (lay (lay (lay (lay (lay w.heap 1 #[.iface 270 (.pointer (some ⟨n, 0, none⟩))]) 2 #[.iface 270 (.pointer (some ⟨n + 1, 0, none⟩))])
      3 (cellsOfT Rows.laid_internal_strconv_uint64pow10)) 4 (cellsOfT Rows.laid_unicode_utf8_first)) 5 (cellsOfT Rows.laid_unicode_utf8_acceptRanges)) 6 (cellsOfT Rows.laid_math_bits_deBruijn32tab)) 7 (cellsOfT Rows.laid_math_bits_deBruijn64tab) }
theorem laid_met (os : Os) : laidMetH Tryz.prog Rows.editKnownRow.laid ((laidWorld os).forCall (fun _ _ => 0) ⟨#[], #[], []⟩).memory := by
  rw [MakeChecks.laidMetH_plain _ _ _ (by kernel_rfl)]
  exact laidMet_of_run' 8 (by kernel_rfl) (by kernel_rfl)
theorem reads (os : Os) {H : Type} (enc : TypeId × Value → H) : ∃ places, DataW.whole enc Tryz.prog ((laidWorld os).forCall (fun _ _ => 0) ⟨#[], #[], []⟩).memory Tryz.f3.params.toList Rows.editKnownSpec.vars false (#[] : Array Value).toList 8 = some ([], [], places) :=
  ⟨[], by kernel_rfl⟩

theorem lifted (os : Os) (started : os.Started) (H : Type) (enc : TypeId × Value → H) (F : Stop.Interp) :
    ReturnsInHanded {} Tryz.checked os 3 .any ((OpenSpec.ofChange Rows.editKnownSpec).preRow enc Tryz.prog Tryz.f3 Rows.editKnownRow.domain false Rows.editKnownRow.laid) (((OpenSpec.ofChange Rows.editKnownSpec).at F).post enc Tryz.prog Tryz.f3 false true false false) := by
  obtain ⟨places, hx⟩ := reads os enc
  refine returnsInHanded_of_row (C := Tryz.checked) (s := OpenSpec.ofChange Rows.editKnownSpec) own started (by kernel_rfl) Tryz.func3
    (witness_row_atRef (enc := enc) (C := Tryz.checked) false (laidWorld os) #[] rfl (by kernel_rfl) (by kernel_rfl) (by kernel_rfl)
      (OpenSpec.preRow_of_cond 8 hx (by kernel_rfl) (fun k hk => by cases hk) (by kernel_rfl) (laid_met os))) ?_
  intro W base args ds gs before hval hW _ _ _ hL hS _
  exact contract H enc W base args ds gs before hW hL hS

theorem said : Rows.EditKnownSaid :=
  OpenClaim.holds_of_cond 3 Tryz.f3 rfl rfl rfl rfl rfl rfl rfl ⟨rfl, rfl, rfl, rfl, rfl⟩ rfl rfl rfl rfl rfl (by kernel_rfl) Tryz.func3 (by kernel_rfl)
    (of_decide_eq_true (by kernel_rfl)) (by unfold Func.isWrapper; first | (rw [if_pos (by decide +kernel)]; kernel_rfl) | (rw [if_neg (by decide +kernel)]; exact ⟨rfl, rfl⟩))
    (fun os started H enc _ F => by rw [OpenClaim.pre_eq_preRow]; exact lifted os started H enc F)

theorem plain (f : FuncId) (fn : Func) (hf : Tryz.pinned.checked.prog.funcNamed "lariat/lariatlaw23.EditKnown" = some f) (hfn : Tryz.pinned.checked.prog.funcs[f]? = some fn) :
    true = Tryz.pinned.checked.prog.looks [] ∧ ∀ (j : Nat) t, fn.params[j]? = some t → Tryz.pinned.checked.prog.wantsStandIn t = false := by
  obtain rfl : f = 3 := Option.some.inj ((show Tryz.prog.funcNamed "lariat/lariatlaw23.EditKnown" = some 3 by kernel_rfl).symm.trans hf) |>.symm
  obtain rfl : fn = Tryz.f3 := (Option.some.inj (Tryz.func3.symm.trans hfn)).symm
  refine ⟨by kernel_rfl, fun j t ht => ?_⟩
  rw [Tryz.params3] at ht
  simp at ht

/-- THE CARD. -/
theorem card : Rows.EditKnownCardSaid :=
  Claim7.holds_tied_plain_at .later [] _ _ _ _ said (fun _ h => by cases h) (by kernel_rfl) (fun _ h => by cases h) editKnown_row_tie rfl ⟨rfl, rfl⟩ (by kernel_rfl) rfl plain (by kernel_rfl)
end Go.Proofs.YtdofpjabgnfglaaGreatDoor
