/-
What stands there when the call begins: the evaluator's first state tells it.
-/
import Derived.Test.YtdofpjabgnfglaaGreatDoorBase
import Derived.Test.YtdofpjabgnfglaaGreatDoorCards
import Derived.Test.YtdofpjabgnfglaaGreatDoorTie
import Derived.Test.YtdofpjabgnfglaaGreatDoorName
import Derived.MakeChecks
import Derived.LaidSub
import Derived.Lib.LaidTab
set_option maxRecDepth 100000
set_option linter.unusedVariables false
namespace Go.Proofs.YtdofpjabgnfglaaGreatDoor
open Go Go.Am

theorem one_laid {W : World} {name : String} {d : DataW Unit} (hL : laidMetH Tryz.prog Rows.editKnownRow.laid W) (e : Rows.editKnownRow.laid.filter (fun y => y.1 == name) = [(name, d)]) (hn : d.handleName?.isNone = true) : laidMet Tryz.prog [(name, d)] W := by
  have h := laidMetH.filter (fun y => y.1 == name) hL
  rw [e] at h
  rwa [MakeChecks.laidMetH_plain _ _ _ (by simp [hn])] at h

theorem pow_laid {W : World} (hL : laidMetH Tryz.prog Rows.editKnownRow.laid W) : Lib.TabIs Tryz.prog W "internal/strconv.uint64pow10" .u64 Lib.pow10Tab :=
  Lib.tabIs_of_head (rest := []) (g := 3) (t := 264) (e := 158) (n := 20) (by kernel_rfl) (by kernel_rfl) Tryz.underlying264 Tryz.underlying158 (by kernel_rfl) (by kernel_rfl)
    (one_laid hL (by kernel_rfl) (by kernel_rfl))

theorem last_laid {W : World} (hL : laidMetH Tryz.prog Rows.editKnownRow.laid W) : 7 < W.heap.size := by
  have h := one_laid (name := "math/bits.deBruijn64tab") (d := Rows.laid_math_bits_deBruijn64tab) hL (by kernel_rfl) (by kernel_rfl)
  obtain ⟨ps, ⟨g, t, cs, fuel, p, q, hg, _, hvar, _⟩, _⟩ := h
  obtain rfl : g = 7 := Option.some.inj (hg.symm.trans (show Tryz.prog.globalNamed "math/bits.deBruijn64tab" = some 7 by kernel_rfl))
  rcases Nat.lt_or_ge 7 W.heap.size with h | h
  · exact h
  · unfold World.var? at hvar
    rw [hg] at hvar
    simp only [Option.bind_some] at hvar
    rw [Array.getElem?_eq_none h] at hvar
    cases hvar

theorem err_laid {W : World} (hL : laidMetH Tryz.prog Rows.editKnownRow.laid W) : ∃ a o, W.cell? ⟨1, 0, none⟩ = some (.iface 270 (.pointer (some ⟨a, o, none⟩))) ∧ a < W.heap.size := by
  have h := one_laid (name := "strconv.ErrSyntax") (d := Rows.laid_strconv_ErrSyntax) hL (by kernel_rfl) (by kernel_rfl)
  obtain ⟨ps, ⟨g, t, cs, fuel, p, q, hg, ht, hvar, hd, hq, rfl⟩, hnd, hrest⟩ := h
  obtain rfl : g = 1 := Option.some.inj (hg.symm.trans (show Tryz.prog.globalNamed "strconv.ErrSyntax" = some 1 by kernel_rfl))
  obtain rfl : t = 112 := Option.some.inj (ht.symm.trans (show (Tryz.prog.globals[1]?).map (·.type) = some 112 by kernel_rfl))
  have hcell := fun off => World.var?_cell hg hvar off
  cases fuel with
  | zero => cases hd
  | succ fuel =>
  unfold DataW.trod at hd
  rw [Tryz.underlying112] at hd
  simp only at hd
  have hfn : ∀ {α β : Type} {f : α → β} {o : Option α} {y : β}, o.map f = some y → ∃ x, o = some x ∧ f x = y := fun h => Option.map_eq_some_iff.1 h
  split at hd <;> first | (cases hd; done) | skip
  case h_12 ms u v e1 e2 =>
    have hu : Tryz.prog.typeName? 3 u = some "*errors.errorString" ∧ ∃ x, DataW.trod (fun _ => ()) Tryz.prog W 0 (fun _ => true) false fuel u v.cells.toList = some x ∧ x.1 = .ptr (.agg [.lit (.string [105, 110, 118, 97, 108, 105, 100, 32, 115, 121, 110, 116, 97, 120])]) := by
      cases hn : Tryz.prog.typeName? 3 u with
      | none => rw [hn] at hd; cases hd
      | some name =>
        rw [hn] at hd
        obtain ⟨x, h1, h2⟩ := hfn hd
        unfold Rows.laid_strconv_ErrSyntax at h2
        simp only [Prod.mk.injEq, DataW.iface.injEq] at h2
        exact ⟨by rw [h2.1.1], x, h1, h2.1.2⟩
    obtain ⟨hn, x, hx, hx1⟩ := hu
    obtain rfl := only_one u hn
    have hc : cs = #[.iface 270 v] := by
      cases cs; simpa using e2
    subst hc
    have hw : W.cell? ⟨1, 0, none⟩ = some (.iface 270 v) := hcell 0
    have hok := (hrest 1 0 (by simp [MemPlace.row])).2 270 v hw
    unfold Value.okWide Cell.okWide at hok
    rw [Tryz.underlying270] at hok
    simp only at hok
    have hv : ∃ b, v = .pointer (some b) := by
      cases fuel with
      | zero => cases hx
      | succ fuel =>
      unfold DataW.trod at hx
      rw [Tryz.underlying270] at hx
      obtain ⟨x1, x2⟩ := x
      simp only at hx1
      subst hx1
      cases v with
      | pointer a =>
        cases a with
        | none => simp only [Value.cells] at hx; cases hx
        | some b => exact ⟨b, rfl⟩
      | _ => unfold Cell.ok at hok; rw [Tryz.underlying270] at hok; exact hok.elim
    obtain ⟨b, rfl⟩ := hv
    unfold Cell.ok at hok
    rw [Tryz.underlying270] at hok
    obtain ⟨_, k1, row, cells, k2, _⟩ := hok
    obtain ⟨a, o, sp⟩ := b
    simp only at k1
    subst k1
    refine ⟨a, o, hw, ?_⟩
    rcases Nat.lt_or_ge a W.heap.size with h | h
    · exact h
    · unfold World.shape? at k2
      rw [Array.getElem?_eq_none h] at k2
      cases k2
  all_goals (rename_i e1; first | (cases e1; done) | (rename_i e0; cases e0; done))
theorem start {W : World} (hL : laidMetH Tryz.prog Rows.editKnownRow.laid W) (hS : W.ShapedOpen Tryz.prog) : ∃ x : Int, letI := theGT x 270; ∃ ι, HRel Tryz.prog (fun _ => False) ι ⟨.nil, low⟩ W := by
  obtain ⟨x, hx⟩ := Tryz.laysM219.s1_3 W hS
  have hx : W.cell? ⟨0, 0, none⟩ = some (.int .i64 x) := hx
  obtain ⟨a, o, he, ha⟩ := err_laid hL
  have hp := pow_laid hL
  have h7 := last_laid hL
  let ι : Inj := fun b => if b < 8 then some ⟨b, 0, 0, 0⟩ else if b = 901 then some ⟨a, o, 0, 0⟩ else none
  have i8 : ∀ b, b < 8 → ι b = some ⟨b, 0, 0, 0⟩ := fun b hb => if_pos hb
  letI := theGT x 270
  have hnil : ∀ (b : Nat) (o : Am.Obj), (⟨.nil, low⟩ : St).heap.get b ≠ some o := fun b o h => by
    rw [show (⟨.nil, low⟩ : St).heap = .nil from rfl, PT.get_nil] at h; cases h
  have hglo : ∀ g o, (gt0 x 270).get g = some o → RdRel ι W g o := fun g ob h => by
    refine PT.all_get (p := fun g o => RdRel ι W g o) (gt0 x 270) ?_ g ob h
    have one : ∀ (g : Nat) (u : V) (u' : Value), g < 8 → W.cell? ⟨g, 0, none⟩ = some u' → VRel ι u u' → u'.oneCell' = true → RdRel ι W g (Am.Obj.cells (.node (some u) .nil .nil .nil .nil) 0 1) := fun g u u' hg hc hu h1 => by
      refine ⟨_, i8 g hg, fun i v hv => ?_, fun h => absurd h (by decide)⟩
      have : i = 0 ∧ v = u := by
        refine PT.all_get (p := fun i v => i = 0 ∧ v = u) (.node (some u) .nil .nil .nil .nil) ⟨entry (p := fun i v => i = 0 ∧ v = u) (k := 0) ⟨rfl, rfl⟩, trivial, trivial, trivial, trivial⟩ i v hv
      obtain ⟨rfl, rfl⟩ := this
      exact ⟨u', hc, hu, h1⟩
    refine ⟨entry (p := fun g o => RdRel ι W g o) (k := 0) (one 0 _ _ (by decide) hx (.int _ _) rfl), ⟨entry (p := fun g o => RdRel ι W g o) (k := 1) (one 1 _ _ (by decide) he (.iface _ _ _ (.ptr 901 0 ⟨a, o, 0, 0⟩ rfl)) rfl), trivial, trivial, trivial, trivial⟩, trivial,
      ⟨entry (p := fun g o => RdRel ι W g o) (k := 3) ?_, trivial, trivial, trivial, trivial⟩, trivial⟩
    have hname : Tryz.prog.globalNamed "internal/strconv.uint64pow10" = some 3 := by kernel_rfl
    refine ⟨_, i8 3 (by decide), fun i v hv => ?_, fun _ => ?_⟩
    · rw [rowOf_get] at hv
      simp only [List.getElem?_map, Option.map_eq_some_iff] at hv
      obtain ⟨z, hz, rfl⟩ := hv
      obtain ⟨h1, h2⟩ := List.getElem?_eq_some_iff.1 hz
      have := hp.cell hname i h1
      refine ⟨_, by show W.cell? ⟨3, 0 + i, none⟩ = _; rw [Nat.zero_add]; exact this, ?_, rfl⟩
      rw [List.getD_eq_getElem?_getD, hz]
      exact .int _ _
    · unfold Lib.TabIs World.var? at hp
      rw [hname] at hp
      simp only [Option.bind_some] at hp
      cases hh : W.heap[3]? with
      | none => rw [hh] at hp; cases hp
      | some ob =>
        rw [hh] at hp
        cases ob <;> first | (cases hp; done) | skip
        rename_i c t fr
        simp only [Option.some.injEq] at hp
        exact ⟨c, t, fr, rfl, by rw [hp]; rfl⟩
  refine ⟨x, ι, fun b ob h => (hnil b ob h).elim, fun b l h => ?_, fun b ob h => (hnil b ob h).elim, fun b b' l l' o1 o2 h => (hnil b o1 h).elim, fun g hg => ⟨_, i8 g hg, rfl, rfl⟩, fun g ob h _ => ⟨hglo g ob h, fun b o' l l' h => (hnil b o' h).elim⟩⟩
  have h : (if b < 8 then some (⟨b, 0, 0, 0⟩ : Am.Loc) else if b = 901 then some ⟨a, o, 0, 0⟩ else none) = some l := h
  split at h
  · cases h
    exact ⟨.inl (by show b < 1000; omega), by show b < W.heap.size; omega⟩
  · split at h
    · cases h
      exact ⟨.inl (by show b < 1000; omega), ha⟩
    · cases h
end Go.Proofs.YtdofpjabgnfglaaGreatDoor
