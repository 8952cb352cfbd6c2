/-
A state that tells less; slices that do not overlap.
-/
import Derived.Test.YtdofpjabgnfglaaGreatDoorAm36
import Derived.Lib.Overlaps
set_option linter.unusedVariables false
set_option linter.unusedSectionVars false
namespace Go.Am
open Go
variable [GT]
variable {P G : Program} {X : Nat → Prop} {ι : Inj} {st st' : St} {w : World}

/-- how much the second tells of what the first tells -/
def Less (o o' : Obj) : Prop := o' = o ∨ o' = .dead ∨ ∃ cs n e cs', o = .cells cs n e ∧ o' = .cells cs' n e ∧ ∀ i v, cs'.get i = some v → cs.get i = some v

theorem Less.live {o o' : Obj} (h : Less o o') (hl : o'.live) : o.live := by
  rcases h with rfl | rfl | ⟨cs, n, e, cs', rfl, rfl, _⟩
  · exact hl
  · exact hl.elim
  · trivial

theorem Less.rel {o o' : Obj} {b : Nat} (h : Less o o') (ho : ORel G ι w b o) : ORel G ι w b o' := by
  rcases h with rfl | rfl | ⟨cs, n, e, cs', rfl, rfl, hs⟩
  · exact ho
  · trivial
  · obtain ⟨l, h1, h2, c, elem, fr, m1, m2, m3, m4, m5⟩ := ho
    exact ⟨l, h1, h2, c, elem, fr, m1, m2, m3, m4, fun i v hv => m5 i v (hs i v hv)⟩

theorem HRel.weak (h : HRel G X ι st w) (hn : st'.next = st.next) (hs : ∀ b o', st'.heap.get b = some o' → ∃ o, st.heap.get b = some o ∧ Less o o') : HRel G X ι st' w := by
  refine ⟨fun b o' hb => ?_, fun b l hb => ?_, fun b o' hb => ?_, fun b b' l l' o o' h1 h2 h3 h4 h5 h6 h7 => ?_, h.glob, fun g o hg hlv => ⟨(h.glo g o hg hlv).1, fun b o' l l' h1 h2 h3 h4 => ?_⟩⟩
  · obtain ⟨o, h1, h2⟩ := hs b o' hb
    exact h2.rel (h.obj b o h1)
  · rw [hn]; exact h.dom b l hb
  · obtain ⟨o, h1, h2⟩ := hs b o' hb
    rw [hn]; exact h.live b o h1
  · obtain ⟨p, q1, q2⟩ := hs b o h1
    obtain ⟨p', q3, q4⟩ := hs b' o' h3
    exact h.inj b b' l l' p p' q1 (q2.live h2) q3 (q4.live h4) h5 h6 h7
  · obtain ⟨p, q1, q2⟩ := hs b o' h1
    exact (h.glo g o hg hlv).2 b p l l' q1 (q2.live h2) h3 h4

theorem Stp.weak {ι0 : Inj} {st0 : St} {w0 : World} (h : Stp ι0 st0 w0 ι st w) (hn : st'.next = st.next) (hs : ∀ b o', st'.heap.get b = some o' → ∃ o, st.heap.get b = some o ∧ Less o o') : Stp ι0 st0 w0 ι st' w :=
  ⟨h.ext, by rw [hn]; exact h.next, h.size, h.kept, fun b o' l h1 h2 h3 => by
    obtain ⟨o, q1, q2⟩ := hs b o' h1
    exact h.new b o l q1 (q2.live h2) h3, fun b l hb => by rw [hn]; exact h.ids b l hb, h.tape, h.os, h.out⟩

/-- a call to Go's own text that stands in for itself, at memory that is known -/
theorem good_native2 {f : Nat} {fn : Func} {e : Array Value → Sem Value} {g : List V → St → R} (hf : P.funcs[f]? = some fn) (hname : (fn.name == "runtime.NumGoroutine") = false) (hb : fn.body.isNone = true) (hn : Extern.findNext fn = none) (he : Extern.find fn = some e)
    (h : ∀ args st v st', g args st = some (v, st') → st' = st ∧ ∀ (X : Nat → Prop) (ι : Inj) (args' : Array Value) (w : World), HRel P X ι st w → VsRel ι args args'.toList → ∃ v', (e args').run P w = .ok v' w ∧ VRel ι v v') :
    CallGood P fun f' args st => sel (Nat.beq f' f) (g args st) none := by
  intro f' args st v st' hlt hr X ι w args' hh hargs hX
  simp only at hr
  rw [sel_eq] at hr
  split at hr <;> first | (cases hr; done) | skip
  rename_i hff
  have := Nat.eq_of_beq_eq_true hff
  subst this
  obtain ⟨h1, h2⟩ := h args st v st' hr
  subst h1
  obtain ⟨v', k1, k2⟩ := h2 X ι args' w hh hargs
  right
  exact ⟨v', w, by rw [run_callFunc_extern hf hname hb hn he, k1]; rfl, ι, k2, hh, .refl _ _ _⟩

/-- two slices of two rows -/
noncomputable def eOver (s : Nat) : List V → St → R := fun l st =>
  match l with
  | [.slice b _ _ _ _, .slice b2 _ n2 _ _] => ob (getCells st b) fun q => ob (getCells st b2) fun q2 => whn (Nat.beq q.2.2 s) <| whn (Nat.beq q2.2.2 s) <| whn (Bool.not (Nat.beq b b2)) <| whn (Nat.blt (nat_lit 0) n2) (some (.bool false, st))
  | _ => none

theorem over_run {w : World} {t tr elem : TypeId} {s : Nat} (hu : P.underlying t = some (.slice elem)) (hs : size? P elem = some s) {ba bb oa ob la lb xa xb : Nat} {ca cb : Array Value} {ta tb : TypeId} {fra frb : Nat × Nat}
    (ha : w.heap[ba]? = some (.cells ca ta fra)) (hb : w.heap[bb]? = some (.cells cb tb frb)) (hfa : fra.1 = fra.2) (hcb : cb.size ≠ 0) (hne : ba ≠ bb) :
    (Extern.SlicesOverlaps.overlaps #[t, t] #[tr] #[.slice (some ⟨ba, oa, none⟩) la xa, .slice (some ⟨bb, ob, none⟩) lb xb]).run P w = .ok (.bool false) w := by
  have f1 : ∀ n, w.frozen? ⟨ba, n, none⟩ = false := fun n => by simp only [World.frozen?, ha]; simp; omega
  exact Lib.run_overlaps_apart w t tr elem hu s (sizeOf_run hs) ⟨ba, oa, none⟩ ⟨bb, ob, none⟩ la xa lb xb hne ta tb ca.size cb.size (by simp [World.shape?, ha]) (by simp [World.shape?, hb]) hcb (f1 _) (f1 _)

theorem eOver_some {s : Nat} {args : List V} {v : V} (h : eOver s args st = some (v, st')) :
    ∃ b o n c ex b2 o2 n2 c2 ex2 q q2, args = [.slice b o n c ex, .slice b2 o2 n2 c2 ex2] ∧ getCells st b = some q ∧ getCells st b2 = some q2 ∧ q.2.2 = s ∧ q2.2.2 = s ∧ b ≠ b2 ∧ 0 < n2 ∧ v = .bool false ∧ st' = st := by
  unfold eOver at h
  split at h
  · rename_i b o n c ex b2 o2 n2 c2 ex2
    obtain ⟨q, h1, h⟩ := ob_some.1 h
    obtain ⟨q2, h2, h⟩ := ob_some.1 h
    obtain ⟨h3, h⟩ := whn_some.1 h
    obtain ⟨h4, h⟩ := whn_some.1 h
    obtain ⟨h5, h⟩ := whn_some.1 h
    obtain ⟨h6, h⟩ := whn_some.1 h
    cases h
    refine ⟨b, o, n, c, ex, b2, o2, n2, c2, ex2, q, q2, rfl, h1, h2, Nat.eq_of_beq_eq_true h3, Nat.eq_of_beq_eq_true h4, fun e => ?_, blt_lt h6, rfl, rfl⟩
    subst e
    rw [Nat.beq_refl] at h5
    cases h5
  · cases h

theorem good_over {f : Nat} {fn : Func} {t tr elem : TypeId} {s : Nat} (hs1 : s ≠ 1) (hs0 : s ≠ 0) (hu : P.underlying t = some (.slice elem)) (hs : size? P elem = some s) (hf : P.funcs[f]? = some fn) (hname : (fn.name == "runtime.NumGoroutine") = false) (hb : fn.body.isNone = true)
    (hn : Extern.findNext fn = none) (he : Extern.find fn = some (Extern.SlicesOverlaps.overlaps #[t, t] #[tr])) : CallGood P fun f' args st => sel (Nat.beq f' f) (eOver s args st) none :=
  good_native2 hf hname hb hn he fun args st v st' h => by
    obtain ⟨b, o, n, c, ex, b2, o2, n2, c2, ex2, q, q2, rfl, h1, h2, h3, h4, h5, h6, rfl, rfl⟩ := eOver_some h
    refine ⟨rfl, fun X ι args' w hh ha => ?_⟩
    obtain ⟨l⟩ := args'
    cases ha with
    | cons _ v1 _ l1 ha1 ha =>
    cases ha with
    | cons _ v2 _ l2 ha2 ha =>
    cases ha
    cases ha1 with | slice _ _ _ _ _ lo cap off k1 g1 g2 g3 g4 g5 =>
    cases ha2 with | slice _ _ _ _ _ lo2 cap2 off2 k2 e1 e2 e3 e4 e5 =>
    obtain ⟨m, n1, n2', cc, elm, fr, p1, p2, p3, p4, p5⟩ := hh.cells h1
    rw [k1] at n1; cases n1
    obtain ⟨m2, r1, r2, cc2, elm2, fr2, t1, t2, t3, t4, t5⟩ := hh.cells h2
    rw [k2] at r1; cases r1
    have hne : lo.blk ≠ lo2.blk := fun e => h5 (hh.inj b b2 lo lo2 _ _ (getCells_some h1) trivial (getCells_some h2) trivial k1 k2 e)
    have hfr : fr.1 = fr.2 := by
      rcases p3 with p3 | ⟨p3, _⟩
      · exact p3
      · rw [n2', h3] at p3; exact absurd p3 hs1
    have hsz : cc2.size ≠ 0 := by
      rw [t2]
      rw [r2, h4] at e4
      have : 0 < cap2 * s := Nat.mul_pos (by omega) (by omega)
      omega
    exact ⟨_, over_run hu hs p1 t1 hfr hsz hne, .bool _⟩

end Go.Am
