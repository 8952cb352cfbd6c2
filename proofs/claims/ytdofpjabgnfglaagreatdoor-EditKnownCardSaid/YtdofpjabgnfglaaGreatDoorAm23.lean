/-
What was made ahead of its time.
-/
import Derived.Test.YtdofpjabgnfglaaGreatDoorAm22
set_option linter.unusedVariables false
set_option linter.unusedSectionVars false
set_option linter.unusedSimpArgs false
namespace Go.Am
open Go
variable [GT]

variable {G : Program} {X X' : Nat → Prop} {ι ι' : Inj} {st st' : St} {w w' : World}

/-- the next number may be raised -/
theorem HRel.raise (h : HRel G X ι st w) {n : Nat} (hn : st.next ≤ n) (hd : ∀ b l, ι b = some l → b < n ∨ X' b) : HRel G X' ι ⟨st.heap, n⟩ w where
  obj := h.obj
  dom b l hb := ⟨hd b l hb, (h.dom b l hb).2⟩
  live b o hb := Nat.lt_of_lt_of_le (h.live b o hb) hn
  inj := h.inj
  glob := h.glob
  glo := h.glo

/-- made already, but not yet by the text -/
def Pend (G : Program) (ι : Inj) (w : World) (st : St) (n : Nat) (o : Obj) : Prop :=
  ∃ l, ι n = some l ∧ ORel G ι w n o ∧ (∀ b o' l', st.heap.get b = some o' → o'.live → ι b = some l' → l'.blk ≠ l.blk) ∧
    ∀ g o' l', GT.gt.get g = some o' → o'.live → ι g = some l' → l'.blk ≠ l.blk

theorem alloc_get (st : St) (o : Obj) (x : Nat) : (st.alloc o).heap.get x = if st.next = x then some o else st.heap.get x := by
  show (st.heap.set st.next o).get x = _
  rw [PT.get_set]

/-- the text comes to it -/
theorem HRel.commit (h : HRel G X ι st w) {o : Obj} (hp : Pend G ι w st st.next o) (hd : ∀ b l, ι b = some l → b < st.next + 1 ∨ X' b) : HRel G X' ι (st.alloc o) w := by
  obtain ⟨l, h1, h2, h3, h4⟩ := hp
  refine ⟨fun b o2 hb => ?_, fun b l2 hb => ⟨hd b l2 hb, (h.dom b l2 hb).2⟩, fun b o2 hb => ?_, fun b b' l1 l2 o1 o2 g1 g2 g3 g4 g5 g6 g7 => ?_, h.glob, fun g o2 k1 k2 => ⟨(h.glo g o2 k1 k2).1, fun b o3 l3 lg k3 k4 k5 k6 => ?_⟩⟩
  · rw [alloc_get] at hb
    split at hb
    · rename_i e; cases hb; subst e; exact h2
    · exact h.obj b o2 hb
  · rw [alloc_get] at hb
    show b < st.next + 1
    split at hb
    · omega
    · have := h.live b o2 hb; omega
  · rw [alloc_get] at g1 g3
    split at g1
    · rename_i e
      split at g3
      · rename_i e2; omega
      · subst e
        rw [h1] at g5; cases g5
        exact absurd g7.symm (h3 b' o2 l2 g3 g4 g6)
    · split at g3
      · rename_i e2; subst e2
        rw [h1] at g6; cases g6
        exact absurd g7 (h3 b o1 l1 g1 g2 g5)
      · exact h.inj b b' l1 l2 o1 o2 g1 g2 g3 g4 g5 g6 g7
  · rw [alloc_get] at k3
    split at k3
    · rename_i e; subst e
      rw [h1] at k5; cases k5
      exact (h4 g o2 lg k1 k2 k6).symm
    · exact (h.glo g o2 k1 k2).2 b o3 l3 lg k3 k4 k5 k6

/-- one that is made ahead of its time -/
theorem HRel.early {n : Nat} {o : Obj} (ho : o.live) (hn : st.next ≤ n) (h0 : HRel G X ι st w) (h : HRel G X' ι' ((⟨st.heap, n⟩ : St).alloc o) w') (hs : Stp ι ⟨st.heap, n⟩ w ι' ((⟨st.heap, n⟩ : St).alloc o) w')
    {X2 : Nat → Prop} (hd : ∀ b l, ι' b = some l → b < st.next ∨ X2 b) : HRel G X2 ι' st w' ∧ ((∃ l, ι' n = some l) → Pend G ι' w' st n o) := by
  have hget : ∀ b o2, st.heap.get b = some o2 → ((⟨st.heap, n⟩ : St).alloc o).heap.get b = some o2 := fun b o2 hb => by
    rw [alloc_get, if_neg (by have := h0.live b o2 hb; show ¬ n = b; omega)]; exact hb
  have hnew : ((⟨st.heap, n⟩ : St).alloc o).heap.get n = some o := by rw [alloc_get, if_pos rfl]
  refine ⟨⟨fun b o2 hb => h.obj b o2 (hget b o2 hb), fun b l hb => ⟨hd b l hb, (h.dom b l hb).2⟩, h0.live, fun b b' l1 l2 o1 o2 g1 g2 g3 g4 g5 g6 g7 => h.inj b b' l1 l2 o1 o2 (hget b o1 g1) g2 (hget b' o2 g3) g4 g5 g6 g7, h.glob, fun g o2 k1 k2 => ⟨(h.glo g o2 k1 k2).1, fun b o3 l3 lg k3 k4 k5 k6 => (h.glo g o2 k1 k2).2 b o3 l3 lg (hget b o3 k3) k4 k5 k6⟩⟩, fun ⟨l, hl⟩ => ?_⟩
  refine ⟨l, hl, h.obj n o hnew, fun b o2 l2 g1 g2 g3 e => ?_, fun g o2 lg k1 k2 k3 e => (h.glo g o2 k1 k2).2 n o l lg hnew ho hl k3 e.symm⟩
  have := h.inj b n l2 l o2 o (hget b o2 g1) g2 hnew ho g3 hl e
  have := h0.live b o2 g1
  omega

/-- what was made ahead stays as it is while an operation turns what is live -/
theorem Pend.keep (hg : ∀ g o, GT.gt.get g = some o → o.live → ∃ l, ι g = some l) {n : Nat} {o : Obj} (ho : o.live) (hp : Pend G ι w st n o) (hs : Stp ι st w ι' st' w') (hB : ∀ l, ι n = some l → l.blk < w.heap.size) : Pend G ι' w' st' n o := by
  obtain ⟨l, h1, h2, h3, h4⟩ := hp
  have hk : w'.heap[l.blk]? = w.heap[l.blk]? := hs.kept l.blk (hB l h1) fun b o2 l2 g1 g2 g3 => h3 b o2 l2 g1 g2 g3
  refine ⟨l, hs.ext _ _ h1, h2.turn hs.ext (fun l' hl' _ => by rw [h1] at hl'; cases hl'; exact hk), fun b o2 l2 g1 g2 g3 e => ?_, fun g o2 lg k1 k2 k3 => ?_⟩
  rcases hs.new b o2 l2 g1 g2 g3 with k | ⟨b0, o0, l0, k1, k2, k3, k4⟩
  · have := hB l h1; omega
  · exact h3 b0 o0 l0 k1 k2 k3 (k4.trans e)
  · obtain ⟨l0, q⟩ := hg g o2 k1 k2
    have e := hs.ext _ _ q
    rw [k3] at e; cases e
    exact h4 g o2 _ k1 k2 q

end Go.Am
