/-
Append, copy, clear, make, maps: as they stand in the evaluator.
-/
import Derived.Test.YtdofpjabgnfglaaGreatDoorAm7
set_option linter.unusedVariables false
set_option linter.unusedSectionVars false
set_option linter.unusedSimpArgs false
namespace Go.Am
open Go
variable [GT]

variable {P : Program} {G : Program} {X : Nat → Prop} {ι : Inj} {st st' : St} {w : World} {v : V}

theorem cells_same {l : Loc} {cs : PT V} {n : Nat} (h : CellsRel ι w l cs n) {w1 : World} (hw : w1.heap = w.heap) : CellsRel ι w1 l cs n :=
  h.turn (fun _ _ h => h) (by rw [hw])

/-- the elements of a slice that are there -/
theorem old_rel (h : HRel G X ι st w) {b o n cap off s : Nat} {q : PT V × Nat × Nat} {l : Loc} (h1 : getCells st b = some q) (hb : ι b = some l) (g5 : 0 < cap → off = l.base + o) (hn : n ≤ cap)
    (hsz : l.base + o + n * s ≤ l.size) : ∃ old : List Value, old.length = n * s ∧ (∀ j u, j < n * s → q.1.get (o + j) = some u → ∃ u', old[j]? = some u' ∧ VRel ι u u' ∧ u'.oneCell' = true) ∧
      ∀ w1 : World, w1.heap = w.heap → (Builtin.firstCells s n (.slice (some ⟨l.blk, off, none⟩) n cap)).run P w1 = .ok old.toArray w1 := by
  obtain ⟨l3, k1, k2, k3⟩ := h.cells h1
  rw [hb] at k1; cases k1
  obtain ⟨c, e, fr, m1, m2, m3, m4, m5⟩ := k3
  let f : Nat → Value := fun j => (c[l.base + o + j]?).getD undef
  have hf : ∀ j, j < n * s → c[l.base + o + j]? = some (f j) := fun j hj => by
    have : l.base + o + j < c.size := by omega
    simp [f, this]
  refine ⟨(List.range (n * s)).map f, by simp, fun j u hj hu => ?_, fun w1 hw1 => ?_⟩
  · obtain ⟨_, u', p1, p2, p3⟩ := m5 _ _ hu
    refine ⟨u', ?_, p2, p3⟩
    have := hf j hj
    rw [Nat.add_assoc, p1] at this
    simp [hj, Option.some.inj this]
  · by_cases h0 : 0 < cap
    · have g5 := g5 h0
      subst g5
      have := run_loadCells (P := P) w1 ⟨l.blk, l.base + o, none⟩ (n * s) f (fun j hj => by
        rw [addr_add]
        simp only [World.cell?, hw1, m1]
        simpa using hf j hj)
      simpa [Builtin.firstCells] using this
    · have : n = 0 := by omega
      subst this
      simp [Builtin.firstCells, loadCells, loadCellsFrom]

theorem cellsAfter {z2 : List V} {o1 o2 o3 : List Value} (h2 : VsRel ι z2 o2) (e2 : ∀ x ∈ o2, x.oneCell' = true) {cs : PT V} {k : Nat}
    (hk : o1.length = k) (hcs : ∀ i u, cs.get i = some u → i < k ∧ ∃ u', o1[i]? = some u' ∧ VRel ι u u' ∧ u'.oneCell' = true) {i : Nat} {v : V} (hv : (storeN z2 cs k).get i = some v) :
    i < k + z2.length ∧ ∃ v', (o1.toArray ++ o2.toArray ++ o3.toArray)[i]? = some v' ∧ VRel ι v v' ∧ v'.oneCell' = true := by
  have l2 := h2.length
  rw [storeN_get] at hv
  have hg : ∀ j, j < o1.length + o2.length → (o1.toArray ++ o2.toArray ++ o3.toArray)[j]? = (o1 ++ o2)[j]? := by
    intro j hj
    simp only [List.append_toArray, List.getElem?_toArray]
    rw [List.getElem?_append_left (by simpa using hj)]
  split at hv
  · rename_i hc
    obtain ⟨v', g1, g2⟩ := h2.get hv
    refine ⟨hc.2, v', ?_, g2, e2 v' (List.mem_of_getElem? g1)⟩
    rw [hg i (by omega), List.getElem?_append_right (by omega), hk]
    exact g1
  · rename_i hc
    obtain ⟨g0, v', g1, g2, g3⟩ := hcs i v hv
    refine ⟨by omega, v', ?_, g2, g3⟩
    rw [hg i (by omega), List.getElem?_append_left (by omega)]
    exact g1

theorem appR_out (h : HRel G X ι st w) (hX : ∀ b, X b → st'.next ≤ b) {b o n c s m bytes : Nat} {ex : Bool} {q : PT V × Nat × Nat} {l : Loc} {cap off : Nat} {elem : TypeId} {zeros : Bool} {x : Value} {appended : Sem (Array Value)}
    {new : List V} {new' : List Value} {i : TypeInfo} {z : Value} {cs : PT V}
    (h1 : getCells st b = some q) (hb : ι b = some l) (g1 : n ≤ c) (g2 : c ≤ cap) (g3 : ex = true → cap = c) (g4 : l.base + o + cap * l.esz ≤ l.size) (g5 : 0 < cap → off = l.base + o) (hes : q.2.2 = s)
    (hi : P.info? elem = some i) (hz : zero? P elem = some z) (hzs : z.cells.size = s) (hsz : i.bytes = bytes) (hgt : ¬ n + m ≤ c) (hneed : n + m < 1099511627776) (hby : (n + m) * bytes < 1099511627776)
    (hnew : VsRel ι new new') (hone : ∀ y ∈ new', y.oneCell' = true) (hlen : new'.length = m * s) (ha : ∀ w1 : World, w1.heap = w.heap → appended.run P w1 = .ok new'.toArray w1)
    (hcs : ∀ j u, cs.get j = some u → j < n * s ∧ q.1.get (o + j) = some u)
    (hr : appR s b o n m ex cs new st = some (v, st')) :
    SOut P G X ι st w (appTail elem s zeros (some ⟨l.blk, off, none⟩) n cap m (.slice (some ⟨l.blk, off, none⟩) n cap) x appended) v st' := by
  cases hr
  have hX1 : ¬ X st.next := fun hx => by
    have h9 : (sel ex st (st.put b .dead)).next + 1 ≤ st.next := hX _ hx
    have : (sel ex st (st.put b .dead)).next = st.next := by cases ex <;> rfl
    omega
  obtain ⟨l3, k1, k2, k3⟩ := h.cells h1
  rw [hb] at k1; cases k1
  have hes' : l.esz = s := by rw [k2, hes]
  have hns : n * s ≤ cap * s := Nat.mul_le_mul_right s (by omega)
  obtain ⟨old, r3, r1, r4⟩ := old_rel (P := P) (s := s) (n := n) h h1 hb g5 (by omega) (by rw [hes'] at g4; omega)
  have hmul : n * s + m * s = (n + m) * s := (Nat.add_mul n m s).symm
  have hf := h.fresh hX1
  by_cases hin : n + m ≤ cap
  · -- there is room that was not known: in the old block
    have hex : ex = false := by
      cases ex with
      | false => rfl
      | true => have := g3 rfl; omega
    subst hex
    have g5 := g5 (by omega)
    subst g5
    have hcap : (n + m) * s ≤ cap * s := Nat.mul_le_mul_right s hin
    rw [hes'] at g4
    obtain ⟨s1, s2, s3, s4, s5, s6⟩ := setCells_world l.blk new' (l.base + o + n * s) w
    obtain ⟨c0, e0, fr, m1, m2, m3, m4, m5⟩ := k3
    obtain ⟨c', t1, t2, t3⟩ := setCells_block l.blk new' (l.base + o + n * s) w c0 e0 fr m1
    have hst := run_storeCells_cells (P := P) l.blk (l.base + o + n * s) new' 0 w (fun j hj => by
        have hlt : l.base + o + n * s + 0 + j < l.size := by omega
        simp only [World.cell?, m1]; simp; omega) (fun j hj => by
        have := m3.not (i := l.base + o + n * s + 0 + j) (by omega)
        simp only [World.frozen?, m1]; simp; omega) hone
    have hnl : new.length = m * s := by rw [hnew.length, hlen]
    obtain ⟨q1, q2⟩ := h.reuse hX1 (o := .cells (storeN new cs (n * s)) ((n + m) * s) s) (l := ⟨l.blk, l.base + o, l.size, s⟩) (w' := w.setCells l.blk (l.base + o + n * s) new') (getCells_some h1) trivial hb rfl s1 s6 s2 s3 s4
      ⟨_, upd_same _ _ _, rfl, c', e0, fr, t1, by show c'.size = l.size; omega, (by have := m3; rw [hes'] at this; exact this), by show l.base + o + (n + m) * s ≤ l.size; omega, fun j u hu => by
        rw [storeN_get] at hu
        split at hu
        · rename_i hc
          obtain ⟨u', p1, p2⟩ := hnew.get hu
          refine ⟨by omega, u', ?_, p2.mono (upd_ext hf), hone u' (List.mem_of_getElem? p1)⟩
          show c'[l.base + o + j]? = some u'
          rw [t3 _ (by omega), if_pos (by omega), show l.base + o + j - (l.base + o + n * s) = j - n * s by omega]
          exact p1
        · rename_i hc
          obtain ⟨hlt, hu⟩ := hcs j u hu
          obtain ⟨_, u', p1, p2, p3⟩ := m5 _ _ hu
          refine ⟨by omega, u', ?_, p2.mono (upd_ext hf), p3⟩
          show c'[l.base + o + j]? = some u'
          rw [t3 _ (by omega), if_neg (by omega), Nat.add_assoc]
          exact p1⟩
    refine ⟨_, _, _, appTail_in hin (ha w rfl) (by rw [addr_add]; simpa using hst), ?_, q1, q2⟩
    exact .slice st.next 0 (n + m) (n + m) false ⟨l.blk, l.base + o, l.size, s⟩ cap (l.base + o) (upd_same _ _ _) (Nat.le_refl _) hin (fun h => by cases h) (by show l.base + o + 0 + cap * s ≤ l.size; omega) (fun _ => rfl)
  · -- a new block
    obtain ⟨ncap, c1, c2⟩ := appTail_new (base := some ⟨l.blk, off, none⟩) (sLen := n) (sCap := cap) (n := m) (s := .slice (some ⟨l.blk, off, none⟩) n cap) (x := x) (zeros := zeros) (size := s) hin hi hz hneed (by rw [hsz]; exact hby) ha r4
    have hcsz : (old.toArray ++ new'.toArray ++ Builtin.zeroCells z.cells (ncap - (n + m))).size = ncap * s := by
      simp [Builtin.zeroCells, hzs, r3, hlen]
      rw [hmul, ← Nat.add_mul]; congr 1; omega
    have hnext : (sel ex st (st.put b .dead)).next = st.next := by cases ex <;> rfl
    have hh : HRel G X ι (sel ex st (st.put b .dead)) w := by
      cases ex with
      | true => exact h
      | false => exact h.kill (getCells_some h1)
    have hstp : Stp ι st w ι (sel ex st (st.put b .dead)) w := by
      cases ex with
      | true => exact .refl _ _ _
      | false => exact ⟨fun _ _ h => h, Nat.le_refl _, Nat.le_refl _, fun _ _ _ => rfl, fun x o2 l2 hx h2 hl2 => .inr (by
          have hx' : (st.heap.set b .dead).get x = some o2 := hx
          rw [PT.get_set] at hx'
          split at hx'
          · cases hx'; exact h2.elim
          · exact ⟨x, o2, l2, hx', h2, hl2, rfl⟩), fun _ _ h => .inl h, rfl, rfl, rfl⟩
    obtain ⟨q1, q2⟩ := hh.newRow (by rw [hnext]; exact hX1) (w' := { w with heap := w.heap.push (.cells (old.toArray ++ new'.toArray ++ Builtin.zeroCells z.cells (ncap - (n + m))) elem), drawn := w.drawn + 1 })
      (c := old.toArray ++ new'.toArray ++ Builtin.zeroCells z.cells (ncap - (n + m))) (e := elem) (fr := (0, 0)) (cs := storeN new cs (n * s)) (n := (n + m) * s) (s := s) rfl rfl rfl rfl
      (by rw [hcsz]; exact Nat.mul_le_mul_right s c1) (.zero _ _) (fun j u hu => by
        obtain ⟨p1, u', p2, p3, p4⟩ := cellsAfter (o3 := (Builtin.zeroCells z.cells (ncap - (n + m))).toList) hnew hone r3 (fun i u hi => by
          obtain ⟨p1, p2⟩ := hcs i u hi
          exact ⟨p1, r1 i u p1 p2⟩) hu
        have : new.length = m * s := by rw [hnew.length, hlen]
        exact ⟨by omega, u', by simpa using p2, p3, p4⟩)
    refine ⟨_, _, _, c2, ?_, q1, hstp.trans q2⟩
    rw [hnext]
    exact .slice st.next 0 (n + m) (n + m) false ⟨w.heap.size, 0, _, s⟩ ncap 0 (upd_same _ _ _) (Nat.le_refl _) c1 (fun h => by cases h) (by simp only [Nat.zero_add]; exact Nat.le_of_eq hcsz.symm) (fun _ => rfl)

end Go.Am
