/-
Operands, loads, stores, new variables: what the evaluator reckons is what the true operation does.
-/
import Derived.Test.YtdofpjabgnfglaaGreatDoorAm3
import Derived.Laws.Tables
set_option linter.unusedVariables false
set_option linter.unusedSectionVars false
set_option linter.unusedSimpArgs false
namespace Go.Am
open Go
variable [GT]

variable {P : Program} {G : Program} {X : Nat → Prop} {ι : Inj} {st : St} {w : World}

/-! ### Constants and operands -/

mutual
theorem ofVal_rel (ι : Inj) : ∀ (v : Value) (u : V), ofVal v = some u → VRel ι u v
  | .bool b, u, h => by simp only [ofVal, Option.some.injEq] at h; subst h; exact .bool b
  | .int k n, u, h => by simp only [ofVal, Option.some.injEq] at h; subst h; exact .int k n
  | .string s, u, h => by simp only [ofVal, Option.some.injEq] at h; subst h; exact .str _ _ s rfl rfl
  | .pointer none, u, h => by simp only [ofVal, Option.some.injEq] at h; subst h; exact .pnil
  | .pointer (some _), u, h => by simp [ofVal] at h
  | .slice none 0 0, u, h => by simp only [ofVal, Option.some.injEq] at h; subst h; exact .snil
  | .slice none 0 (_ + 1), u, h => by simp [ofVal] at h
  | .slice none (_ + 1) _, u, h => by simp [ofVal] at h
  | .slice (some _) _ _, u, h => by simp [ofVal] at h
  | .map none, u, h => by simp only [ofVal, Option.some.injEq] at h; subst h; exact .mnil
  | .map (some _), u, h => by simp [ofVal] at h
  | .nilFunc, u, h => by simp only [ofVal, Option.some.injEq] at h; subst h; exact .fnil
  | .nilIface, u, h => by simp only [ofVal, Option.some.injEq] at h; subst h; exact .inil
  | .agg ⟨cs⟩, u, h => by
    simp only [ofVal] at h
    cases hc : ofCells cs with
    | none => simp [hc] at h
    | some l =>
      simp only [hc, Option.some.injEq] at h
      subst h
      obtain ⟨h1, h2⟩ := ofCells_rel ι cs l hc
      exact .agg _ _ h1 h2
  | .tuple ⟨[]⟩, u, h => by simp only [ofVal, Option.some.injEq] at h; subst h; exact .tup _ _ .nil
  | .tuple ⟨_ :: _⟩, u, h => by simp [ofVal] at h
  | .float _ _, u, h => by simp [ofVal] at h
  | .complex _ _ _, u, h => by simp [ofVal] at h
  | .chan _, u, h => by simp [ofVal] at h
  | .func _ _ _, u, h => by simp [ofVal] at h
  | .iface _ _, u, h => by simp [ofVal] at h
theorem ofCells_rel (ι : Inj) : ∀ (v : List Value) (u : List V), ofCells v = some u → VsRel ι u v ∧ ∀ x ∈ v, x.oneCell' = true
  | [], u, h => by simp only [ofCells, Option.some.injEq] at h; subst h; exact ⟨.nil, by simp⟩
  | v :: r, u, h => by
    have hv : v.oneCell' = true ∧ ∃ a l, ofVal v = some a ∧ ofCells r = some l ∧ u = a :: l := by
      cases v <;> simp only [ofCells] at h <;>
        first
          | (simp at h; done)
          | (refine ⟨rfl, ?_⟩
             revert h
             generalize ofVal _ = q1
             generalize ofCells _ = q2
             intro h
             cases q1 <;> cases q2 <;> simp at h
             exact ⟨_, _, rfl, rfl, h.symm⟩)
    obtain ⟨h1, a, l, h2, h3, rfl⟩ := hv
    obtain ⟨h4, h5⟩ := ofCells_rel ι r l h3
    exact ⟨.cons _ _ _ _ (ofVal_rel ι v a h2) h4, fun x hx => by
      rcases List.mem_cons.1 hx with e | e
      · exact e ▸ h1
      · exact h5 x e⟩
end

theorem TRel.put {ι : Inj} {T : Tm} {a : Act} {d : Option Nat} {v : V} {v' : Value} (h : TRel ι T a.tmps) (hd : ∀ x, d = some x → x < a.tmps.size) (hv : VRel ι v v') :
    TRel ι (putT T d v) (a.put d v').tmps := by
  cases d with
  | none => exact h
  | some d =>
    intro t u ht
    have ht' : (T.set d v).get t = some u := ht
    rw [PT.get_set] at ht'
    have hlt := hd d rfl
    show t < (a.tmps.setIfInBounds d v').size ∧ VRel ι u ((a.tmps.setIfInBounds d v').getD t undef)
    rw [Array.size_setIfInBounds]
    by_cases e : d = t
    · subst e
      rw [if_pos rfl] at ht'
      cases ht'
      refine ⟨hlt, ?_⟩
      simp [Array.getD, hlt, hv]
    · rw [if_neg e] at ht'
      obtain ⟨h1, h2⟩ := h t u ht'
      refine ⟨h1, ?_⟩
      rw [Array.getD_eq_getD_getElem?] at h2 ⊢
      rw [Array.getElem?_setIfInBounds_ne (by omega)]
      exact h2

theorem put_size (a : Act) (d : Option Nat) (v : Value) : (a.put d v).tmps.size = a.tmps.size := by
  cases d with
  | none => rfl
  | some d => exact Array.size_setIfInBounds

theorem put_defers (a : Act) (d : Option Nat) (v : Value) : (a.put d v).defers = a.defers := by
  cases d <;> rfl

theorem cOpd_rel (hg : ∀ g, g < P.globals.size → ∃ l, ι g = some l ∧ l.blk = g ∧ l.base = 0) {a : Act} {T : Tm} (ht : TRel ι T a.tmps) {x : Operand} {y : Opd} (hc : cOpd P x = some y) {v : V}
    (he : ev T y = some v) : VRel ι v (a.eval x) := by
  cases x with
  | tmp t => simp only [cOpd, Option.some.injEq] at hc; subst hc; exact (ht t v he).2
  | const c =>
    simp only [cOpd] at hc
    cases hv : ofVal c with
    | none => simp [hv] at hc
    | some u =>
      simp only [hv, Option.some.injEq] at hc
      subst hc
      have h9 : some u = some v := he
      injection h9 with h9
      rw [← h9]
      exact ofVal_rel ι c u hv
  | global g =>
    simp only [cOpd, whn_some, Option.some.injEq] at hc
    obtain ⟨h1, rfl⟩ := hc
    have : some (V.ptr g 0) = some v := he
    cases this
    obtain ⟨l, h2, h3, h4⟩ := hg g (by simpa [Nat.blt_eq] using h1)
    have := VRel.ptr g 0 l h2
    rw [h3, h4] at this
    exact this
  | func f =>
    simp only [cOpd, Option.some.injEq] at hc
    subst hc
    have : some (V.fn f []) = some v := he
    cases this
    exact .fn f [] #[] .nil

theorem cOpds_rel (hg : ∀ g, g < P.globals.size → ∃ l, ι g = some l ∧ l.blk = g ∧ l.base = 0) {a : Act} {T : Tm} (ht : TRel ι T a.tmps) : ∀ {x : List Operand} {y : List Opd}, cOpds P x = some y → ∀ {v : List V},
    evs T y = some v → VsRel ι v (x.map a.eval)
  | [], y, hc, v, he => by
    simp only [cOpds, Option.some.injEq] at hc; subst hc
    have : some [] = some v := he
    cases this; exact .nil
  | x :: r, y, hc, v, he => by
    simp only [cOpds] at hc
    cases h1 : cOpd P x with
    | none => simp [h1] at hc
    | some p => cases h2 : cOpds P r with
      | none => simp [h1, h2] at hc
      | some q =>
        simp only [h1, h2, Option.some.injEq] at hc
        subst hc
        have he' : ob (ev T p) (fun a => ob (evs T q) fun l => some (a :: l)) = some v := he
        obtain ⟨u, g1, g2⟩ := ob_some.1 he'
        obtain ⟨us, g3, g4⟩ := ob_some.1 g2
        cases g4
        exact .cons _ _ _ _ (cOpd_rel hg ht h1 g1) (cOpds_rel hg ht h2 g3)

theorem vcells_rel {v : V} {v' : Value} {z : List V} (h : VRel ι v v') (hz : vcells v = some z) : VsRel ι z v'.cells.toList ∧ ∀ x ∈ v'.cells.toList, x.oneCell' = true := by
  cases h with
  | agg cs c h h1 => simp only [vcells, Option.some.injEq] at hz; subst hz; exact ⟨h, h1⟩
  | tup vs c h => simp [vcells] at hz
  | bool b => simp only [vcells, Option.some.injEq] at hz; subst hz; exact ⟨.cons _ _ _ _ (.bool b) .nil, by simp [Value.cells, Value.oneCell']⟩
  | int k n => simp only [vcells, Option.some.injEq] at hz; subst hz; exact ⟨.cons _ _ _ _ (.int k n) .nil, by simp [Value.cells, Value.oneCell']⟩
  | str n s bs hn hs => simp only [vcells, Option.some.injEq] at hz; subst hz; exact ⟨.cons _ _ _ _ (.str n s bs hn hs) .nil, by simp [Value.cells, Value.oneCell']⟩
  | pnil => simp only [vcells, Option.some.injEq] at hz; subst hz; exact ⟨.cons _ _ _ _ .pnil .nil, by simp [Value.cells, Value.oneCell']⟩
  | ptr b o l h => simp only [vcells, Option.some.injEq] at hz; subst hz; exact ⟨.cons _ _ _ _ (.ptr b o l h) .nil, by simp [Value.cells, Value.oneCell']⟩
  | snil => simp only [vcells, Option.some.injEq] at hz; subst hz; exact ⟨.cons _ _ _ _ .snil .nil, by simp [Value.cells, Value.oneCell']⟩
  | slice b o n c ex l cap off h hn hc he hs ho => simp only [vcells, Option.some.injEq] at hz; subst hz; exact ⟨.cons _ _ _ _ (.slice b o n c ex l cap off h hn hc he hs ho) .nil, by simp [Value.cells, Value.oneCell']⟩
  | mnil => simp only [vcells, Option.some.injEq] at hz; subst hz; exact ⟨.cons _ _ _ _ .mnil .nil, by simp [Value.cells, Value.oneCell']⟩
  | map r l h => simp only [vcells, Option.some.injEq] at hz; subst hz; exact ⟨.cons _ _ _ _ (.map r l h) .nil, by simp [Value.cells, Value.oneCell']⟩
  | fnil => simp only [vcells, Option.some.injEq] at hz; subst hz; exact ⟨.cons _ _ _ _ .fnil .nil, by simp [Value.cells, Value.oneCell']⟩
  | fn f cap c h => simp only [vcells, Option.some.injEq] at hz; subst hz; exact ⟨.cons _ _ _ _ (.fn f cap c h) .nil, by simp [Value.cells, Value.oneCell']⟩
  | inil => simp only [vcells, Option.some.injEq] at hz; subst hz; exact ⟨.cons _ _ _ _ .inil .nil, by simp [Value.cells, Value.oneCell']⟩
  | iface t v v' h => simp only [vcells, Option.some.injEq] at hz; subst hz; exact ⟨.cons _ _ _ _ (.iface t v v' h) .nil, by simp [Value.cells, Value.oneCell']⟩
  | yld b l h => simp only [vcells, Option.some.injEq] at hz; subst hz; exact ⟨.cons _ _ _ _ (.yld b l h) .nil, by simp [Value.cells, Value.oneCell']⟩

/-! ### Types -/

theorem isAgg_run {t : Nat} {d : TypeDesc} (h : P.underlying t = some d) (w : World) : (isAgg t).run P w = .ok (isAggD d) w := by
  unfold isAgg
  rw [Sem.run_bind, run_underlying h]
  cases d <;> rfl

theorem info_run {t : Nat} {i : TypeInfo} (h : P.info? t = some i) (w : World) : (typeInfo t).run P w = .ok i w := by
  simp [typeInfo, h]

theorem size?_info {t n : Nat} (h : size? P t = some n) : ∃ i, P.info? t = some i ∧ i.size = n := by
  unfold size? at h
  cases hi : P.info? t with
  | none => simp [hi] at h
  | some i => simp [hi] at h; exact ⟨i, rfl, h⟩

theorem bytes?_info {t n : Nat} (h : bytes? P t = some n) : ∃ i, P.info? t = some i ∧ i.bytes = n := by
  unfold bytes? at h
  cases hi : P.info? t with
  | none => simp [hi] at h
  | some i => simp [hi] at h; exact ⟨i, rfl, h⟩

theorem sizeOf_run {t n : Nat} (h : size? P t = some n) (w : World) : (sizeOf t).run P w = .ok n w := by
  obtain ⟨i, h1, h2⟩ := size?_info h
  simp [sizeOf, info_run h1, h2]

theorem zero_run {t : Nat} {z : Value} (h : zero? P t = some z) (w : World) : (zeroValue t).run P w = .ok z w := by
  unfold zero? at h
  cases hi : P.info? t with
  | none => simp [hi] at h
  | some i =>
    simp [hi] at h
    simp [zeroValue, info_run hi, h]

theorem zeroC_rel (ι : Inj) {t : Nat} {z : List V} (h : zeroC? P t = some z) : ∃ zv, zero? P t = some zv ∧ VsRel ι z zv.cells.toList ∧ ∀ x ∈ zv.cells.toList, x.oneCell' = true := by
  unfold zeroC? at h
  cases hz : zero? P t with
  | none => simp [hz] at h
  | some zv =>
    simp only [hz] at h
    cases hv : ofVal zv with
    | none => simp [hv] at h
    | some u =>
      simp only [hv] at h
      exact ⟨zv, rfl, vcells_rel (ofVal_rel ι zv u hv) h⟩

theorem zeroV_rel (ι : Inj) {t : Nat} {z : V} (h : zeroV? P t = some z) : ∃ zv, zero? P t = some zv ∧ VRel ι z zv := by
  unfold zeroV? at h
  cases hz : zero? P t with
  | none => simp [hz] at h
  | some zv => simp only [hz] at h; exact ⟨zv, rfl, ofVal_rel ι zv z h⟩

/-! ### Cells -/

theorem CellsRel.cell {l : Loc} {cs : PT V} {n : Nat} (h : CellsRel ι w l cs n) {i : Nat} {v : V} (hv : cs.get i = some v) :
    ∃ v', w.cell? ⟨l.blk, l.base + i, none⟩ = some v' ∧ VRel ι v v' ∧ v'.oneCell' = true := by
  obtain ⟨c, e, fr, h1, h2, h3, h4, h5⟩ := h
  obtain ⟨_, v', g1, g2, g3⟩ := h5 i v hv
  exact ⟨v', by simp [World.cell?, h1, g1], g2, g3⟩

theorem CellsRel.rd {l : Loc} {cs : PT V} {n : Nat} (h : CellsRel ι w l cs n) : CellsRd ι w l cs := fun i v hv => h.cell hv

theorem CellsRel.there {l : Loc} {cs : PT V} {n : Nat} (h : CellsRel ι w l cs n) {i : Nat} (hi : i < l.size) :
    (w.cell? ⟨l.blk, i, none⟩).isSome = true ∧ w.frozen? ⟨l.blk, i, none⟩ = false := by
  obtain ⟨c, e, fr, h1, h2, h3, h4, h5⟩ := h
  refine ⟨by simp [World.cell?, h1, h2, hi], ?_⟩
  have := h3.not hi
  simp only [World.frozen?, h1]
  simp
  omega

theorem getCells_some {b : Nat} {q : PT V × Nat × Nat} (h : getCells st b = some q) : st.heap.get b = some (.cells q.1 q.2.1 q.2.2) := by
  obtain ⟨o, h1, h2⟩ := ob_some.1 h
  cases o with
  | cells cs n e => simp only [asCells, Option.some.injEq] at h2; subst h2; exact h1
  | map es => simp [asCells] at h2
  | dead => simp [asCells] at h2
  | lrec ps a c T => simp [asCells] at h2

theorem getMap_some {b : Nat} {q : List (V × V)} (h : getMap st b = some q) : st.heap.get b = some (.map q) := by
  obtain ⟨o, h1, h2⟩ := ob_some.1 h
  cases o with
  | map es => simp only [asMap, Option.some.injEq] at h2; subst h2; exact h1
  | cells cs n e => simp [asMap] at h2
  | dead => simp [asMap] at h2
  | lrec ps a c T => simp [asMap] at h2

theorem HRel.cells (h : HRel G X ι st w) {b : Nat} {q : PT V × Nat × Nat} (hq : getCells st b = some q) : ∃ l, ι b = some l ∧ l.esz = q.2.2 ∧ CellsRel ι w l q.1 q.2.1 :=
  h.obj b _ (getCells_some hq)

theorem HRel.rd (h : HRel G X ι st w) {b : Nat} {q : PT V × Nat × Nat} (hq : rdCells st b = some q) : ∃ l, ι b = some l ∧ CellsRd ι w l q.1 := by
  obtain ⟨o, h1, h2⟩ := ob_some.1 hq
  cases hs : st.heap.get b with
  | some o' =>
    have hg : getCells st b = some q := by
      rw [hs, oc_some] at h1; cases h1
      exact ob_some.2 ⟨o, hs, h2⟩
    obtain ⟨l, k1, _, k3⟩ := h.cells hg
    exact ⟨l, k1, k3.rd⟩
  | none =>
    rw [hs, oc_none] at h1
    cases o with
    | cells cs n e =>
      cases h2
      obtain ⟨l, k1, k2, _⟩ := (h.glo b _ h1 trivial).1
      exact ⟨l, k1, k2⟩
    | _ => cases h2

theorem addr_add (b o j : Nat) : (⟨b, o, none⟩ : Addr).add j = ⟨b, o + j, none⟩ := by
  unfold Addr.add; split <;> simp_all

theorem loadRd_run {l : Loc} {cs : PT V} {n o : Nat} (h : CellsRd ι w l cs) {z : List V} (hz : loadN cs n o = some z) :
    ∃ z', (loadCells ⟨l.blk, l.base + o, none⟩ n).run P w = .ok z'.toArray w ∧ VsRel ι z z' ∧ (∀ x ∈ z', x.oneCell' = true) ∧ z'.length = n ∧
      ∀ j v, z'[j]? = some v → w.cell? ⟨l.blk, l.base + o + j, none⟩ = some v := by
  obtain ⟨h1, h2⟩ := loadN_some cs n o z hz
  have key : ∀ j, j < n → ∃ v', w.cell? ⟨l.blk, l.base + (o + j), none⟩ = some v' ∧ (∀ v, z[j]? = some v → VRel ι v v') ∧ v'.oneCell' = true := fun j hj => by
    have hj' : j < z.length := by omega
    obtain ⟨v', g1, g2, g3⟩ := h _ _ (h2 j z[j] (by simp [hj']))
    exact ⟨v', g1, fun v hv => by simp [hj'] at hv; exact hv ▸ g2, g3⟩
  let f : Nat → Value := fun j => (w.cell? ⟨l.blk, l.base + (o + j), none⟩).getD undef
  have hf : ∀ j, j < n → w.cell? ⟨l.blk, l.base + (o + j), none⟩ = some (f j) := fun j hj => by
    obtain ⟨v', g1, _⟩ := key j hj
    simp [f, g1]
  refine ⟨(List.range n).map f, ?_, ?_, ?_, by simp, ?_⟩
  · exact run_loadCells w _ n f (fun j hj => by rw [addr_add, Nat.add_assoc]; exact hf j hj)
  · refine VsRel.of_get (by simp [h1]) (fun j v v' g1 g2 => ?_)
    have hj : j < n := by
      have := (List.getElem?_eq_some_iff.1 g1).1; omega
    obtain ⟨u, k1, k2, _⟩ := key j hj
    have : v' = f j := by simp [hj] at g2; exact g2.symm
    rw [this]
    have : f j = u := by have := hf j hj; rw [k1] at this; exact (Option.some.inj this).symm
    rw [this]; exact k2 v g1
  · intro x hx
    obtain ⟨j, hj, rfl⟩ := List.mem_map.1 hx
    have hj := List.mem_range.1 hj
    obtain ⟨u, k1, _, k3⟩ := key j hj
    have : f j = u := by have := hf j hj; rw [k1] at this; exact (Option.some.inj this).symm
    rw [this]; exact k3
  · intro j v hv
    have hj : j < n := by
      have := (List.getElem?_eq_some_iff.1 hv).1; simpa using this
    have : v = f j := by simp [hj] at hv; exact hv.symm
    rw [this, Nat.add_assoc]; exact hf j hj

/-! ### Cells that are set -/

theorem loadN_run {l : Loc} {cs : PT V} {N n o : Nat} (h : CellsRel ι w l cs N) {z : List V} (hz : loadN cs n o = some z) :
    ∃ z', (loadCells ⟨l.blk, l.base + o, none⟩ n).run P w = .ok z'.toArray w ∧ VsRel ι z z' ∧ (∀ x ∈ z', x.oneCell' = true) ∧ z'.length = n ∧
      ∀ j v, z'[j]? = some v → w.cell? ⟨l.blk, l.base + o + j, none⟩ = some v := loadRd_run h.rd hz

theorem setCells_world (b : Nat) : ∀ (vs : List Value) (o : Nat) (w : World), (w.setCells b o vs).heap.size = w.heap.size ∧ (w.setCells b o vs).tape = w.tape ∧ (w.setCells b o vs).os = w.os ∧ (w.setCells b o vs).output = w.output ∧
    (w.setCells b o vs).drawn = w.drawn ∧ ∀ B, B ≠ b → (w.setCells b o vs).heap[B]? = w.heap[B]?
  | [], o, w => ⟨rfl, rfl, rfl, rfl, rfl, fun _ _ => rfl⟩
  | v :: r, o, w => by
    obtain ⟨h1, h2, h3, h4, h5, h6⟩ := setCells_world b r (o + 1) (w.setCell ⟨b, o, none⟩ v)
    refine ⟨h1.trans (by simp [World.setCell]), h2, h3, h4, h5, fun B hB => (h6 B hB).trans ?_⟩
    simp [World.setCell, Array.getElem?_modify, Ne.symm hB]

theorem setCells_block (b : Nat) : ∀ (vs : List Value) (o : Nat) (w : World) (c : Array Value) (e : TypeId) (fr : Nat × Nat), w.heap[b]? = some (.cells c e fr) →
    ∃ c', (w.setCells b o vs).heap[b]? = some (.cells c' e fr) ∧ c'.size = c.size ∧ ∀ i, i < c.size → c'[i]? = if o ≤ i ∧ i < o + vs.length then vs[i - o]? else c[i]?
  | [], o, w, c, e, fr, h => ⟨c, h, rfl, fun i hi => by
      have : ¬ (o ≤ i ∧ i < o + ([] : List Value).length) := by simp
      rw [if_neg this]⟩
  | v :: r, o, w, c, e, fr, h => by
    have h0 : (w.setCell ⟨b, o, none⟩ v).heap[b]? = some (.cells (c.setIfInBounds o v) e fr) := by
      simp [World.setCell, Array.getElem?_modify, h]
    obtain ⟨c', h1, h2, h3⟩ := setCells_block b r (o + 1) _ _ e fr h0
    refine ⟨c', h1, by simpa using h2, fun i hi => ?_⟩
    rw [h3 i (by simpa using hi)]
    by_cases e1 : i = o
    · subst e1
      rw [if_neg (by omega), if_pos (by simp)]
      simp [hi]
    · by_cases e2 : o + 1 ≤ i ∧ i < o + 1 + r.length
      · rw [if_pos e2, if_pos (by simp; omega)]
        have : i - o = (i - (o + 1)) + 1 := by omega
        rw [this]; simp
      · rw [if_neg e2, if_neg (by simp; omega)]
        simp [Array.getElem?_setIfInBounds, Ne.symm e1]

/-- Cells of a row are set, here and there. -/
theorem HRel.setCells (h : HRel G X ι st w) {b o : Nat} {q : PT V × Nat × Nat} (hq : getCells st b = some q) {l : Loc} (hl : ι b = some l) {z : List V} {z' : List Value} (hz : VsRel ι z z')
    (h1 : ∀ x ∈ z', x.oneCell' = true) (ho : o + z.length ≤ q.2.1) :
    ((storeCells ⟨l.blk, l.base + o, none⟩ z' 0).run P w = .ok () (w.setCells l.blk (l.base + o) z')) ∧
    HRel G X ι (st.put b (.cells (storeN z q.1 o) q.2.1 q.2.2)) (w.setCells l.blk (l.base + o) z') ∧
    Stp ι st w ι (st.put b (.cells (storeN z q.1 o) q.2.1 q.2.2)) (w.setCells l.blk (l.base + o) z') := by
  obtain ⟨l2, k1, k2, k3⟩ := h.cells hq
  rw [hl] at k1; cases k1
  have k3' := k3
  obtain ⟨c, e, fr, g1, g2, g3, g4, g5⟩ := k3
  have hlen := hz.length
  obtain ⟨s1, s2, s3, s4, s5, s6⟩ := setCells_world l.blk z' (l.base + o) w
  obtain ⟨c', t1, t2, t3⟩ := setCells_block l.blk z' (l.base + o) w c e fr g1
  refine ⟨?_, h.put (getCells_some hq) trivial hl s1 s6 s2 s3 s4 ⟨l, hl, k2, c', e, fr, t1, by omega, g3, g4, fun i v hv => ?_⟩⟩
  · have := run_storeCells_cells (P := P) l.blk (l.base + o) z' 0 w (fun j hj => (k3'.there (by omega)).1) (fun j hj => (k3'.there (by omega)).2) h1
    simpa using this
  · rw [storeN_get] at hv
    split at hv
    · rename_i hc
      obtain ⟨v', m1, m2⟩ := hz.get hv
      refine ⟨by omega, v', ?_, m2, h1 v' (List.mem_of_getElem? m1)⟩
      rw [t3 _ (by omega), if_pos (by omega), show l.base + i - (l.base + o) = i - o by omega]
      exact m1
    · rename_i hc
      obtain ⟨m0, v', m1, m2, m3⟩ := g5 i v hv
      refine ⟨m0, v', ?_, m2, m3⟩
      rw [t3 _ (by omega), if_neg (by omega)]
      exact m1

end Go.Am
