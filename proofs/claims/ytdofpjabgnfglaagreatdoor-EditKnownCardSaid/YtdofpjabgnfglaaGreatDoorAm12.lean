/-
What is built out of parts; lengths; then any operation but a call.
-/
import Derived.Test.YtdofpjabgnfglaaGreatDoorAm11
set_option linter.unusedVariables false
set_option linter.unusedSectionVars false
set_option linter.unusedSimpArgs false
namespace Go.Am
open Go
variable [GT]

variable {P : Program} {G : Program} {X : Nat → Prop} {ι : Inj} {st st' : St} {w : World} {v : V}

/-! ### Parts -/

theorem setFold (off : Nat) : ∀ (l : List Value) (k : Nat) (cells : Array Value), off + k + l.length ≤ cells.size →
    ((l.zipIdx k).foldl (fun (cs : Array Value) (x : Value × Nat) => cs.setIfInBounds (off + x.2) x.1) cells).size = cells.size ∧
    ∀ i, ((l.zipIdx k).foldl (fun (cs : Array Value) (x : Value × Nat) => cs.setIfInBounds (off + x.2) x.1) cells)[i]? = if off + k ≤ i ∧ i < off + k + l.length then l[i - (off + k)]? else cells[i]?
  | [], k, cells, h => ⟨rfl, fun i => by
      have : ¬ (off + k ≤ i ∧ i < off + k + ([] : List Value).length) := by simp
      rw [if_neg this]; rfl⟩
  | v :: l, k, cells, h => by
    simp only [List.length_cons] at h
    obtain ⟨h1, h2⟩ := setFold off l (k + 1) (cells.setIfInBounds (off + k) v) (by rw [Array.size_setIfInBounds]; omega)
    simp only [List.zipIdx_cons, List.foldl_cons]
    refine ⟨by rw [h1, Array.size_setIfInBounds], fun i => ?_⟩
    rw [h2 i]
    by_cases e1 : i = off + k
    · subst e1
      rw [if_neg (by omega), if_pos (by simp)]
      have : off + k < cells.size := by omega
      simp [this]
    · by_cases e2 : off + (k + 1) ≤ i ∧ i < off + (k + 1) + l.length
      · rw [if_pos e2, if_pos (by simp; omega)]
        have : i - (off + k) = (i - (off + (k + 1))) + 1 := by omega
        rw [this]; simp
      · rw [if_neg e2, if_neg (by simp; omega), Array.getElem?_setIfInBounds_ne (by omega)]

/-- what is known of a row that is being built -/
def RowRel (ι : Inj) (cs : PT V) (cells : Array Value) : Prop := ∀ j u, cs.get j = some u → j < cells.size ∧ ∃ u', cells[j]? = some u' ∧ VRel ι u u' ∧ u'.oneCell' = true

theorem fill_rel {T : Tm} (place : Nat → Option (Nat × Nat)) (lim : Nat) (ρ : Operand → Value) : ∀ (ps : List (Nat × Operand)) (l : List (Nat × Nat × Opd)) (cs cs2 : PT V) (cells : Array Value),
    ps.length = l.length → (∀ (n : Nat) (i : Nat) (x : Operand) (o s : Nat) (y : Opd), ps[n]? = some (i, x) → l[n]? = some (o, s, y) → place i = some (o, s) ∧ ∀ u, ev T y = some u → VRel ι u (ρ x)) →
    cells.size = lim → RowRel ι cs cells → fillV T lim l cs = some cs2 → ∃ cells2, Instr.fill place cells (ps.map fun (i, x) => (i, ρ x)) = some cells2 ∧ cells2.size = lim ∧ RowRel ι cs2 cells2
  | [], [], cs, cs2, cells, _, _, hsz, hr, hf => by
    have h' : some cs = some cs2 := hf
    cases h'
    exact ⟨cells, rfl, hsz, hr⟩
  | (i, x) :: ps, (o, s, y) :: l, cs, cs2, cells, hlen, hp, hsz, hr, hf => by
    have hf' : ob (ev T y) (fun v => ob (vcells v) fun z => whn (Nat.beq (lenL z) s) (whn (Nat.ble (Nat.add o s) lim) (fillV T lim l (storeN z cs o)))) = some cs2 := hf
    obtain ⟨u, h1, hf'⟩ := ob_some.1 hf'
    obtain ⟨z, h2, hf'⟩ := ob_some.1 hf'
    obtain ⟨h3, hf'⟩ := whn_some.1 hf'
    obtain ⟨h4, hf'⟩ := whn_some.1 hf'
    have h3 := Nat.eq_of_beq_eq_true h3
    rw [lenL_eq] at h3
    have h4 : o + s ≤ lim := Nat.le_of_ble_eq_true h4
    obtain ⟨g1, g2⟩ := hp 0 i x o s y (by simp) (by simp)
    obtain ⟨z1, z2⟩ := vcells_rel (g2 u h1) h2
    have hcl : (ρ x).cells.size = s := by rw [← Array.length_toList, ← z1.length, h3]
    have hfold : (ρ x).cells.zipIdx.foldl (fun (cs : Array Value) (x : Value × Nat) => cs.setIfInBounds (o + x.2) x.1) cells = ((ρ x).cells.toList.zipIdx 0).foldl (fun (cs : Array Value) (x : Value × Nat) => cs.setIfInBounds (o + x.2) x.1) cells := by
      rw [← Array.foldl_toList, Array.toList_zipIdx]
    obtain ⟨f1, f2⟩ := setFold o (ρ x).cells.toList 0 cells (by rw [Array.length_toList, hcl, hsz]; omega)
    rw [← hfold] at f1 f2
    obtain ⟨cells2, q1, q2, q3⟩ := fill_rel place lim ρ ps l (storeN z cs o) cs2 ((ρ x).cells.zipIdx.foldl (fun (cs : Array Value) (x : Value × Nat) => cs.setIfInBounds (o + x.2) x.1) cells)
      (by simpa using hlen) (fun n i x o s y a b => hp (n + 1) i x o s y (by simpa using a) (by simpa using b)) (by rw [f1, hsz]) (fun j u hu => by
        rw [storeN_get] at hu
        split at hu
        · rename_i hc
          obtain ⟨u', p1, p2⟩ := z1.get hu
          refine ⟨by rw [f1]; omega, u', ?_, p2, z2 u' (List.mem_of_getElem? p1)⟩
          rw [f2, if_pos (by rw [Array.length_toList, hcl]; omega)]
          simpa using p1
        · rename_i hc
          obtain ⟨p0, u', p1, p2⟩ := hr j u hu
          refine ⟨by rw [f1]; exact p0, u', ?_, p2⟩
          rw [f2, if_neg (by rw [Array.length_toList, hcl]; omega)]
          exact p1) hf'
    refine ⟨cells2, ?_, q2, q3⟩
    have hne : ¬ ((ρ x).cells.size ≠ s || o + (ρ x).cells.size > cells.size) = true := by
      rw [hcl, hsz]; simp; omega
    simp only [List.map_cons, Instr.fill, g1]
    rw [if_neg hne]
    exact q1
  | [], _ :: _, _, _, _, hlen, _, _, _, _ => by simp at hlen
  | _ :: _, [], _, _, _, hlen, _, _, _, _ => by simp at hlen

theorem row_all {cs : PT V} {cells : Array Value} (hr : RowRel ι cs cells) {z : List V} (hz : loadN cs cells.size 0 = some z) : VsRel ι z cells.toList ∧ ∀ x ∈ cells.toList, x.oneCell' = true := by
  obtain ⟨h1, h2⟩ := loadN_some _ _ _ _ hz
  have key : ∀ (i : Nat) (u' : Value), cells.toList[i]? = some u' → ∃ u, z[i]? = some u ∧ VRel ι u u' ∧ u'.oneCell' = true := by
    intro i u' hu
    have hi : i < cells.size := by
      have := (List.getElem?_eq_some_iff.1 hu).1; simpa using this
    obtain ⟨_, q, p1, p2, p3⟩ := hr i z[i] (by have := h2 i z[i] (by simp [h1, hi]); simpa using this)
    have : cells.toList[i]? = some q := by simpa using p1
    rw [hu] at this
    cases this
    exact ⟨z[i], by simp [h1, hi], p2, p3⟩
  refine ⟨VsRel.of_get (by rw [h1, Array.length_toList]) (fun i u u' a b => ?_), fun x hx => ?_⟩
  · obtain ⟨q, p1, p2, _⟩ := key i u' b
    rw [a] at p1; cases p1; exact p2
  · obtain ⟨i, hi⟩ := List.getElem?_of_mem hx
    exact (key i x hi).choose_spec.2.2

theorem rowOf_row {z : List V} {c : Array Value} (hz : VsRel ι z c.toList) (h1 : ∀ x ∈ c.toList, x.oneCell' = true) : RowRel ι (rowOf z) c := fun j u hu => by
  obtain ⟨p1, u', p2, p3, p4⟩ := rowOf_rel hz h1 hu
  exact ⟨by rw [hz.length, Array.length_toList] at p1; exact p1, u', by simpa using p2, p3, p4⟩

theorem cParts_get {fs : Array Field} : ∀ (ps : List (Nat × Operand)) (l : List (Nat × Nat × Opd)), cParts P fs ps = some l → ps.length = l.length ∧
    ∀ (n : Nat) (i : Nat) (x : Operand) (o s : Nat) (y : Opd), ps[n]? = some (i, x) → l[n]? = some (o, s, y) → (∃ f, fs[i]? = some f ∧ f.offset = o ∧ size? P f.type = some s) ∧ cOpd P x = some y
  | [], l, h => by simp only [cParts, Option.some.injEq] at h; subst h; simp
  | (i, x) :: ps, l, h => by
    simp only [cParts] at h
    cases h1 : fs[i]? with
    | none => simp [h1] at h
    | some f => cases h2 : size? P f.type with
      | none => simp [h1, h2] at h
      | some s => cases h3 : cOpd P x with
        | none => simp [h1, h2, h3] at h
        | some y => cases h4 : cParts P fs ps with
          | none => simp [h1, h2, h3, h4] at h
          | some l' =>
            simp only [h1, h2, h3, h4, Option.some.injEq] at h
            subst h
            obtain ⟨g1, g2⟩ := cParts_get ps l' h4
            refine ⟨by simp [g1], fun n i' x' o' s' y' a b => ?_⟩
            cases n with
            | zero => simp at a b; obtain ⟨rfl, rfl⟩ := a; obtain ⟨rfl, rfl, rfl⟩ := b; exact ⟨⟨f, h1, rfl, h2⟩, h3⟩
            | succ n => exact g2 n i' x' o' s' y' (by simpa using a) (by simpa using b)

theorem cElems_get {s0 : Nat} : ∀ (ps : List (Nat × Operand)) (l : List (Nat × Nat × Opd)), cElems P s0 ps = some l → ps.length = l.length ∧
    ∀ (n : Nat) (i : Nat) (x : Operand) (o s : Nat) (y : Opd), ps[n]? = some (i, x) → l[n]? = some (o, s, y) → (o = i * s0 ∧ s = s0) ∧ cOpd P x = some y
  | [], l, h => by simp only [cElems, Option.some.injEq] at h; subst h; simp
  | (i, x) :: ps, l, h => by
    simp only [cElems] at h
    cases h3 : cOpd P x with
    | none => simp [h3] at h
    | some y => cases h4 : cElems P s0 ps with
      | none => simp [h3, h4] at h
      | some l' =>
        simp only [h3, h4, Option.some.injEq] at h
        subst h
        obtain ⟨g1, g2⟩ := cElems_get ps l' h4
        refine ⟨by simp [g1], fun n i' x' o' s' y' a b => ?_⟩
        cases n with
        | zero => simp at a b; obtain ⟨rfl, rfl⟩ := a; obtain ⟨rfl, rfl, rfl⟩ := b; exact ⟨⟨rfl, rfl⟩, h3⟩
        | succ n => exact g2 n i' x' o' s' y' (by simpa using a) (by simpa using b)

theorem allSz_places (w : World) : ∀ (fs : List Field), allSz P fs = true → ∃ pl : List (Nat × Nat), (fs.mapM (fun f => (do pure (f.offset, ← sizeOf f.type) : Sem (Nat × Nat)))).run P w = .ok pl w ∧
    ∀ (i : Nat) (f : Field) (s : Nat), fs[i]? = some f → size? P f.type = some s → pl[i]? = some (f.offset, s)
  | [], _ => ⟨[], rfl, by simp⟩
  | f :: fs, h => by
    simp only [allSz] at h
    cases h1 : size? P f.type with
    | none => simp [h1] at h
    | some s =>
      simp only [h1] at h
      obtain ⟨pl, g1, g2⟩ := allSz_places w fs h
      refine ⟨(f.offset, s) :: pl, ?_, fun i f' s' a b => ?_⟩
      · simp only [List.mapM_cons, Sem.run_bind, sizeOf_run h1, Result.andThen_ok, Sem.run_pure, g1]
      · cases i with
        | zero => simp at a; subst a; rw [h1] at b; cases b; simp
        | succ i => simpa using g2 i f' s' (by simpa using a) b

theorem bld_struct (h : HRel G X ι st w) (hg : ∀ g, g < P.globals.size → ∃ l, ι g = some l ∧ l.blk = g ∧ l.base = 0) {ac : Act} {T : Tm} (ht : TRel ι T ac.tmps) {t : TypeId} {fs : Array Field} {z : List V} {ps : Array (Nat × Operand)} {l : List (Nat × Nat × Opd)}
    (hu : P.underlying t = some (.struct fs)) (hz : zeroC? P t = some z) (hc : cParts P fs ps.toList = some l) (ha : allSz P fs.toList = true) (hr : opBld T z l st = some (v, st')) :
    SOut P G X ι st w (Instr.build t (ps.map fun (i, x) => (i, ac.eval x))) v st' := by
  obtain ⟨cs, h1, hr⟩ := ob_some.1 hr
  obtain ⟨zl, h2, hr⟩ := ob_some.1 hr
  cases hr
  obtain ⟨zv, z1, z2, z3⟩ := zeroC_rel ι hz
  obtain ⟨c1, c2⟩ := cParts_get _ _ hc
  obtain ⟨pl, p1, p2⟩ := allSz_places (P := P) w fs.toList ha
  have hzl : z.length = zv.cells.size := by rw [z2.length, Array.length_toList]
  rw [lenL_eq] at h1 h2
  obtain ⟨cells, f1, f2, f3⟩ := fill_rel (ι := ι) (T := T) (fun i => pl.toArray[i]?) z.length ac.eval ps.toList l (rowOf z) cs zv.cells c1 (fun n i x o s y a b => by
    obtain ⟨⟨f, q1, q2, q3⟩, q4⟩ := c2 n i x o s y a b
    refine ⟨?_, fun u hu => cOpd_rel hg ht q4 hu⟩
    have := p2 i f s (by simpa using q1) q3
    rw [q2] at this
    simpa using this) hzl.symm (rowOf_row z2 z3) h1
  rw [← f2] at h2
  obtain ⟨r1, r2⟩ := row_all f3 h2
  refine .same h (v' := .agg cells) ?_ (.agg _ _ r1 r2)
  have hmap : (ps.map fun (x : Nat × Operand) => (x.1, ac.eval x.2)).toList = ps.toList.map fun (x : Nat × Operand) => (x.1, ac.eval x.2) := Array.toList_map
  simp only [Instr.build, Sem.run_bind, zero_run z1, run_underlying hu, Result.andThen_ok, Array.mapM_eq_mapM_toList, Sem.run_map, p1, hmap]
  have f1' : Instr.fill (fun x => pl.toArray[x]?) zv.cells (ps.toList.map fun (x : Nat × Operand) => (x.1, ac.eval x.2)) = some cells := f1
  rw [f1']
  rfl

theorem bld_array (h : HRel G X ι st w) (hg : ∀ g, g < P.globals.size → ∃ l, ι g = some l ∧ l.blk = g ∧ l.base = 0) {ac : Act} {T : Tm} (ht : TRel ι T ac.tmps) {t e : TypeId} {n s : Nat} {z : List V} {ps : Array (Nat × Operand)} {l : List (Nat × Nat × Opd)}
    (hu : P.underlying t = some (.array n e)) (hs : size? P e = some s) (hz : zeroC? P t = some z) (hc : cElems P s ps.toList = some l) (hr : opBld T z l st = some (v, st')) :
    SOut P G X ι st w (Instr.build t (ps.map fun (i, x) => (i, ac.eval x))) v st' := by
  obtain ⟨cs, h1, hr⟩ := ob_some.1 hr
  obtain ⟨zl, h2, hr⟩ := ob_some.1 hr
  cases hr
  obtain ⟨zv, z1, z2, z3⟩ := zeroC_rel ι hz
  obtain ⟨c1, c2⟩ := cElems_get _ _ hc
  have hzl : z.length = zv.cells.size := by rw [z2.length, Array.length_toList]
  rw [lenL_eq] at h1 h2
  obtain ⟨cells, f1, f2, f3⟩ := fill_rel (ι := ι) (T := T) (fun i => some (i * s, s)) z.length ac.eval ps.toList l (rowOf z) cs zv.cells c1 (fun n i x o s y a b => by
    obtain ⟨⟨rfl, rfl⟩, q4⟩ := c2 n i x o s y a b
    exact ⟨rfl, fun u hu => cOpd_rel hg ht q4 hu⟩) hzl.symm (rowOf_row z2 z3) h1
  rw [← f2] at h2
  obtain ⟨r1, r2⟩ := row_all f3 h2
  refine .same h (v' := .agg cells) ?_ (.agg _ _ r1 r2)
  have hmap : (ps.map fun (x : Nat × Operand) => (x.1, ac.eval x.2)).toList = ps.toList.map fun (x : Nat × Operand) => (x.1, ac.eval x.2) := Array.toList_map
  simp only [Instr.build, Sem.run_bind, zero_run z1, run_underlying hu, Result.andThen_ok, sizeOf_run hs, hmap]
  have f1' : Instr.fill (fun i => some (i * s, s)) zv.cells (ps.toList.map fun (x : Nat × Operand) => (x.1, ac.eval x.2)) = some cells := f1
  rw [f1']
  rfl

theorem bsl_out (h : HRel G X ι st w) (hX : ∀ b, X b → st'.next ≤ b) (hg : ∀ g, g < P.globals.size → ∃ l, ι g = some l ∧ l.blk = g ∧ l.base = 0) {ac : Act} {T : Tm} (ht : TRel ι T ac.tmps) {t e : TypeId} {n s : Nat} {z : List V} {ps : Array (Nat × Operand)} {l : List (Nat × Nat × Opd)}
    (hu : P.underlying t = some (.slice e)) (hs : size? P e = some s) (hz : zeroC? P e = some z) (hzl : z.length = s) (hsm : n * s ≤ 16777216) (hc : cElems P s ps.toList = some l) (hr : opBsl T z n s l st = some (v, st')) :
    SOut P G X ι st w (Instr.buildSlice t n (ps.map fun (i, x) => (i, ac.eval x))) v st' := by
  obtain ⟨cs, h1, hr⟩ := ob_some.1 hr
  cases hr
  have hX1 : ¬ X st.next := fun hx => by
    have h9 : st.next + 1 ≤ st.next := hX _ hx
    omega
  obtain ⟨zv, z1, z2, z3⟩ := zeroC_rel ι hz
  obtain ⟨c1, c2⟩ := cElems_get _ _ hc
  have hzs : zv.cells.size = s := by rw [← Array.length_toList, ← z2.length, hzl]
  obtain ⟨r1, r2⟩ := repV_rel z2 n
  rw [hzs] at r2
  obtain ⟨cells, f1, f2, f3⟩ := fill_rel (ι := ι) (T := T) (fun i => some (i * s, s)) (n * s) ac.eval ps.toList l (rowOf (repV z n)) cs (Builtin.zeroCells zv.cells n) c1 (fun n i x o s y a b => by
    obtain ⟨⟨rfl, rfl⟩, q4⟩ := c2 n i x o s y a b
    exact ⟨rfl, fun u hu => cOpd_rel hg ht q4 hu⟩) r2 (rowOf_row r1 (zeroCells_one z3 n)) h1
  obtain ⟨q1, q2⟩ := h.newRow hX1 (w' := { w with heap := w.heap.push (.cells cells e) }) (c := cells) (e := e) (fr := (0, 0)) (cs := cs) (n := n * s) (s := s) rfl rfl rfl rfl
    (by omega) (.zero _ _) (fun j u hu => by
      obtain ⟨p1, p2⟩ := f3 j u hu
      exact ⟨by omega, p2⟩)
  refine ⟨_, _, _, ?_, .slice st.next 0 n n true ⟨w.heap.size, 0, cells.size, s⟩ n 0 (upd_same _ _ _) (Nat.le_refl _) (Nat.le_refl _) (fun _ => rfl) (by show 0 + 0 + n * s ≤ cells.size; omega) (fun _ => rfl), q1, q2⟩
  have hmap : (ps.map fun (x : Nat × Operand) => (x.1, ac.eval x.2)).toList = ps.toList.map fun (x : Nat × Operand) => (x.1, ac.eval x.2) := Array.toList_map
  have f1' : Instr.fill (fun i => some (i * s, s)) (Builtin.zeroCells zv.cells n) (ps.toList.map fun (x : Nat × Operand) => (x.1, ac.eval x.2)) = some cells := f1
  have hns : ¬ (n * s > 2 ^ 24) := by
    have : (2 : Nat) ^ 24 = 16777216 := by decide
    rw [this]; omega
  simp only [Instr.buildSlice, Sem.run_bind, run_underlying hu, Result.andThen_ok, sizeOf_run hs, Sem.run_ite, hns, if_false, hmap]
  by_cases h0 : n * s = 0
  · have hz0 : Builtin.zeroCells zv.cells n = #[] := by
      apply Array.eq_empty_of_size_eq_zero; rw [r2]; exact h0
    have hr0 : Array.range 0 = #[] := rfl
    rw [hz0] at f1'
    rw [if_pos h0, h0]
    simp only [Sem.run_bind, Sem.run_pure, Result.andThen_ok, hr0, Array.map_empty, f1', newRow, run_newObj]
  · rw [if_neg h0]
    have hzc : (Array.range (n * s)).map (fun x => zv.cells[x % zv.cells.size]!) = Builtin.zeroCells zv.cells n := by
      unfold Builtin.zeroCells; rw [hzs]
    simp only [Sem.run_bind, zero_run z1, Sem.run_pure, Result.andThen_ok, hzc, f1', newRow, run_newObj]

end Go.Am
