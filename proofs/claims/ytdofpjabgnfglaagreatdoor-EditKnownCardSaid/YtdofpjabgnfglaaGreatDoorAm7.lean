/-
Append, copy, clear, make.
-/
import Derived.Test.YtdofpjabgnfglaaGreatDoorAm6
set_option linter.unusedVariables false
set_option linter.unusedSectionVars false
set_option linter.unusedSimpArgs false
namespace Go.Am
open Go
variable [GT]

variable {P : Program} {G : Program} {X : Nat → Prop} {ι : Inj} {st st' : St} {w : World} {v : V}

theorem growBy_le (n : Nat) : ∀ (r c : Nat), c ≤ 2 * n + 192 → Builtin.growBy n r c ≤ 2 * n + 192
  | 0, c, h => h
  | r + 1, c, h => by
    unfold Builtin.growBy
    split
    · exact h
    · exact growBy_le n r _ (by omega)

theorem nextslicecap_le {n old : Nat} (h : old < n) : Builtin.nextslicecap n old ≤ 2 * n + 192 := by
  unfold Builtin.nextslicecap
  split
  · omega
  · split
    · omega
    · exact growBy_le n 4 old (by omega)

theorem repV_rel {z : List V} {z' : Array Value} (hz : VsRel ι z z'.toList) (n : Nat) : VsRel ι (repV z n) (Builtin.zeroCells z' n).toList ∧ (Builtin.zeroCells z' n).size = n * z'.size := by
  have hl : z.length = z'.size := by rw [hz.length, Array.length_toList]
  refine ⟨?_, by simp [Builtin.zeroCells]⟩
  have hget : ∀ (n i : Nat) (u : V), (repV z n)[i]? = some u → z[i % z.length]? = some u ∧ i < n * z.length := by
    intro n
    induction n with
    | zero => intro i u h; have : ([] : List V)[i]? = some u := h; simp at this
    | succ n ih =>
      intro i u h
      have h' : (appL z (repV z n))[i]? = some u := h
      rw [appL_eq, List.getElem?_append] at h'
      split at h'
      · rename_i hi
        exact ⟨by rw [Nat.mod_eq_of_lt hi]; exact h', by rw [Nat.succ_mul]; omega⟩
      · rename_i hi
        obtain ⟨g1, g2⟩ := ih _ u h'
        have h0 : 0 < z.length := by
          cases hz0 : z.length with
          | zero => rw [hz0] at g2; simp at g2
          | succ k => omega
        refine ⟨?_, by rw [Nat.succ_mul]; omega⟩
        have : i % z.length = (i - z.length) % z.length := by
          conv => lhs; rw [show i = (i - z.length) + z.length by omega]
          rw [Nat.add_mod_right]
        rw [this]; exact g1
  have hlen : ∀ n, (repV z n).length = n * z.length := by
    intro n
    induction n with
    | zero => show ([] : List V).length = 0 * z.length; simp
    | succ n ih =>
      have : repV z (n + 1) = appL z (repV z n) := rfl
      rw [this, appL_eq, List.length_append, ih, Nat.succ_mul]; omega
  refine VsRel.of_get (by rw [hlen, hl]; simp [Builtin.zeroCells]) (fun i u u' h1 h2 => ?_)
  obtain ⟨g1, g2⟩ := hget n i u h1
  have h0 : i % z.length < z'.size := by
    rw [← hl]
    exact Nat.mod_lt _ (by cases hz0 : z.length with
      | zero => rw [hz0] at g2; simp at g2
      | succ k => omega)
  have : u' = z'[i % z'.size]! := by
    simp only [Builtin.zeroCells, Array.toList_map, Array.toList_range, List.getElem?_map, List.getElem?_range] at h2
    rw [List.getElem?_range (by rw [← hl]; exact g2)] at h2
    simpa using h2.symm
  obtain ⟨q, k1, k2⟩ := hz.get g1
  have : u' = q := by
    rw [this, ← hl]
    have : z'[i % z.length]? = some q := by simpa using k1
    rw [getElem!_pos z' (i % z.length) h0]
    rw [getElem?_pos z' (i % z.length) h0] at this
    exact Option.some.inj this
  rw [this]; exact k2

theorem zeroCells_one {z' : Array Value} (h1 : ∀ x ∈ z'.toList, x.oneCell' = true) (n : Nat) : ∀ x ∈ (Builtin.zeroCells z' n).toList, x.oneCell' = true := by
  intro x hx
  simp only [Builtin.zeroCells, Array.toList_map, Array.toList_range, List.mem_map, List.mem_range] at hx
  obtain ⟨i, hi, rfl⟩ := hx
  by_cases h0 : i % z'.size < z'.size
  · rw [getElem!_pos z' _ h0]
    exact h1 _ (by simp)
  · have : z'.size = 0 := by
      cases hz : z'.size with
      | zero => rfl
      | succ k => exact absurd (Nat.mod_lt i (by omega)) h0
    rw [this] at hi; simp at hi

/-- what stands to be appended or copied, in any world of this memory -/
theorem elemsV_rel (h : HRel G X ι st w) {s m : Nat} {y : V} {y' : Value} {l : List V} (hy : VRel ι y y') (he : elemsV s y st = some (l, m)) :
    ∃ new : List Value, VsRel ι l new ∧ (∀ x ∈ new, x.oneCell' = true) ∧ new.length = m * s ∧
      ∀ w1 : World, w1.heap = w.heap → (Builtin.lenOf y').run P w1 = .ok m w1 ∧ ∀ k, k ≤ m → (Builtin.firstCells s k y').run P w1 = .ok (new.take (k * s)).toArray w1 := by
  cases y <;> simp only [elemsV, reduceCtorEq] at he
  · rename_i n bs
    obtain ⟨h1, h2⟩ := whn_some.1 he
    cases h2
    have hs := Nat.eq_of_beq_eq_true h1
    subst hs
    cases hy with | str _ _ x g1 g2 =>
    have hb : ∀ (q : List UInt8), VsRel ι (bytesV (q.map UInt8.toNat)) (q.map fun b => Value.int .u8 b.toNat) := by
      intro q
      induction q with
      | nil => exact .nil
      | cons b q ih => exact .cons _ _ _ _ (.int _ _) ih
    refine ⟨x.data.toList.map fun b => Value.int .u8 b.toNat, by rw [← g2]; exact hb _, by simp [Value.oneCell'], by simp [← g1], fun w1 _ => ⟨by simp [Builtin.lenOf, g1], fun k hk => ?_⟩⟩
    simp only [Builtin.firstCells, Sem.run_pure]
    congr 1
    apply Array.ext'
    simp [List.map_take, List.extract_eq_take_drop]
  · simp only [Option.some.injEq, Prod.mk.injEq] at he
    obtain ⟨rfl, rfl⟩ := he
    cases hy
    exact ⟨[], .nil, by simp, by simp, fun w1 _ => ⟨by simp [Builtin.lenOf], fun k hk => by simp [Builtin.firstCells]⟩⟩
  · rename_i b o n c ex
    obtain ⟨q, h1, he⟩ := ob_some.1 he
    obtain ⟨l2, h2, he⟩ := ob_some.1 he
    cases he
    cases hy with | slice _ _ _ _ _ l0 cap off hb g1 g2 g3 g4 g5 =>
    obtain ⟨l3, k1, k2, k3⟩ := h.cells h1
    rw [hb] at k1; cases k1
    obtain ⟨new, r1, r2, r3, r4, r5⟩ := loadN_run (P := P) k3 h2
    refine ⟨new, r2, r3, r4, fun w1 hw1 => ⟨by simp [Builtin.lenOf], fun k hk => ?_⟩⟩
    by_cases h0 : 0 < cap
    · have g5 := g5 h0
      subst g5
      have hlen : (new.take (k * s)).length = k * s := by
        rw [List.length_take, r4]
        exact Nat.min_eq_left (Nat.mul_le_mul_right s hk)
      have := run_loadCells_list (P := P) w1 ⟨l0.blk, l0.base + o, none⟩ (new.take (k * s)) (fun j u hu => by
        rw [addr_add]
        have hu' : new[j]? = some u := by
          rw [List.getElem?_take] at hu
          split at hu
          · exact hu
          · simp at hu
        have := r5 j u hu'
        simp only [World.cell?, hw1] at this ⊢
        exact this)
      rw [hlen] at this
      simpa [Builtin.firstCells] using this
    · have : k = 0 := by omega
      subst this
      simp [Builtin.firstCells, loadCells, loadCellsFrom]

/-- A new row that lies in an old block, whose own row is dead. -/
theorem HRel.reuse (h : HRel G X ι st w) (hX : ¬ X st.next) {b : Nat} {o0 : Obj} {l0 l : Loc} {o : Obj} {w' : World} (hb : st.heap.get b = some o0) (hlv : o0.live) (hι : ι b = some l0) (hl : l.blk = l0.blk)
    (hsz : w'.heap.size = w.heap.size) (hk : ∀ B, B ≠ l.blk → w'.heap[B]? = w.heap[B]?)
    (ht : w'.tape = w.tape) (hos : w'.os = w.os) (hout : w'.output = w.output) (ho : ORel G (upd ι st.next l) w' st.next o) :
    HRel G X (upd ι st.next l) ((st.put b .dead).alloc o) w' ∧ Stp ι st w (upd ι st.next l) ((st.put b .dead).alloc o) w' := by
  have hf := h.fresh hX
  have hext := upd_ext (l := l) hf
  have hlt := h.live b o0 hb
  have hget : ∀ x, ((st.put b .dead).alloc o).heap.get x = if st.next = x then some o else if b = x then some .dead else st.heap.get x := fun x => by
    show ((st.heap.set b .dead).set st.next o).get x = _
    rw [PT.get_set, PT.get_set]
  have hnolive : ∀ x o2 l2, b ≠ x → st.heap.get x = some o2 → o2.live → ι x = some l2 → l2.blk ≠ l.blk := fun x o2 l2 hne hx h2 hi e =>
    hne (h.inj b x l0 l2 o0 o2 hb hlv hx h2 hι hi (by rw [← hl, e]))
  refine ⟨⟨fun x o2 hx => ?_, fun x l' hx => ?_, fun x o2 hx => ?_, fun x x' l1 l2 o1 o2 h1 h2 h3 h4 h5 h6 h7 => ?_, fun g hg => ?_, fun g o2 hg hlv2 => ?_⟩,
    ⟨hext, Nat.le_succ _, by omega, fun B hB hno => hk B (fun e => hno b o0 l0 hb hlv hι (by rw [e, hl])), fun x o2 l' h1 h2 h3 => ?_, fun x l' hx => ?_, ht, hos, hout⟩⟩
  · rw [hget] at hx
    split at hx
    · rename_i e; subst e; cases hx; exact ho
    · split at hx
      · cases hx; trivial
      · rename_i e e2
        exact (h.obj x o2 hx).turn hext (fun l' hl' hl2 => hk _ (hnolive x o2 l' e2 hx hl2 hl'))
  · unfold upd at hx
    split at hx
    · rename_i e; cases hx
      exact ⟨.inl (by rw [e]; exact Nat.lt_succ_self _), by rw [hl, hsz]; exact (h.dom _ _ hι).2⟩
    · obtain ⟨g1, g2⟩ := h.dom x l' hx
      exact ⟨g1.imp (fun g => Nat.lt_succ_of_lt g) id, by omega⟩
  · rw [hget] at hx
    split at hx
    · rename_i e; rw [← e]; exact Nat.lt_succ_self _
    · split at hx
      · rename_i e; rw [← e]; exact Nat.lt_succ_of_lt hlt
      · exact Nat.lt_succ_of_lt (h.live x o2 hx)
  · rw [hget] at h1 h3
    unfold upd at h5 h6
    split at h1
    · rename_i e
      rw [if_pos e.symm] at h5; cases h5
      split at h3
      · omega
      · rename_i e'
        rw [if_neg (fun x => e' x.symm)] at h6
        split at h3
        · cases h3; exact h4.elim
        · rename_i e2
          exact absurd h7.symm (hnolive x' o2 l2 e2 h3 h4 h6)
    · rename_i e
      rw [if_neg (fun x => e x.symm)] at h5
      split at h1
      · cases h1; exact h2.elim
      · rename_i e2
        split at h3
        · rename_i e'
          rw [if_pos e'.symm] at h6; cases h6
          exact absurd h7 (hnolive x o1 l1 e2 h1 h2 h5)
        · rename_i e'
          rw [if_neg (fun x => e' x.symm)] at h6
          split at h3
          · cases h3; exact h4.elim
          · exact h.inj x x' l1 l2 o1 o2 h1 h2 h3 h4 h5 h6 h7
  · obtain ⟨l', g1, g2⟩ := h.glob g hg
    exact ⟨l', hext _ _ g1, g2⟩
  · obtain ⟨q1, q2⟩ := h.glo g o2 hg hlv2
    obtain ⟨lg, hlg⟩ := q1.loc hlv2
    have hne := q2 b o0 l0 lg hb hlv hι hlg
    refine ⟨q1.turn hext (fun l' hl' _ => hk _ (fun e => ?_)), fun x o3 l1 l2 h1 h2 h3 h4 => ?_⟩
    · rw [hlg] at hl'; cases hl'
      exact hne (by rw [← hl, e])
    · have e := hext _ _ hlg
      rw [h4] at e; cases e
      rw [hget] at h1
      unfold upd at h3
      split at h1
      · rename_i e; rw [if_pos e.symm] at h3; cases h3; rw [hl]; exact hne
      · rename_i e
        rw [if_neg (fun x => e x.symm)] at h3
        split at h1
        · cases h1; exact h2.elim
        · exact q2 x o3 l1 _ h1 h2 h3 hlg
  · rw [hget] at h1
    unfold upd at h3
    split at h1
    · rename_i e
      rw [if_pos e.symm] at h3; cases h3
      exact .inr ⟨b, o0, l0, hb, hlv, hι, hl.symm⟩
    · rename_i e
      rw [if_neg (fun x => e x.symm)] at h3
      split at h1
      · cases h1; exact h2.elim
      · exact .inr ⟨x, o2, l', h1, h2, h3, rfl⟩
  · unfold upd at hx
    split at hx
    · rename_i e; exact .inr ⟨by omega, by rw [e]; exact Nat.lt_succ_self _⟩
    · exact .inl hx

/-- What append does behind what it asks of its types: 'app' yields the new cells, in any world of this memory. -/
def appTail (elem : TypeId) (size : Nat) (zeros : Bool) (base : Option Addr) (sLen sCap n : Nat) (s x : Value) (appended : Sem (Array Value)) : Sem Value := do
  let need := sLen + n
  if need ≤ sCap then
    let new ← appended
    if let some a := base then storeCells (a.add (sLen * size)) new.toList
    pure (.slice base need sCap)
  else
    if (need : Int) > IntKind.i64.max ∧ (zeros ∨ (← typeInfo elem).bytes = 0) then runtimePanic (.error "growslice: len out of range")
    if Builtin.nextslicecap need sCap * (← typeInfo elem).bytes > 2 ^ 48 then (if zeros then runtimePanic (.error "growslice: len out of range") else do
      if !(← Builtin.mayShare size sLen n base x) then mark .noRoom
      unsupported (.resourceLimit "append: a slice or a string whose bytes no memory bears"))
    let newCap ← choose (.appendCap need sCap elem)
    askRoom (newCap * (← typeInfo elem).bytes)
    let old ← Builtin.firstCells size sLen s
    let new ← appended
    let rest := Builtin.zeroCells (← zeroValue elem).cells (newCap - need)
    pure (.slice (some (← newRow elem (old ++ new ++ rest))) need newCap)

theorem appTail_in {elem : TypeId} {size : Nat} {zeros : Bool} {a : Addr} {sLen sCap n : Nat} {s x : Value} {appended : Sem (Array Value)} {new : List Value} {w1 : World}
    (hle : sLen + n ≤ sCap) (ha : appended.run P w = .ok new.toArray w) (hst : (storeCells (a.add (sLen * size)) new 0).run P w = .ok () w1) :
    (appTail elem size zeros (some a) sLen sCap n s x appended).run P w = .ok (.slice (some a) (sLen + n) sCap) w1 := by
  simp [appTail, hle, ha, hst]

theorem appTail_new {elem : TypeId} {size : Nat} {zeros : Bool} {base : Option Addr} {sLen sCap n : Nat} {s x : Value} {appended : Sem (Array Value)} {new old : List Value} {i : TypeInfo} {z : Value}
    (hgt : ¬ sLen + n ≤ sCap) (hi : P.info? elem = some i) (hz : zero? P elem = some z) (hneed : sLen + n < 1099511627776) (hb : (sLen + n) * i.bytes < 1099511627776)
    (ha : ∀ w1 : World, w1.heap = w.heap → appended.run P w1 = .ok new.toArray w1) (ho : ∀ w1 : World, w1.heap = w.heap → (Builtin.firstCells size sLen s).run P w1 = .ok old.toArray w1) :
    ∃ cap, sLen + n ≤ cap ∧ (appTail elem size zeros base sLen sCap n s x appended).run P w =
      .ok (.slice (some ⟨w.heap.size, 0, none⟩) (sLen + n) cap) { w with heap := w.heap.push (.cells (old.toArray ++ new.toArray ++ Builtin.zeroCells z.cells (cap - (sLen + n))) elem), drawn := w.drawn + 1 } := by
  have h1 : ¬ (((sLen + n : Nat) : Int) > IntKind.i64.max) := by
    have : IntKind.i64.max = 9223372036854775807 := by decide
    rw [this]; omega
  have h2 : ¬ (Builtin.nextslicecap (sLen + n) sCap * i.bytes > 2 ^ 48) := by
    have g := nextslicecap_le (n := sLen + n) (old := sCap) (by omega)
    have g2 : Builtin.nextslicecap (sLen + n) sCap * i.bytes ≤ (2 * (sLen + n) + 192) * i.bytes := Nat.mul_le_mul_right _ g
    have g3 : (2 * (sLen + n) + 192) * i.bytes = 2 * ((sLen + n) * i.bytes) + 192 * i.bytes := by rw [Nat.add_mul, Nat.mul_assoc]
    have g4 : i.bytes ≤ (sLen + n) * i.bytes := by
      have : 1 * i.bytes ≤ (sLen + n) * i.bytes := Nat.mul_le_mul_right _ (by omega)
      omega
    omega
  have hzr : ∀ w1 : World, (zeroValue elem).run P w1 = .ok z w1 := fun w1 => zero_run hz w1
  refine ⟨(Question.appendCap (sLen + n) sCap elem).cut (w.tape w.drawn (.appendCap (sLen + n) sCap elem)), by simp [Question.cut], ?_⟩
  have e1 := ha { w with drawn := w.drawn + 1 } rfl
  have e2 := ho { w with drawn := w.drawn + 1 } rfl
  simp only [appTail, hgt, if_false, Sem.run_bind, Sem.run_ite, info_run hi, Result.andThen_ok, h1, false_and, h2, Sem.run_pure, run_choose, Question.forced, Bool.false_eq_true, run_askRoom, e1, e2, hzr, newRow, run_newObj]

end Go.Am
