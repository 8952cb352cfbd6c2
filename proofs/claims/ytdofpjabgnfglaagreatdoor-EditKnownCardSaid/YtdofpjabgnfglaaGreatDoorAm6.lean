/-
The operations that read, write and make memory, one by one.
-/
import Derived.Test.YtdofpjabgnfglaaGreatDoorAm5
set_option linter.unusedVariables false
set_option linter.unusedSectionVars false
set_option linter.unusedSimpArgs false
namespace Go.Am
open Go
variable [GT]

variable {P : Program} {G : Program} {X : Nat → Prop} {ι : Inj} {st st' : St} {w : World} {v : V}

theorem asPtr_inv {v : V} {p : Nat × Nat} (h : asPtr v = some p) : v = .ptr p.1 p.2 := by
  cases v <;> simp [asPtr] at h; subst h; rfl
theorem asInt_inv {v : V} {p : IntKind × Int} (h : asInt v = some p) : v = .int p.1 p.2 := by
  cases v <;> simp [asInt] at h; subst h; rfl
theorem asBool_inv {v : V} {p : Bool} (h : asBool v = some p) : v = .bool p := by
  cases v <;> simp [asBool] at h; subst h; rfl
theorem asStr_inv {v : V} {p : Nat × List Nat} (h : asStr v = some p) : v = .str p.1 p.2 := by
  cases v <;> simp [asStr] at h; subst h; rfl
theorem asAgg_inv {v : V} {p : List V} (h : asAgg v = some p) : v = .agg p := by
  cases v <;> simp [asAgg] at h; subst h; rfl
theorem asFn_inv {v : V} {p : Nat × List V} (h : asFn v = some p) : (p.1 < YN ∧ v = .fn p.1 p.2) ∨ ∃ b, v = .yld b ∧ p.1 = YN + b ∧ p.2 = [] := by
  cases v <;> simp only [asFn, reduceCtorEq] at h
  · obtain ⟨h1, h2⟩ := whn_some.1 h
    cases h2
    exact .inl ⟨by simpa using h1, rfl⟩
  · cases h
    exact .inr ⟨_, rfl, rfl, rfl⟩
theorem asM_inv {v : V} {p : Nat} (h : asM v = some p) : v = .map p := by
  cases v <;> simp [asM] at h; subst h; rfl
theorem asTup_inv {v : V} {p : List V} (h : asTup v = some p) : v = .tup p := by
  cases v <;> simp [asTup] at h; subst h; rfl
theorem asSl_inv {v : V} {p : Nat × Nat × Nat} (h : asSl v = some p) : ∃ c ex, v = .slice p.1 p.2.1 p.2.2 c ex := by
  cases v <;> simp [asSl] at h; subst h; exact ⟨_, _, rfl⟩
theorem vnat_inv {v : V} {n : Nat} (h : vnat v = some n) : ∃ k, v = .int k (.ofNat n) := by
  cases v <;> simp [vnat] at h
  rename_i k m
  cases m with
  | ofNat m => have : some m = some n := h
               cases this; exact ⟨k, rfl⟩
  | negSucc m => have : none = some n := h
                 cases this

/-! ### Loads and stores -/

theorem ld_out (h : HRel G X ι st w) {a : V} {a' : Value} (ha : VRel ι a a') {t : TypeId} {d : TypeDesc} (hu : P.underlying t = some d) (hd : isAggD d = false)
    (hr : opLd (some a) st = some (v, st')) : SOut P G X ι st w (Instr.loadAt t a') v st' := by
  obtain ⟨_, e, hr⟩ := ob_some.1 hr
  cases e
  obtain ⟨p, h1, hr⟩ := ob_some.1 hr
  obtain ⟨q, h2, hr⟩ := ob_some.1 hr
  obtain ⟨u, h3, hr⟩ := ob_some.1 hr
  cases hr
  rw [asPtr_inv h1] at ha
  cases ha with | ptr _ _ l hl =>
  obtain ⟨l2, k1, k3⟩ := h.rd h2
  rw [hl] at k1; cases k1
  obtain ⟨u', g1, g2, g3⟩ := k3 _ _ h3
  exact .same h (by simp [Instr.loadAt, Instr.sureAddr, loadVar, isAgg_run hu, hd, g1]) g2

theorem lda_out (h : HRel G X ι st w) {a : V} {a' : Value} (ha : VRel ι a a') {t : TypeId} {d : TypeDesc} {n : Nat} (hu : P.underlying t = some d) (hd : isAggD d = true) (hs : size? P t = some n)
    (hr : opLda n (some a) st = some (v, st')) : SOut P G X ι st w (Instr.loadAt t a') v st' := by
  obtain ⟨_, e, hr⟩ := ob_some.1 hr
  cases e
  obtain ⟨p, h1, hr⟩ := ob_some.1 hr
  obtain ⟨q, h2, hr⟩ := ob_some.1 hr
  obtain ⟨u, h3, hr⟩ := ob_some.1 hr
  cases hr
  rw [asPtr_inv h1] at ha
  cases ha with | ptr _ _ l hl =>
  obtain ⟨l2, k1, k3⟩ := h.rd h2
  rw [hl] at k1; cases k1
  obtain ⟨u', g1, g2, g3, _⟩ := loadRd_run (P := P) k3 h3
  refine .same h (by simp [Instr.loadAt, Instr.sureAddr, loadVar, isAgg_run hu, hd, sizeOf_run hs, g1]; rfl) (.agg _ _ (by simpa using g2) (by simpa using g3))

theorem sto_out (h : HRel G X ι st w) {a b : V} {a' b' : Value} (ha : VRel ι a a') (hb : VRel ι b b') {t : TypeId} {n : Nat} (hs : size? P t = some n)
    (hr : opSto n (some a) (some b) st = some (v, st')) : v = undefV ∧ UOut P G X ι st w (Instr.storeAt t a' b') st' := by
  obtain ⟨_, e, hr⟩ := ob_some.1 hr
  cases e
  obtain ⟨_, e, hr⟩ := ob_some.1 hr
  cases e
  obtain ⟨p, h1, hr⟩ := ob_some.1 hr
  obtain ⟨z, h2, hr⟩ := ob_some.1 hr
  obtain ⟨h3, hr⟩ := whn_some.1 hr
  obtain ⟨q, h4, hr⟩ := ob_some.1 hr
  obtain ⟨h5, hr⟩ := whn_some.1 hr
  cases hr
  rw [asPtr_inv h1] at ha
  cases ha with | ptr _ _ l hl =>
  obtain ⟨z1, z2⟩ := vcells_rel hb h2
  have hlen : z.length = n := by rw [← lenL_eq]; exact Nat.eq_of_beq_eq_true h3
  have h5' : p.2 + n ≤ q.2.1 := Nat.le_of_ble_eq_true h5
  obtain ⟨s1, s2, s3⟩ := h.setCells (P := P) h4 hl z1 z2 (o := p.2) (by omega)
  have hsz : b'.cells.size = n := by rw [← Array.length_toList, ← z1.length, hlen]
  exact ⟨rfl, ι, _, by simp [Instr.storeAt, Instr.sureAddr, storeVar, sizeOf_run hs, hsz, s1], s2, s3⟩

/-! ### New variables -/

theorem rowOf_rel {z : List V} {z' : List Value} (hz : VsRel ι z z') (h1 : ∀ x ∈ z', x.oneCell' = true) {i : Nat} {v : V} (hv : (rowOf z).get i = some v) :
    i < z.length ∧ ∃ v', z'[i]? = some v' ∧ VRel ι v v' ∧ v'.oneCell' = true := by
  rw [rowOf_get] at hv
  obtain ⟨v', g1, g2⟩ := hz.get hv
  exact ⟨(List.getElem?_eq_some_iff.1 hv).1, v', g1, g2, h1 v' (List.mem_of_getElem? g1)⟩

/-- A new row of cells. -/
theorem HRel.newRow (h : HRel G X ι st w) (hX : ¬ X st.next) {w' : World} {c : Array Value} {e : TypeId} {fr : Nat × Nat} {cs : PT V} {n s : Nat}
    (hw : w'.heap = w.heap.push (.cells c e fr)) (ht : w'.tape = w.tape) (hos : w'.os = w.os) (hout : w'.output = w.output) (hn : n ≤ c.size)
    (hfr : FrOk fr c.size s)
    (hc : ∀ i v, cs.get i = some v → i < n ∧ ∃ v', c[i]? = some v' ∧ VRel ι v v' ∧ v'.oneCell' = true) :
    HRel G X (upd ι st.next ⟨w.heap.size, 0, c.size, s⟩) (st.alloc (.cells cs n s)) w' ∧ Stp ι st w (upd ι st.next ⟨w.heap.size, 0, c.size, s⟩) (st.alloc (.cells cs n s)) w' := by
  refine h.alloc hX hw ht hos hout rfl ⟨_, upd_same _ _ _, rfl, c, e, fr, by rw [hw]; simp, rfl, hfr, by simpa using hn, fun i v hv => ?_⟩
  obtain ⟨g1, v', g2, g3, g4⟩ := hc i v hv
  exact ⟨g1, v', by simpa using g2, g3.mono (upd_ext (h.fresh hX)), g4⟩

theorem new_out (h : HRel G X ι st w) (hX : ¬ X st.next) {z : List V} {c : Array Value} {e : TypeId} (hz : VsRel ι z c.toList) (h1 : ∀ x ∈ c.toList, x.oneCell' = true)
    {s : Sem Value} (hs : s.run P w = .ok (.pointer (some ⟨w.heap.size, 0, none⟩)) { w with heap := w.heap.push (.cells c e) }) (hr : opNew z st = some (v, st')) :
    SOut P G X ι st w s v st' := by
  have hr' : some (V.ptr st.next 0, st.alloc (.cells (rowOf z) (lenL z) (lenL z))) = some (v, st') := hr
  cases hr'
  have hlen : lenL z = c.size := by rw [lenL_eq, hz.length, Array.length_toList]
  obtain ⟨g1, g2⟩ := h.newRow hX (w' := { w with heap := w.heap.push (.cells c e) }) (c := c) (e := e) (fr := (0, 0)) (cs := rowOf z) (n := lenL z) (s := lenL z) rfl rfl rfl rfl (by omega)
    (.zero _ _) (fun i v hv => by
      obtain ⟨k1, v', k2, k3⟩ := rowOf_rel hz h1 hv
      exact ⟨by rw [lenL_eq]; exact k1, v', by simpa using k2, k3⟩)
  exact ⟨_, _, _, hs, VRel.ptr st.next 0 _ (upd_same _ _ _), g1, g2⟩

theorem newv_out (h : HRel G X ι st w) (hX : ¬ X st.next) {t : TypeId} {z : List V} (hz : zeroC? P t = some z) (hr : opNew z st = some (v, st')) :
    SOut P G X ι st w (Instr.alloc t true (.tuple #[])) v st' := by
  obtain ⟨zv, h1, h2, h3⟩ := zeroC_rel ι hz
  exact new_out h hX h2 h3 (e := t) (by simp [Instr.alloc, zero_run h1, newVar, newRow]) hr

theorem box_out (h : HRel G X ι st w) (hX : ¬ X st.next) {t : TypeId} {a : V} {a' : Value} (ha : VRel ι a a') (hr : opBox (some a) st = some (v, st')) :
    SOut P G X ι st w (Instr.box t a') v st' := by
  obtain ⟨_, e, hr⟩ := ob_some.1 hr
  cases e
  obtain ⟨z, h1, hr⟩ := ob_some.1 hr
  obtain ⟨z1, z2⟩ := vcells_rel ha h1
  exact new_out h hX z1 z2 (e := t) (by simp [Instr.box, newVar, newRow]) hr

/-! ### Places -/

theorem fa_out (h : HRel G X ι st w) {t : TypeId} {fs : Array Field} {f : Field} {k s off : Nat} {a : V} {a' : Value} (hu : P.underlying t = some (.struct fs)) (hf : fs[k]? = some f)
    (hs : size? P f.type = some s) (h0 : s ≠ 0) (hoff : f.offset = off) (ha : VRel ι a a') (hr : opFa off (some a) st = some (v, st')) : SOut P G X ι st w (Instr.fieldAt t a' k) v st' := by
  obtain ⟨_, e, hr⟩ := ob_some.1 hr
  cases e
  obtain ⟨p, h1, hr⟩ := ob_some.1 hr
  cases hr
  rw [asPtr_inv h1] at ha
  cases ha with | ptr _ _ l hl =>
  refine .same h (v' := .pointer (some ⟨l.blk, l.base + (p.2 + off), none⟩)) ?_ (.ptr _ _ l hl)
  simp [Instr.fieldAt, run_underlying hu, hf, Instr.sureAddr, fieldPlace, sizeOf_run hs, h0, addr_add, hoff, Nat.add_assoc]

theorem ia_out (h : HRel G X ι st w) {t e : TypeId} {s : Nat} {a i : V} {a' i' : Value} (hu : P.underlying t = some (.slice e)) (hs : size? P e = some s) (ha : VRel ι a a') (hi : VRel ι i i')
    (hr : opIa s (some a) (some i) st = some (v, st')) : SOut P G X ι st w (Instr.indexAt t a' i') v st' := by
  obtain ⟨_, e, hr⟩ := ob_some.1 hr
  cases e
  obtain ⟨_, e, hr⟩ := ob_some.1 hr
  cases e
  obtain ⟨p, h1, hr⟩ := ob_some.1 hr
  obtain ⟨k, h2, hr⟩ := ob_some.1 hr
  obtain ⟨h3, hr⟩ := whn_some.1 hr
  cases hr
  obtain ⟨c, ex, e1⟩ := asSl_inv h1
  rw [e1] at ha
  obtain ⟨ki, e2⟩ := vnat_inv h2
  rw [e2] at hi
  cases ha with | slice _ _ _ _ _ l cap off hl g1 g2 g3 g4 g5 => cases hi with | int =>
  have hlt : k < p.2.2 := by rw [Nat.blt_eq] at h3; exact h3
  have g5 := g5 (by omega)
  subst g5
  refine .same h (v' := .pointer (some ⟨l.blk, l.base + (p.2.1 + k * s), none⟩)) ?_ (.ptr _ _ l hl)
  simp [Instr.indexAt, asIntOf, run_underlying hu, hlt, sizeOf_run hs, addr_add, Nat.add_assoc]

theorem iap_out (h : HRel G X ι st w) {t e : TypeId} {n s : Nat} {a i : V} {a' i' : Value} (hu : P.underlying t = some (.array n e)) (hs : size? P e = some s) (ha : VRel ι a a') (hi : VRel ι i i')
    (hr : opIap n s (some a) (some i) st = some (v, st')) : SOut P G X ι st w (Instr.indexAt t a' i') v st' := by
  obtain ⟨_, e, hr⟩ := ob_some.1 hr
  cases e
  obtain ⟨_, e, hr⟩ := ob_some.1 hr
  cases e
  obtain ⟨p, h1, hr⟩ := ob_some.1 hr
  obtain ⟨k, h2, hr⟩ := ob_some.1 hr
  obtain ⟨h3, hr⟩ := whn_some.1 hr
  cases hr
  rw [asPtr_inv h1] at ha
  obtain ⟨ki, e2⟩ := vnat_inv h2
  rw [e2] at hi
  cases ha with | ptr _ _ l hl => cases hi with | int =>
  have hlt : k < n := by rw [Nat.blt_eq] at h3; exact h3
  refine .same h (v' := .pointer (some ⟨l.blk, l.base + (p.2 + k * s), none⟩)) ?_ (.ptr _ _ l hl)
  simp [Instr.indexAt, asIntOf, run_underlying hu, Instr.sureAddr, hlt, sizeOf_run hs, addr_add, Nat.add_assoc]

/-! ### Parts of values -/

theorem part_one {t : TypeId} {d : TypeDesc} (hu : P.underlying t = some d) (hd : isAggD d = false) {xs : List V} {xs' : Array Value} (hx : VsRel ι xs xs'.toList) {off : Nat} {v : V} (hv : nthL off xs = some v) (w : World) :
    ∃ v', (part t xs' off).run P w = .ok v' w ∧ VRel ι v v' := by
  rw [nthL_eq] at hv
  obtain ⟨v', g1, g2⟩ := hx.get hv
  have g1' : xs'[off]? = some v' := by simpa using g1
  exact ⟨v', by simp [part, isAgg_run hu, hd, g1'], g2⟩

theorem part_agg {t : TypeId} {d : TypeDesc} {n : Nat} (hu : P.underlying t = some d) (hd : isAggD d = true) (hs : size? P t = some n) {xs : List V} {xs' : Array Value} (hx : VsRel ι xs xs'.toList)
    (h1 : ∀ x ∈ xs'.toList, x.oneCell' = true) {off : Nat} (hle : off + n ≤ xs.length) (w : World) :
    ∃ v', (part t xs' off).run P w = .ok v' w ∧ VRel ι (.agg (takeL n (dropL off xs))) v' := by
  refine ⟨.agg (xs'.extract off (off + n)), by simp [part, isAgg_run hu, hd, sizeOf_run hs], .agg _ _ ?_ ?_⟩
  · rw [takeL_eq, dropL_eq]
    have : (xs'.extract off (off + n)).toList = (xs'.toList.drop off).take n := by
      rw [Array.toList_extract]; simp [List.extract_eq_take_drop]
    rw [this]
    exact (hx.drop off).take n
  · intro x hx'
    have : (xs'.extract off (off + n)).toList = (xs'.toList.drop off).take n := by
      rw [Array.toList_extract]; simp [List.extract_eq_take_drop]
    rw [this] at hx'
    exact h1 x (List.mem_of_mem_drop (List.mem_of_mem_take hx'))

theorem fld_out (h : HRel G X ι st w) {t : TypeId} {fs : Array Field} {f : Field} {k off : Nat} {d : TypeDesc} {a : V} {a' : Value} (hu : P.underlying t = some (.struct fs)) (hf : fs[k]? = some f)
    (hd : P.underlying f.type = some d) (hg : isAggD d = false) (hoff : f.offset = off) (ha : VRel ι a a') (hr : opFld off (some a) st = some (v, st')) : SOut P G X ι st w (Instr.field t a' k) v st' := by
  obtain ⟨_, e, hr⟩ := ob_some.1 hr
  cases e
  obtain ⟨p, h1, hr⟩ := ob_some.1 hr
  obtain ⟨u, h2, hr⟩ := ob_some.1 hr
  cases hr
  rw [asAgg_inv h1] at ha
  cases ha with | agg _ c hc h1 =>
  obtain ⟨v', g1, g2⟩ := part_one hd hg hc h2 w
  exact .same h (by simp [Instr.field, run_underlying hu, hf, Go.asAgg, hoff, g1]) g2

theorem flda_out (h : HRel G X ι st w) {t : TypeId} {fs : Array Field} {f : Field} {k off n : Nat} {d : TypeDesc} {a : V} {a' : Value} (hu : P.underlying t = some (.struct fs)) (hf : fs[k]? = some f)
    (hd : P.underlying f.type = some d) (hg : isAggD d = true) (hs : size? P f.type = some n) (hoff : f.offset = off) (ha : VRel ι a a') (hr : opFlda off n (some a) st = some (v, st')) : SOut P G X ι st w (Instr.field t a' k) v st' := by
  obtain ⟨_, e, hr⟩ := ob_some.1 hr
  cases e
  obtain ⟨p, h1, hr⟩ := ob_some.1 hr
  obtain ⟨h2, hr⟩ := whn_some.1 hr
  cases hr
  rw [asAgg_inv h1] at ha
  cases ha with | agg _ c hc h1 =>
  obtain ⟨v', g1, g2⟩ := part_agg hd hg hs hc h1 (off := off) (by have := Nat.le_of_ble_eq_true h2; rwa [lenL_eq] at this) w
  exact .same h (by simp [Instr.field, run_underlying hu, hf, Go.asAgg, hoff, g1]) g2

theorem ixs_out (h : HRel G X ι st w) {t : TypeId} {a i : V} {a' i' : Value} (hu : P.underlying t = some .string) (ha : VRel ι a a') (hi : VRel ι i i')
    (hr : opIxs (some a) (some i) st = some (v, st')) : SOut P G X ι st w (Instr.index t a' i') v st' := by
  obtain ⟨_, e, hr⟩ := ob_some.1 hr
  cases e
  obtain ⟨_, e, hr⟩ := ob_some.1 hr
  cases e
  obtain ⟨p, h1, hr⟩ := ob_some.1 hr
  obtain ⟨k, h2, hr⟩ := ob_some.1 hr
  obtain ⟨c, h3, hr⟩ := ob_some.1 hr
  cases hr
  rw [asStr_inv h1] at ha
  obtain ⟨ki, e2⟩ := vnat_inv h2
  rw [e2] at hi
  cases ha with | str _ _ bs g1 g2 => cases hi with | int =>
  rw [nthL_eq, ← g2, List.getElem?_map] at h3
  cases hb : bs.data.toList[k]? with
  | none => rw [hb] at h3; simp at h3
  | some b =>
    rw [hb] at h3
    simp at h3
    subst h3
    have hlt : k < bs.size := by
      have := (List.getElem?_eq_some_iff.1 hb).1
      simpa using this
    have hb' : bs[k]? = some b := by
      have h4 := (List.getElem?_eq_some_iff.1 hb).2
      rw [getElem?_pos bs k hlt]
      congr 1
    refine .same h (v' := .int .u8 b.toNat) ?_ (.int _ _)
    simp [Instr.index, asIntOf, run_underlying hu, hb']

theorem ixa_out (h : HRel G X ι st w) {t e : TypeId} {n s : Nat} {d : TypeDesc} {a i : V} {a' i' : Value} (hu : P.underlying t = some (.array n e)) (hd : P.underlying e = some d) (hs : size? P e = some s) (ha : VRel ι a a') (hi : VRel ι i i')
    (hr : opIxa n s (isAggD d) (some a) (some i) st = some (v, st')) : SOut P G X ι st w (Instr.index t a' i') v st' := by
  obtain ⟨_, e, hr⟩ := ob_some.1 hr
  cases e
  obtain ⟨k, h2, hr⟩ := ob_some.1 hr
  obtain ⟨h3, hr⟩ := whn_some.1 hr
  have hlt : k < n := by rw [Nat.blt_eq] at h3; exact h3
  obtain ⟨ki, e2⟩ := vnat_inv h2
  rw [e2] at hi
  cases hi with | int =>
  rw [sel_eq] at hr
  split at hr
  · rename_i hg
    obtain ⟨_, e, hr⟩ := ob_some.1 hr
    cases e
    obtain ⟨p, h1, hr⟩ := ob_some.1 hr
    obtain ⟨h4, hr⟩ := whn_some.1 hr
    cases hr
    rw [asAgg_inv h1] at ha
    cases ha with | agg _ c hc h1 =>
    obtain ⟨v', g1, g2⟩ := part_agg hd hg hs hc h1 (off := k * s) (by have := Nat.le_of_ble_eq_true h4; rwa [lenL_eq] at this) w
    have g1 : (part _ c (k * s)).run P w = .ok v' w := g1
    exact .same h (by simp [Instr.index, asIntOf, run_underlying hu, hlt, sizeOf_run hs, g1]) g2
  · rename_i hg
    obtain ⟨_, e, hr⟩ := ob_some.1 hr
    cases e
    obtain ⟨p, h1, hr⟩ := ob_some.1 hr
    obtain ⟨u, h4, hr⟩ := ob_some.1 hr
    cases hr
    rw [asAgg_inv h1] at ha
    cases ha with | agg _ c hc h1 =>
    obtain ⟨v', g1, g2⟩ := part_one hd (by simpa using hg) hc h4 w
    have g1 : (part _ c (k * s)).run P w = .ok v' w := g1
    exact .same h (by simp [Instr.index, asIntOf, run_underlying hu, hlt, sizeOf_run hs, g1]) g2

theorem ext_out (h : HRel G X ι st w) {k : Nat} {a : V} {a' : Value} (ha : VRel ι a a') (hr : opExt (some a) k st = some (v, st')) : SOut P G X ι st w (Instr.extract a' k) v st' := by
  obtain ⟨_, e, hr⟩ := ob_some.1 hr
  cases e
  obtain ⟨p, h1, hr⟩ := ob_some.1 hr
  obtain ⟨u, h2, hr⟩ := ob_some.1 hr
  cases hr
  rw [asTup_inv h1] at ha
  cases ha with | tup _ c hc =>
  rw [nthL_eq] at h2
  obtain ⟨v', g1, g2⟩ := hc.get h2
  have g1' : c[k]? = some v' := by simpa using g1
  exact .same h (by simp [Instr.extract, g1']) g2

/-! ### Slices -/

theorem bnd_rel (hg : ∀ g, g < P.globals.size → ∃ l, ι g = some l ∧ l.blk = g ∧ l.base = 0) {a : Act} {T : Tm} (ht : TRel ι T a.tmps) {x : Option Operand} {y : Option Opd} (hc : cOpt P x = some y) {d n : Nat} (hb : bnd T d y = some n) :
    (x = none ∧ y = none ∧ n = d) ∨ ∃ x' y' k, x = some x' ∧ y = some y' ∧ a.eval x' = .int k ((n : Nat) : Int) := by
  cases x with
  | none =>
    simp only [cOpt, Option.some.injEq] at hc
    subst hc
    have : some d = some n := hb
    cases this
    exact .inl ⟨rfl, rfl, rfl⟩
  | some x =>
    simp only [cOpt] at hc
    cases h1 : cOpd P x with
    | none => simp [h1] at hc
    | some y' =>
      simp only [h1, Option.some.injEq] at hc
      subst hc
      have hb' : ob (ev T y') vnat = some n := hb
      obtain ⟨u, h2, h3⟩ := ob_some.1 hb'
      obtain ⟨k, e⟩ := vnat_inv h3
      have := cOpd_rel hg ht h1 h2
      rw [e] at this
      refine .inr ⟨x, y', k, rfl, rfl, ?_⟩
      generalize a.eval x = z at this
      cases this; rfl

theorem bound_run {k : IntKind} {i y : Nat} (h : i ≤ y) (code : BoundsCode) (w : World) : (Instr.sliceBound (.int k ((i : Nat) : Int)) y code).run P w = .ok i w := by
  have : (0 : Int) ≤ (i : Int) ∧ (i : Int) ≤ (y : Int) := ⟨by omega, by omega⟩
  simp only [Instr.sliceBound, Sem.run_bind, asIntOf, Sem.run_pure, Result.andThen_ok, this, and_self, if_true]
  rfl

theorem bound_zero {k : IntKind} {y : Nat} (code : BoundsCode) (w : World) : (Instr.sliceBound (.int k 0) y code).run P w = .ok 0 w :=
  bound_run (P := P) (i := 0) (Nat.zero_le y) code w

theorem sls_out (h : HRel G X ι st w) (hg : ∀ g, g < P.globals.size → ∃ l, ι g = some l ∧ l.blk = g ∧ l.base = 0) {ac : Act} {T : Tm} (ht : TRel ι T ac.tmps) {t : TypeId} {a : V} {a' : Value} {lo hi : Option Operand} {lo' hi' : Option Opd}
    (hu : P.underlying t = some .string) (hl : cOpt P lo = some lo') (hh : cOpt P hi = some hi') (ha : VRel ι a a') (hr : opSls T (some a) lo' hi' st = some (v, st')) :
    SOut P G X ι st w (Instr.sliceAt t a' (lo.map ac.eval) (hi.map ac.eval) none) v st' := by
  obtain ⟨_, e, hr⟩ := ob_some.1 hr
  cases e
  obtain ⟨p, h1, hr⟩ := ob_some.1 hr
  obtain ⟨x, h2, hr⟩ := ob_some.1 hr
  obtain ⟨y, h3, hr⟩ := ob_some.1 hr
  obtain ⟨h4, hr⟩ := whn_some.1 hr
  obtain ⟨h5, hr⟩ := whn_some.1 hr
  cases hr
  have h4 := Nat.le_of_ble_eq_true h4
  have h5 := Nat.le_of_ble_eq_true h5
  rw [asStr_inv h1] at ha
  cases ha with | str _ _ bs g1 g2 =>
  have key : (Instr.sliceBounds false bs.size bs.size (lo.map ac.eval) (hi.map ac.eval) none).run P w = .ok (x, y, bs.size) w := by
    rcases bnd_rel hg ht hl h2 with ⟨rfl, _, e1⟩ | ⟨x', y', k, rfl, _, e1⟩ <;> rcases bnd_rel hg ht hh h3 with ⟨rfl, _, e2⟩ | ⟨x'', y'', k', rfl, _, e2⟩
    · subst e1 e2; simp [Instr.sliceBounds, g1]
    · subst e1
      simp [Instr.sliceBounds, e2, bound_run (P := P) (i := y) (y := bs.size) (by omega)]
    · have e2 : y = bs.size := by omega
      subst e2
      simp [Instr.sliceBounds, e1, bound_run (P := P) (i := x) (y := bs.size) h4]
    · simp [Instr.sliceBounds, e1, e2, bound_run (P := P) (i := y) (y := bs.size) (by omega), bound_run (P := P) (i := x) (y := y) h4]
  refine .same h (v' := .string (bs.extract x y)) ?_ (.str _ _ _ ?_ ?_)
  · simp [Instr.sliceAt, run_underlying hu, Instr.slice, key]
  · rw [ByteArray.size_extract]; show min y bs.size - x = y - x; omega
  · rw [ByteArray.data_extract, takeL_eq, dropL_eq, ← g2]
    simp [List.extract_eq_take_drop, List.map_take, List.map_drop]

theorem sl_nil_out (h : HRel G X ι st w) (hg : ∀ g, g < P.globals.size → ∃ l, ι g = some l ∧ l.blk = g ∧ l.base = 0) {ac : Act} {T : Tm} (ht : TRel ι T ac.tmps) {t e : TypeId} {s : Nat} {lo hi mx : Option Operand} {lo' hi' mx' : Option Opd}
    (hu : P.underlying t = some (.slice e)) (hs : size? P e = some s) (hl : cOpt P lo = some lo') (hh : cOpt P hi = some hi') (hm : cOpt P mx = some mx')
    (hr : opSl T s (some .snil) lo' hi' mx' st = some (v, st')) :
    SOut P G X ι st w (Instr.sliceAt t (.slice none 0 0) (lo.map ac.eval) (hi.map ac.eval) (mx.map ac.eval)) v st' := by
  obtain ⟨_, e, hr⟩ := ob_some.1 hr
  cases e
  obtain ⟨x, h2, hr⟩ := ob_some.1 hr
  obtain ⟨y, h3, hr⟩ := ob_some.1 hr
  obtain ⟨h4, hr⟩ := whn_some.1 hr
  obtain ⟨h5, hr⟩ := whn_some.1 hr
  have h4 := Nat.eq_of_beq_eq_true h4
  have h5 := Nat.eq_of_beq_eq_true h5
  subst h4 h5
  cases mx' with
  | some m => cases hr
  | none =>
    cases hr
    have hmx : mx = none := by
      cases mx with
      | none => rfl
      | some m => simp only [cOpt] at hm; cases h6 : cOpd P m <;> simp [h6] at hm
    subst hmx
    have key : (Instr.sliceBounds true 0 0 (lo.map ac.eval) (hi.map ac.eval) none).run P w = .ok (0, 0, 0) w := by
      rcases bnd_rel hg ht hl h2 with ⟨rfl, _, e1⟩ | ⟨x', y', k, rfl, _, e1⟩ <;> rcases bnd_rel hg ht hh h3 with ⟨rfl, _, e2⟩ | ⟨x'', y'', k', rfl, _, e2⟩
      · simp [Instr.sliceBounds]
      · simp [Instr.sliceBounds, e2, bound_zero]
      · simp [Instr.sliceBounds, e1, bound_zero]
      · simp [Instr.sliceBounds, e1, e2, bound_zero]
    exact .same h (by simp [Instr.sliceAt, run_underlying hu, Instr.slice, key, sizeOf_run hs]) .snil

theorem sl_out (h : HRel G X ι st w) (hg : ∀ g, g < P.globals.size → ∃ l, ι g = some l ∧ l.blk = g ∧ l.base = 0) {ac : Act} {T : Tm} (ht : TRel ι T ac.tmps) {t e : TypeId} {s : Nat} {lo hi mx : Option Operand} {lo' hi' mx' : Option Opd}
    (hu : P.underlying t = some (.slice e)) (hs : size? P e = some s) (hl : cOpt P lo = some lo') (hh : cOpt P hi = some hi') (hm : cOpt P mx = some mx') {a : V} {a' : Value} (ha : VRel ι a a')
    (hr : opSl T s (some a) lo' hi' mx' st = some (v, st')) :
    SOut P G X ι st w (Instr.sliceAt t a' (lo.map ac.eval) (hi.map ac.eval) (mx.map ac.eval)) v st' := by
  cases a with
  | snil => cases ha; exact sl_nil_out h hg ht hu hs hl hh hm hr
  | slice b o n c ex =>
    obtain ⟨_, e, hr⟩ := ob_some.1 hr
    cases e
    obtain ⟨q, h1, hr⟩ := ob_some.1 hr
    obtain ⟨h6, hr⟩ := whn_some.1 hr
    obtain ⟨x, h2, hr⟩ := ob_some.1 hr
    obtain ⟨y, h3, hr⟩ := ob_some.1 hr
    obtain ⟨h4, hr⟩ := whn_some.1 hr
    have h4 := Nat.le_of_ble_eq_true h4
    have h6 := Nat.eq_of_beq_eq_true h6
    cases ha with | slice _ _ _ _ _ l cap off hb g1 g2 g3 g4 g5 =>
    obtain ⟨l2, k1, k2, k3⟩ := h.cells h1
    rw [hb] at k1; cases k1
    have hes : l.esz = s := by rw [k2, h6]
    rw [hes] at g4
    -- the bounds, and the new slice
    have fin : ∀ m, x ≤ m → m ≤ cap → y ≤ m → (Instr.sliceBounds true n cap (lo.map ac.eval) (hi.map ac.eval) (mx.map ac.eval)).run P w = .ok (x, y, m) w → ∀ (c' : Nat) (ex' : Bool), y - x ≤ c' → c' ≤ m - x → (ex' = true → m - x = c') →
        SOut P G X ι st w (Instr.sliceAt t (.slice (some ⟨l.blk, off, none⟩) n cap) (lo.map ac.eval) (hi.map ac.eval) (mx.map ac.eval)) (.slice b (o + x * s) (y - x) c' ex') st := by
      intro m hxm hmc hym hkey c' ex' q1 q2 q3
      have hmul : x * s ≤ m * s := Nat.mul_le_mul_right s hxm
      have hmul2 : m * s ≤ cap * s := Nat.mul_le_mul_right s hmc
      refine .same h (v' := .slice (some ⟨l.blk, (if m = x then off else off + x * s), none⟩) (y - x) (m - x)) ?_ (.slice _ _ _ _ _ l _ _ hb q1 q2 q3 (by rw [hes, Nat.sub_mul]; omega) (fun hpos => ?_))
      · have : (if m = x then (⟨l.blk, off, none⟩ : Addr) else (⟨l.blk, off, none⟩ : Addr).add (x * s)) = ⟨l.blk, (if m = x then off else off + x * s), none⟩ := by
          split
          · rfl
          · exact addr_add _ _ _
        simp only [Instr.sliceAt, Sem.run_bind, run_underlying hu, Result.andThen_ok, Instr.slice, hkey, sizeOf_run hs, Sem.run_pure]
        split
        · rename_i e9; simp [e9]
        · rename_i e9; simp [e9, addr_add]
      · have hne : ¬ m = x := by omega
        rw [if_neg hne, g5 (by omega), Nat.add_assoc]
    cases mx' with
    | none =>
      obtain ⟨h7, hr⟩ := whn_some.1 hr
      have h7 := Nat.le_of_ble_eq_true h7
      cases hr
      have hmx : mx = none := by
        cases mx with
        | none => rfl
        | some m => simp only [cOpt] at hm; cases h6 : cOpd P m <;> simp [h6] at hm
      subst hmx
      refine fin cap (by omega) (Nat.le_refl _) (by omega) ?_ (c - x) ex (by omega) (by omega) (fun he => by rw [g3 he])
      rcases bnd_rel hg ht hl h2 with ⟨rfl, _, e1⟩ | ⟨x', y', k, rfl, _, e1⟩ <;> rcases bnd_rel hg ht hh h3 with ⟨rfl, _, e2⟩ | ⟨x'', y'', k', rfl, _, e2⟩
      · subst e1 e2; simp [Instr.sliceBounds]
      · subst e1; simp [Instr.sliceBounds, e2, bound_run (P := P) (i := y) (y := cap) (by omega)]
      · subst e2; simp [Instr.sliceBounds, e1, bound_run (P := P) (i := x) h4]
      · simp [Instr.sliceBounds, e1, e2, bound_run (P := P) (i := y) (y := cap) (by omega), bound_run (P := P) (i := x) (y := y) h4]
    | some m' =>
      obtain ⟨hi9, h12, hr⟩ := ob_some.1 hr
      obtain ⟨mv, h8, hr⟩ := ob_some.1 hr
      obtain ⟨m, h9, hr⟩ := ob_some.1 hr
      obtain ⟨h10, hr⟩ := whn_some.1 hr
      obtain ⟨h11, hr⟩ := whn_some.1 hr
      have h10 := Nat.le_of_ble_eq_true h10
      have h11 := Nat.le_of_ble_eq_true h11
      cases hr
      cases mx with
      | none => simp [cOpt] at hm
      | some mo =>
        have hb2 : bnd T 0 (some m') = some m := by show ob (ev T m') vnat = some m; rw [h8]; exact h9
        rcases bnd_rel hg ht hm hb2 with ⟨e0, _⟩ | ⟨mo', m'', km, e0, _, em⟩
        · cases e0
        · cases e0
          cases hi with
          | none =>
            simp only [cOpt, Option.some.injEq] at hh
            rw [← hh] at h12
            cases h12
          | some ho' =>
            refine fin m (by omega) (by omega) h10 ?_ (m - x) true (by omega) (Nat.le_refl _) (fun _ => rfl)
            rcases bnd_rel hg ht hh h3 with ⟨e3, _⟩ | ⟨x'', y'', k', e3, _, e2⟩
            · cases e3
            · cases e3
              rcases bnd_rel hg ht hl h2 with ⟨rfl, _, e1⟩ | ⟨x', y', k, rfl, _, e1⟩
              · subst e1; simp [Instr.sliceBounds, e2, em, bound_run (P := P) (i := m) (y := cap) (by omega), bound_run (P := P) (i := y) (y := m) h10]
              · simp [Instr.sliceBounds, e1, e2, em, bound_run (P := P) (i := m) (y := cap) (by omega), bound_run (P := P) (i := y) (y := m) h10, bound_run (P := P) (i := x) (y := y) h4]
  | _ => obtain ⟨_, e, hr⟩ := ob_some.1 hr; cases e; cases hr

end Go.Am
