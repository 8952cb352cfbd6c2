/-
One element put ahead of the one that is there: the answer that is given from outside is good.
-/
import Derived.Test.YtdofpjabgnfglaaGreatDoorIns
import Derived.Test.YtdofpjabgnfglaaGreatDoorAm37
import Derived.KernelRfl
set_option maxRecDepth 100000
set_option linter.unusedVariables false
namespace Go.Proofs.YtdofpjabgnfglaaGreatDoor
open Go Go.Am
variable [GT]

theorem callF_to {cp : CP} {E : Ext} {n f : Nat} {fn : CFun} {args : List V} {st st' : St} {T' : Tm} {l : List V} (hf : f < YN) (hE : E f = none) (hc : cp f = some fn)
    (hr : run cp E n fn.body (initT args 0 .nil) st = some (.ret, T', st')) (hl : resV T' st' fn.res = some l) : callF cp E n f args st = some (resOne l, st') := by
  show sel (Nat.ble YN f) _ (oc (E f) (ob (cp f) fun fn => retV fn (run cp E n fn.body (initT args 0 .nil) st)) fun g => g args st) = _
  have e2 : Nat.ble YN f = false := by
    cases h : Nat.ble YN f with
    | false => rfl
    | true => have := Nat.le_of_ble_eq_true h; omega
  rw [e2, hE, hc]
  show retV fn (run cp E n fn.body (initT args 0 .nil) st) = _
  rw [hr]
  show ob (resV T' st' fn.res) (fun l => some (resOne l, st')) = _
  rw [hl]; rfl

theorem dreg_is : DregOk Tryz.prog := dreg_ok (by kernel_rfl)

noncomputable def EO : Ext := fun f => sel (Nat.beq f 116) (some (eOver 7)) none

theorem EO_good : ExtGood Tryz.prog EO := by
  have key : ∀ f g, EO f = some g → f = 116 ∧ g = eOver 7 := fun f g h => by
    have h : sel (Nat.beq f 116) (some (eOver 7)) none = some g := h
    rw [sel_eq] at h
    split at h
    · rename_i e
      cases h
      exact ⟨Nat.eq_of_beq_eq_true e, rfl⟩
    · cases h
  refine ⟨fun f g h => ?_, fun f g args st v st' h hr => ?_⟩
  · obtain ⟨rfl, rfl⟩ := key f g h
    exact good_over (t := 28) (tr := 4) (elem := 40) (fn := Tryz.f116) (by decide) (by decide) (by kernel_rfl) (by kernel_rfl) (by kernel_rfl) (by kernel_rfl) (by kernel_rfl) (by kernel_rfl) (by kernel_rfl)
  · obtain ⟨rfl, rfl⟩ := key f g h
    obtain ⟨b, o, n, c, ex, b2, o2, n2, c2, ex2, q, q2, _, _, _, _, _, _, _, _, rfl⟩ := eOver_some hr
    exact Nat.le_refl _

theorem eIns_some {args : List V} {st st' : St} {v : V} (h : eIns 7 args st = some (v, st')) :
    ∃ b o c ex b2 o2 c2 ex2 q q2 xs ys, args = [.slice b o 1 c ex, .int .i64 0, .slice b2 o2 1 c2 ex2] ∧ getCells st b = some q ∧ getCells st b2 = some q2 ∧ q.2.2 = 7 ∧ q2.2.2 = 7 ∧ b ≠ b2 ∧ loadN q.1 7 o = some xs ∧ loadN q2.1 7 o2 = some ys ∧
      v = .slice st.next 0 2 2 false ∧ st' = (st.put b .dead).alloc (.cells (rowOf (appL ys xs)) 14 7) := by
  unfold eIns at h
  split at h
  · rename_i b o n c ex i b2 o2 m c2 ex2
    obtain ⟨h1, h⟩ := whn_some.1 h
    obtain ⟨h2, h⟩ := whn_some.1 h
    obtain ⟨q, h3, h⟩ := ob_some.1 h
    obtain ⟨q2, h4, h⟩ := ob_some.1 h
    obtain ⟨h5, h⟩ := whn_some.1 h
    obtain ⟨h6, h⟩ := whn_some.1 h
    obtain ⟨h7, h⟩ := whn_some.1 h
    obtain ⟨xs, h8, h⟩ := ob_some.1 h
    obtain ⟨ys, h9, hz⟩ := ob_some.1 h
    have h1 := Nat.eq_of_beq_eq_true h1
    have h2 := Nat.eq_of_beq_eq_true h2
    subst h1 h2
    rw [sel_eq, intEq_eq] at hz
    split at hz
    · rename_i e
      have e : i = 0 := by simpa using e
      subst e
      cases hz
      refine ⟨b, o, c, ex, b2, o2, c2, ex2, q, q2, xs, ys, rfl, h3, h4, Nat.eq_of_beq_eq_true h5, Nat.eq_of_beq_eq_true h6, fun e => ?_, h8, h9, rfl, rfl⟩
      subst e
      rw [Nat.beq_refl] at h7
      cases h7
    · cases hz
  · cases h

theorem good_ins : CallGood Tryz.prog fun f' args st => sel (Nat.beq f' 51) (eIns 7 args st) none := by
  intro f' args st v st' hlt hr X ι w args' hh hargs hX
  simp only at hr
  rw [sel_eq] at hr
  split at hr <;> first | (cases hr; done) | skip
  rename_i hff
  have := Nat.eq_of_beq_eq_true hff
  subst this
  obtain ⟨b, o, c, ex, b2, o2, c2, ex2, ⟨cs, N, e7⟩, ⟨cs2, N2, e72⟩, xs, ys, rfl, hb, hb2, rfl, rfl, hne, hx, hy, rfl, rfl⟩ := eIns_some hr
  simp only at hx hy
  have hcg := callF_good dreg_is EO_good 20
  obtain ⟨l, k1, k2, k3⟩ := hh.cells hb
  simp only at k2 k3
  obtain ⟨lx, gx⟩ := loadN_some _ _ _ _ hx
  obtain ⟨ly, gy⟩ := loadN_some _ _ _ _ hy
  have hbl := hh.live b _ (getCells_some hb)
  have hb2l := hh.live b2 _ (getCells_some hb2)
  obtain ⟨cc, elm, fr, m1, m2, m3, m4, m5⟩ := k3
  have hbnd : ∀ i, i < 7 → o + i < N := fun i hi => (m5 (o + i) _ (gx i xs[i] (List.getElem?_eq_getElem (by omega)))).1
  obtain ⟨args0⟩ := args'
  cases hargs with
  | cons _ v1 _ r1 ha1 hargs =>
  cases hargs with
  | cons _ v2 _ r2 ha2 hargs =>
  cases hargs with
  | cons _ v3 _ r3 ha3 hargs =>
  cases hargs
  cases ha2
  cases ha1 with | slice _ _ _ _ _ lo cap off q1 g1 g2 g3 g4 g5 =>
  rw [k1] at q1; cases q1
  have g5 := g5 (by omega)
  subst g5
  rw [k2] at g4
  have hX' : ∀ b, X b → st.next + 1 ≤ b := hX
  have hXn : ¬ X st.next := fun hx => by have := hX' _ hx; omega
  have htl : ∀ (z : List V), z.length = 7 → takeL 7 z = z := fun z hz => by rw [takeL_eq, ← hz, List.take_length]
  have hin : b ≠ st.next := by omega
  have hin2 : b2 ≠ st.next := by omega
  -- what is told in the end
  have hget' : ∀ x, (((st.put b .dead).alloc (.cells (rowOf (appL ys xs)) 14 7)).heap.get x) = if st.next = x then some (.cells (rowOf (appL ys xs)) 14 7) else if b = x then some .dead else st.heap.get x := fun x => by
    show ((st.heap.set b .dead).set st.next _).get x = _
    rw [PT.get_set, PT.get_set]
  by_cases h1 : cap = 1
  · -- no room
    subst h1
    obtain ⟨T', stA, r1, r2, r3⟩ := insA (cp := cpOf Tryz.prog) (E := EO) (n := 5) (c2 := c2) (ex2 := ex2) hb (by cases h : Nat.beq N 0 with | false => rfl | true => have := Nat.eq_of_beq_eq_true h; have := hbnd 0 (by omega); omega) hb2 hin hin2 hx hy
    have hcall : callF (cpOf Tryz.prog) EO 20 51 [.slice b o 1 1 true, .int .i64 0, .slice b2 o2 1 c2 ex2] st = some (.slice st.next 0 2 2 false, stA) :=
      callF_to (l := [.slice st.next 0 2 2 false]) (by decide) rfl h51 r1 (by
        show ob (pur (T'.get 6) stA) (fun p => ob (some []) fun l => some (p.1 :: l)) = _
        rw [r2]; rfl)
    have hnA : stA.next = st.next + 1 := by rw [r3]; rfl
    have hgA : ∀ x, stA.heap.get x = if st.next = x then some (.cells (storeN (takeL 7 xs) (storeN (takeL 7 ys) zz 0) 7) 14 7) else st.heap.get x := fun x => by
      rw [r3]
      show (((st.heap.set st.next _).set st.next _).set st.next _).get x = _
      rw [PT.get_set, PT.get_set, PT.get_set]
      split <;> rfl
    have hless : ∀ x o', ((st.put b .dead).alloc (.cells (rowOf (appL ys xs)) 14 7)).heap.get x = some o' → ∃ o, stA.heap.get x = some o ∧ Less o o' := fun x o' hx => by
      rw [hget'] at hx
      rw [hgA]
      split at hx
      · cases hx
        rename_i e
        rw [if_pos e]
        refine ⟨_, rfl, .inr (.inr ⟨_, _, _, _, rfl, rfl, fun i u hu => ?_⟩)⟩
        rw [rowOf_get, appL_eq] at hu
        rw [htl xs lx, htl ys ly, storeN_get, storeN_get, lx, ly]
        have hi : i < 14 := by
          have := (List.getElem?_eq_some_iff.1 hu).1
          rw [List.length_append, lx, ly] at this
          omega
        by_cases hi7 : i < 7
        · rw [if_neg (by omega), if_pos (by omega)]
          rw [List.getElem?_append_left (by omega)] at hu
          simpa using hu
        · rw [if_pos (by omega)]
          rw [List.getElem?_append_right (by omega), ly] at hu
          exact hu
      · rename_i e
        rw [if_neg e]
        split at hx
        · cases hx
          rename_i e2
          subst e2
          exact ⟨_, getCells_some hb, .inr (.inl rfl)⟩
        · exact ⟨_, hx, .inl rfl⟩
    have fin : ∀ v' w', Am.Ends Tryz.prog X ι st w (.slice st.next 0 2 2 false) stA v' w' → Am.Ends Tryz.prog X ι st w (.slice st.next 0 2 2 false) ((st.put b .dead).alloc (.cells (rowOf (appL ys xs)) 14 7)) v' w' := fun v' w' ⟨ι', f1, f2, f3⟩ =>
      ⟨ι', f1, f2.weak hnA.symm hless, f3.weak hnA.symm hless⟩
    have hargs2 : VsRel ι [.slice b o 1 1 true, .int .i64 0, .slice b2 o2 1 c2 ex2] [Value.slice (some ⟨l.blk, l.base + o, none⟩) 1 1, .int .i64 0, v3] :=
      .cons _ _ _ _ (.slice b o 1 1 true l 1 _ k1 (by omega) (by omega) (fun _ => rfl) (by rw [k2]; exact g4) (fun _ => rfl)) (.cons _ _ _ _ (.int _ _) (.cons _ _ _ _ ha3 .nil))
    rcases hcg 51 _ st _ stA hlt hcall X ι w ⟨[Value.slice (some ⟨l.blk, l.base + o, none⟩) 1 1, .int .i64 0, v3]⟩ hh hargs2 (by rw [hnA]; exact hX') with ⟨z1, z2⟩ | ⟨v', w', z1, z2⟩
    · exact .inl ⟨z1, z2.mono fun e w' ⟨v', he, hE⟩ => ⟨v', he, fin v' w' hE⟩⟩
    · exact .inr ⟨v', w', z1, fin v' w' z2⟩
  · -- there is room
    obtain ⟨k, rfl⟩ : ∃ k, cap = k + 2 := ⟨cap - 2, by omega⟩
    let N1 := max N (o + (k + 2) * 7)
    obtain ⟨w1, w2⟩ := hh.put (o := .cells cs N1 7) (w' := w) (getCells_some hb) trivial k1 rfl (fun _ _ => rfl) rfl rfl rfl
      ⟨l, k1, k2, cc, elm, fr, m1, m2, m3, by omega, fun i u hu => by
        obtain ⟨y1, y2⟩ := m5 i u hu
        exact ⟨by omega, y2⟩⟩
    obtain ⟨T', stB, r1, r2, r3⟩ := insB (cp := cpOf Tryz.prog) (E := EO) (n := 5) (c2 := c2) (ex2 := ex2) (k := k) (st := st.put b (.cells cs N1 7)) (g := eOver 7) getC_same ((getC_put (Ne.symm hne)).trans hb2) (Ne.symm hne) hx hy (by omega) (by omega) (by omega)
      (by
        rw [intLt_eq]
        have : wrapF .i64 ((Int.ofNat 1).add (Int.ofNat 1)) = 2 := by rfl
        rw [this]
        simp; omega) rfl (by
        show ob (getCells (st.put b (.cells cs N1 7)) b2) (fun q => ob (getCells (st.put b (.cells cs N1 7)) b) fun q2 => whn (Nat.beq q.2.2 7) <| whn (Nat.beq q2.2.2 7) <| whn (Bool.not (Nat.beq b2 b)) <| whn (Nat.blt 0 (2 - 1)) (some (V.bool false, st.put b (.cells cs N1 7)))) = _
        rw [(getC_put (Ne.symm hne)).trans hb2, getC_same]
        have e : Nat.beq b2 b = false := by
          cases h : Nat.beq b2 b with
          | false => rfl
          | true => exact absurd (Nat.eq_of_beq_eq_true h).symm hne
        rw [e]; rfl)
    have hcall : callF (cpOf Tryz.prog) EO 20 51 [.slice b o 1 (k + 2) true, .int .i64 0, .slice b2 o2 1 c2 ex2] (st.put b (.cells cs N1 7)) = some (.slice b (o + 0 * 7) 2 (k + 2) true, stB) :=
      callF_to (l := [.slice b (o + 0 * 7) 2 (k + 2) true]) (by decide) rfl h51 r1 (by
        show ob (pur (T'.get 6) stB) (fun p => ob (some []) fun l => some (p.1 :: l)) = _
        rw [r2]; rfl)
    have hnB : stB.next = st.next := by rw [r3]; rfl
    let Y := storeN (takeL 7 ys) (storeN (takeL 7 xs) cs (o + 1 * 7)) (o + 0 * 7)
    have hgB : ∀ x, stB.heap.get x = if b = x then some (.cells Y N1 7) else st.heap.get x := fun x => by
      rw [r3]
      show (((st.heap.set b _).set b _).set b _).get x = _
      rw [PT.get_set, PT.get_set, PT.get_set]
      split <;> rfl
    have hY : ∀ i u, (rowOf (appL ys xs)).get i = some u → i < 14 ∧ Y.get (o + i) = some u := fun i u hu => by
      rw [rowOf_get, appL_eq] at hu
      have hi : i < 14 := by
        have := (List.getElem?_eq_some_iff.1 hu).1
        rw [List.length_append, lx, ly] at this
        omega
      refine ⟨hi, ?_⟩
      show (storeN (takeL 7 ys) (storeN (takeL 7 xs) cs (o + 1 * 7)) (o + 0 * 7)).get (o + i) = _
      rw [htl xs lx, htl ys ly, storeN_get, storeN_get, lx, ly]
      by_cases hi7 : i < 7
      · rw [if_pos (by omega)]
        rw [List.getElem?_append_left (by omega)] at hu
        rw [show o + i - (o + 0 * 7) = i by omega]
        exact hu
      · rw [if_neg (by omega), if_pos (by omega)]
        rw [List.getElem?_append_right (by omega), ly] at hu
        rw [show o + i - (o + 1 * 7) = i - 7 by omega]
        exact hu
    have fin : ∀ v' w', Am.Ends Tryz.prog X ι (st.put b (.cells cs N1 7)) w (.slice b (o + 0 * 7) 2 (k + 2) true) stB v' w' → Am.Ends Tryz.prog X ι st w (.slice st.next 0 2 2 false) ((st.put b .dead).alloc (.cells (rowOf (appL ys xs)) 14 7)) v' w' := fun v' w' ⟨ι', f1, f2, f3⟩ => by
      have hbB : stB.heap.get b = some (.cells Y N1 7) := by rw [hgB, if_pos rfl]
      have hlB : ι' b = some l := f3.ext _ _ k1
      obtain ⟨l3, p1, p2, c3, elm3, fr3, n1, n2, n3, n4, n5⟩ := f2.obj b _ hbB
      rw [hlB] at p1; cases p1
      cases f1 with | slice _ _ _ _ _ l4 cap4 off4 z1 z2 z3 z4 z5 z6 =>
      rw [hlB] at z1; cases z1
      have z4 := z4 rfl
      subst z4
      have z6 := z6 (by omega)
      subst z6
      have hX2 : ¬ X stB.next := by rw [hnB]; exact hXn
      obtain ⟨y1, y2⟩ := f2.reuse hX2 (o := .cells (rowOf (appL ys xs)) 14 7) (l := ⟨l.blk, l.base + o, l.size, 7⟩) (w' := w') hbB trivial hlB rfl rfl (fun _ _ => rfl) rfl rfl rfl
        ⟨_, upd_same _ _ _, rfl, c3, elm3, fr3, n1, n2, by have := n3; rw [p2] at this; exact this, by show l.base + o + 14 ≤ l.size; omega, fun i u hu => by
          obtain ⟨s1, s2⟩ := hY i u hu
          obtain ⟨_, u', s3, s4, s5⟩ := n5 _ _ s2
          exact ⟨s1, u', by show c3[l.base + o + i]? = _; rw [Nat.add_assoc]; exact s3, s4.mono (upd_ext (f2.fresh hX2)), s5⟩⟩
      have hless : ∀ x o', ((st.put b .dead).alloc (.cells (rowOf (appL ys xs)) 14 7)).heap.get x = some o' → ∃ o, ((stB.put b .dead).alloc (.cells (rowOf (appL ys xs)) 14 7)).heap.get x = some o ∧ Less o o' := fun x o' hx => by
        rw [hget'] at hx
        refine ⟨o', ?_, .inl rfl⟩
        show ((stB.heap.set b .dead).set stB.next _).get x = _
        rw [PT.get_set, PT.get_set, hnB, hgB]
        split
        · rename_i e
          rw [if_pos e] at hx; exact hx
        · rename_i e
          rw [if_neg e] at hx
          split
          · rename_i e2
            rw [if_pos e2] at hx; exact hx
          · rename_i e2
            rw [if_neg e2] at hx
            exact hx
      have hnx : ((st.put b .dead).alloc (.cells (rowOf (appL ys xs)) 14 7)).next = ((stB.put b .dead).alloc (.cells (rowOf (appL ys xs)) 14 7)).next := by
        show st.next + 1 = stB.next + 1
        rw [hnB]
      rw [hnB] at y1 y2
      refine ⟨upd ι' st.next ⟨l.blk, l.base + o, l.size, 7⟩, ?_, ?_, ?_⟩
      · have := VRel.slice (ι := upd ι' st.next ⟨l.blk, l.base + o, l.size, 7⟩) st.next 0 2 2 false ⟨l.blk, l.base + o, l.size, 7⟩ (k + 2) (l.base + (o + 0 * 7)) (upd_same _ _ _) (by omega) (by omega) (fun e => by cases e) (by show l.base + o + 0 + (k + 2) * 7 ≤ l.size; omega) (fun _ => by show l.base + (o + 0 * 7) = l.base + o + 0; omega)
        exact this
      · exact y1.weak hnx hless
      · exact (w2.trans (f3.trans y2)).weak hnx hless
    have hargs2 : VsRel ι [.slice b o 1 (k + 2) true, .int .i64 0, .slice b2 o2 1 c2 ex2] [Value.slice (some ⟨l.blk, l.base + o, none⟩) 1 (k + 2), .int .i64 0, v3] :=
      .cons _ _ _ _ (.slice b o 1 (k + 2) true l (k + 2) _ k1 (by omega) (by omega) (fun _ => rfl) (by rw [k2]; exact g4) (fun _ => rfl)) (.cons _ _ _ _ (.int _ _) (.cons _ _ _ _ ha3 .nil))
    rcases hcg 51 _ _ _ stB hlt hcall X ι w ⟨[Value.slice (some ⟨l.blk, l.base + o, none⟩) 1 (k + 2), .int .i64 0, v3]⟩ w1 hargs2 (by rw [hnB]; exact fun b hb => by have := hX' b hb; omega) with ⟨z1, z2⟩ | ⟨v', w', z1, z2⟩
    · exact .inl ⟨z1, z2.mono fun e w' ⟨v', he, hE⟩ => ⟨v', he, fin v' w' hE⟩⟩
    · exact .inr ⟨v', w', z1, fin v' w' z2⟩
end Go.Proofs.YtdofpjabgnfglaaGreatDoor
