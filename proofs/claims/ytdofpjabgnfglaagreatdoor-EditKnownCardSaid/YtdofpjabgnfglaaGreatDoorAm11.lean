/-
Conversions, lengths, what is built; then any operation but a call.
-/
import Derived.Test.YtdofpjabgnfglaaGreatDoorAm10
set_option linter.unusedVariables false
set_option linter.unusedSectionVars false
set_option linter.unusedSimpArgs false
namespace Go.Am
open Go
variable [GT]

variable {P : Program} {G : Program} {X : Nat → Prop} {ι : Inj} {st st' : St} {w : World} {v : V}

theorem not_out (h : HRel G X ι st w) {a : V} {a' : Value} (ha : VRel ι a a') (hr : opNot (some a) st = some (v, st')) : SOut P G X ι st w (Op.unary .not a') v st' := by
  obtain ⟨_, e, hr⟩ := ob_some.1 hr
  cases e
  obtain ⟨b, h1, hr⟩ := ob_some.1 hr
  cases hr
  rw [asBool_inv h1] at ha
  cases ha
  exact .same h (by simp [Op.unary]) (.bool _)

theorem neg_out (h : HRel G X ι st w) {a : V} {a' : Value} (ha : VRel ι a a') (hr : opNeg (some a) st = some (v, st')) : SOut P G X ι st w (Op.unary .neg a') v st' := by
  obtain ⟨_, e, hr⟩ := ob_some.1 hr
  cases e
  obtain ⟨p, h1, hr⟩ := ob_some.1 hr
  cases hr
  rw [asInt_inv h1] at ha
  cases ha
  refine .same h (v' := .int p.1 (p.1.wrap (0 - p.2))) (by simp [Op.unary, Op.intArith]) ?_
  have : wrapF p.1 (Int.sub 0 p.2) = p.1.wrap (0 - p.2) := wrapF_eq _ _
  rw [this]; exact .int _ _

theorem cvi_out (h : HRel G X ι st w) {a : V} {a' : Value} {s d : TypeId} {k k0 : IntKind} (hs : P.underlying s = some (.int k0)) (hd : P.underlying d = some (.int k)) (ha : VRel ι a a') (hr : opCvi k (some a) st = some (v, st')) :
    SOut P G X ι st w (convert s d a') v st' := by
  obtain ⟨_, e, hr⟩ := ob_some.1 hr
  cases e
  obtain ⟨p, h1, hr⟩ := ob_some.1 hr
  cases hr
  rw [asInt_inv h1] at ha
  cases ha
  refine .same h (v' := .int k (k.wrap p.2)) (by simp [convert, run_underlying hs, run_underlying hd, Conv.intToInt]) ?_
  rw [wrapF_eq]; exact .int _ _

theorem cvss_out (h : HRel G X ι st w) {a : V} {a' : Value} {s d : TypeId} (hs : P.underlying s = some .string) (hd : P.underlying d = some .string) (ha : VRel ι a a') (hr : opCvss (some a) st = some (v, st')) :
    SOut P G X ι st w (convert s d a') v st' := by
  obtain ⟨_, e, hr⟩ := ob_some.1 hr
  cases e
  obtain ⟨p, h1, hr⟩ := ob_some.1 hr
  cases hr
  rw [asStr_inv h1] at ha
  cases ha with | str _ _ x g1 g2 =>
  exact .same h (by simp [convert, run_underlying hs, run_underlying hd]) (.str _ _ x g1 g2)

theorem cvsb_out (h : HRel G X ι st w) (hX : ∀ b, X b → st'.next ≤ b) {a : V} {a' : Value} {s d e : TypeId} (hs : P.underlying s = some .string) (hd : P.underlying d = some (.slice e)) (he : P.underlying e = some (.int .u8)) (ha : VRel ι a a')
    (hr : opCvsb (some a) st = some (v, st')) : SOut P G X ι st w (convert s d a') v st' := by
  obtain ⟨_, e1, hr⟩ := ob_some.1 hr
  cases e1
  obtain ⟨p, h1, hr⟩ := ob_some.1 hr
  cases hr
  have hX1 : ¬ X st.next := fun hx => by
    have h9 : st.next + 1 ≤ st.next := hX _ hx
    omega
  rw [asStr_inv h1] at ha
  cases ha with | str _ _ x g1 g2 =>
  have hb : ∀ (q : List UInt8), VsRel ι (bytesV (q.map UInt8.toNat)) (q.map fun b => Value.int .u8 b.toNat) := by
    intro q
    induction q with
    | nil => exact .nil
    | cons b q ih => exact .cons _ _ _ _ (.int _ _) ih
  let cap := (Question.appendCap x.size 0 e).cut (w.tape w.drawn (.appendCap x.size 0 e))
  have hcap : x.size ≤ cap := by simp [cap, Question.cut]
  let c : Array Value := x.data.map (fun b => Value.int .u8 b.toNat) ++ Array.replicate (cap - x.size) (.int .u8 0)
  have hcsz : c.size = cap := by
    have : x.data.size = x.size := rfl
    simp [c, this]; omega
  obtain ⟨q1, q2⟩ := h.newRow hX1 (w' := { w with heap := w.heap.push (.cells c e (c.size, c.size + 1)), drawn := w.drawn + 1 }) (c := c) (e := e) (fr := (c.size, c.size + 1)) (cs := rowOf (bytesV p.2)) (n := p.1) (s := 1) rfl rfl rfl rfl
    (by omega) (.inr ⟨rfl, Nat.le_refl _⟩) (fun j u hu => by
      rw [← g2] at hu
      obtain ⟨p1, u', p2, p3⟩ := rowOf_rel (hb x.data.toList) (by simp [Value.oneCell']) hu
      have hl : (bytesV (x.data.toList.map UInt8.toNat)).length = x.size := by rw [(hb x.data.toList).length]; simp
      refine ⟨by omega, u', ?_, p3⟩
      have hj : j < (x.data.map (fun b => Value.int .u8 b.toNat)).size := by
        have : x.data.size = x.size := rfl
        simp [this]; omega
      rw [Array.getElem?_append_left hj]
      simpa using p2)
  refine ⟨_, .slice (some ⟨w.heap.size, 0, none⟩) p.1 cap, _, ?_, .slice st.next 0 p.1 p.1 false ⟨w.heap.size, 0, c.size, 1⟩ cap 0 (upd_same _ _ _) (Nat.le_refl _) (by omega) (fun h => by cases h) (by show 0 + 0 + cap * 1 ≤ c.size; omega) (fun _ => rfl), q1, q2⟩
  have hsh : ({ w with heap := w.heap.push (.cells c e), drawn := w.drawn + 1 } : World).shape? w.heap.size = some (e, c.size) := by
    simp [World.shape?]
  have hfz : ({ w with heap := w.heap.push (.cells c e), drawn := w.drawn + 1 } : World).freeze { block := w.heap.size, off := c.size } 1 = { w with heap := w.heap.push (.cells c e (c.size, c.size + 1)), drawn := w.drawn + 1 } := by
    unfold World.freeze
    rw [if_neg (by decide)]
    congr 1
    apply Array.ext_getElem?
    intro i
    rw [Array.getElem?_modify, Array.getElem?_push, Array.getElem?_push]
    by_cases hi : w.heap.size = i
    · subst hi; simp
    · rw [if_neg hi, if_neg (fun h => hi h.symm), if_neg (fun h => hi h.symm)]
  have hc : (x.data.map fun b => Value.int .u8 b.toNat) ++ Array.replicate (cap - x.size) (.int .u8 0) = c := rfl
  rw [g1] at hc
  simp only [convert, Sem.run_bind, run_underlying hs, run_underlying hd, Result.andThen_ok, run_underlying he, Conv.stringToBytes, run_choose, Question.forced, Bool.false_eq_true, if_false, newRow, run_newObj, Sem.run_pure, markStringish, run_shape, g1]
  have hcap2 : (Question.appendCap p.1 0 e).cut (w.tape w.drawn (.appendCap p.1 0 e)) = cap := by simp only [cap, g1]
  rw [hcap2, hc, hsh]
  simp only [Sem.run_bind, run_freeze, hfz, Result.andThen_ok, Sem.run_pure]

theorem byteN_some {u : V} {n : Nat} (h : byteN u = some n) : u = .int .u8 (.ofNat n) ∧ n < 256 := by
  obtain ⟨p, h1, h2⟩ := ob_some.1 h
  obtain ⟨h3, h4⟩ := whn_some.1 h2
  obtain ⟨m, h5, h6⟩ := ob_some.1 h4
  obtain ⟨h7, h8⟩ := whn_some.1 h6
  cases h8
  obtain ⟨k, z⟩ := p
  have : k = .u8 := by cases k <;> simp [isU8] at h3 <;> rfl
  subst this
  cases z with
  | ofNat z => have h5' : some z = some n := h5
               cases h5'
               rw [Nat.blt_eq] at h7
               exact ⟨asInt_inv h1, h7⟩
  | negSucc z => cases h5

theorem bytes_fold (P : Program) (w : World) : ∀ (l : List V) (l' : List Value) (s : List Nat) (acc : ByteArray), bytesN l = some s → VsRel ι l l' →
    ∃ bs, (forIn l' acc fun (c : Value) (r : ByteArray) => (match c with
      | .int .u8 n => pure (ForInStep.yield (r.push (UInt8.ofNat n.toNat)))
      | _ => do
        (stuck "bytesToString: byte expected" : Sem PUnit)
        pure (ForInStep.yield r) : Sem (ForInStep ByteArray))).run P w = .ok bs w ∧ bs.data.toList = acc.data.toList ++ s.map UInt8.ofNat ∧ (∀ n ∈ s, n < 256) ∧ s.length = l.length
  | [], l', s, acc, h, hr => by
    cases hr
    have h' : some [] = some s := h
    cases h'
    exact ⟨acc, by simp, by simp, by simp, rfl⟩
  | u :: l, l', s, acc, h, hr => by
    obtain ⟨n, h1, h2⟩ := ob_some.1 (show ob (byteN u) (fun n => ob (bytesN l) fun l => some (n :: l)) = some s from h)
    obtain ⟨t, h3, h4⟩ := ob_some.1 h2
    cases h4
    obtain ⟨rfl, hn⟩ := byteN_some h1
    cases hr with | cons _ _ _ l'' g1 g2 =>
    cases g1
    obtain ⟨bs, k1, k2, k3, k4⟩ := bytes_fold P w l l'' t (acc.push (UInt8.ofNat n)) h3 g2
    refine ⟨bs, ?_, ?_, ?_, by simp [k4]⟩
    · rw [List.forIn_cons]
      simp only [Sem.run_bind, Sem.run_pure, Result.andThen_ok, Int.ofNat_eq_natCast, Int.toNat_natCast]
      exact k1
    · rw [k2]
      have : (acc.push (UInt8.ofNat n)).data.toList = acc.data.toList ++ [UInt8.ofNat n] := by
        show (acc.data.push (UInt8.ofNat n)).toList = _
        simp
      rw [this]; simp
    · intro m hm
      rcases List.mem_cons.1 hm with e | e
      · omega
      · exact k3 m e

theorem freeze_run {b : Nat} {w : World} {c : Array Value} {e : TypeId} {fr : Nat × Nat} (h : w.heap[b]? = some (.cells c e fr)) (hn : FrOk fr c.size 1) (off : Nat) :
    ∃ w' fr', (markStringish ⟨b, off, none⟩).run P w = .ok () w' ∧ w'.heap.size = w.heap.size ∧ (∀ B, B ≠ b → w'.heap[B]? = w.heap[B]?) ∧ w'.tape = w.tape ∧ w'.os = w.os ∧ w'.output = w.output ∧
      w'.heap[b]? = some (.cells c e fr') ∧ FrOk fr' c.size 1 := by
  refine ⟨w.freeze ⟨b, c.size, none⟩ 1, (if fr.1 == fr.2 then (c.size, c.size + 1) else (min fr.1 c.size, max fr.2 (c.size + 1))), ?_, ?_, ?_, rfl, rfl, rfl, ?_, ?_⟩
  · have hs : w.shape? b = some (e, c.size) := by simp [World.shape?, h]
    simp [markStringish, shape, freeze, Sem.run, hs, bind, Sem.bind]
  · simp [World.freeze]
  · intro B hB
    have : b ≠ B := fun e => hB e.symm
    simp [World.freeze, Array.getElem?_modify, this]
  · simp [World.freeze, Array.getElem?_modify, h]
  · rcases hn with hn | hn
    · simp [hn, FrOk]
    · by_cases hq : fr.1 = fr.2
      · simp [hq, FrOk]
      · have : ¬ (fr.1 == fr.2) = true := by simpa using hq
        rw [if_neg this]
        refine .inr ⟨rfl, ?_⟩
        show c.size ≤ min fr.1 c.size
        omega

theorem cvbb_out (h : HRel G X ι st w) {a : V} {a' : Value} {s e e0 : TypeId} (hs0 : P.underlying s = some (.slice e0)) (hs : P.underlying s = some (.slice e)) (he : P.underlying e = some (.int .u8)) (ha : VRel ι a a')
    (hr : opCvbb (some a) st = some (v, st')) : SOut P G X ι st w (convert s s a') v st' := by
  obtain ⟨_, e1, hr⟩ := ob_some.1 hr
  cases e1
  cases ha with
  | slice b o n c ex l cap off hb g1 g2 g3 g4 g5 =>
    obtain ⟨q, h1, hr⟩ := ob_some.1 hr
    obtain ⟨hq1, hr⟩ := whn_some.1 hr
    have hq1 := Nat.eq_of_beq_eq_true hq1
    cases hr
    obtain ⟨l3, k1, k2, k3⟩ := h.cells h1
    rw [hb] at k1; cases k1
    have hes : l.esz = 1 := k2.trans hq1
    obtain ⟨cc, ee, fr, m1, m2, m3, m4, m5⟩ := k3
    obtain ⟨w', fr', f1, f2, f3, f4, f5, f6, f7, f8⟩ := freeze_run (P := P) m1 (by rw [m2, ← hes]; exact m3) off
    have hput : HRel G X ι st w' ∧ Stp ι st w ι st w' := by
      have hk : ∀ B, B ≠ l.blk → w'.heap[B]? = w.heap[B]? := f3
      have hturn : ∀ x o2, st.heap.get x = some o2 → ORel G ι w' x o2 := fun x o2 hx => by
        by_cases hxb : x = b
        · subst hxb
          rw [getCells_some h1] at hx; cases hx
          exact ⟨l, hb, k2, cc, ee, fr', f7, m2, by rw [← m2, hes]; exact f8, m4, m5⟩
        · refine (h.obj x o2 hx).turn (fun _ _ h => h) (fun l' hl' hl2 => hk _ (fun e2 => hxb ?_))
          exact h.inj x b l' l o2 _ hx hl2 (getCells_some h1) trivial hl' hb e2
      refine ⟨⟨hturn, fun x l' hx => ?_, h.live, h.inj, h.glob, fun g o2 hg hlv2 => ⟨(h.glo g o2 hg hlv2).1.turn (fun _ _ h => h) fun l' hl' _ => hk _ fun e => (h.glo g o2 hg hlv2).2 b _ l l' (getCells_some h1) trivial hb hl' e.symm, (h.glo g o2 hg hlv2).2⟩⟩, ⟨fun _ _ h => h, Nat.le_refl _, by omega, fun B hB hno => hk B (fun e => hno b _ l (getCells_some h1) trivial hb e.symm),
        fun x o2 l' g1 g2 g3 => .inr ⟨x, o2, l', g1, g2, g3, rfl⟩, fun _ _ h => .inl h, f4, f5, f6⟩⟩
      have := h.dom x l' hx
      rw [f2]; exact this
    refine ⟨_, _, _, ?_, VRel.slice b o n c ex l cap off hb g1 g2 g3 g4 g5, hput.1, hput.2⟩
    simp [convert, run_underlying hs, run_underlying he, f1]
  | _ => cases hr

theorem cvbs_out (h : HRel G X ι st w) {a : V} {a' : Value} {s d e : TypeId} (hs : P.underlying s = some (.slice e)) (hd : P.underlying d = some .string) (he : P.underlying e = some (.int .u8)) (ha : VRel ι a a')
    (hr : opCvbs (some a) st = some (v, st')) : SOut P G X ι st w (convert s d a') v st' := by
  obtain ⟨_, e1, hr⟩ := ob_some.1 hr
  cases e1
  cases ha with
  | snil =>
    cases hr
    exact .same h (v' := .string .empty) (by simp [convert, run_underlying hs, run_underlying hd, run_underlying he, Conv.bytesToString]) (.str 0 [] .empty rfl rfl)
  | slice b o n c ex l cap off hb g1 g2 g3 g4 g5 =>
    obtain ⟨q, h1, hr⟩ := ob_some.1 hr
    obtain ⟨z, h2, hr⟩ := ob_some.1 hr
    obtain ⟨t, h3, hr⟩ := ob_some.1 hr
    cases hr
    obtain ⟨l3, k1, k2, k3⟩ := h.cells h1
    rw [hb] at k1; cases k1
    obtain ⟨z', r1, r2, r3, r4, r5⟩ := loadN_run (P := P) k3 h2
    obtain ⟨bs, f1, f2, f3, f4⟩ := bytes_fold P w z z' t .empty h3 r2
    obtain ⟨zl, _⟩ := loadN_some _ _ _ _ h2
    have hload : (loadCells ⟨l.blk, off, none⟩ n).run P w = .ok z'.toArray w := by
      by_cases h0 : 0 < cap
      · have g5 := g5 h0
        subst g5
        exact r1
      · have : n = 0 := by omega
        subst this
        have : z' = [] := by simpa using r4
        subst this
        rfl
    have f2' : bs.data.toList = t.map UInt8.ofNat := by rw [f2]; simp
    refine .same h (v' := .string bs) ?_ (.str n t bs ?_ ?_)
    · simp only [convert, Sem.run_bind, run_underlying hs, run_underlying hd, run_underlying he, Result.andThen_ok, Conv.bytesToString, hload]
      rw [← Array.forIn_toList]
      exact congrArg (fun r : Result ByteArray => r.andThen fun a w' => (pure (Value.string a) : Sem Value).run P w') f1
    · have : bs.size = bs.data.toList.length := by simp
      rw [this, f2', List.length_map, f4, zl]
    · rw [f2', List.map_map]
      apply List.ext_getElem?
      intro i
      rw [List.getElem?_map]
      cases hi : t[i]? with
      | none => rfl
      | some m =>
        have := f3 m (List.mem_of_getElem? hi)
        simp [Nat.mod_eq_of_lt this]
  | _ => cases hr

end Go.Am
