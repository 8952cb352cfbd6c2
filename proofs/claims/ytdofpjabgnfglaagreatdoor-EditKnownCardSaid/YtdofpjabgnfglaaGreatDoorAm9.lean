/-
Append, copy, clear, make, maps: the operations.
-/
import Derived.Test.YtdofpjabgnfglaaGreatDoorAm8
set_option linter.unusedVariables false
set_option linter.unusedSectionVars false
set_option linter.unusedSimpArgs false
namespace Go.Am
open Go
variable [GT]

variable {P : Program} {G : Program} {X : Nat → Prop} {ι : Inj} {st st' : St} {w : World} {v : V}

theorem loadN_of (cs : PT V) : ∀ (n o : Nat), (∀ i, i < n → (cs.get (o + i)).isSome = true) → ∃ z, loadN cs n o = some z
  | 0, o, _ => ⟨[], rfl⟩
  | n + 1, o, h => by
    obtain ⟨u, hu⟩ := Option.isSome_iff_exists.1 (h 0 (by omega))
    obtain ⟨z, hz⟩ := loadN_of cs n (o + 1) (fun i hi => by have := h (i + 1) (by omega); rwa [show o + (i + 1) = o + 1 + i by omega] at this)
    refine ⟨u :: z, ?_⟩
    show ob (cs.get o) (fun v => ob (loadN cs n (o + 1)) fun l => some (v :: l)) = _
    have hu' : cs.get o = some u := by simpa using hu
    rw [hu', hz]; rfl

theorem appS_out (h : HRel G X ι st w) (hX : ∀ b, X b → st'.next ≤ b) {b o n c s m bytes : Nat} {ex : Bool} {l : Loc} {cap off : Nat} {elem : TypeId} {zeros : Bool} {x : Value} {appended : Sem (Array Value)}
    {new : List V} {new' : List Value} {i : TypeInfo} {z : Value}
    (hb : ι b = some l) (g1 : n ≤ c) (g2 : c ≤ cap) (g3 : ex = true → cap = c) (g4 : l.base + o + cap * l.esz ≤ l.size) (g5 : 0 < cap → off = l.base + o)
    (hi : P.info? elem = some i) (hz : zero? P elem = some z) (hzs : z.cells.size = s) (hsz : i.bytes = bytes)
    (hnew : VsRel ι new new') (hone : ∀ y ∈ new', y.oneCell' = true) (hlen : new'.length = m * s) (ha : ∀ w1 : World, w1.heap = w.heap → appended.run P w1 = .ok new'.toArray w1)
    (hr : appS s bytes b o n c ex new m st = some (v, st')) :
    SOut P G X ι st w (appTail elem s zeros (some ⟨l.blk, off, none⟩) n cap m (.slice (some ⟨l.blk, off, none⟩) n cap) x appended) v st' := by
  obtain ⟨q, h1, hr⟩ := ob_some.1 hr
  obtain ⟨h2, hr⟩ := whn_some.1 hr
  have hes := Nat.eq_of_beq_eq_true h2
  rw [sel_eq] at hr
  split at hr
  · -- into the room that is known
    rename_i hle
    have hle : n + m ≤ c := Nat.le_of_ble_eq_true hle
    obtain ⟨h3, hr⟩ := whn_some.1 hr
    have h3 : o + (n + m) * s ≤ q.2.1 := Nat.le_of_ble_eq_true h3
    cases hr
    have hmul : n * s + m * s = (n + m) * s := (Nat.add_mul n m s).symm
    by_cases h0 : 0 < cap
    · have g5 := g5 h0
      subst g5
      have hnl : new.length = m * s := by rw [hnew.length, hlen]
      obtain ⟨s1, s2, s3⟩ := h.setCells (P := P) h1 hb hnew hone (o := o + n * s) (by omega)
      refine ⟨ι, _, _, appTail_in (w1 := w.setCells l.blk (l.base + (o + n * s)) new') (by omega) (ha w rfl) (by rw [addr_add, Nat.add_assoc]; exact s1), ?_, s2, s3⟩
      exact .slice b o (n + m) c ex l cap _ hb hle g2 g3 g4 (fun _ => rfl)
    · have hn0 : n + m = 0 := by omega
      have : m = 0 := by omega
      subst this
      have hnn : new' = [] := by simpa using hlen
      subst hnn
      have : new = [] := by
        have := hnew.length
        simpa using this
      subst this
      obtain ⟨s1, s2, s3⟩ := h.setCells (P := P) h1 hb hnew hone (o := o + n * s) (by simp; omega)
      refine ⟨ι, _, w, appTail_in (w1 := w) (by omega) (ha w rfl) (by simp [storeCells]), ?_, s2, s3⟩
      exact .slice b o (n + 0) c ex l cap off hb hle g2 g3 g4 g5
  · rename_i hle
    have hle : ¬ n + m ≤ c := fun e => hle (Nat.ble_eq_true_of_le e)
    obtain ⟨h3, hr⟩ := whn_some.1 hr
    obtain ⟨h4, hr⟩ := whn_some.1 hr
    have h3 : n + m < 1099511627776 := by rw [Nat.blt_eq] at h3; exact h3
    have h4 : (n + m) * bytes < 1099511627776 := by rw [Nat.blt_eq] at h4; exact h4
    rw [sel_eq] at hr
    split at hr
    · rename_i hfull
      have hfull : o = 0 ∧ q.2.1 = n * s := by
        cases hq0 : Nat.beq o 0 with
        | false => rw [hq0] at hfull; cases hfull
        | true => rw [hq0] at hfull; exact ⟨Nat.eq_of_beq_eq_true hq0, Nat.eq_of_beq_eq_true hfull⟩
      obtain ⟨rfl, hN⟩ := hfull
      obtain ⟨l3, k1, k2, k3⟩ := h.cells h1
      -- all that is known of the row, as a list of what is known
      have hall : ∀ j u, q.1.get j = some u → j < n * s := fun j u hu => by
        obtain ⟨_, _, _, _, _, _, _, m5⟩ := k3
        have := (m5 j u hu).1; omega
      exact appR_out h hX h1 hb g1 g2 g3 g4 g5 hes hi hz hzs hsz hle h3 h4 hnew hone hlen ha (fun j u hu => ⟨hall j u hu, by simpa using hu⟩) hr
    · obtain ⟨zo, hzo, hr⟩ := ob_some.1 hr
      exact appR_out h hX h1 hb g1 g2 g3 g4 g5 hes hi hz hzs hsz hle h3 h4 hnew hone hlen ha (fun j u hu => by
        rw [rowOf_get] at hu
        obtain ⟨zl, zg⟩ := loadN_some _ _ _ _ hzo
        have := (List.getElem?_eq_some_iff.1 hu).1
        have zl : zo.length = n * s := zl
        exact ⟨by omega, zg j u hu⟩) hr

theorem append_run {t u ty e : TypeId} {size m : Nat} {base : Option Addr} {sLen sCap : Nat} {y' : Value} {ud : TypeDesc} (hu : P.underlying t = some (.slice e)) (hs : size? P e = some size) (hud : P.underlying u = some ud)
    (hni : ∀ k, ud ≠ .int k) (hl : (Builtin.lenOf y').run P w = .ok m w) :
    (Builtin.append_ #[t, u] ty #[.slice base sLen sCap, y']).run P w = (appTail e size false base sLen sCap m (.slice base sLen sCap) y' (Builtin.firstCells size m y')).run P w := by
  have hm : (match ud with | .int _ => true | _ => false) = false := by
    cases ud <;> first | rfl | exact absurd rfl (hni _)
  have e0 : (#[t, u] : Array TypeId)[0]? = some t := rfl
  have e1 : (#[t, u] : Array TypeId)[1]? = some u := rfl
  have e2 : (#[Value.slice base sLen sCap, y'] : Array Value)[0]? = some (.slice base sLen sCap) := rfl
  have e3 : (#[Value.slice base sLen sCap, y'] : Array Value)[1]? = some y' := rfl
  unfold Builtin.append_
  simp only [e0, e1, e2, e3, Sem.run_bind, run_underlying hu, Result.andThen_ok, sizeOf_run hs, run_underlying hud, Sem.run_pure, hm, Bool.false_eq_true, if_false, hl]
  unfold appTail
  simp only [Sem.run_bind, Sem.run_ite, Bool.not_false, if_true, Bool.false_eq_true, false_or, if_false]
  rfl

theorem appendz_run {t u ty e : TypeId} {size m bs : Nat} {base : Option Addr} {sLen sCap : Nat} {k k2 : IntKind} {z : Value} (hu : P.underlying t = some (.slice e)) (hs : size? P e = some size) (hb : bytes? P e = some bs)
    (hud : P.underlying u = some (.int k2)) (hz : zero? P e = some z) (hm : m * bs < 1099511627776) (hm2 : m < 1099511627776) :
    (Builtin.append_ #[t, u] ty #[.slice base sLen sCap, .int k ((m : Nat) : Int)]).run P w =
      (appTail e size true base sLen sCap m (.slice base sLen sCap) (.int k ((m : Nat) : Int)) (if m * size = 0 then pure #[] else do pure (Builtin.zeroCells (← zeroValue e).cells m))).run P w := by
  have e0 : (#[t, u] : Array TypeId)[0]? = some t := rfl
  have e1 : (#[t, u] : Array TypeId)[1]? = some u := rfl
  have e2 : (#[Value.slice base sLen sCap, .int k ((m : Nat) : Int)] : Array Value)[0]? = some (.slice base sLen sCap) := rfl
  have e3 : (#[Value.slice base sLen sCap, .int k ((m : Nat) : Int)] : Array Value)[1]? = some (.int k ((m : Nat) : Int)) := rfl
  obtain ⟨i, hi, hib⟩ := bytes?_info hb
  have hw : IntKind.i64.wrap ((m : Nat) : Int) = (m : Int) := IntWalk.i64_in _ ⟨by omega, by omega⟩
  have hneg : ¬ ((m : Int) < 0) := by omega
  have hbig : ¬ ((m : Int) * (i.bytes : Int) > 2 ^ 48) := by
    rw [hib]
    have h9 : (m : Int) * (bs : Int) = ((m * bs : Nat) : Int) := (Int.natCast_mul m bs).symm
    rw [h9]
    generalize m * bs = k at hm
    omega
  unfold Builtin.append_
  simp only [e0, e1, e2, e3, Sem.run_bind, run_underlying hu, Result.andThen_ok, sizeOf_run hs, run_underlying hud, Sem.run_pure, if_true, Go.asInt, asIntOf, hw, Sem.run_ite, hneg, if_false, info_run hi, hbig, Int.toNat_natCast]
  unfold appTail
  simp only [Sem.run_bind, Sem.run_ite, Bool.not_true, if_true, Bool.false_eq_true, true_or, and_true, if_false, info_run hi, Result.andThen_ok, Sem.run_pure]
  rfl

/-- append onto a nil slice, of something -/
theorem appV_nil (h : HRel G X ι st w) (hX : ∀ b, X b → st'.next ≤ b) {s m bytes : Nat} {elem : TypeId} {zeros : Bool} {x : Value} {appended : Sem (Array Value)}
    {new : List V} {new' : List Value} {i : TypeInfo} {z : Value} (hi : P.info? elem = some i) (hz : zero? P elem = some z) (hzs : z.cells.size = s) (hsz : i.bytes = bytes)
    (hnew : VsRel ι new new') (hone : ∀ y ∈ new', y.oneCell' = true) (hlen : new'.length = m * s) (ha : ∀ w1 : World, w1.heap = w.heap → appended.run P w1 = .ok new'.toArray w1)
    (hr : appV s bytes .snil new m st = some (v, st')) : SOut P G X ι st w (appTail elem s zeros none 0 0 m (.slice none 0 0) x appended) v st' := by
  have hr' : sel (Nat.beq m 0) (some (V.snil, st)) (whn (Nat.blt m big) <| whn (Nat.blt (Nat.mul m bytes) big)
      (some (.slice st.next 0 m m false, st.alloc (.cells (rowOf new) (Nat.mul m s) s)))) = some (v, st') := hr
  rw [sel_eq] at hr'
  split at hr'
  · rename_i h0
    have h0 := Nat.eq_of_beq_eq_true h0
    subst h0
    cases hr'
    exact .same h (by simp [appTail, ha w rfl]) .snil
  · rename_i h0
    have h0 : m ≠ 0 := fun e => h0 (by rw [e]; rfl)
    obtain ⟨h1, hr'⟩ := whn_some.1 hr'
    obtain ⟨h2, hr'⟩ := whn_some.1 hr'
    cases hr'
    have hX1 : ¬ X st.next := fun hx => by
      have h9 : st.next + 1 ≤ st.next := hX _ hx
      omega
    obtain ⟨ncap, c1, c2⟩ := appTail_new (P := P) (w := w) (elem := elem) (zeros := zeros) (base := none) (sLen := 0) (sCap := 0) (n := m) (s := .slice none 0 0) (x := x) (size := s) (appended := appended) (new := new') (old := []) (by omega) hi hz
      (by rw [Nat.blt_eq] at h1; rw [Nat.zero_add]; exact h1) (by rw [Nat.blt_eq] at h2; rw [hsz, Nat.zero_add]; exact h2) ha (fun w1 _ => by simp [Builtin.firstCells])
    rw [Nat.zero_add] at c1 c2
    have hcsz : (([] : List Value).toArray ++ new'.toArray ++ Builtin.zeroCells z.cells (ncap - m)).size = ncap * s := by
      simp [Builtin.zeroCells, hzs, hlen]
      rw [← Nat.add_mul]; congr 1; omega
    obtain ⟨q1, q2⟩ := h.newRow hX1 (w' := { w with heap := w.heap.push (.cells (([] : List Value).toArray ++ new'.toArray ++ Builtin.zeroCells z.cells (ncap - m)) elem), drawn := w.drawn + 1 })
      (c := ([] : List Value).toArray ++ new'.toArray ++ Builtin.zeroCells z.cells (ncap - m)) (e := elem) (fr := (0, 0)) (cs := rowOf new) (n := m * s) (s := s) rfl rfl rfl rfl
      (by rw [hcsz]; exact Nat.mul_le_mul_right s c1) (.zero _ _) (fun j u hu => by
        obtain ⟨p1, u', p2, p3, p4⟩ := rowOf_rel hnew hone hu
        have hnl : new.length = m * s := by rw [hnew.length, hlen]
        refine ⟨by omega, u', ?_, p3, p4⟩
        rw [Array.getElem?_append_left (by simp; omega)]
        simpa using p2)
    refine ⟨_, _, _, c2, ?_, q1, q2⟩
    exact .slice st.next 0 m m false ⟨w.heap.size, 0, _, s⟩ ncap 0 (upd_same _ _ _) (Nat.le_refl _) c1 (fun h => by cases h) (by simp only [Nat.zero_add]; exact Nat.le_of_eq hcsz.symm) (fun _ => rfl)

theorem appV_out (h : HRel G X ι st w) (hX : ∀ b, X b → st'.next ≤ b) {s m bytes : Nat} {elem : TypeId} {zeros : Bool} {x : Value} {appended : Sem (Array Value)}
    {new : List V} {new' : List Value} {i : TypeInfo} {z : Value} {a : V} {base : Option Addr} {sLen sCap : Nat} (hi : P.info? elem = some i) (hz : zero? P elem = some z) (hzs : z.cells.size = s) (hsz : i.bytes = bytes)
    (hva : VRel ι a (.slice base sLen sCap)) (hnew : VsRel ι new new') (hone : ∀ y ∈ new', y.oneCell' = true) (hlen : new'.length = m * s) (ha : ∀ w1 : World, w1.heap = w.heap → appended.run P w1 = .ok new'.toArray w1)
    (hr : appV s bytes a new m st = some (v, st')) : SOut P G X ι st w (appTail elem s zeros base sLen sCap m (.slice base sLen sCap) x appended) v st' := by
  cases hva with
  | snil => exact appV_nil h hX hi hz hzs hsz hnew hone hlen ha hr
  | slice b o n c ex l cap off hb g1 g2 g3 g4 g5 => exact appS_out h hX hb g1 g2 g3 g4 g5 hi hz hzs hsz hnew hone hlen ha hr

theorem slice_of {a : V} {a' : Value} (ha : VRel ι a a') {s bytes m : Nat} {new : List V} (hr : appV s bytes a new m st = some (v, st')) : ∃ base sLen sCap, a' = .slice base sLen sCap := by
  cases ha <;> first
    | (exact ⟨_, _, _, rfl⟩)
    | (cases hr; done)

theorem app_out (h : HRel G X ι st w) (hX : ∀ b, X b → st'.next ≤ b) {t u ty e : TypeId} {s bs : Nat} {ud : TypeDesc} {zc : List V} {a y : V} {a' y' : Value}
    (hu : P.underlying t = some (.slice e)) (hs : size? P e = some s) (hb : bytes? P e = some bs) (hz : zeroC? P e = some zc) (hzl : zc.length = s) (hud : P.underlying u = some ud) (hni : ∀ k, ud ≠ .int k)
    (ha : VRel ι a a') (hy : VRel ι y y') (hr : opApp s bs (some a) (some y) st = some (v, st')) : SOut P G X ι st w (Builtin.append_ #[t, u] ty #[a', y']) v st' := by
  obtain ⟨_, e1, hr⟩ := ob_some.1 hr
  cases e1
  obtain ⟨_, e1, hr⟩ := ob_some.1 hr
  cases e1
  obtain ⟨p, h1, hr⟩ := ob_some.1 hr
  obtain ⟨new, n1, n2, n3, n4⟩ := elemsV_rel (P := P) h hy h1
  obtain ⟨base, sLen, sCap, rfl⟩ := slice_of ha hr
  obtain ⟨zv, z1, z2, z3⟩ := zeroC_rel ι hz
  obtain ⟨i, i1, i2⟩ := bytes?_info hb
  have hzs : zv.cells.size = s := by rw [← Array.length_toList, ← z2.length, hzl]
  have := appV_out (P := P) (elem := e) (zeros := false) (x := y') (appended := Builtin.firstCells s p.2 y') h hX i1 z1 hzs i2 ha n1 n2 n3 (fun w1 hw1 => by
    have := (n4 w1 hw1).2 p.2 (Nat.le_refl _)
    rwa [List.take_of_length_le (by omega)] at this) hr
  obtain ⟨ι', v', w', q1, q2⟩ := this
  exact ⟨ι', v', w', by rw [append_run hu hs hud hni (n4 w rfl).1]; exact q1, q2⟩

theorem appz_out (h : HRel G X ι st w) (hX : ∀ b, X b → st'.next ≤ b) {t u ty e : TypeId} {s bs : Nat} {k2 : IntKind} {zc : List V} {a y : V} {a' y' : Value}
    (hu : P.underlying t = some (.slice e)) (hs : size? P e = some s) (hb : bytes? P e = some bs) (hz : zeroC? P e = some zc) (hzl : zc.length = s) (hud : P.underlying u = some (.int k2))
    (ha : VRel ι a a') (hy : VRel ι y y') (hr : opAppz zc s bs (some a) (some y) st = some (v, st')) : SOut P G X ι st w (Builtin.append_ #[t, u] ty #[a', y']) v st' := by
  obtain ⟨_, e1, hr⟩ := ob_some.1 hr
  cases e1
  obtain ⟨_, e1, hr⟩ := ob_some.1 hr
  cases e1
  obtain ⟨m, h1, hr⟩ := ob_some.1 hr
  obtain ⟨k, e1⟩ := vnat_inv h1
  subst e1
  obtain ⟨hm1, hr⟩ := whn_some.1 hr
  obtain ⟨hm2, hr⟩ := whn_some.1 hr
  obtain ⟨base, sLen, sCap, rfl⟩ := slice_of ha hr
  obtain ⟨zv, z1, z2, z3⟩ := zeroC_rel ι hz
  obtain ⟨i, i1, i2⟩ := bytes?_info hb
  have hzs : zv.cells.size = s := by rw [← Array.length_toList, ← z2.length, hzl]
  obtain ⟨r1, r2⟩ := repV_rel z2 m
  have hlen : (Builtin.zeroCells zv.cells m).toList.length = m * s := by rw [Array.length_toList, r2, hzs]
  have happ : ∀ w1 : World, w1.heap = w.heap → (if m * s = 0 then (pure #[] : Sem (Array Value)) else do pure (Builtin.zeroCells (← zeroValue e).cells m)).run P w1 = .ok (Builtin.zeroCells zv.cells m).toList.toArray w1 := by
    intro w1 _
    split
    · rename_i h0
      have : (Builtin.zeroCells zv.cells m) = #[] := by
        apply Array.eq_empty_of_size_eq_zero; rw [r2, hzs]; exact h0
      simp [this]
    · simp [zero_run z1]
  cases hy with | int =>
  -- the length is in bounds: it is added to one that is
  have hm : m < 1099511627776 ∧ m * bs < 1099511627776 := by
    rw [Nat.blt_eq] at hm1 hm2; exact ⟨hm1, hm2⟩
  · have := appV_out (P := P) (elem := e) (zeros := true) (x := .int k ((m : Nat) : Int)) (appended := (if m * s = 0 then pure #[] else do pure (Builtin.zeroCells (← zeroValue e).cells m))) h hX i1 z1 hzs i2 ha r1 (zeroCells_one z3 m) hlen happ hr
    obtain ⟨ι', v', w', q1, q2⟩ := this
    exact ⟨ι', v', w', by
      have := appendz_run (P := P) (w := w) (t := t) (u := u) (ty := ty) (e := e) (size := s) (m := m) (bs := bs) (base := base) (sLen := sLen) (sCap := sCap) (k := k) (k2 := k2) hu hs hb hud z1 hm.2 hm.1
      exact this.trans q1, q2⟩

/-! ### copy, clear, make -/

/-- a source that is cut to what is asked -/
theorem cutV_rel (h : HRel G X ι st w) {s m k : Nat} {y : V} {y' : Value} {l : List V} (hy : VRel ι y y') (he : elemsV s (cutV k y) st = some (l, m)) :
    ∃ (new : List Value) (ny : Nat), VsRel ι l new ∧ (∀ x ∈ new, x.oneCell' = true) ∧ new.length = m * s ∧ Nat.min ny k = Nat.min m k ∧
      ∀ w1 : World, w1.heap = w.heap → (Builtin.lenOf y').run P w1 = .ok ny w1 ∧ ∀ k, k ≤ m → (Builtin.firstCells s k y').run P w1 = .ok (new.take (k * s)).toArray w1 := by
  cases hy with
  | slice b o n c ex l0 cap off hb g1 g2 g3 g4 g5 =>
    have hc : VRel ι (cutV k (.slice b o n c ex)) (.slice (some ⟨l0.blk, off, none⟩) (Nat.min k n) cap) := .slice b o (Nat.min k n) c ex l0 cap off hb (Nat.le_trans (Nat.min_le_right _ _) g1) g2 g3 g4 g5
    obtain ⟨new, n1, n2, n3, n4⟩ := elemsV_rel (P := P) h hc he
    have hm : m = Nat.min k n := by
      obtain ⟨q, _, he⟩ := ob_some.1 (show ob (getCells st b) (fun q => ob (loadN q.1 (Nat.mul (Nat.min k n) s) o) fun l => some (l, Nat.min k n)) = some (l, m) from he)
      obtain ⟨l2, _, he⟩ := ob_some.1 he
      cases he; rfl
    refine ⟨new, n, n1, n2, n3, ?_, fun w1 hw => ⟨by simp [Builtin.lenOf], fun k2 hk2 => ?_⟩⟩
    · subst hm
      show min n k = min (min k n) k
      omega
    · exact (n4 w1 hw).2 k2 hk2
  | str n s2 bs g1 g2 =>
    obtain ⟨new, n1, n2, n3, n4⟩ := elemsV_rel (P := P) h (.str n s2 bs g1 g2) he
    exact ⟨new, m, n1, n2, n3, rfl, n4⟩
  | snil =>
    obtain ⟨new, n1, n2, n3, n4⟩ := elemsV_rel (P := P) h .snil he
    exact ⟨new, m, n1, n2, n3, rfl, n4⟩
  | _ => cases he

theorem cpy_out (h : HRel G X ι st w) {t u ty e : TypeId} {s : Nat} {a y : V} {a' y' : Value} (hu : P.underlying t = some (.slice e)) (hs : size? P e = some s)
    (ha : VRel ι a a') (hy : VRel ι y y') (hr : opCpy s (some a) (some y) st = some (v, st')) : SOut P G X ι st w (Builtin.copy_ #[t, u] ty #[a', y']) v st' := by
  obtain ⟨_, e1, hr⟩ := ob_some.1 hr
  cases e1
  obtain ⟨_, e1, hr⟩ := ob_some.1 hr
  cases e1
  cases ha with
  | snil =>
    obtain ⟨p, h1, hr⟩ := ob_some.1 hr
    obtain ⟨new, n1, n2, n3, n4⟩ := elemsV_rel (P := P) h hy h1
    cases hr
    have := (n4 w rfl).2 0 (Nat.zero_le _)
    have hmin : Nat.min p.2 0 = 0 := Nat.min_zero _
    exact .same h (by simp [Builtin.copy_, run_underlying hu, sizeOf_run hs, (n4 w rfl).1, hmin, this, goInt]) (.int _ _)
  | slice b o n c ex l cap off hb g1 g2 g3 g4 g5 =>
    obtain ⟨p, h1, hr⟩ := ob_some.1 hr
    obtain ⟨new, ny, n1, n2, n3, nm, n4⟩ := cutV_rel (P := P) h hy h1
    obtain ⟨q, h2, hr⟩ := ob_some.1 hr
    obtain ⟨h3, hr⟩ := whn_some.1 hr
    obtain ⟨h4, hr⟩ := whn_some.1 hr
    have h3 := Nat.eq_of_beq_eq_true h3
    have h4 : o + n * s ≤ q.2.1 := Nat.le_of_ble_eq_true h4
    cases hr
    have hk : Nat.min p.2 n ≤ p.2 := Nat.min_le_left _ _
    have hk2 : Nat.min p.2 n ≤ n := Nat.min_le_right _ _
    have hf := (n4 w rfl).2 (Nat.min p.2 n) hk
    have hmul : Nat.min p.2 n * s ≤ n * s := Nat.mul_le_mul_right s hk2
    have hmul2 : Nat.min p.2 n * s ≤ p.2 * s := Nat.mul_le_mul_right s hk
    have hvs : VsRel ι (takeL (Nat.mul (Nat.min p.2 n) s) p.1) (new.take (Nat.min p.2 n * s)) := by rw [takeL_eq]; exact n1.take _
    have htl : (takeL (Nat.mul (Nat.min p.2 n) s) p.1).length = Nat.min p.2 n * s := by
      rw [hvs.length, List.length_take, n3]; exact Nat.min_eq_left hmul2
    obtain ⟨s1, s2, s3⟩ := h.setCells (P := P) h2 hb hvs (fun x hx => n2 x (List.mem_of_mem_take hx)) (o := o) (by omega)
    by_cases h0 : 0 < cap
    · have g5 := g5 h0
      subst g5
      exact ⟨ι, _, _, by simp [Builtin.copy_, run_underlying hu, sizeOf_run hs, (n4 w rfl).1, nm, hf, s1, goInt], .int _ _, s2, s3⟩
    · have hn : n = 0 := by omega
      subst hn
      have hmin : Nat.min p.2 0 = 0 := Nat.min_zero _
      rw [hmin] at hf s1 s2 s3
      simp only [Nat.zero_mul, List.take_zero] at hf s1 s2 s3
      refine ⟨ι, .int .i64 0, w, by simp [Builtin.copy_, run_underlying hu, sizeOf_run hs, (n4 w rfl).1, nm, hmin, hf, storeCells, goInt], by rw [hmin]; exact .int _ _, ?_, ?_⟩
      · rw [hmin]; exact s2
      · rw [hmin]; exact s3
  | _ => cases hr

theorem clr_out (h : HRel G X ι st w) {t ty e : TypeId} {s : Nat} {zc : List V} {a : V} {a' : Value} (hu : P.underlying t = some (.slice e)) (hz : zeroC? P e = some zc) (hzl : zc.length = s)
    (ha : VRel ι a a') (hr : opClr zc s (some a) st = some (v, st')) : SOut P G X ι st w (Builtin.clear_ #[t] ty #[a']) v st' := by
  obtain ⟨_, e1, hr⟩ := ob_some.1 hr
  cases e1
  have hund : VRel ι undefV (.tuple #[]) := .tup _ _ .nil
  cases ha with
  | snil =>
    cases hr
    exact .same h (by simp [Builtin.clear_, run_underlying hu]) hund
  | slice b o n c ex l cap off hb g1 g2 g3 g4 g5 =>
    obtain ⟨q, h2, hr⟩ := ob_some.1 hr
    obtain ⟨h3, hr⟩ := whn_some.1 hr
    obtain ⟨h4, hr⟩ := whn_some.1 hr
    have h4 : o + n * s ≤ q.2.1 := Nat.le_of_ble_eq_true h4
    cases hr
    obtain ⟨zv, z1, z2, z3⟩ := zeroC_rel ι hz
    have hzs : zv.cells.size = s := by rw [← Array.length_toList, ← z2.length, hzl]
    obtain ⟨r1, r2⟩ := repV_rel z2 n
    have hl : (repV zc n).length = n * s := by rw [r1.length, Array.length_toList, r2, hzs]
    obtain ⟨s1, s2, s3⟩ := h.setCells (P := P) h2 hb r1 (zeroCells_one z3 n) (o := o) (by omega)
    by_cases h0 : n = 0
    · subst h0
      have : (Builtin.zeroCells zv.cells 0).toList = [] := by simp [Builtin.zeroCells]
      rw [this] at s1 s2 s3
      exact ⟨ι, _, w, by simp [Builtin.clear_, run_underlying hu], hund, s2, s3⟩
    · have g5 := g5 (by omega)
      subst g5
      refine ⟨ι, _, _, ?_, hund, s2, s3⟩
      cases n with
      | zero => exact absurd rfl h0
      | succ n => simp [Builtin.clear_, run_underlying hu, zero_run z1, s1]
  | _ => cases hr

theorem mks_out (h : HRel G X ι st w) (hX : ∀ b, X b → st'.next ≤ b) {t e : TypeId} {s bs : Nat} {zc : List V} {a y : V} {a' y' : Value} (hu : P.underlying t = some (.slice e)) (hs : size? P e = some s) (hb : bytes? P e = some bs)
    (hz : zeroC? P e = some zc) (hzl : zc.length = s) (ha : VRel ι a a') (hy : VRel ι y y') (hr : opMks zc s bs (some a) (some y) st = some (v, st')) : SOut P G X ι st w (Instr.makeSlice t a' y') v st' := by
  obtain ⟨_, e1, hr⟩ := ob_some.1 hr
  cases e1
  obtain ⟨_, e1, hr⟩ := ob_some.1 hr
  cases e1
  obtain ⟨l, h1, hr⟩ := ob_some.1 hr
  obtain ⟨c, h2, hr⟩ := ob_some.1 hr
  obtain ⟨h3, hr⟩ := whn_some.1 hr
  obtain ⟨h4, hr⟩ := whn_some.1 hr
  obtain ⟨h5, hr⟩ := whn_some.1 hr
  have h3 := Nat.le_of_ble_eq_true h3
  have h4 : c < 1099511627776 := by rw [Nat.blt_eq] at h4; exact h4
  have h5 : c * bs < 1099511627776 := by rw [Nat.blt_eq] at h5; exact h5
  cases hr
  obtain ⟨k1, e1⟩ := vnat_inv h1
  obtain ⟨k2, e2⟩ := vnat_inv h2
  subst e1 e2
  cases ha with | int => cases hy with | int =>
  have hX1 : ¬ X st.next := fun hx => by
    have h9 : st.next + 1 ≤ st.next := hX _ hx
    omega
  obtain ⟨zv, z1, z2, z3⟩ := zeroC_rel ι hz
  obtain ⟨i, i1, i2⟩ := bytes?_info hb
  have hzs : zv.cells.size = s := by rw [← Array.length_toList, ← z2.length, hzl]
  obtain ⟨r1, r2⟩ := repV_rel z2 c
  rw [hzs] at r2
  have hwl : IntKind.i64.wrap ((l : Nat) : Int) = (l : Int) := IntWalk.i64_in _ ⟨by omega, by omega⟩
  have hwc : IntKind.i64.wrap ((c : Nat) : Int) = (c : Int) := IntWalk.i64_in _ ⟨by omega, by omega⟩
  have hbig : ¬ ((i.bytes : Int) * ((c : Nat) : Int) > 2 ^ 48) := by
    rw [i2]
    have h9 : (bs : Int) * (c : Int) = ((c * bs : Nat) : Int) := by rw [Int.natCast_mul, Int.mul_comm]
    rw [h9]
    generalize c * bs = k at h5
    omega
  have hc0 : ¬ ((c : Nat) : Int) < 0 := by omega
  have hl0 : ¬ ((l : Nat) : Int) < 0 := by omega
  have hlc : ¬ ((l : Nat) : Int) > ((c : Nat) : Int) := by omega
  obtain ⟨q1, q2⟩ := h.newRow hX1 (w' := { w with heap := w.heap.push (.cells (Builtin.zeroCells zv.cells c) e) }) (c := Builtin.zeroCells zv.cells c) (e := e) (fr := (0, 0)) (cs := rowOf (repV zc c)) (n := c * s) (s := s) rfl rfl rfl rfl
    (by rw [r2]; exact Nat.le_refl _) (.zero _ _) (fun j u hu => by
      obtain ⟨p1, u', p2, p3⟩ := rowOf_rel r1 (zeroCells_one z3 c) hu
      have hl : (repV zc c).length = c * s := by rw [r1.length, Array.length_toList, r2]
      exact ⟨by omega, u', by simpa using p2, p3⟩)
  refine ⟨_, _, _, ?_, .slice st.next 0 l c true ⟨w.heap.size, 0, _, s⟩ c 0 (upd_same _ _ _) h3 (Nat.le_refl _) (fun _ => rfl) (by simp only [Nat.zero_add]; exact Nat.le_of_eq r2.symm) (fun _ => rfl), q1, q2⟩
  simp only [Instr.makeSlice, Sem.run_bind, run_underlying hu, Result.andThen_ok, Go.asInt, asIntOf, Sem.run_pure, info_run i1, Int.ofNat_eq_natCast, hwl, hwc, hbig, hc0, hl0, hlc, decide_false, Bool.or_false, Bool.false_eq_true, if_false, run_askRoom, sizeOf_run hs, Int.toNat_natCast]
  by_cases h0 : c * s = 0
  · have hz0 : Builtin.zeroCells zv.cells c = #[] := by
      apply Array.eq_empty_of_size_eq_zero; rw [r2]; exact h0
    have hr0 : Array.range 0 = #[] := rfl
    rw [h0, hz0]
    simp [newRow, hr0]
  · rw [if_neg h0]
    simp [newRow, zero_run z1, Builtin.zeroCells, hzs]

end Go.Am
