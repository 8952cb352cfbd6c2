/-
The answers that this seat's runs take from outside are good.
-/
import Derived.Test.YtdofpjabgnfglaaGreatDoorInsA
import Derived.Test.YtdofpjabgnfglaaGreatDoorJoi
import Derived.Test.YtdofpjabgnfglaaGreatDoorCln
import Derived.Lib.AppendIntMem
import Derived.Lib.LaidTab
set_option maxRecDepth 100000
set_option linter.unusedVariables false
namespace Go.Proofs.YtdofpjabgnfglaaGreatDoor
open Go Go.Am
variable [GT] {P : Program} {X : Nat → Prop} {ι : Inj} {st st' : St} {w w' : World} {v : V} {v' : Value}

theorem ends_below (hh : HRel P X ι st w) (hv : VRel ι v v') (hb : RowKit.Below w.heap.size w w') : Am.Ends P X ι st w v st v' w' :=
  ⟨ι, hv, ⟨fun b o hb' => (hh.obj b o hb').turn (fun _ _ h => h) fun l hl _ => hb.block _ (hh.dom b l hl).2, fun b l hb' => ⟨(hh.dom b l hb').1, Nat.lt_of_lt_of_le (hh.dom b l hb').2 hb.size⟩, hh.live, hh.inj, hh.glob,
    fun g o hg hl => ⟨(hh.glo g o hg hl).1.turn (fun _ _ h => h) fun l hl2 _ => hb.block _ (hh.dom g l hl2).2, (hh.glo g o hg hl).2⟩⟩,
   ⟨fun _ _ h => h, Nat.le_refl _, hb.size, fun B hB _ => hb.block B hB, fun b o l g1 g2 g3 => .inr ⟨b, o, l, g1, g2, g3, rfl⟩, fun _ _ h => .inl h, hb.tape, hb.os, hb.output⟩⟩

/-- a call whose contract leaves what is there as it is -/
theorem good_below {f : Nat} {fn : Func} {b : Code} {g : List V → St → R} (hf : P.funcs[f]? = some fn) (hb : fn.body = some b) (hn : (fn.name == "runtime.NumGoroutine") = false)
    (h : ∀ args st v st', g args st = some (v, st') → st' = st ∧ ∀ (X : Nat → Prop) (ι : Inj) (args' : Array Value) (w : World), HRel P X ι st w → VsRel ι args args'.toList →
      Calls P f args' w fun e w' => ∃ v', e = .returned v' ∧ VRel ι v v' ∧ RowKit.Below w.heap.size w w') :
    CallGood P fun f' args st => sel (Nat.beq f' f) (g args st) none := by
  intro f' args st v st' hlt hr X ι w args' hh hargs hX
  simp only at hr
  rw [sel_eq] at hr
  split at hr <;> first | (cases hr; done) | skip
  rename_i hff
  have := Nat.eq_of_beq_eq_true hff
  subst this
  obtain ⟨h1, h2⟩ := h args st v st' hr
  subst h1
  exact .inl ⟨enter_run hf hb hn w, (h2 X ι args' w hh hargs).mono fun e w' ⟨v', k1, k2, k3⟩ => ⟨v', k1, ends_below hh k2 k3⟩⟩

/-- a table that is read, whole -/
theorem tab_of {G : Program} (hh : HRel G X ι st w) {g n e : Nat} {name : String} {k : IntKind} {zs : List Int} (hg : g < G.globals.size) (hgt : PT.get Am.GT.gt g = some (Am.Obj.cells (rowOf (zs.map fun z => V.int k z)) n e)) (hn : n = zs.length) (h0 : 0 < n)
    (hname : G.globalNamed name = some g) : Lib.TabIs G w name k zs := by
  obtain ⟨l, k1, k2, k3⟩ := (hh.glo g _ hgt trivial).1
  obtain ⟨l2, q1, q2, q3⟩ := hh.glob g hg
  rw [k1] at q1; cases q1
  obtain ⟨c, t, fr, r1, r2⟩ := k3 h0
  unfold Lib.TabIs World.var?
  rw [hname]
  show (match w.heap[g]? with | some (.cells cs _ _) => some cs | _ => none) = _
  rw [q2] at r1
  rw [r1]
  show some c = _
  congr 1
  apply Array.ext
  · simp; omega
  · intro i h1 h2
    have hi : i < zs.length := by simpa using h2
    have hget : (rowOf (zs.map fun z => V.int k z)).get i = some (.int k zs[i]) := by
      rw [rowOf_get]; simp [hi]
    obtain ⟨v', s1, s2, _⟩ := k2 i _ hget
    cases s2
    rw [q2, q3] at s1
    simp only [World.cell?, r1] at s1
    simp only [Nat.zero_add] at s1
    have : c[i]? = some (.int k zs[i]) := by
      revert s1
      split <;> simp_all
    rw [Array.getElem?_eq_getElem h1] at this
    simpa using Option.some.inj this

theorem good_ito (hgt : PT.get Am.GT.gt 3 = some (Am.Obj.cells (rowOf (Lib.pow10Tab.map fun z => V.int .u64 z)) 20 1)) : CallGood Tryz.prog fun f' args st => sel (Nat.beq f' 37) (eIto args st) none :=
  good_below (fn := Tryz.f37) (by kernel_rfl) rfl (by kernel_rfl) fun args st v st' h => by
    unfold eIto at h
    split at h
    · rename_i n
      obtain ⟨h1, h⟩ := whn_some.1 h
      cases h
      refine ⟨rfl, fun X ι args' w hh ha => ?_⟩
      obtain ⟨l⟩ := args'
      cases ha with | cons _ v1 _ l1 ha1 ha =>
      cases ha
      cases ha1
      have hf := h1
      simp only [fitsI, Bool.and_eq_true, decide_eq_true_eq] at hf
      have htab : Lib.TabIs Tryz.prog w "internal/strconv.uint64pow10" .u64 Lib.pow10Tab := tab_of hh (show 3 < 8 by decide) hgt (by rfl) (by decide) (by kernel_rfl)
      refine (show Calls Tryz.prog 37 #[.int .i64 n] w _ from Any.strconv_Itoa Tryz.laysM171 n hf.1 hf.2 w htab).mono fun e w' ⟨he, k, os, hw⟩ => ⟨_, he, ?_, ?_⟩
      · rw [itoaV_eq n h1]; exact strOf_rel _
      · rw [hw]; exact Lib.below_grow _ w (Nat.le_refl _) k os
    · cases h

theorem good_cln : CallGood Tryz.prog fun f' args st => sel (Nat.beq f' 213) (eCln args st) none :=
  good_below (fn := Tryz.f213) (by kernel_rfl) rfl (by kernel_rfl) fun args st v st' h => by
    unfold eCln at h
    split at h
    · rename_i n s
      obtain ⟨h1, h⟩ := whn_some.1 h
      obtain ⟨h2, h⟩ := whn_some.1 h
      have h1 : 0 < n := blt_lt h1
      have h2 : n < 1000000 := blt_lt h2
      cases h
      refine ⟨rfl, fun X ι args' w hh ha => ?_⟩
      obtain ⟨l⟩ := args'
      cases ha with | cons _ v1 _ l1 ha1 ha =>
      cases ha
      cases ha1 with | str _ _ bs g1 g2 =>
      exact (clone_calls bs w (by omega) (by omega)).mono fun e w' ⟨he, hw⟩ => ⟨_, he, .str _ _ bs g1 g2, hw⟩
    · cases h

theorem good_ix {x : Int} (hgt : PT.get Am.GT.gt 0 = some (Am.Obj.cells (.node (some (.int .i64 x)) .nil .nil .nil .nil) 0 1)) : CallGood Tryz.prog fun f' args st => sel (Nat.beq f' 118) (eIxS args st) none :=
  good_IxS (gm := 0) (fn := Tryz.f118) (by kernel_rfl) rfl (by kernel_rfl) hgt rfl (show 0 < 8 by decide) fun s sub m w hs hm => Any.stringslite_Index Tryz.lays219 s sub m w hs hm
/-! ### Texts joined -/

theorem strs_rel {ι : Inj} {w : World} {B : Nat} : ∀ (l : List V) (ls : List (List Nat)) (A : Nat), strsV l = some ls → (∀ (j : Nat) v, l[j]? = some v → ∃ v', w.cell? ⟨B, A + j, none⟩ = some v' ∧ VRel ι v v') →
    ∃ xs : List ByteArray, xs.length = l.length ∧ ls = xs.map (fun x => x.data.toList.map UInt8.toNat) ∧ ∀ (j : Nat) x, xs[j]? = some x → w.cell? ⟨B, A + j, none⟩ = some (.string x)
  | [], ls, A, h, _ => by
    cases h
    exact ⟨[], rfl, rfl, fun j x hx => by simp at hx⟩
  | v :: l, ls, A, h, hv => by
    obtain ⟨p, h1, h⟩ := ob_some.1 (show ob (asStr v) (fun p => ob (strsV l) fun l => some (p.2 :: l)) = some ls from h)
    obtain ⟨lt, h2, h⟩ := ob_some.1 h
    cases h
    obtain ⟨xs, g1, g2, g3⟩ := strs_rel l lt (A + 1) h2 fun j u hu => by
      have := hv (j + 1) u (by simpa using hu)
      rw [show A + 1 + j = A + (j + 1) by omega]; exact this
    obtain ⟨v', k1, k2⟩ := hv 0 v rfl
    rw [asStr_inv h1] at k2
    cases k2 with | str _ _ bs q1 q2 =>
    refine ⟨bs :: xs, by simp [g1], by simp [g2, q2], fun j x hx => ?_⟩
    cases j with
    | zero =>
      simp only [List.getElem?_cons_zero, Option.some.injEq] at hx
      subst hx; exact k1
    | succ j =>
      have := g3 j x (by simpa using hx)
      rw [show A + (j + 1) = A + 1 + j by omega]; exact this

theorem joinV_eq (sep x0 : List UInt8) : ∀ r : List ByteArray, joinV (sep.map UInt8.toNat) (x0.map UInt8.toNat :: r.map fun x => x.data.toList.map UInt8.toNat) = (held sep x0 r r.length).map UInt8.toNat := by
  intro r
  have key : ∀ r : List ByteArray, (List.rec [] (fun y _ ih => appL (sep.map UInt8.toNat) (appL y ih)) (r.map fun x => x.data.toList.map UInt8.toNat) : List Nat) = (r.flatMap fun x => sep ++ x.data.toList).map UInt8.toNat := by
    intro r
    induction r with
    | nil => rfl
    | cons x r ih =>
      show appL (sep.map UInt8.toNat) (appL (x.data.toList.map UInt8.toNat) (List.rec [] (fun y _ ih => appL (sep.map UInt8.toNat) (appL y ih)) (r.map fun x => x.data.toList.map UInt8.toNat))) = _
      rw [ih, appL_eq, appL_eq]
      simp [List.flatMap_cons]
  show appL (x0.map UInt8.toNat) (List.rec [] (fun y _ ih => appL (sep.map UInt8.toNat) (appL y ih)) (r.map fun x => x.data.toList.map UInt8.toNat)) = _
  rw [key, appL_eq]
  unfold held
  rw [List.take_length]
  simp

theorem eJoi_some {args : List V} (h : eJoi args st = some (v, st')) :
    ∃ b o n c ex m sep q l ls, args = [.slice b o n c ex, .str m sep] ∧ m = 1 ∧ getCells st b = some q ∧ q.2.2 = 1 ∧ loadN q.1 n o = some l ∧ strsV l = some ls ∧ 2 ≤ n ∧ n < 1000000 ∧ lenL (joinV sep ls) < 1000000 ∧ v = strOf (joinV sep ls) ∧ st' = st := by
  unfold eJoi at h
  split at h
  · rename_i b o n c ex m sep
    obtain ⟨h1, h⟩ := whn_some.1 h
    obtain ⟨q, h2, h⟩ := ob_some.1 h
    obtain ⟨h3, h⟩ := whn_some.1 h
    obtain ⟨l, h4, h⟩ := ob_some.1 h
    obtain ⟨ls, h5, h⟩ := ob_some.1 h
    obtain ⟨h6, h⟩ := whn_some.1 h
    obtain ⟨h7, h⟩ := whn_some.1 h
    obtain ⟨h8, h⟩ := whn_some.1 h
    cases h
    exact ⟨b, o, n, c, ex, m, sep, q, l, ls, rfl, Nat.eq_of_beq_eq_true h1, h2, Nat.eq_of_beq_eq_true h3, h4, h5, Nat.le_of_ble_eq_true h6, blt_lt h7, blt_lt h8, rfl, rfl⟩
  · cases h

theorem good_joi : CallGood Tryz.prog fun f' args st => sel (Nat.beq f' 36) (eJoi args st) none :=
  good_below (fn := Tryz.f36) (by kernel_rfl) rfl (by kernel_rfl) fun args st v st' h => by
    obtain ⟨b, o, n, c, ex, m, sep, q, l, ls, rfl, rfl, h1, h2, h3, h4, h5, h6, h7, rfl, rfl⟩ := eJoi_some h
    refine ⟨rfl, fun X ι args' w hh ha => ?_⟩
    obtain ⟨la⟩ := args'
    cases ha with | cons _ v1 _ l1 ha1 ha =>
    cases ha with | cons _ v2 _ l2 ha2 ha =>
    cases ha
    cases ha2 with | str _ _ sb s1 s2 =>
    cases ha1 with | slice _ _ _ _ _ lo cap off k1 g1 g2 g3 g4 g5 =>
    have g5 := g5 (by omega)
    subst g5
    obtain ⟨l3, q1, q2, q3⟩ := hh.cells h1
    rw [k1] at q1; cases q1
    obtain ⟨ll, lg⟩ := loadN_some _ _ _ _ h3
    obtain ⟨xs, x1, x2, x3⟩ := strs_rel (ι := ι) (w := w) (B := lo.blk) l ls (lo.base + o) h4 fun j u hu => by
      obtain ⟨v', p1, p2, _⟩ := q3.cell (lg j u hu)
      exact ⟨v', by rw [Nat.add_assoc]; exact p1, p2⟩
    cases xs with
    | nil => simp at x1; omega
    | cons x0 r =>
      have hr : r.length + 1 = n := by simp at x1; omega
      have hj : joinV sep ls = (held sb.data.toList x0.data.toList r r.length).map UInt8.toNat := by
        rw [x2, ← s2, List.map_cons]; exact joinV_eq _ _ r
      have hlen := held_len sb.data.toList x0 r r.length (by rw [← Lib.size_eq]; exact s1) (Nat.le_refl _)
      have hlt : (held sb.data.toList x0.data.toList r r.length).length < 1000000 := by
        have : lenL (joinV sep ls) < 1000000 := h7
        rw [hj, lenL_eq, List.length_map] at this
        exact this
      have hblk := (hh.dom b lo k1).2
      rw [← hr]
      have := join_calls lo.blk (lo.base + o) cap x0 r sb w x3 hblk s1 (by omega) (by have : n < 1000000 := h6; omega) (by omega) (by simp only [List.length_cons]; omega)
      refine this.mono fun e w' ⟨he, hw⟩ => ⟨_, he, ?_, hw⟩
      rw [hj]; exact strOf_rel _

end Go.Proofs.YtdofpjabgnfglaaGreatDoor
