/-
Functions: what the evaluator's call comes to, the true call comes to.
-/
import Derived.Test.YtdofpjabgnfglaaGreatDoorAm15
set_option linter.unusedVariables false
set_option linter.unusedSectionVars false
set_option linter.unusedSimpArgs false
namespace Go.Am
open Go
variable [GT]

variable {P : Program} {X : Nat → Prop} {ι : Inj} {st st' : St} {w : World} {v : V}

/-- what is asked of the answers that are given from outside -/
structure ExtGood (P : Program) (E : Ext) : Prop where
  good : ∀ f g, E f = some g → CallGood P fun f' args st => sel (Nat.beq f' f) (g args st) none
  up : ∀ f g args st v st', E f = some g → g args st = some (v, st') → st.next ≤ st'.next

theorem CallGood.at {E : Ext} (hE : ExtGood P E) {f : Nat} (hf : f < YN) {g : List V → St → R} (hg : E f = some g) {args : List V} (hr : g args st = some (v, st')) :
    ∀ (X : Nat → Prop) (ι : Inj) (w : World) (args' : Array Value), HRel P X ι st w → VsRel ι args args'.toList → (∀ b, X b → st'.next ≤ b) →
    ((callFunc f args').run P w = .ok (.enter f args') w ∧ Calls P f args' w fun e w' => ∃ v', e = .returned v' ∧ Ends P X ι st w v st' v' w') ∨
    ∃ v' w', (callFunc f args').run P w = .ok (.value v') w' ∧ Ends P X ι st w v st' v' w' :=
  hE.good f g hg f args st v st' hf (by show sel (Nat.beq f f) (g args st) none = _; rw [sel_eq, if_pos (Nat.beq_refl f)]; exact hr)

theorem enter_run {f : Nat} {fn : Func} {args : Array Value} {b : Code} (hf : P.funcs[f]? = some fn) (hb : fn.body = some b) (hn : (fn.name == "runtime.NumGoroutine") = false) (w : World) :
    (callFunc f args).run P w = .ok (.enter f args) w := by
  unfold callFunc
  rw [Sem.run_bind]
  have : (program).run P w = .ok P w := rfl
  rw [this]
  simp only [Result.andThen_ok, hf, hn, hb, Bool.false_eq_true, if_false, Option.isNone_some, Sem.run_pure]

theorem compF_some {fn : Func} {cf : CFun} (h : compF P fn = some cf) : ∃ b r, fn.body = some b ∧ compRes P fn.results.toList = some r ∧ (fn.name == "runtime.NumGoroutine") = false ∧ cf = ⟨fn.ntmps, r, comp P fn.ntmps b⟩ := by
  unfold compF at h
  split at h <;> first | (simp at h; done) | skip
  rename_i b r h1 h2
  cases h3 : fn.name == "runtime.NumGoroutine" with
  | true => rw [h3] at h; cases h
  | false =>
    rw [h3] at h
    simp only [cond_false, Option.some.injEq] at h
    exact ⟨b, r, h1, h2, rfl, h.symm⟩

/-! ### The memory, where one block is turned that nothing live lies in -/

theorem HRel.touch (h : HRel P X ι st w) {B : Nat} (hB : ∀ b o l, st.heap.get b = some o → o.live → ι b = some l → l.blk ≠ B) (hG : ∀ g o l, GT.gt.get g = some o → o.live → ι g = some l → l.blk ≠ B) {w' : World} (hsz : w.heap.size ≤ w'.heap.size)
    (hk : ∀ C, C ≠ B → C < w.heap.size → w'.heap[C]? = w.heap[C]?) : HRel P X ι st w' :=
  ⟨fun b o hb => (h.obj b o hb).turn (fun _ _ h => h) fun l hl hlv => hk _ (hB b o l hb hlv hl) (h.dom b l hl).2, fun b l hb => ⟨(h.dom b l hb).1, Nat.lt_of_lt_of_le (h.dom b l hb).2 hsz⟩, h.live, h.inj, h.glob,
    fun g o hg hlv => ⟨(h.glo g o hg hlv).1.turn (fun _ _ h => h) fun l hl _ => hk _ (hG g o l hg hlv hl) (h.dom g l hl).2, (h.glo g o hg hlv).2⟩⟩

theorem HRel.grow (h : HRel P X ι st w) {w' : World} {x : Go.Obj} (hw : w'.heap = w.heap.push x) (ht : w'.tape = w.tape) (hos : w'.os = w.os) (hout : w'.output = w.output) : HRel P X ι st w' ∧ Stp ι st w ι st w' := by
  have hsz : w'.heap.size = w.heap.size + 1 := by rw [hw, Array.size_push]
  have hold : ∀ B, B < w.heap.size → w'.heap[B]? = w.heap[B]? := fun B hB => by rw [hw]; exact heap_push_old w x hB
  refine ⟨h.touch (B := w.heap.size) (fun b o l _ _ hl => by have := (h.dom b l hl).2; omega) (fun b o l _ _ hl => by have := (h.dom b l hl).2; omega) (by omega) fun C _ hC => hold C hC, fun _ _ h => h, Nat.le_refl _, by omega, fun B hB _ => hold B hB,
    fun b o l g1 g2 g3 => .inr ⟨b, o, l, g1, g2, g3, rfl⟩, fun b l hb => .inl hb, ht, hos, hout⟩

theorem alloc_get0 (st : St) (o : Obj) (x : Nat) : (st.alloc o).heap.get x = if st.next = x then some o else st.heap.get x := PT.get_set _ _ _ _

theorem onNorm_some {α : Type} {r : RS} {k : Tm → St → Option α} {x : α} (h : onNorm r k = some x) : ∃ T st, r = some (.norm, T, st) ∧ k T st = some x := by
  obtain ⟨⟨e, T, st⟩, h1, h2⟩ := ob_some.1 h
  cases e with
  | norm => exact ⟨T, st, h1, h2⟩
  | exit k => cases h2
  | ret => cases h2

theorem asRec_inv {o : Obj} {q : List Nat × CC × CC × Tm} (h : asRec o = some q) : o = .lrec q.1 q.2.1 q.2.2.1 q.2.2.2 := by
  cases o <;> simp only [asRec, reduceCtorEq] at h
  cases h; rfl

theorem puts_rel : ∀ {ps : List Nat} {l : List V} {l' : List Value} {T : Tm} {tmps : Array Value}, VsRel ι l l' → TRel ι T tmps → (∀ p ∈ ps, p < tmps.size) → ps.length = l.length →
    TRel ι (putsT ps l T) ((ps.zip l').foldl (fun tmps x => tmps.setIfInBounds x.1 x.2) tmps) ∧ ((ps.zip l').foldl (fun tmps x => tmps.setIfInBounds x.1 x.2) tmps).size = tmps.size
  | [], l, l', T, tmps, _, ht, _, _ => ⟨ht, rfl⟩
  | p :: ps, [], l', T, tmps, _, _, _, hl => by simp at hl
  | p :: ps, v :: l, v' :: l', T, tmps, .cons _ _ _ _ hv hvs, ht, hps, hl => by
    have h1 : TRel ι (T.set p v) (tmps.setIfInBounds p v') := TRel.put (a := ⟨tmps, []⟩) (d := some p) ht (fun x hx => by cases hx; exact hps p (by simp)) hv
    have h2 := puts_rel (ps := ps) (T := T.set p v) (tmps := tmps.setIfInBounds p v') hvs h1 (fun q hq => by rw [Array.size_setIfInBounds]; exact hps q (by simp [hq])) (by simpa using hl)
    rw [Array.size_setIfInBounds] at h2
    exact h2

theorem dstep_some {b : Bool} {call : CallF} {i : It} {T : Tm} {st cur : St} {k : Tm → St → Option (Tm × St × List St)} {r : Tm × St × List St} (h : dstep b call i T st cur k = some r) :
    (b = true ∧ ∃ v st', opV call T i.op st = some (v, st') ∧ k (putT T i.dst v) st' = some r) ∨ (b = false ∧ k (putT T i.dst undefV) cur = some r) := by
  unfold dstep at h
  cases b with
  | true =>
    obtain ⟨p, h1, h2⟩ := ob_some.1 (show ob (opV call T i.op st) (fun r => k (putT T i.dst r.1) r.2) = some r from h)
    exact .inl ⟨rfl, p.1, p.2, h1, h2⟩
  | false => exact .inr ⟨rfl, h⟩

theorem dregV_some {call : CallF} {l : List DIt} {T : Tm} {st : St} {T' : Tm} {st' : St} (h : dregV call l T st = some (T', st')) : ∃ S', runD call l T st st [st] = some (T', st', S') ∧ chkD call T' S' l = true := by
  obtain ⟨r, h1, h2⟩ := ob_some.1 h
  obtain ⟨h3, h4⟩ := whn_some.1 h2
  cases h4
  exact ⟨r.2.2, h1, h3⟩

/-! ### The numbers of blocks only rise, whatever the code is -/

def RecUp (rec : RunF) : Prop := ∀ c T st e T' st', rec c T st = some (e, T', st') → st.next ≤ st'.next

theorem retV_up {fn : CFun} {o : RS} {v : V} {st' : St} (h : retV fn o = some (v, st')) : ∃ e T, o = some (e, T, st') := by
  obtain ⟨⟨e, T, s⟩, h1, h2⟩ := ob_some.1 h
  have : s = st' := by
    cases e with
    | norm => obtain ⟨l, _, h3⟩ := ob_some.1 h2; cases h3; rfl
    | ret => obtain ⟨l, _, h3⟩ := ob_some.1 h2; cases h3; rfl
    | exit k => cases h2
  subst this
  exact ⟨e, T, h1⟩

theorem yieldW_up {rec : RunF} (hrec : RecUp rec) {bb : Nat} {args : List V} {st st' : St} {v : V} (hr : yieldW rec bb args st = some (v, st')) : st.next ≤ st'.next := by
  obtain ⟨o, h1, hr⟩ := ob_some.1 hr
  obtain ⟨q, h2, hr⟩ := ob_some.1 hr
  obtain ⟨h3, hr⟩ := whn_some.1 hr
  obtain ⟨T1, st1, h4, hr⟩ := onNorm_some hr
  obtain ⟨T2, st2, h5, hr⟩ := onNorm_some hr
  cases hr
  exact Nat.le_trans (show (st.put bb .dead).next ≤ st1.next from hrec _ _ _ _ _ _ h4) (show st1.next ≤ st2.next from hrec _ _ _ _ _ _ h5)

theorem callW_cases {CPr : CP} {E : Ext} {rec : RunF} {f : Nat} {args : List V} {st : St} {r : Option (V × St)} (h : callW CPr E rec f args st = r) :
    (YN ≤ f ∧ yieldW rec (Nat.sub f YN) args st = r) ∨
    (f < YN ∧ oc (E f) (ob (CPr f) fun fn => retV fn (rec fn.body (initT args 0 .nil) st)) (fun g => g args st) = r) := by
  unfold callW at h
  rw [sel_eq] at h
  split at h
  · rename_i hb
    exact .inl ⟨Nat.le_of_ble_eq_true hb, h⟩
  · rename_i hb
    refine .inr ⟨?_, h⟩
    rw [Nat.ble_eq] at hb
    omega

theorem callW_up {CPr : CP} {E : Ext} (hE : ∀ f g args st v st', E f = some g → g args st = some (v, st') → st.next ≤ st'.next) {rec : RunF} (hrec : RecUp rec) : CallUp (callW CPr E rec) := by
  intro f args st v st' hr
  rcases callW_cases hr with ⟨_, hr⟩ | ⟨_, hr⟩
  · exact yieldW_up hrec hr
  · cases hX : E f with
    | some g => rw [hX] at hr; exact hE f g args st v st' hX hr
    | none =>
      rw [hX] at hr
      obtain ⟨fn, h1, h2⟩ := ob_some.1 (show ob (CPr f) (fun fn => retV fn (rec fn.body (initT args 0 .nil) st)) = some (v, st') from hr)
      obtain ⟨e, T, h3⟩ := retV_up h2
      exact hrec _ _ _ _ _ _ h3

theorem runD_up {call : CallF} (hcall : CallUp call) : ∀ (l : List DIt) (T : Tm) (base cur : St) (S : List St) (T' : Tm) (c' : St) (S' : List St), runD call l T base cur S = some (T', c', S') → cur.next ≤ c'.next
  | [], T, base, cur, S, T', c', S', h => by
    have h : some (T, cur, S) = some (T', c', S') := h
    cases h; exact Nat.le_refl _
  | d :: l, T, base, cur, S, T', c', S', h => by
    obtain ⟨b0, h1, h2⟩ := ob_some.1 (show ob (met T d.it.gd) (fun b => DK.rec
        (dstep b call d.it T cur cur fun T cur => runD call l T cur cur (cur :: S))
        (dstep b call d.it T cur cur fun T cur => runD call l T base cur S)
        (dstep b call d.it T base base fun T _ => runD call l T base cur S)
        (fun _ => dstep b call d.it T base base fun T _ => runD call l T base cur S)
        d.k) = some (T', c', S') from h)
    obtain ⟨dit, k⟩ := d
    cases k with
    | eff =>
      rcases dstep_some h2 with ⟨_, v0, st1, h3, h4⟩ | ⟨_, h4⟩
      · exact Nat.le_trans (opV_up hcall v0 st1 h3) (runD_up hcall l _ _ _ _ _ _ _ h4)
      · exact runD_up hcall l _ _ _ _ _ _ _ h4
    | alc =>
      rcases dstep_some h2 with ⟨_, v0, st1, h3, h4⟩ | ⟨_, h4⟩
      · exact Nat.le_trans (opV_up hcall v0 st1 h3) (runD_up hcall l _ _ _ _ _ _ _ h4)
      · exact runD_up hcall l _ _ _ _ _ _ _ h4
    | pur =>
      rcases dstep_some h2 with ⟨_, v0, st1, h3, h4⟩ | ⟨_, h4⟩
      · exact runD_up hcall l _ _ _ _ _ _ _ h4
      · exact runD_up hcall l _ _ _ _ _ _ _ h4
    | ld c =>
      rcases dstep_some h2 with ⟨_, v0, st1, h3, h4⟩ | ⟨_, h4⟩
      · exact runD_up hcall l _ _ _ _ _ _ _ h4
      · exact runD_up hcall l _ _ _ _ _ _ _ h4

theorem stepR_up {CPr : CP} {E : Ext} (hE : ∀ f g args st v st', E f = some g → g args st = some (v, st') → st.next ≤ st'.next) {rec : RunF} (hrec : RecUp rec) : RecUp (stepR CPr E rec) := by
  have hc := callW_up (CPr := CPr) hE hrec
  intro c T st e T' st' h
  cases c with
  | skip => cases h; exact Nat.le_refl _
  | exit k => cases h; exact Nat.le_refl _
  | ret => cases h; exact Nat.le_refl _
  | label l => cases h; exact Nat.le_refl _
  | no => cases h
  | scope c => exact hrec _ _ _ _ _ _ h
  | reg its =>
    obtain ⟨p, h1, h2⟩ := ob_some.1 (show norm (itsV (callW CPr E rec) its T st) = some (e, T', st') from h)
    cases h2
    exact itsV_up hc _ _ _ _ _ h1
  | dreg its =>
    obtain ⟨p, h1, h2⟩ := ob_some.1 (show norm (dregV (callW CPr E rec) its T st) = some (e, T', st') from h)
    cases h2
    obtain ⟨S', h3, _⟩ := dregV_some h1
    exact runD_up hc _ _ _ _ _ _ _ _ h3
  | seq a b =>
    rcases thn_some (show thn (rec a T st) (fun T st => rec b T st) = some (e, T', st') from h) with ⟨T1, st1, h1, h2⟩ | ⟨h1, _⟩
    · exact Nat.le_trans (hrec _ _ _ _ _ _ h1) (hrec _ _ _ _ _ _ h2)
    · exact hrec _ _ _ _ _ _ h1
  | loop c =>
    rcases thn_some (show thn (rec c T st) (fun T st => rec (.loop c) T st) = some (e, T', st') from h) with ⟨T1, st1, h1, h2⟩ | ⟨h1, _⟩
    · exact Nat.le_trans (hrec _ _ _ _ _ _ h1) (hrec _ _ _ _ _ _ h2)
    · exact hrec _ _ _ _ _ _ h1
  | cond c a b =>
    obtain ⟨u, h1, h2⟩ := ob_some.1 (show cnd (ev T c) (rec a T st) (rec b T st) = some (e, T', st') from h)
    obtain ⟨t, h3, h4⟩ := ob_some.1 h2
    rw [sel_eq] at h4
    split at h4
    · exact hrec _ _ _ _ _ _ h4
    · exact hrec _ _ _ _ _ _ h4
  | block id c =>
    obtain ⟨⟨e1, T1, st1⟩, h1, h2⟩ := ob_some.1 (show blk id (rec c T st) = some (e, T', st') from h)
    have : st1 = st' := by
      cases e1 with
      | norm => cases h2; rfl
      | ret => cases h2; rfl
      | exit k =>
        have h2 : sel (Nat.beq k id) (some (Ex.norm, T1, st1)) (some (Ex.exit k, T1, st1)) = some (e, T', st') := h2
        rw [sel_eq] at h2
        split at h2 <;> (cases h2; rfl)
    subst this
    exact hrec _ _ _ _ _ _ h1
  | rng g ps a c =>
    obtain ⟨gv, _, h⟩ := ob_some.1 (show rngW CPr E (callW CPr E rec) (ev T g) ps a c T st = some (e, T', st') from h)
    obtain ⟨p, _, h⟩ := ob_some.1 h
    obtain ⟨_, h⟩ := whn_some.1 h
    obtain ⟨_, h⟩ := whn_some.1 h
    obtain ⟨q, h1, h⟩ := ob_some.1 h
    obtain ⟨o, _, h⟩ := ob_some.1 h
    obtain ⟨q2, _, h⟩ := ob_some.1 h
    cases h
    have := hc _ _ _ _ _ h1
    show st.next ≤ q.2.next
    have e : (st.alloc (.lrec ps a c T)).next = st.next + 1 := rfl
    omega

theorem run_up {CPr : CP} {E : Ext} (hE : ∀ f g args st v st', E f = some g → g args st = some (v, st') → st.next ≤ st'.next) : ∀ n, RecUp (run CPr E n)
  | 0 => fun c T st e T' st' h => by cases h
  | n + 1 => by
    rw [run_succ]
    exact stepR_up hE (run_up hE n)

theorem yield_good {E : Ext} {n : Nat} (h : CodeGood P E n) : YieldGood P (callW (cpOf P) E (run (cpOf P) E n)) := by
  intro b args st v st' hr X ι w args' l hh hargs hX hl
  have hr : yieldW (run (cpOf P) E n) b args st = some (v, st') := by
    have e : callW (cpOf P) E (run (cpOf P) E n) (YN + b) args st = sel (Nat.ble YN (YN + b)) (yieldW (run (cpOf P) E n) (Nat.sub (YN + b) YN) args st)
      (oc (E (YN + b)) (ob (cpOf P (YN + b)) fun fn => retV fn (run (cpOf P) E n fn.body (initT args 0 .nil) st)) fun g => g args st) := rfl
    rw [e, sel_eq, if_pos (Nat.ble_eq_true_of_le (Nat.le_add_right _ _)), show Nat.sub (YN + b) YN = b from Nat.add_sub_cancel_left YN b] at hr
    exact hr
  obtain ⟨o, h1, hr⟩ := ob_some.1 hr
  obtain ⟨q, h2, hr⟩ := ob_some.1 hr
  obtain ⟨h3, hr⟩ := whn_some.1 hr
  obtain ⟨T1, st1, h4, hr⟩ := onNorm_some hr
  obtain ⟨T2, st2, h5, hr⟩ := onNorm_some hr
  cases hr
  have ho := asRec_inv h2
  subst ho
  obtain ⟨ps, ca, cc, T⟩ := q
  simp only at h1 h3 h4 h5 hX ⊢
  obtain ⟨l0, rc, k1, k2, k3⟩ := hh.obj b _ h1
  rw [hl] at k1; cases k1
  obtain ⟨N, c1, c2, c3, c4⟩ := k3.code
  rw [c3] at h4
  rw [c4] at h5
  have hlen : ps.length = args.length := by
    have := Nat.eq_of_beq_eq_true h3
    rwa [lenL_eq, lenL_eq] at this
  have hlb := (hh.dom b l hl).2
  obtain ⟨ht1, ht2⟩ := puts_rel (ps := ps) hargs k3.tmps (fun p hp => Nat.lt_of_lt_of_le (c2 p hp) c1) hlen
  have hg1 := h N rc.assign _ _ .norm T1 st1 h4 (some l.blk) (.inr (by rw [← c3]; exact k3.noa))
  have hg2 := h N rc.body _ _ .norm T2 st2 h5 (some l.blk) (.inr (by rw [← c4]; exact k3.noc))
  have hX2 : ∀ b, X b → st2.next ≤ b := hX
  have hput : ∀ x, (st.put b .dead).heap.get x = if b = x then some .dead else st.heap.get x := fun x => by
    show (st.heap.set b .dead).get x = _
    rw [PT.get_set]
  have hno : ∀ b' o l', (st.put b .dead).heap.get b' = some o → o.live → ι b' = some l' → l'.blk ≠ l.blk := fun b' o l' g1 g2 g3 e => by
    rw [hput] at g1
    split at g1
    · cases g1; exact g2
    · rename_i hne
      exact hne (hh.inj b' b l' l o _ g1 g2 h1 trivial g3 hl e).symm
  have hgno : ∀ g o lg, GT.gt.get g = some o → o.live → ι g = some lg → lg.blk ≠ l.blk := fun g o lg g1 g2 g3 e => (hh.glo g o g1 g2).2 b _ l lg h1 trivial hl g3 e.symm
  have hfold : (Array.foldl (fun tmps (x : Nat × Value) => match x with | (t, a) => tmps.setIfInBounds t a) rc.tmps (rc.params.zip args')) = ((ps.zip args'.toList).foldl (fun tmps x => tmps.setIfInBounds x.1 x.2) rc.tmps) := by
    rw [← Array.foldl_toList, Array.toList_zip, k3.params]
  have hsz : args'.size = rc.params.size := by
    have e1 := hargs.length
    have e2 : rc.params.toList.length = ps.length := by rw [k3.params]
    simp at e1 e2
    omega
  have hy := run_yield (P := P) k2 hsz
  rw [hfold] at hy
  refine ⟨_, _, _, _, hy, roundIn_of_wpIn (F := Fence.wide) trivial ?_⟩
  refine hg1.2 X ι _ w _ (fun b hb => Nat.le_trans hg2.1 (hX2 b hb)) (hh.kill h1) ht1 (by rw [ht2]; exact c1) fun a1 w1 hf1 => ?_
  obtain ⟨⟨ι1, f1, f2, f3, _⟩, f4⟩ := hf1
  have hk1 : w1.heap[l.blk]? = some (.loop rc) := (f3.kept l.blk hlb hno).trans k2
  have hno1 : ∀ b' o l', st1.heap.get b' = some o → o.live → ι1 b' = some l' → l'.blk ≠ l.blk := fun b' o l' g1 g2 g3 e => by
    rcases f3.new b' o l' g1 g2 g3 with k | ⟨b0, o0, l0, q1, q2, q3, q4⟩
    · omega
    · exact hno b0 o0 l0 q1 q2 q3 (q4.trans e)
  have hw2 : ∀ C, C ≠ l.blk → C < w1.heap.size → (w1.putObj l.blk (.loop { rc with state := .busy })).heap[C]? = w1.heap[C]? := fun C hC _ => World.putObj_heap_other hC
  have hlb1 : l.blk < w1.heap.size := Nat.lt_of_lt_of_le hlb f3.size
  refine ⟨_, run_beginRound hk1 k3.state, ?_⟩
  refine hg2.2 X ι1 _ _ _ hX2 (f2.touch hno1 (fun g o lg g1 g2 g3 => by
    obtain ⟨lg0, k⟩ := (hh.glo g o g1 g2).1.loc g2
    have e := f3.ext _ _ k
    rw [g3] at e; cases e
    exact hgno g o _ g1 g2 k) (by simp) hw2) f1 (by rw [f4, ht2]; exact c1) fun a2 w3 hf2 => ?_
  obtain ⟨⟨ι2, e1, e2, e3, _⟩, e4⟩ := hf2
  have hlb2 : l.blk < (w1.putObj l.blk (.loop { rc with state := .busy })).heap.size := by simp; exact hlb1
  have hk2 : w3.heap[l.blk]? = some (.loop { rc with state := .busy }) := (e3.kept l.blk hlb2 hno1).trans (World.putObj_heap_same hlb1)
  have hno2 : ∀ b' o l', st2.heap.get b' = some o → o.live → ι2 b' = some l' → l'.blk ≠ l.blk := fun b' o l' g1 g2 g3 e => by
    rcases e3.new b' o l' g1 g2 g3 with k | ⟨b0, o0, l0, q1, q2, q3, q4⟩
    · omega
    · exact hno1 b0 o0 l0 q1 q2 q3 (q4.trans e)
  have hlb3 : l.blk < w3.heap.size := Nat.lt_of_lt_of_le hlb2 e3.size
  have hrc : ({ ({ rc with state := .busy } : Loop) with state := if (none : Option Code).isNone then .ready else .done, pending := none } : Loop) = rc := by
    have g1 := k3.state
    have g2 := k3.pending
    cases rc
    simp only at g1 g2
    subst g1; subst g2; rfl
  refine ⟨_, _, run_endRound none hk2, .bool true, rfl, ι2, .bool true, ?_, ?_⟩
  · rw [hrc]
    have hp2 : ∀ x, (st2.put b (.lrec ps ca cc T)).heap.get x = if b = x then some (.lrec ps ca cc T) else st2.heap.get x := fun x => by
      show (st2.heap.set b _).get x = _
      rw [PT.get_set]
    have hb2 : ι2 b = some l := e3.ext _ _ (f3.ext _ _ hl)
    refine ⟨fun x o hx => ?_, fun x lx hx => ⟨(e2.dom x lx hx).1, by simp; exact (e2.dom x lx hx).2⟩, fun x o hx => ?_, fun x y lx ly ox oy g1 g2 g3 g4 g5 g6 g7 => ?_, e2.glob, fun g o g1 g2 => ?_⟩
    · rw [hp2] at hx
      split at hx
      · rename_i e; subst e; cases hx
        exact ⟨l, rc, hb2, World.putObj_heap_same hlb3, k3.mono fun _ _ h => e3.ext _ _ (f3.ext _ _ h)⟩
      · exact (e2.obj x o hx).turn (fun _ _ h => h) fun lx hlx hlv => World.putObj_heap_other (hno2 x o lx hx hlv hlx)
    · rw [hp2] at hx
      split at hx
      · rename_i e; subst e
        have := hh.live b _ h1
        have g1 := hg1.1
        have g2 := hg2.1
        show b < st2.next
        have : (st.put b .dead).next = st.next := rfl
        omega
      · exact e2.live x o hx
    · rw [hp2] at g1 g3
      split at g1
      · rename_i e; subst e
        rw [hb2] at g5; cases g5
        split at g3
        · rename_i e; exact e
        · exact absurd g7.symm (hno2 y oy ly g3 g4 g6)
      · split at g3
        · rename_i e; subst e
          rw [hb2] at g6; cases g6
          exact absurd g7 (hno2 x ox lx g1 g2 g5)
        · exact e2.inj x y lx ly ox oy g1 g2 g3 g4 g5 g6 g7
    · obtain ⟨q1, q2⟩ := e2.glo g o g1 g2
      obtain ⟨lg0, k⟩ := (hh.glo g o g1 g2).1.loc g2
      have hk := e3.ext _ _ (f3.ext _ _ k)
      have hne := hgno g o lg0 g1 g2 k
      refine ⟨q1.turn (fun _ _ h => h) fun lx hlx _ => World.putObj_heap_other (by rw [hk] at hlx; cases hlx; exact hne), fun x ox lx lg h1 h2 h3 h4 => ?_⟩
      rw [hk] at h4; cases h4
      rw [hp2] at h1
      split at h1
      · rename_i e; subst e
        rw [hb2] at h3; cases h3
        exact hne.symm
      · exact q2 x ox lx _ h1 h2 h3 hk
  · refine ⟨fun x lx hx => e3.ext _ _ (f3.ext _ _ hx), ?_, ?_, fun B hB hBno => ?_, fun x o lx g1 g2 g3 => ?_, fun x lx hx => ?_, e3.tape.trans f3.tape, e3.os.trans f3.os, e3.out.trans f3.out⟩
    · exact Nat.le_trans hg1.1 hg2.1
    · have := e3.size
      have := f3.size
      simp at *
      omega
    · have hBl : B ≠ l.blk := fun e => hBno b _ l h1 trivial hl e.symm
      have hB1 : ∀ b' o l', (st.put b .dead).heap.get b' = some o → o.live → ι b' = some l' → l'.blk ≠ B := fun b' o l' g1 g2 g3 => by
        rw [hput] at g1
        split at g1
        · cases g1; exact g2.elim
        · exact hBno b' o l' g1 g2 g3
      have hB2 : ∀ b' o l', st1.heap.get b' = some o → o.live → ι1 b' = some l' → l'.blk ≠ B := fun b' o l' g1 g2 g3 e => by
        rcases f3.new b' o l' g1 g2 g3 with k | ⟨b0, o0, l0, q1, q2, q3, q4⟩
        · omega
        · exact hB1 b0 o0 l0 q1 q2 q3 (q4.trans e)
      have hs1 := f3.size
      rw [World.putObj_heap_other hBl, e3.kept B (by simp; omega) hB2, World.putObj_heap_other hBl, f3.kept B hB hB1]
    · have key : ∀ x o lx, st2.heap.get x = some o → o.live → ι2 x = some lx → w.heap.size ≤ lx.blk ∨ ∃ b0 o0 l0, st.heap.get b0 = some o0 ∧ o0.live ∧ ι b0 = some l0 ∧ l0.blk = lx.blk := fun x o lx g1 g2 g3 => by
        rcases e3.new x o lx g1 g2 g3 with k | ⟨b0, o0, l0, q1, q2, q3, q4⟩
        · have := f3.size
          simp at k
          exact .inl (by omega)
        · rcases f3.new b0 o0 l0 q1 q2 q3 with k | ⟨b1, o1, l1, r1, r2, r3, r4⟩
          · exact .inl (by omega)
          · rw [hput] at r1
            split at r1
            · cases r1; exact r2.elim
            · exact .inr ⟨b1, o1, l1, r1, r2, r3, r4.trans q4⟩
      rw [show (st2.put b (.lrec ps ca cc T)).heap.get x = if b = x then some (.lrec ps ca cc T) else st2.heap.get x from PT.get_set _ _ _ _] at g1
      split at g1
      · rename_i e; subst e
        rw [e3.ext _ _ (f3.ext _ _ hl)] at g3; cases g3
        exact .inr ⟨b, _, l, h1, trivial, hl, rfl⟩
      · exact key x o lx g1 g2 g3
    · have n1 := hg1.1
      have n2 := hg2.1
      have n3 : (st.put b .dead).next = st.next := rfl
      rcases e3.ids x lx hx with k | k
      · rcases f3.ids x lx k with k | k
        · exact .inl k
        · right
          show st.next ≤ x ∧ x < st2.next
          omega
      · right
        show st.next ≤ x ∧ x < st2.next
        omega

theorem call_good {E : Ext} (hE : ExtGood P E) {n : Nat} (h : CodeGood P E n) : CallGood P (callW (cpOf P) E (run (cpOf P) E n)) ∧ CallUp (callW (cpOf P) E (run (cpOf P) E n)) := by
  have hlow : ∀ (f : Nat) (args : List V) (st : St), f < YN → callW (cpOf P) E (run (cpOf P) E n) f args st =
      oc (E f) (ob (cpOf P f) fun fn => retV fn (run (cpOf P) E n fn.body (initT args 0 .nil) st)) fun g => g args st := fun f args st hf => by
    have e : callW (cpOf P) E (run (cpOf P) E n) f args st = sel (Nat.ble YN f) (yieldW (run (cpOf P) E n) (Nat.sub f YN) args st)
      (oc (E f) (ob (cpOf P f) fun fn => retV fn (run (cpOf P) E n fn.body (initT args 0 .nil) st)) fun g => g args st) := rfl
    rw [e, sel_eq, if_neg (by rw [Nat.ble_eq]; omega)]
  have key : ∀ (f : Nat) (args : List V) (st : St) (v : V) (st' : St), f < YN → callW (cpOf P) E (run (cpOf P) E n) f args st = some (v, st') → st.next ≤ st'.next ∧
      ∀ (X : Nat → Prop) (ι : Inj) (w : World) (args' : Array Value), HRel P X ι st w → VsRel ι args args'.toList → (∀ b, X b → st'.next ≤ b) →
      ((callFunc f args').run P w = .ok (.enter f args') w ∧ Calls P f args' w fun e w' => ∃ v', e = .returned v' ∧ Ends P X ι st w v st' v' w') ∨
      ∃ v' w', (callFunc f args').run P w = .ok (.value v') w' ∧ Ends P X ι st w v st' v' w' := by
    intro f args st v st' hlt hr
    rw [hlow f args st hlt] at hr
    cases hX : E f with
    | some g =>
      have hr : g args st = some (v, st') := by rw [hX] at hr; exact hr
      exact ⟨hE.up f g args st v st' hX hr, CallGood.at hE hlt hX hr⟩
    | none =>
      have hr : ob (cpOf P f) (fun fn => retV fn (run (cpOf P) E n fn.body (initT args 0 .nil) st)) = some (v, st') := by rw [hX] at hr; exact hr
      obtain ⟨cf, h1, h2⟩ := ob_some.1 hr
      unfold cpOf at h1
      split at h1 <;> first | (simp at h1; done) | skip
      rename_i fn hf
      obtain ⟨b, r, g1, g2, g3, rfl⟩ := compF_some h1
      obtain ⟨⟨e, T', s'⟩, h3, h4⟩ := ob_some.1 (show retV ⟨fn.ntmps, r, comp P fn.ntmps b⟩ (run (cpOf P) E n (comp P fn.ntmps b) (initT args 0 .nil) st) = some (v, st') from h2)
      have hgood := h fn.ntmps b _ st e T' s' h3 none (.inl rfl)
      have hres : (e = .norm ∨ e = .ret) ∧ ob (resV T' s' r) (fun l => some (resOne l, s')) = some (v, st') := by
        cases e with
        | norm => exact ⟨.inl rfl, h4⟩
        | ret => exact ⟨.inr rfl, h4⟩
        | exit k => cases h4
      obtain ⟨he, h5⟩ := hres
      obtain ⟨l, h6, h7⟩ := ob_some.1 h5
      cases h7
      refine ⟨hgood.1, fun X ι w args' hh hargs hX2 => .inl ⟨enter_run hf g1 g3 w, ?_⟩⟩
      refine (callsIn_wide (n := 0)).1 (callsIn_of_wp_marks (F := Fence.wide) hf g1 trivial (hgood.2 X ι _ w _ hX2 hh (initT_rel hargs _) ?_ fun a' w' hfin => ?_))
      · simp; omega
      · obtain ⟨⟨ι', k1, k2, k3, ds, k5, k6⟩, k4⟩ := hfin
        have hds : a'.defers = ds := by rw [k5]; simp
        have leave : ∀ (ds : List Deferred) (w1 : World), HRel P X ι' st' w1 → Stp ι st w ι' st' w1 → Marks w.heap.size ι' st' w1 ds →
            LeavesInM Fence.wide 0 P fn a'.tmps (fun e w' => ∃ v', e = .returned v' ∧ Ends P X ι st w (resOne l) st' v' w') ds .returning w1 := by
          intro ds
          induction ds with
          | nil =>
            intro w1 m1 m2 _
            obtain ⟨v', q1, q2⟩ := results_run m1 k1 g2 h6
            exact ⟨v', q1, v', rfl, ι', q2, m1, m2⟩
          | cons d ds ih =>
            intro w1 m1 m2 m3
            obtain ⟨r1, e1, e2, e3, e4, e5⟩ := m3.one d (by simp)
            have hoth : ∀ C, C ≠ r1 → (w1.putObj r1 (.deferred none)).heap[C]? = w1.heap[C]? := fun C hC => World.putObj_heap_other hC
            refine ⟨by simp, .inl ⟨r1, _, by rw [e1], run_takeDeferred e4, ?_⟩⟩
            refine ih _ (m1.touch e5 (fun g o lg g1 g2 g3 => by
              obtain ⟨lg0, k⟩ := (hh.glo g o g1 g2).1.loc g2
              have e := k3.ext _ _ k
              rw [g3] at e; cases e
              have := (hh.dom _ _ k).2
              omega) (by simp) fun C hC _ => hoth C hC) ⟨m2.ext, m2.next, by simp; exact m2.size, fun B hB hno => ?_, m2.new, m2.ids, m2.tape, m2.os, m2.out⟩ ⟨fun d' hd' => ?_, (List.pairwise_cons.1 m3.apart).2⟩
            · rw [hoth B (by omega)]; exact m2.kept B hB hno
            · obtain ⟨r2, q1, q2, q3, q4, q5⟩ := m3.one d' (by simp [hd'])
              have hne : r2 ≠ r1 := fun e => (List.pairwise_cons.1 m3.apart).1 d' hd' (by rw [e1, q1, e])
              exact ⟨r2, q1, q2, by simp; exact q3, by rw [hoth r2 hne]; exact q4, q5⟩
        have := leave ds w' k2 k3 k6
        rw [← hds] at this
        rcases he with rfl | rfl
        · exact this
        · exact this
  exact ⟨fun f args st v st' hlt hr => (key f args st v st' hlt hr).2, callW_up hE.up (run_up hE.up n)⟩

theorem rng_good {E : Ext} (hE : ExtGood P E) {n : Nat} (h : CodeGood P E n) : RngOk P E n := by
  intro N g ps a c g' T st e T' st' hg hna hnc hps hr
  obtain ⟨hcg, hcu⟩ := call_good hE h
  unfold rngW at hr
  obtain ⟨gv, h1, hr⟩ := ob_some.1 hr
  obtain ⟨p, h2, hr⟩ := ob_some.1 hr
  obtain ⟨h3, hr⟩ := whn_some.1 hr
  obtain ⟨h4, hr⟩ := whn_some.1 hr
  obtain ⟨q, h5, hr⟩ := ob_some.1 hr
  obtain ⟨o, h6, hr⟩ := ob_some.1 hr
  obtain ⟨q2, h7, hr⟩ := ob_some.1 hr
  cases hr
  have hlt : p.1 < YN := by rw [Nat.blt_eq] at h3; exact h3
  have hgv : gv = .fn p.1 p.2 := by
    rcases asFn_inv h2 with ⟨_, h⟩ | ⟨b, _, h, _⟩
    · exact h
    · omega
  subst hgv
  have hEn : E p.1 = none := by
    cases hX : E p.1 with
    | none => rfl
    | some k => rw [hX] at h4; cases h4
  have ho := asRec_inv h7
  have hup := hcu _ _ _ _ _ h5
  have hal : (st.alloc (.lrec ps.toList (comp P N a) (comp P N c) T)).next = st.next + 1 := rfl
  refine ⟨by show st.next ≤ q.2.next; omega, fun X ι b w Q hX hh ht hN hQ => ?_⟩
  have hX2 : ∀ b, X b → q.2.next ≤ b := hX
  have g1 := cOpd_rel hh.glob ht hg h1
  obtain ⟨cap, e1, e2⟩ : ∃ cap, b.eval g = .func (.func p.1) #[] cap ∧ VsRel ι p.2 cap.toList := by
    generalize b.eval g = q at g1
    cases g1 with | fn _ _ c hcc => exact ⟨c, rfl, hcc⟩
  refine wpIn_rangeFunc fun fn _ => ?_
  let rc : Loop := { state := .ready, pending := none, fn := fn, tmps := b.tmps, params := ps, assign := a, body := c, defers := w.heap.size }
  let w0 : World := w.alloc (.deferred (some []))
  let w1 : World := w0.alloc (.loop rc)
  have hs0 : w0.heap.size = w.heap.size + 1 := Array.size_push _
  have hs1 : w1.heap.size = w.heap.size + 2 := (Array.size_push _).trans (congrArg (· + 1) hs0)
  obtain ⟨m1, m2⟩ := hh.grow (w' := w0) (x := .deferred (some [])) rfl rfl rfl rfl
  have hXn : ¬ X st.next := fun hx => by have := hX2 _ hx; omega
  let l0 : Loc := ⟨w.heap.size + 1, 0, 0, 0⟩
  have hext := upd_ext (l := l0) (hh.fresh hXn)
  have hrec : w1.heap[w.heap.size + 1]? = some (.loop rc) := by
    rw [← hs0]; exact World.alloc_heap_new w0 _
  obtain ⟨m3, m4⟩ := m1.alloc (w' := w1) (o := .lrec ps.toList (comp P N a) (comp P N c) T) (x := .loop rc) (l := l0) hXn rfl rfl rfl rfl hs0.symm
    ⟨l0, rc, upd_same _ _ _, hrec, rfl, rfl, rfl, ⟨N, hN, hps, rfl, rfl⟩, hna, hnc, ht.mono hext⟩
  have hargs : VsRel (upd ι st.next l0) (.yld st.next :: p.2) (#[Value.func (.yield (w.heap.size + 1)) #[] #[]] ++ cap).toList := by
    have e : (#[Value.func (.yield (w.heap.size + 1)) #[] #[]] ++ cap).toList = Value.func (.yield l0.blk) #[] #[] :: cap.toList := by simp [l0]
    rw [e]
    exact .cons _ _ _ _ (.yld _ _ (upd_same _ _ _)) (VsRel.mono hext e2)
  -- the function is entered
  have hent : ∀ w2 : World, (callFunc p.1 (#[Value.func (.yield (w.heap.size + 1)) #[] #[]] ++ cap)).run P w2 = .ok (.enter p.1 (#[Value.func (.yield (w.heap.size + 1)) #[] #[]] ++ cap)) w2 := fun w2 => by
    have e : callW (cpOf P) E (run (cpOf P) E n) p.1 (.yld st.next :: p.2) (st.alloc (.lrec ps.toList (comp P N a) (comp P N c) T)) =
      sel (Nat.ble YN p.1) (yieldW (run (cpOf P) E n) (Nat.sub p.1 YN) (.yld st.next :: p.2) (st.alloc (.lrec ps.toList (comp P N a) (comp P N c) T)))
      (oc (E p.1) (ob (cpOf P p.1) fun fn => retV fn (run (cpOf P) E n fn.body (initT (.yld st.next :: p.2) 0 .nil) (st.alloc (.lrec ps.toList (comp P N a) (comp P N c) T)))) fun g => g (.yld st.next :: p.2) (st.alloc (.lrec ps.toList (comp P N a) (comp P N c) T))) := rfl
    rw [e, sel_eq, if_neg (by rw [Nat.ble_eq]; omega), hEn] at h5
    obtain ⟨cf, k1, _⟩ := ob_some.1 (show ob (cpOf P p.1) _ = some q from h5)
    unfold cpOf at k1
    split at k1 <;> first | (simp at k1; done) | skip
    rename_i fn hf
    obtain ⟨_, _, r1, _, r3, _⟩ := compF_some k1
    exact enter_run hf r1 r3 w2
  refine ⟨w.heap.size + 1, [{ target := .collected w.heap.size, args := #[] }], w1, { target := .fn (.func p.1) cap, args := #[Value.func (.yield (w.heap.size + 1)) #[] #[]] }, w1, p.1, _, w1,
    run_enterLoop_outer fn b.tmps ps a c, ?_, fun _ _ => trivial, hent w1, fun hd => (by cases hd), ?_⟩
  · simp [resolve, rangeCall, e1, Deferred.ofValue]
    rfl
  · refine calls_in ?_
    rcases hcg p.1 _ _ q.1 q.2 hlt h5 X _ w1 _ m3 hargs hX2 with ⟨_, k2⟩ | ⟨v', w', k1, _⟩
    rotate_left
    · rw [hent w1] at k1; cases k1
    refine k2.mono fun e3 w3 ⟨v', he, ι2, n1, n2, n3⟩ => ?_
    subst he
    rw [ho] at h6
    obtain ⟨lr, r, r1, r2, r3⟩ := n2.obj _ _ h6
    have hlr : ι2 st.next = some l0 := n3.ext _ _ (upd_same _ _ _)
    rw [hlr] at r1; cases r1
    refine ⟨none, w3.putObj (w.heap.size + 1) (.loop { r with state := .exhausted }), ?_, ?_⟩
    · have := run_endLoop (P := P) r2 (by rw [r3.state]; simp)
      rw [r3.pending] at this
      have e : ({ r with state := .exhausted } : Loop) = { r with state := .exhausted, pending := none } := by rw [← r3.pending]
      rw [e]
      exact this
    · have hs3 := n3.size
      have hput : ∀ x, (q.2.put st.next .dead).heap.get x = if st.next = x then some .dead else q.2.heap.get x := fun x => PT.get_set _ _ _ _
      have hoth : ∀ C, C ≠ w.heap.size + 1 → (w3.putObj (w.heap.size + 1) (.loop { r with state := .exhausted })).heap[C]? = w3.heap[C]? := fun C hC => World.putObj_heap_other hC
      have hno : ∀ b' o l', (q.2.put st.next .dead).heap.get b' = some o → o.live → ι2 b' = some l' → q.2.heap.get b' = some o ∧ l'.blk ≠ w.heap.size + 1 := fun b' o l' g1 g2 g3 => by
        rw [hput] at g1
        split at g1
        · cases g1; exact g2.elim
        · rename_i hne
          exact ⟨g1, fun e => hne (n2.inj b' st.next l' l0 o _ g1 g2 h6 trivial g3 hlr e).symm⟩
      have hstp : Stp (upd ι st.next l0) (st.alloc (.lrec ps.toList (comp P N a) (comp P N c) T)) w1 ι2 (q.2.put st.next .dead) (w3.putObj (w.heap.size + 1) (.loop { r with state := .exhausted })) := by
        refine ⟨n3.ext, n3.next, by simp; exact n3.size, fun B hB hBno => ?_, fun x o lx x1 x2 x3 => ?_, n3.ids, n3.tape, n3.os, n3.out⟩
        · have hne : B ≠ w.heap.size + 1 := fun e => hBno st.next (.lrec ps.toList (comp P N a) (comp P N c) T) l0 (by rw [alloc_get0, if_pos rfl]) trivial (upd_same _ _ _) e.symm
          rw [hoth B hne]; exact n3.kept B hB hBno
        · exact n3.new x o lx (hno x o lx x1 x2 x3).1 x2 x3
      have hall := m2.trans (m4.trans hstp)
      have hblk : ∀ b' o l', (st.alloc (.lrec ps.toList (comp P N a) (comp P N c) T)).heap.get b' = some o → o.live → upd ι st.next l0 b' = some l' → l'.blk ≠ w.heap.size := fun b' o l' x1 x2 x3 e => by
        unfold upd at x3
        split at x3
        · cases x3
          simp [l0] at e
        · have := (hh.dom b' l' x3).2
          omega
      refine hQ _ _ ⟨⟨ι2, ht.mono fun x y hx => n3.ext _ _ (hext x y hx), ?_, hall, _, rfl, ⟨fun d hd => ?_, List.pairwise_singleton _ _⟩⟩, rfl⟩
      · exact (n2.kill h6).touch (B := w.heap.size + 1) (fun b' o l' x1 x2 x3 => (hno b' o l' x1 x2 x3).2) (fun g o lg g1 g2 g3 => fun e => (n2.glo g o g1 g2).2 st.next _ l0 lg h6 trivial hlr g3 e.symm) (by simp) fun C hC _ => hoth C hC
      · simp only [List.mem_singleton] at hd
        subst hd
        refine ⟨w.heap.size, rfl, Nat.le_refl _, by simp; omega, ?_, fun b' o l' x1 x2 x3 e => ?_⟩
        · rw [hoth _ (by omega), n3.kept w.heap.size (by omega) hblk]
          have : (w0.heap.push (.loop rc))[w.heap.size]? = w0.heap[w.heap.size]? := heap_push_old w0 _ (by omega)
          rw [show w1.heap = w0.heap.push (.loop rc) from rfl, this]
          exact World.alloc_heap_new w _
        · rcases hstp.new b' o l' x1 x2 x3 with k | ⟨b0, o0, l0', k1, k2, k3, k4⟩
          · omega
          · exact hblk b0 o0 l0' k1 k2 k3 (k4.trans e)

theorem all_good (hD : DregOk P) {E : Ext} (hE : ExtGood P E) : ∀ n, CodeGood P E n ∧ LoopGood P E n
  | 0 => ⟨fun N c T st e T' st' hr => (by cases hr), fun N c T st e T' st' hr => (by cases hr)⟩
  | n + 1 =>
    have ih := all_good hD hE n
    have hc := call_good hE ih.1
    ⟨code_good hD hc.1 (yield_good ih.1) hc.2 (rng_good hE ih.1) ih.1 ih.2, loop_good ih.1 ih.2⟩

/-- THE EVALUATOR's WORD HOLDS. -/
theorem callF_good (hD : DregOk P) {E : Ext} (hE : ExtGood P E) (n : Nat) : CallGood P (callF (cpOf P) E n) := (call_good hE (all_good hD hE n).1).1

theorem callF_up (hD : DregOk P) {E : Ext} (hE : ExtGood P E) (n : Nat) : CallUp (callF (cpOf P) E n) := (call_good hE (all_good hD hE n).1).2

end Go.Am
