/-
Calls, regions, functions: a run of the evaluator is a run of the true machine, as long as no region draws its order.
-/
import Derived.Test.YtdofpjabgnfglaaGreatDoorAm13
import Derived.LoopNIn
import Derived.OrdersIn
import Derived.RangeFuncRecord
set_option linter.unusedVariables false
set_option linter.unusedSectionVars false
set_option linter.unusedSimpArgs false
namespace Go.Am
open Go
variable [GT]

variable {P : Program} {X : Nat → Prop} {ι : Inj} {st st' : St} {w : World} {v : V}

/-- what a call comes to -/
def Ends (P : Program) (X : Nat → Prop) (ι : Inj) (st : St) (w : World) (v : V) (st' : St) (v' : Value) (w' : World) : Prop :=
  ∃ ι', VRel ι' v v' ∧ HRel P X ι' st' w' ∧ Stp ι st w ι' st' w'

def CallGood (P : Program) (call : CallF) : Prop := ∀ (f : Nat) (args : List V) (st : St) (v : V) (st' : St), f < YN → call f args st = some (v, st') →
  ∀ (X : Nat → Prop) (ι : Inj) (w : World) (args' : Array Value), HRel P X ι st w → VsRel ι args args'.toList → (∀ b, X b → st'.next ≤ b) →
    ((callFunc f args').run P w = .ok (.enter f args') w ∧ Calls P f args' w fun e w' => ∃ v', e = .returned v' ∧ Ends P X ι st w v st' v' w') ∨
    ∃ v' w', (callFunc f args').run P w = .ok (.value v') w' ∧ Ends P X ι st w v st' v' w'

/-- a fence that lets all in -/
def Fw (r : Option Nat) : Fence := { Fence.wide with round := r }

theorem calls_in {r : Option Nat} {n : Nat} {f : FuncId} {args : Array Value} {R : Ending → World → Prop} (h : Calls P f args w R) : CallsIn (Fw r) n P f args w R :=
  (callsIn_wide (n := n)).2 h

/-- a round of a loop over a function -/
def YieldGood (P : Program) (call : CallF) : Prop := ∀ (b : Nat) (args : List V) (st : St) (v : V) (st' : St), call (YN + b) args st = some (v, st') →
  ∀ (X : Nat → Prop) (ι : Inj) (w : World) (args' : Array Value) (l : Loc), HRel P X ι st w → VsRel ι args args'.toList → (∀ b, X b → st'.next ≤ b) → ι b = some l →
    ∃ f tmps assign body, (Instr.yield l.blk args').run P w = .ok (.round l.blk f tmps assign body) w ∧
      RoundIn Fence.wide 0 P l.blk f tmps assign body w fun e w' => ∃ v', e = .returned v' ∧ Ends P X ι st w v st' v' w'

theorem evs_call {l : List Opd} {T : Tm} : ∀ {x : Option (List V)}, x = evs T l → x = evs T l := fun h => h

/-- one operation, a call or not -/
theorem oper_wp {r : Option Nat} {call : CallF} (hcg : CallGood P call) (hyg : YieldGood P call) (h : HRel P X ι st w) (hX : ∀ b, X b → st'.next ≤ b) {a : Act} {T : Tm} (ht : TRel ι T a.tmps) {o : Oper} {c : COp} (hc : cOp P o.op = some c)
    (hr : opV call T c st = some (v, st')) {next : Act → World → Prop} {Q : Exit → Act → World → Prop}
    (hn : ∀ v' w', Ends P X ι st w v st' v' w' → next (a.put o.dst v') w') : o.wpIn (Fw r) 0 P a w next Q := by
  have hnd : ∀ k, o.op ≠ .defer k := fun k e => by rw [e] at hc; simp [cOp] at hc
  refine ⟨fun _ _ => trivial, ?_⟩
  rw [Oper.semAt_eq _ _ _ hnd]
  by_cases hnc : Op.isCallF o.op = false
  · obtain ⟨ι', v', w', h1, h2, h3, h4⟩ := op_out h hX ht call hc hnc hr
    have := hn v' w' ⟨ι', h2, h3, h4⟩
    rcases h1 with h1 | ⟨h1, rfl⟩
    · rw [h1]; exact this
    · rw [h1]; exact this
  · obtain ⟨dst, op, type, pos, after, guard⟩ := o
    simp only at hc hnc
    cases op <;> simp only [Op.isCallF, not_true_eq_false] at hnc
    rename_i c0
    obtain ⟨callee, args, argTypes⟩ := c0
    simp only [cOp] at hc
    split at hc <;> first | (simp at hc; done) | skip
    rename_i l hl
    cases callee <;> simp only [not_true_eq_false, reduceCtorEq] at hnc hc
    rename_i f
    split at hc <;> first | (simp at hc; done) | skip
    rename_i y hy
    cases hc
    obtain ⟨fv, h1, hr⟩ := ob_some.1 (show ob (ev T y) (fun f => ob (evs T l) fun l => ob (asFn f) fun p => call p.1 (appL l p.2) st) = some (v, st') from hr)
    obtain ⟨av, h2, hr⟩ := ob_some.1 hr
    obtain ⟨p, h3, hr⟩ := ob_some.1 hr
    have g1 := cOpd_rel h.glob ht hy h1
    have g2 := cOpds_rel h.glob ht hl h2
    rcases asFn_inv h3 with ⟨hlt, hfv⟩ | ⟨b, hfv, hp1, hp2⟩
    rotate_left
    · rw [hfv] at g1
      rw [hp1, hp2, appL_eq, List.append_nil] at hr
      obtain ⟨lc, e1, e2⟩ : ∃ lc : Loc, ι b = some lc ∧ a.eval f = .func (.yield lc.blk) #[] #[] := by
        generalize a.eval f = q at g1
        cases g1 with | yld _ lc hlc => exact ⟨lc, hlc, rfl⟩
      have hargs : VsRel ι av (args.map a.eval).toList := by
        have : (args.map a.eval).toList = args.toList.map a.eval := by simp
        rw [this]; exact g2
      obtain ⟨fr, tmps, assign, body, k1, k2⟩ := hyg b av st v st' hr X ι w (args.map a.eval) lc h hargs hX e1
      have hex : (execOp a.eval ⟨dst, .call ⟨.value f, args, argTypes⟩, type, pos, after, guard⟩).run P w = (Instr.yield lc.blk (args.map a.eval)).run P w := by
        simp [execOp, resolve, e2, Deferred.ofValue, invoke]
      rw [hex, k1]
      refine ⟨fun hd => (by cases hd), RoundIn.mono (F := Fence.wide) (n := 0) k2 fun e w' ⟨v', he, hE⟩ => ?_⟩
      subst he
      exact hn v' w' hE
    rw [hfv] at g1
    obtain ⟨cap, e1, e2⟩ : ∃ cap, a.eval f = .func (.func p.1) #[] cap ∧ VsRel ι p.2 cap.toList := by
      generalize a.eval f = q at g1
      cases g1 with | fn _ _ c hcc => exact ⟨c, rfl, hcc⟩
    have hargs : VsRel ι (appL av p.2) (args.map a.eval ++ cap).toList := by
      rw [appL_eq]
      have : (args.map a.eval ++ cap).toList = args.toList.map a.eval ++ cap.toList := by simp
      rw [this]; exact g2.append e2
    have hex : (execOp a.eval ⟨dst, .call ⟨.value f, args, argTypes⟩, type, pos, after, guard⟩).run P w = (callFunc p.1 (args.map a.eval ++ cap)).run P w := by
      simp [execOp, resolve, e1, Deferred.ofValue, invoke]
    rw [hex]
    rcases hcg p.1 (appL av p.2) st v st' hlt hr X ι w (args.map a.eval ++ cap) h hargs hX with ⟨k1, k2⟩ | ⟨v', w', k1, k2⟩
    · rw [k1]
      refine ⟨fun hd => (by cases hd), calls_in (k2.mono fun e w' ⟨v', he, hE⟩ => ?_)⟩
      subst he
      exact hn v' w' hE
    · rw [k1]; exact hn v' w' k2

theorem isOn_some {u : V} {want b : Bool} (h : isOn u want = some b) : (∃ x, u = .bool x ∧ b = (x == want)) ∨ (∃ l, u = .tup l ∧ b = false) := by
  cases u <;> simp only [isOn, reduceCtorEq] at h
  · rename_i x
    simp only [Option.some.injEq] at h
    exact .inl ⟨x, rfl, by subst h; cases x <;> cases want <;> rfl⟩
  · simp only [Option.some.injEq] at h
    exact .inr ⟨_, rfl, h.symm⟩

theorem dstAt_eq : ∀ (l : List Oper) (j : Nat), dstAt l j = (l[j]?).bind (·.dst)
  | [], j => by simp [dstAt]
  | o :: l, 0 => by simp [dstAt]
  | o :: l, j + 1 => by simpa [dstAt] using dstAt_eq l j

/-- an operation that was compiled -/
theorem cIt_some {N : Nat} {all : List Oper} {o : Oper} {i : It} (h : cIt P N all o = some i) :
    (∀ d, o.dst = some d → d < N) ∧ cOp P o.op = some i.op ∧ i.dst = o.dst ∧
      ((o.guard = none ∧ i.gd = none) ∨ ∃ j want d, o.guard = some (j, want) ∧ (all[j]?).bind (·.dst) = some d ∧ i.gd = some (d, want)) := by
  obtain ⟨h1, h2⟩ := whn_some.1 h
  split at h2 <;> first | (simp at h2; done) | skip
  rename_i c hc
  refine ⟨fun d hd => ?_, ?_⟩
  · rw [hd, oc_some, Nat.blt_eq] at h1; exact h1
  · split at h2
    · rename_i hg
      simp only [Option.some.injEq] at h2; subst h2
      exact ⟨hc, rfl, .inl ⟨hg, rfl⟩⟩
    · rename_i j want hg
      split at h2 <;> first | (simp at h2; done) | skip
      rename_i d hd
      simp only [Option.some.injEq] at h2; subst h2
      rw [dstAt_eq] at hd
      exact ⟨hc, rfl, .inr ⟨j, want, d, hg, hd, rfl⟩⟩

/-- is it wanted? as the machine asks -/
theorem wanted_eq {T : Tm} {a : Act} (ht : TRel ι T a.tmps) {N : Nat} {ops : Array Oper} {o : Oper} {i : It} (h : cIt P N ops.toList o = some i) {b : Bool} (hm : met T i.gd = some b) :
    Region.wanted o (yielded ops a.tmps) = b := by
  obtain ⟨_, _, _, hg⟩ := cIt_some h
  rcases hg with ⟨g1, g2⟩ | ⟨j, want, d, g1, g2, g3⟩
  · rw [g2] at hm
    have : some true = some b := hm
    cases this
    simp [Region.wanted, g1]
  · rw [g3] at hm
    obtain ⟨u, h1, h2⟩ := ob_some.1 (show ob (T.get d) (fun v => isOn v want) = some b from hm)
    obtain ⟨h3, h4⟩ := ht d u h1
    have g2' : (ops[j]?).bind (·.dst) = some d := by simpa using g2
    have hget : a.tmps[d]? = some (a.tmps.getD d undef) := by
      rw [Array.getD_eq_getD_getElem?, Array.getElem?_eq_getElem h3]; rfl
    have hy : yielded ops a.tmps j = match a.tmps.getD d undef with | .bool b => some b | _ => none := by
      unfold yielded
      rw [g2']
      simp only [Option.bind_some, hget]
      generalize a.tmps.getD d undef = q
      cases q <;> rfl
    rcases isOn_some h2 with ⟨x, rfl, rfl⟩ | ⟨l, rfl, rfl⟩
    · generalize a.tmps.getD d undef = q at h4 hy
      cases h4
      simp only [Region.wanted, g1, hy]
      cases x <;> cases want <;> rfl
    · generalize a.tmps.getD d undef = q at h4 hy
      cases h4
      simp only [Region.wanted, g1, hy]
      cases want <;> rfl

/-- marks that loops over functions have left among the deferred calls: blocks that hold none -/
structure Marks (lo : Nat) (ι : Inj) (st : St) (w : World) (ds : List Deferred) : Prop where
  one : ∀ d ∈ ds, ∃ r, d = { target := .collected r, args := #[] } ∧ lo ≤ r ∧ r < w.heap.size ∧ w.heap[r]? = some (.deferred (some [])) ∧
    ∀ b o l, st.heap.get b = some o → o.live → ι b = some l → l.blk ≠ r
  apart : ds.Pairwise fun d d' => d ≠ d'

theorem Marks.nil {lo : Nat} : Marks lo ι st w [] := ⟨fun d hd => by simp at hd, .nil⟩

theorem Marks.turn {lo : Nat} {ι' : Inj} {w' : World} {ds : List Deferred} (h : Marks lo ι st w ds) (hs : Stp ι st w ι' st' w') : Marks lo ι' st' w' ds where
  one d hd := by
    obtain ⟨r, h1, h2, h3, h4, h5⟩ := h.one d hd
    refine ⟨r, h1, h2, Nat.lt_of_lt_of_le h3 hs.size, (hs.kept r h3 h5).trans h4, fun b o l g1 g2 g3 => ?_⟩
    rcases hs.new b o l g1 g2 g3 with k | ⟨b0, o0, l0, k1, k2, k3, k4⟩
    · omega
    · rw [← k4]; exact h5 b0 o0 l0 k1 k2 k3
  apart := h.apart

theorem Marks.append {lo lo2 : Nat} {w1 : World} {ds ds2 : List Deferred} (h : Marks lo ι st w ds) (h2 : Marks lo2 ι st w ds2) (hlo : lo ≤ lo2) (hlt : ∀ d ∈ ds, ∀ r, d = { target := .collected r, args := #[] } → r < lo2) : Marks lo ι st w (ds2 ++ ds) where
  one d hd := by
    rcases List.mem_append.1 hd with hd | hd
    · obtain ⟨r, k1, k2, k3⟩ := h2.one d hd
      exact ⟨r, k1, Nat.le_trans hlo k2, k3⟩
    · exact h.one d hd
  apart := List.pairwise_append.2 ⟨h2.apart, h.apart, fun d hd d' hd' e => by
    subst e
    obtain ⟨r, k1, k2, _⟩ := h2.one d hd
    have := hlt d hd' r k1
    omega⟩

/-- what a piece of code comes to -/
structure Fin (P : Program) (X : Nat → Prop) (ι : Inj) (st : St) (w : World) (a : Act) (T' : Tm) (st' : St) (a' : Act) (w' : World) : Prop where
  rel : ∃ ι', TRel ι' T' a'.tmps ∧ HRel P X ι' st' w' ∧ Stp ι st w ι' st' w' ∧ ∃ ds, a'.defers = ds ++ a.defers ∧ Marks w.heap.size ι' st' w' ds
  size : a'.tmps.size = a.tmps.size

theorem Fin.join {a a1 a2 : Act} {ι1 : Inj} {st1 st2 : St} {w1 w2 : World} {T2 : Tm} (hs : Stp ι st w ι1 st1 w1) (h1 : a1.tmps.size = a.tmps.size) (h2 : ∃ ds, a1.defers = ds ++ a.defers ∧ Marks w.heap.size ι1 st1 w1 ds) (h : Fin P X ι1 st1 w1 a1 T2 st2 a2 w2) : Fin P X ι st w a T2 st2 a2 w2 := by
  obtain ⟨⟨ι', g1, g2, g3, ds2, g5, g6⟩, g4⟩ := h
  obtain ⟨ds, h2, h3⟩ := h2
  refine ⟨⟨ι', g1, g2, hs.trans g3, ds2 ++ ds, by rw [g5, h2, List.append_assoc], (h3.turn g3).append (w1 := w1) g6 hs.size fun d hd r hr => ?_⟩, g4.trans h1⟩
  obtain ⟨r', k1, _, k3, _⟩ := h3.one d hd
  rw [k1] at hr
  injection hr with hr _
  injection hr with hr
  omega

theorem Fin.trans {a a1 a2 : Act} {ι1 : Inj} {st1 st2 : St} {w1 w2 : World} {T2 : Tm} (hs : Stp ι st w ι1 st1 w1) (h1 : a1.tmps.size = a.tmps.size) (h2 : a1.defers = a.defers) (h : Fin P X ι1 st1 w1 a1 T2 st2 a2 w2) : Fin P X ι st w a T2 st2 a2 w2 :=
  h.join hs h1 ⟨[], by simpa using h2, .nil⟩

/-- the numbers of blocks only rise -/
theorem Ends.next {v' : Value} {w' : World} (h : Ends P X ι st w v st' v' w') : st.next ≤ st'.next := by
  obtain ⟨_, _, _, h⟩ := h; exact h.next

/-! ### The numbers of blocks only rise -/

def CallUp (call : CallF) : Prop := ∀ (f : Nat) (args : List V) (st : St) (v : V) (st' : St), call f args st = some (v, st') → st.next ≤ st'.next

theorem alloc_up (st : St) (o : Obj) : st.next ≤ (st.alloc o).next := Nat.le_succ _
theorem put_up (st : St) (b : Nat) (o : Obj) : st.next ≤ (st.put b o).next := Nat.le_refl _

theorem appV_up {s bytes m : Nat} {x : V} {new : List V} (h : appV s bytes x new m st = some (v, st')) : st.next ≤ st'.next := by
  cases x <;> simp only [appV, reduceCtorEq] at h
  · rw [sel_eq] at h
    split at h
    · cases h; exact Nat.le_refl _
    · obtain ⟨_, h⟩ := whn_some.1 h
      obtain ⟨_, h⟩ := whn_some.1 h
      cases h; exact alloc_up _ _
  · obtain ⟨q, _, h⟩ := ob_some.1 h
    obtain ⟨_, h⟩ := whn_some.1 h
    rw [sel_eq] at h
    split at h
    · obtain ⟨_, h⟩ := whn_some.1 h
      cases h; exact put_up _ _ _
    · obtain ⟨_, h⟩ := whn_some.1 h
      obtain ⟨_, h⟩ := whn_some.1 h
      have key : ∀ {b o n ex cs}, appR s b o n m ex cs new st = some (v, st') → st.next ≤ st'.next := by
        intro b o n ex cs h
        cases h
        cases ex
        · exact Nat.le_succ _
        · exact Nat.le_succ _
      rw [sel_eq] at h
      split at h
      · exact key h
      · obtain ⟨_, _, h⟩ := ob_some.1 h
        exact key h

def Up (st : St) (r : R) : Prop := ∀ v st', r = some (v, st') → st.next ≤ st'.next

theorem Up.ob {α : Type} {x : Option α} {k : α → R} (h : ∀ a, Up st (k a)) : Up st (ob x k) := fun v st' e => by
  obtain ⟨a, _, h2⟩ := ob_some.1 e
  exact h a v st' h2
theorem Up.whn {c : Bool} {t : R} (h : Up st t) : Up st (whn c t) := fun v st' e => h v st' (whn_some.1 e).2
theorem Up.sel {c : Bool} {t e : R} (h : Up st t) (h' : Up st e) : Up st (sel c t e) := by
  cases c with
  | false => exact h'
  | true => exact h
theorem Up.oc {α : Type} {x : Option α} {e : R} {k : α → R} (h' : Up st e) (h : ∀ a, Up st (k a)) : Up st (oc x e k) := by
  cases x with
  | none => exact h'
  | some a => exact h a
theorem Up.same (v : V) : Up st (some (v, st)) := fun _ _ e => by cases e; exact Nat.le_refl _
theorem Up.alloc (v : V) (o : Obj) : Up st (some (v, st.alloc o)) := fun _ _ e => by cases e; exact Nat.le_succ _
theorem Up.put (v : V) (b : Nat) (o : Obj) : Up st (some (v, st.put b o)) := fun _ _ e => by cases e; exact Nat.le_refl _
theorem Up.none : Up st none := fun _ _ e => by cases e

theorem opNew_up (z : List V) : Up st (opNew z st) := Up.alloc _ _

theorem opV_up {call : CallF} (hcall : CallUp call) {T : Tm} {c : COp} : Up st (opV call T c st) := by
  cases c <;> simp only [opV]
  case call f args => exact Up.ob fun _ => Up.ob fun _ => Up.ob fun _ => fun v st' h => hcall _ _ _ _ _ h
  case app s bytes x y => exact Up.ob fun _ => Up.ob fun _ => Up.ob fun _ => fun v st' h => appV_up h
  case appz z s bytes x y => exact Up.ob fun _ => Up.ob fun _ => Up.ob fun _ => Up.whn <| Up.whn fun v st' h => appV_up h
  case newv z => exact opNew_up z
  case box x => exact Up.ob fun _ => Up.ob fun _ => opNew_up _
  case ixa n s agg x i =>
    refine Up.ob fun _ => Up.ob fun _ => Up.whn <| Up.sel ?_ ?_
    · exact Up.ob fun _ => Up.ob fun _ => Up.whn <| Up.same _
    · exact Up.ob fun _ => Up.ob fun _ => Up.ob fun _ => Up.same _
  case pick c a b => exact Up.ob fun _ => Up.ob fun _ => Up.sel (Up.ob fun _ => Up.same _) (Up.ob fun _ => Up.same _)
  case mv x => exact Up.ob fun _ => Up.same _
  case bld z ps => exact Up.ob fun _ => Up.ob fun _ => Up.same _
  case bsl z n s ps => exact Up.ob fun _ => Up.alloc _ _
  case ld a => exact Up.ob fun _ => Up.ob fun _ => Up.ob fun _ => Up.ob fun _ => Up.same _
  case lda n a => exact Up.ob fun _ => Up.ob fun _ => Up.ob fun _ => Up.ob fun _ => Up.same _
  case sto n a b => exact Up.ob fun _ => Up.ob fun _ => Up.ob fun _ => Up.ob fun _ => Up.whn <| Up.ob fun _ => Up.whn <| Up.put _ _ _
  case nchk x => exact Up.ob fun u => by cases u <;> first | exact Up.same _ | exact Up.none
  case bin op x y => exact Up.ob fun _ => Up.ob fun _ => Up.ob fun _ => Up.same _
  case eq neg k x y => exact Up.ob fun _ => Up.ob fun _ => Up.ob fun _ => Up.same _
  case isn neg x => exact Up.ob fun u => by cases u <;> first | exact Up.none | exact Up.same _
  case eqi neg l x y => exact Up.ob fun _ => Up.ob fun _ => Up.ob fun _ => Up.same _
  case not x => exact Up.ob fun _ => Up.ob fun _ => Up.same _
  case neg x => exact Up.ob fun _ => Up.ob fun _ => Up.same _
  case cvi k x => exact Up.ob fun _ => Up.ob fun _ => Up.same _
  case cvss x => exact Up.ob fun _ => Up.ob fun _ => Up.same _
  case cvsb x => exact Up.ob fun _ => Up.ob fun _ => Up.alloc _ _
  case cvbs x => exact Up.ob fun u => by cases u <;> first | exact Up.none | exact Up.same _ | exact Up.ob fun _ => Up.ob fun _ => Up.ob fun _ => Up.same _
  case cvbb x => exact Up.ob fun u => by cases u <;> first | exact Up.none | exact Up.ob fun _ => Up.whn <| Up.same _
  case mkf f cap => exact Up.ob fun _ => Up.same _
  case mkm => exact Up.alloc _ _
  case mks z s bytes l c => exact Up.ob fun _ => Up.ob fun _ => Up.ob fun _ => Up.ob fun _ => Up.whn <| Up.whn <| Up.whn <| Up.alloc _ _
  case sls x lo hi => exact Up.ob fun _ => Up.ob fun _ => Up.ob fun _ => Up.ob fun _ => Up.whn <| Up.whn <| Up.same _
  case sl s x lo hi mx =>
    refine Up.ob fun u => ?_
    cases u <;> first
      | exact Up.none
      | exact Up.ob fun _ => Up.ob fun _ => Up.whn <| Up.whn <| Up.oc (Up.same _) fun _ => Up.none
      | exact Up.ob fun _ => Up.whn <| Up.ob fun _ => Up.ob fun _ => Up.whn <| Up.oc (Up.whn <| Up.same _) fun _ => Up.ob fun _ => Up.ob fun _ => Up.ob fun _ => Up.whn <| Up.whn <| Up.same _
  case fa off x => exact Up.ob fun _ => Up.ob fun _ => Up.same _
  case fld off x => exact Up.ob fun _ => Up.ob fun _ => Up.ob fun _ => Up.same _
  case flda off n x => exact Up.ob fun _ => Up.ob fun _ => Up.whn <| Up.same _
  case ia s x i => exact Up.ob fun _ => Up.ob fun _ => Up.ob fun _ => Up.ob fun _ => Up.whn <| Up.same _
  case iap n s x i => exact Up.ob fun _ => Up.ob fun _ => Up.ob fun _ => Up.ob fun _ => Up.whn <| Up.same _
  case ixs x i => exact Up.ob fun _ => Up.ob fun _ => Up.ob fun _ => Up.ob fun _ => Up.ob fun _ => Up.same _
  case lk k z ok m i =>
    refine Up.ob fun u => Up.ob fun _ => Up.ob fun _ => Up.whn ?_
    cases u <;> first
      | exact Up.none
      | exact Up.same _
      | exact Up.ob fun _ => Up.ob fun _ => Up.oc (Up.same _) fun _ => Up.same _
  case mu k m i x => exact Up.ob fun _ => Up.ob fun _ => Up.ob fun _ => Up.ob fun _ => Up.ob fun _ => Up.ob fun _ => Up.whn <| Up.ob fun _ => Up.put _ _ _
  case mki t x => exact Up.ob fun _ => Up.same _
  case ext x i => exact Up.ob fun _ => Up.ob fun _ => Up.ob fun _ => Up.same _
  case len k x =>
    refine Up.ob fun u => ?_
    cases k <;> cases u <;> first | exact Up.none | exact Up.same _ | exact Up.ob fun _ => Up.same _
  case lena n x => exact Up.same _
  case cap x => exact Up.ob fun u => by cases u <;> first | exact Up.none | exact Up.same _ | exact Up.whn (Up.same _)
  case min x y => exact Up.ob fun _ => Up.ob fun _ => Up.ob fun _ => Up.ob fun _ => Up.same _
  case max x y => exact Up.ob fun _ => Up.ob fun _ => Up.ob fun _ => Up.ob fun _ => Up.same _
  case cpy s x y =>
    refine Up.ob fun u => Up.ob fun _ => ?_
    cases u <;> first | exact Up.none | exact Up.ob fun _ => Up.same _ | exact Up.ob fun _ => Up.ob fun _ => Up.whn <| Up.whn <| Up.put _ _ _
  case clr z s x =>
    refine Up.ob fun u => ?_
    cases u <;> first | exact Up.none | exact Up.same _ | exact Up.ob fun _ => Up.whn <| Up.whn <| Up.put _ _ _
  case del k m i => exact Up.ob fun _ => Up.ob fun _ => Up.ob fun _ => Up.ob fun _ => Up.ob fun _ => Up.whn <| Up.ob fun _ => Up.put _ _ _

theorem itsV_up {call : CallF} (hcall : CallUp call) : ∀ (l : List It) (T : Tm) (st : St) (T' : Tm) (st' : St), itsV call l T st = some (T', st') → st.next ≤ st'.next
  | [], T, st, T', st', h => by
    have h' : some (T, st) = some (T', st') := h
    cases h'; exact Nat.le_refl _
  | i :: l, T, st, T', st', h => by
    obtain ⟨b, _, h2⟩ := ob_some.1 (show ob (met T i.gd) (fun b => sel b (ob (opV call T i.op st) fun r => itsV call l (putT T i.dst r.1) r.2) (itsV call l (putT T i.dst undefV) st)) = some (T', st') from h)
    cases b with
    | true =>
      obtain ⟨r, h3, h4⟩ := ob_some.1 (show ob (opV call T i.op st) (fun r => itsV call l (putT T i.dst r.1) r.2) = some (T', st') from h2)
      exact Nat.le_trans (opV_up hcall r.1 r.2 h3) (itsV_up hcall l _ _ _ _ h4)
    | false => exact itsV_up hcall l _ _ _ _ h2

/-! ### A region in the order of its text -/

theorem its_wp {r : Option Nat} {call : CallF} (hcg : CallGood P call) (hyg : YieldGood P call) (hcu : CallUp call) {N : Nat} {ops : Array Oper} {Q : Exit → Act → World → Prop} : ∀ (n k : Nat) (its : List It) (T : Tm) (st : St) (ι : Inj) (a : Act) (w : World) (T' : Tm) (st' : St),
    ops.size = k + n → cIts P N ops.toList (ops.toList.drop k) = some its → itsV call its T st = some (T', st') → (∀ b, X b → st'.next ≤ b) → HRel P X ι st w → TRel ι T a.tmps → N ≤ a.tmps.size →
    (∀ a' w', Fin P X ι st w a T' st' a' w' → Q .normal a' w') → wpOpsIn (Fw r) 0 P ops Q (List.range' k n) a w
  | 0, k, its, T, st, ι, a, w, T', st', hk, hc, hr, hX, h, ht, hN, hQ => by
    have : ops.toList.drop k = [] := by apply List.drop_eq_nil_of_le; simp; omega
    rw [this] at hc
    simp only [cIts, Option.some.injEq] at hc
    subst hc
    have h' : some (T, st) = some (T', st') := hr
    cases h'
    exact hQ a w ⟨⟨ι, ht, h, .refl _ _ _, [], rfl, .nil⟩, rfl⟩
  | n + 1, k, its, T, st, ι, a, w, T', st', hk, hc, hr, hX, h, ht, hN, hQ => by
    have hlt : k < ops.toList.length := by simp; omega
    rw [List.drop_eq_getElem_cons hlt] at hc
    simp only [cIts] at hc
    split at hc <;> first | (simp at hc; done) | skip
    rename_i i l h1 h2
    simp only [Option.some.injEq] at hc; subst hc
    have ho : ops[k]? = some ops.toList[k] := by simp
    obtain ⟨b, hb, hr⟩ := ob_some.1 (show ob (met T i.gd) (fun b => sel b (ob (opV call T i.op st) fun r => itsV call l (putT T i.dst r.1) r.2) (itsV call l (putT T i.dst undefV) st)) = some (T', st') from hr)
    have hw := wanted_eq ht h1 hb
    obtain ⟨g1, g2, g3, _⟩ := cIt_some h1
    rw [List.range'_succ]
    simp only [wpOpsIn, ho, hw]
    cases b with
    | true =>
      simp only [if_true]
      obtain ⟨q, h3, h4⟩ := ob_some.1 (show ob (opV call T i.op st) (fun r => itsV call l (putT T i.dst r.1) r.2) = some (T', st') from hr)
      have hup := itsV_up hcu l _ _ _ _ h4
      refine oper_wp hcg hyg h (st' := q.2) (v := q.1) (fun b hb => Nat.le_trans hup (hX b hb)) ht g2 h3 fun v' w' ⟨ι', e1, e2, e3⟩ => ?_
      refine its_wp hcg hyg hcu n (k + 1) l _ _ ι' _ w' T' st' (by omega) h2 h4 hX e2 ?_ (by rw [put_size]; exact hN) (fun a' w'' hf => hQ a' w'' (hf.trans e3 (put_size _ _ _) (put_defers _ _ _)))
      rw [g3]
      exact (ht.mono e3.ext).put (fun d hd => Nat.lt_of_lt_of_le (g1 d hd) hN) e1
    | false =>
      simp only [Bool.false_eq_true, if_false]
      have h4 : itsV call l (putT T i.dst undefV) st = some (T', st') := hr
      refine ⟨fun _ _ => trivial, ?_⟩
      refine its_wp hcg hyg hcu n (k + 1) l _ _ ι _ w T' st' (by omega) h2 h4 hX h ?_ (by rw [put_size]; exact hN) (fun a' w'' hf => hQ a' w'' (hf.trans (.refl _ _ _) (put_size _ _ _) (put_defers _ _ _)))
      rw [g3]
      exact ht.put (fun d hd => Nat.lt_of_lt_of_le (g1 d hd) hN) (.tup _ _ .nil)

end Go.Am
