/-
Code, results, functions: a run of the evaluator is a run of the true machine.
-/
import Derived.Test.YtdofpjabgnfglaaGreatDoorAm14
set_option linter.unusedVariables false
set_option linter.unusedSectionVars false
set_option linter.unusedSimpArgs false
namespace Go.Am
open Go
variable [GT]

variable {P : Program} {X : Nat → Prop} {ι : Inj} {st st' : St} {w : World} {v : V}

/-! ### Results -/

theorem ld_run (h : HRel P X ι st w) {a : V} {a' : Value} (ha : VRel ι a a') {t : TypeId} {d : TypeDesc} (hu : P.underlying t = some d) (hd : isAggD d = false)
    (hr : opLd (some a) st = some (v, st')) : ∃ v', (do loadVar t (← asAddr a')).run P w = .ok v' w ∧ VRel ι v v' := by
  obtain ⟨_, e, hr⟩ := ob_some.1 hr
  cases e
  obtain ⟨p, h1, hr⟩ := ob_some.1 hr
  obtain ⟨q, h2, hr⟩ := ob_some.1 hr
  obtain ⟨u, h3, hr⟩ := ob_some.1 hr
  cases hr
  rw [asPtr_inv h1] at ha
  cases ha with | ptr _ _ l hl =>
  obtain ⟨l2, k1, k3⟩ := h.rd h2
  rw [hl] at k1; cases k1
  obtain ⟨u', g1, g2, g3⟩ := k3 _ _ h3
  exact ⟨u', by simp [asAddr, loadVar, isAgg_run hu, hd, g1], g2⟩

theorem lda_run (h : HRel P X ι st w) {a : V} {a' : Value} (ha : VRel ι a a') {t : TypeId} {d : TypeDesc} {n : Nat} (hu : P.underlying t = some d) (hd : isAggD d = true) (hs : size? P t = some n)
    (hr : opLda n (some a) st = some (v, st')) : ∃ v', (do loadVar t (← asAddr a')).run P w = .ok v' w ∧ VRel ι v v' := by
  obtain ⟨_, e, hr⟩ := ob_some.1 hr
  cases e
  obtain ⟨p, h1, hr⟩ := ob_some.1 hr
  obtain ⟨q, h2, hr⟩ := ob_some.1 hr
  obtain ⟨u, h3, hr⟩ := ob_some.1 hr
  cases hr
  rw [asPtr_inv h1] at ha
  cases ha with | ptr _ _ l hl =>
  obtain ⟨l2, k1, k3⟩ := h.rd h2
  rw [hl] at k1; cases k1
  obtain ⟨u', g1, g2, g3, _⟩ := loadRd_run (P := P) k3 h3
  exact ⟨_, by simp [asAddr, loadVar, isAgg_run hu, hd, sizeOf_run hs, g1]; rfl, .agg _ _ (by simpa using g2) (by simpa using g3)⟩

/-- what one result comes to -/
def resStep (tmps : Array Value) : ResultVar → Sem Value
  | .tmp t => pure (tmps.getD t undef)
  | .cell a t => do loadVar t (← asAddr (tmps.getD a undef))

theorem res_run (h : HRel P X ι st w) {T : Tm} {tmps : Array Value} (ht : TRel ι T tmps) : ∀ {rs : List ResultVar} {cr : List CRes}, compRes P rs = some cr → ∀ {l : List V}, resV T st cr = some l →
    ∃ l', (rs.mapM (resStep tmps)).run P w = .ok l' w ∧ VsRel ι l l'
  | [], cr, hc, l, hr => by
    simp only [compRes, Option.some.injEq] at hc
    subst hc
    have hr : some [] = some l := hr
    cases hr
    exact ⟨[], by simp, .nil⟩
  | r :: rs, cr, hc, l, hr => by
    have key : ∀ {c : CRes} {l2 : List CRes}, compRes P rs = some l2 → resV T st (c :: l2) = some l → (∀ {v : V} {s2 : St}, resOf T st c = some (v, s2) → ∃ v', (resStep tmps r).run P w = .ok v' w ∧ VRel ι v v') →
        ∃ l', ((r :: rs).mapM (resStep tmps)).run P w = .ok l' w ∧ VsRel ι l l' := by
      intro c l2 h1 hr hone
      obtain ⟨p, h2, hr⟩ := ob_some.1 (show ob (resOf T st c) (fun p => ob (resV T st l2) fun l => some (p.1 :: l)) = some l from hr)
      obtain ⟨l3, h3, hr⟩ := ob_some.1 hr
      cases hr
      obtain ⟨v', k1, k2⟩ := hone (v := p.1) (s2 := p.2) h2
      obtain ⟨l', k3, k4⟩ := res_run h ht h1 h3
      exact ⟨v' :: l', by simp [List.mapM_cons, k1, k3], .cons _ _ _ _ k2 k4⟩
    cases r with
    | tmp t =>
      simp only [compRes] at hc
      split at hc <;> first | (simp at hc; done) | skip
      rename_i l2 h1
      cases hc
      refine key h1 hr fun {v s2} h2 => ?_
      obtain ⟨h3, h4⟩ := pur_some (show pur (T.get t) st = some (v, s2) from h2)
      exact ⟨_, by simp [resStep], (ht t v h3).2⟩
    | cell a t =>
      simp only [compRes] at hc
      split at hc <;> first | (simp at hc; done) | skip
      rename_i d n l2 hd hn h1
      cases hc
      refine key h1 hr fun {v s2} h2 => ?_
      cases hg : isAggD d with
      | true =>
        rw [hg] at h2
        have h2 : opLda n (T.get a) st = some (v, s2) := h2
        obtain ⟨u, h3⟩ := some_of_ob h2
        rw [h3] at h2
        exact lda_run h (ht a u h3).2 hd hg hn h2
      | false =>
        rw [hg] at h2
        have h2 : opLd (T.get a) st = some (v, s2) := h2
        obtain ⟨u, h3⟩ := some_of_ob h2
        rw [h3] at h2
        exact ld_run h (ht a u h3).2 hd hg h2

theorem results_run (h : HRel P X ι st w) {T : Tm} {tmps : Array Value} (ht : TRel ι T tmps) {fn : Func} {cr : List CRes} (hc : compRes P fn.results.toList = some cr) {l : List V} (hr : resV T st cr = some l) :
    ∃ v', (results fn tmps).run P w = .ok v' w ∧ VRel ι (resOne l) v' := by
  obtain ⟨l', h1, h2⟩ := res_run h ht hc hr
  have h3 : (fn.results.mapM (resStep tmps)).run P w = .ok l'.toArray w := by
    rw [← Array.toArray_toList (xs := fn.results), List.mapM_toArray]
    simp [h1]
  have h4 : (results fn tmps).run P w = .ok (if h : l'.toArray.size = 1 then l'.toArray[0] else .tuple l'.toArray) w := by
    show ((fn.results.mapM (resStep tmps)) >>= fun vs => pure (if h : vs.size = 1 then vs[0] else .tuple vs)).run P w = _
    rw [Sem.run_bind, h3]
    rfl
  refine ⟨_, h4, ?_⟩
  cases h2 with
  | nil => exact .tup [] _ .nil
  | cons a a' r r' g1 g2 =>
    cases g2 with
    | nil => simpa [resOne] using g1
    | cons b b' r r' g2 g3 =>
      have : ¬ ((a' :: b' :: r').toArray.size = 1) := by simp
      rw [dif_neg this]
      exact .tup (a :: b :: r) _ (.cons _ _ _ _ g1 (.cons _ _ _ _ g2 g3))

/-! ### The first temporaries of a call -/

theorem initT_get : ∀ (l : List V) (i : Nat) (T : Tm) (j : Nat), (initT l i T).get j = if i ≤ j ∧ j < i + l.length then l[j - i]? else T.get j
  | [], i, T, j => by
    rw [if_neg (by simp; try omega)]; rfl
  | v :: l, i, T, j => by
    show (initT l (i + 1) (T.set i v)).get j = _
    rw [initT_get l (i + 1) (T.set i v) j, PT.get_set]
    by_cases h : i = j
    · subst h
      rw [if_neg (by omega), if_pos rfl, if_pos (by simp)]; simp
    · by_cases h2 : i + 1 ≤ j ∧ j < i + 1 + l.length
      · rw [if_pos h2, if_pos (by simp; omega)]
        have : j - i = (j - (i + 1)) + 1 := by omega
        rw [this]; simp
      · rw [if_neg h2, if_neg h, if_neg (by simp; omega)]

theorem initT_rel {args : List V} {args' : Array Value} (h : VsRel ι args args'.toList) (n : Nat) : TRel ι (initT args 0 .nil) (args' ++ Array.replicate n undef) := fun t v hv => by
  rw [initT_get, PT.get_nil] at hv
  split at hv
  · rename_i hlt
    obtain ⟨v', h1, h2⟩ := h.get (i := t) (v := v) (by simpa using hv)
    have hlt2 : t < args'.size := by
      have := h.length
      simp at this
      omega
    refine ⟨by simp; omega, ?_⟩
    have : (args' ++ Array.replicate n undef).getD t undef = v' := by
      rw [Array.getD_eq_getD_getElem?, Array.getElem?_append_left hlt2]
      have h1' : args'[t]? = some v' := by simpa using h1
      rw [h1']; rfl
    rw [this]; exact h2
  · simp at hv

/-! ### Code -/

def exOf : Ex → Exit
  | .norm => .normal
  | .exit k => .exit k
  | .ret => .ret

/-- what is asked of regions whose order is drawn -/
def DregOk (P : Program) : Prop := ∀ (call : CallF), CallGood P call → YieldGood P call → CallUp call → ∀ (id N : Nat) (ops : Array Oper) (its : List It) (l : List DIt), cIts P N ops.toList ops.toList = some its → cDreg ops.toList its = some l →
  ∀ (T : Tm) (st : St) (T' : Tm) (st' : St), dregV call l T st = some (T', st') → st.next ≤ st'.next ∧
  ∀ (r : Option Nat) (X : Nat → Prop) (ι : Inj) (a : Act) (w : World) (Q : Exit → Act → World → Prop), (∀ b, X b → st'.next ≤ b) → HRel P X ι st w → TRel ι T a.tmps → N ≤ a.tmps.size →
    (∀ a' w', Fin P X ι st w a T' st' a' w' → Q .normal a' w') → (Code.region id ops true).wpIn (Fw r) 0 P Q a w

/-- a good piece of code: the evaluator's answer is the machine's -/
def Good (P : Program) (N : Nat) (T : Tm) (st : St) (e : Ex) (T' : Tm) (st' : St) (wp : (Exit → Act → World → Prop) → Act → World → Prop) : Prop :=
  st.next ≤ st'.next ∧ ∀ (X : Nat → Prop) (ι : Inj) (a : Act) (w : World) (Q : Exit → Act → World → Prop), (∀ b, X b → st'.next ≤ b) → HRel P X ι st w → TRel ι T a.tmps → N ≤ a.tmps.size →
    (∀ a' w', Fin P X ι st w a T' st' a' w' → Q (exOf e) a' w') → wp Q a w

theorem Fin.refl {a : Act} {T : Tm} (h : HRel P X ι st w) (ht : TRel ι T a.tmps) : Fin P X ι st w a T st a w := ⟨⟨ι, ht, h, .refl _ _ _, [], rfl, .nil⟩, rfl⟩

/-- one piece behind another -/
theorem Good.then {N : Nat} {T T1 T2 : Tm} {st st1 st2 : St} {e : Ex} {x y : (Exit → Act → World → Prop) → Act → World → Prop} (h1 : Good P N T st .norm T1 st1 x) (h2 : Good P N T1 st1 e T2 st2 y) :
    Good P N T st e T2 st2 fun Q a w => x (Exit.then (fun a w => y Q a w) Q) a w := by
  refine ⟨Nat.le_trans h1.1 h2.1, fun X ι a w Q hX h ht hN hQ => ?_⟩
  refine h1.2 X ι a w _ (fun b hb => Nat.le_trans h2.1 (hX b hb)) h ht hN fun a1 w1 hf => ?_
  obtain ⟨⟨ι1, g1, g2, g3, g5⟩, g4⟩ := hf
  show y Q a1 w1
  exact h2.2 X ι1 a1 w1 Q hX g2 g1 (by rw [g4]; exact hN) fun a' w' hf2 => hQ a' w' (hf2.join g3 g4 g5)

/-- one piece that leaves: what is behind it is not come to -/
theorem Good.leave {N : Nat} {T T1 : Tm} {st st1 : St} {e : Ex} {x : (Exit → Act → World → Prop) → Act → World → Prop} (he : e ≠ .norm) (h1 : Good P N T st e T1 st1 x) (K : (Exit → Act → World → Prop) → Act → World → Prop) :
    Good P N T st e T1 st1 fun Q a w => x (Exit.then (K Q) Q) a w := by
  refine ⟨h1.1, fun X ι a w Q hX h ht hN hQ => h1.2 X ι a w _ hX h ht hN fun a1 w1 hf => ?_⟩
  cases e with
  | norm => exact absurd rfl he
  | exit k => exact hQ a1 w1 hf
  | ret => exact hQ a1 w1 hf

theorem Good.imp {N : Nat} {T T1 : Tm} {st st1 : St} {e : Ex} {x y : (Exit → Act → World → Prop) → Act → World → Prop} (h : Good P N T st e T1 st1 x) (hi : ∀ Q a w, x Q a w → y Q a w) : Good P N T st e T1 st1 y :=
  ⟨h.1, fun X ι a w Q hX h2 ht hN hQ => hi _ _ _ (h.2 X ι a w Q hX h2 ht hN hQ)⟩

theorem thn_some {r : RS} {k : Tm → St → RS} {e : Ex} {T' : Tm} {st' : St} (h : thn r k = some (e, T', st')) :
    (∃ T1 st1, r = some (.norm, T1, st1) ∧ k T1 st1 = some (e, T', st')) ∨ (r = some (e, T', st') ∧ e ≠ .norm) := by
  obtain ⟨⟨e1, T1, st1⟩, h1, h2⟩ := ob_some.1 h
  cases e1 with
  | norm => exact .inl ⟨T1, st1, h1, h2⟩
  | exit k => cases h2; exact .inr ⟨h1, by simp⟩
  | ret => cases h2; exact .inr ⟨h1, by simp⟩

theorem run_succ (CPr : CP) (E : Ext) (n : Nat) : run CPr E (n + 1) = stepR CPr E (run CPr E n) := rfl

/-- in a round of a loop over a function no such loop stands -/
def Rok (r : Option Nat) (c : CC) : Prop := r = none ∨ noRng c = true

theorem Rok.of {r : Option Nat} {c d : CC} (h : Rok r c) (hd : noRng c = true → noRng d = true) : Rok r d := h.imp id hd

def CodeGood (P : Program) (E : Ext) (n : Nat) : Prop := ∀ (N : Nat) (c : Code) (T : Tm) (st : St) (e : Ex) (T' : Tm) (st' : St), run (cpOf P) E n (comp P N c) T st = some (e, T', st') →
  ∀ r, Rok r (comp P N c) → Good P N T st e T' st' fun Q a w => c.wpIn (Fw r) 0 P Q a w

def LoopGood (P : Program) (E : Ext) (n : Nat) : Prop := ∀ (N : Nat) (c : Code) (T : Tm) (st : St) (e : Ex) (T' : Tm) (st' : St), run (cpOf P) E n (.loop (comp P N c)) T st = some (e, T', st') →
  ∀ r, Rok r (comp P N c) → Good P N T st e T' st' fun Q a w => Code.roundsIn (Fw r) 0 P c Q n a w

theorem loop_good {E : Ext} {n : Nat} (h : CodeGood P E n) (hl : LoopGood P E n) : LoopGood P E (n + 1) := by
  intro N c T st e T' st' hr r hrk
  rw [run_succ] at hr
  rcases thn_some (show thn (run (cpOf P) E n (comp P N c) T st) (fun T st => run (cpOf P) E n (.loop (comp P N c)) T st) = some (e, T', st') from hr) with ⟨T1, st1, h1, h2⟩ | ⟨h1, h2⟩
  · exact (h N c T st .norm T1 st1 h1 r hrk).then (hl N c T1 st1 e T' st' h2 r hrk)
  · exact (h N c T st e T' st' h1 r hrk).leave h2 fun Q => Code.roundsIn (Fw r) 0 P c Q n

/-- loops over functions -/
def RngOk (P : Program) (E : Ext) (n : Nat) : Prop := ∀ (N : Nat) (g : Operand) (ps : Array Tmp) (a c : Code) (g' : Opd) (T : Tm) (st : St) (e : Ex) (T' : Tm) (st' : St), cOpd P g = some g' → noRng (comp P N a) = true → noRng (comp P N c) = true → (∀ t ∈ ps.toList, t < N) →
  rngW (cpOf P) E (callW (cpOf P) E (run (cpOf P) E n)) (ev T g') ps.toList (comp P N a) (comp P N c) T st = some (e, T', st') → Good P N T st e T' st' fun Q b w => (Code.rangeFunc g ps a c).wpIn (Fw none) 0 P Q b w

theorem code_good (hD : DregOk P) {E : Ext} {n : Nat} (hc : CallGood P (callW (cpOf P) E (run (cpOf P) E n))) (hy : YieldGood P (callW (cpOf P) E (run (cpOf P) E n))) (hu : CallUp (callW (cpOf P) E (run (cpOf P) E n))) (hR : RngOk P E n) (h : CodeGood P E n) (hl : LoopGood P E n) : CodeGood P E (n + 1) := by
  intro N c T st e T' st' hr r hrk
  rw [run_succ] at hr
  cases c with
  | skip =>
    have hr : some (Ex.norm, T, st) = some (e, T', st') := hr
    cases hr
    exact ⟨Nat.le_refl _, fun X ι a w Q hX h2 ht hN hQ => wpIn_skip (hQ a w (.refl h2 ht))⟩
  | region id ops draw =>
    simp only [comp] at hr
    split at hr <;> first | (simp [stepR] at hr; done) | skip
    rename_i l hl2
    cases draw with
    | true =>
      simp only [cond_true] at hr
      split at hr <;> first | (simp [stepR] at hr; done) | skip
      rename_i ds hds
      obtain ⟨p, h1, h2⟩ := ob_some.1 (show norm (dregV (callW (cpOf P) E (run (cpOf P) E n)) ds T st) = some (e, T', st') from hr)
      cases h2
      obtain ⟨g1, g2⟩ := hD _ hc hy hu id N ops l ds hl2 hds T st p.1 p.2 h1
      exact ⟨g1, g2 r⟩
    | false =>
      simp only [cond_false] at hr
      obtain ⟨p, h1, h2⟩ := ob_some.1 (show norm (itsV (callW (cpOf P) E (run (cpOf P) E n)) l T st) = some (e, T', st') from hr)
      cases h2
      refine ⟨itsV_up hu l _ _ _ _ h1, fun X ι a w Q hX h2 ht hN hQ => wpIn_region ?_⟩
      rw [List.range_eq_range']
      exact its_wp hc hy hu ops.size 0 l T st ι a w p.1 p.2 (by simp) (by simpa using hl2) h1 hX h2 ht hN hQ
  | seq x y =>
    simp only [comp] at hr hrk
    have hx := hrk.of (d := comp P N x) (by simp only [noRng, Bool.and_eq_true]; exact And.left)
    have hy2 := hrk.of (d := comp P N y) (by simp only [noRng, Bool.and_eq_true]; exact And.right)
    rcases thn_some (show thn (run (cpOf P) E n (comp P N x) T st) (fun T st => run (cpOf P) E n (comp P N y) T st) = some (e, T', st') from hr) with ⟨T1, st1, h1, h2⟩ | ⟨h1, h2⟩
    · exact ((h N x T st .norm T1 st1 h1 r hx).then (h N y T1 st1 e T' st' h2 r hy2)).imp fun Q a w h => wpIn_seq h
    · exact ((h N x T st e T' st' h1 r hx).leave h2 fun Q a w => y.wpIn (Fw r) 0 P Q a w).imp fun Q a w h => wpIn_seq h
  | cond c x y =>
    simp only [comp] at hr hrk
    split at hr <;> first | (simp [stepR] at hr; done) | skip
    rename_i c' hc'
    simp only [hc'] at hrk
    have hx := hrk.of (d := comp P N x) (by simp only [noRng, Bool.and_eq_true]; exact And.left)
    have hy2 := hrk.of (d := comp P N y) (by simp only [noRng, Bool.and_eq_true]; exact And.right)
    obtain ⟨u, h1, h2⟩ := ob_some.1 (show cnd (ev T c') (run (cpOf P) E n (comp P N x) T st) (run (cpOf P) E n (comp P N y) T st) = some (e, T', st') from hr)
    obtain ⟨b, h3, h4⟩ := ob_some.1 h2
    rw [sel_eq] at h4
    have hb := asBool_inv h3
    subst hb
    have hg : Good P N T st e T' st' fun Q a w => (if b then x else y).wpIn (Fw r) 0 P Q a w := by
      cases b with
      | true => exact h N x T st e T' st' h4 r hx
      | false => exact h N y T st e T' st' h4 r hy2
    refine ⟨hg.1, fun X ι a w Q hX h2 ht hN hQ => ?_⟩
    have := cOpd_rel h2.glob ht hc' h1
    refine wpIn_cond (t := b) ?_ (hg.2 X ι a w Q hX h2 ht hN hQ)
    generalize a.eval c = q at this
    cases this
    rfl
  | block id c =>
    simp only [comp] at hr hrk
    have hx := hrk.of (d := comp P N c) (by simp only [noRng]; exact fun h => h)
    obtain ⟨⟨e1, T1, st1⟩, h1, h2⟩ := ob_some.1 (show blk id (run (cpOf P) E n (comp P N c) T st) = some (e, T', st') from hr)
    have hg := h N c T st e1 T1 st1 h1 r hx
    cases e1 with
    | norm =>
      cases h2
      exact ⟨hg.1, fun X ι a w Q hX h2 ht hN hQ => wpIn_block (hg.2 X ι a w _ hX h2 ht hN hQ)⟩
    | ret =>
      cases h2
      exact ⟨hg.1, fun X ι a w Q hX h2 ht hN hQ => wpIn_block (hg.2 X ι a w _ hX h2 ht hN hQ)⟩
    | exit k =>
      have h2 : sel (Nat.beq k id) (some (Ex.norm, T1, st1)) (some (Ex.exit k, T1, st1)) = some (e, T', st') := h2
      rw [sel_eq] at h2
      split at h2
      · rename_i hk
        cases h2
        have hk := Nat.eq_of_beq_eq_true hk
        refine ⟨hg.1, fun X ι a w Q hX h2 ht hN hQ => wpIn_block (hg.2 X ι a w _ hX h2 ht hN fun a' w' hf => ?_)⟩
        show if k = id then Q .normal a' w' else Q (.exit k) a' w'
        rw [if_pos hk]; exact hQ a' w' hf
      · rename_i hk
        cases h2
        have hk : ¬ k = id := fun e => hk (by subst e; exact Nat.beq_refl k)
        refine ⟨hg.1, fun X ι a w Q hX h2 ht hN hQ => wpIn_block (hg.2 X ι a w _ hX h2 ht hN fun a' w' hf => ?_)⟩
        show if k = id then Q .normal a' w' else Q (.exit k) a' w'
        rw [if_neg hk]; exact hQ a' w' hf
  | loop c =>
    simp only [comp] at hr hrk
    have hx := hrk.of (d := comp P N c) (by simp only [noRng]; exact id)
    have := loop_good h hl N c T st e T' st' hr r hx
    exact this.imp fun Q a w h => wpIn_loop_rounds (n + 1) h
  | exit id =>
    have hr : some (Ex.exit id, T, st) = some (e, T', st') := hr
    cases hr
    exact ⟨Nat.le_refl _, fun X ι a w Q hX h2 ht hN hQ => wpIn_exit (hQ a w (.refl h2 ht))⟩
  | label l =>
    have hr : some (Ex.norm, T, st) = some (e, T', st') := hr
    cases hr
    exact ⟨Nat.le_refl _, fun X ι a w Q hX h2 ht hN hQ => wpIn_label (hQ a w (.refl h2 ht))⟩
  | ret =>
    have hr : some (Ex.ret, T, st) = some (e, T', st') := hr
    cases hr
    exact ⟨Nat.le_refl _, fun X ι a w Q hX h2 ht hN hQ => wpIn_ret (hQ a w (.refl h2 ht))⟩
  | rangeFunc g ps a c =>
    simp only [comp] at hr hrk
    split at hr <;> first | (simp [stepR] at hr; done) | skip
    rename_i g' hg
    simp only [hg] at hrk
    cases hb : ((noRng (comp P N a) && noRng (comp P N c)) && ps.toList.all (fun t => Nat.blt t N)) with
    | false => rw [hb] at hr; simp [stepR] at hr
    | true =>
      rw [hb] at hr hrk
      simp only [Bool.and_eq_true, List.all_eq_true] at hb
      have hrn : r = none := by
        rcases hrk with h | h
        · exact h
        · simp [noRng] at h
      subst hrn
      exact hR N g ps a c g' T st e T' st' hg hb.1.1 hb.1.2 (fun t ht => by have := hb.2 t ht; rwa [Nat.blt_eq] at this) hr
  | _ => simp [comp, stepR] at hr

end Go.Am
