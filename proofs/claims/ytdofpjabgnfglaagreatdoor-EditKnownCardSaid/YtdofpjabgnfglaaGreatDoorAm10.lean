/-
Maps.
-/
import Derived.Test.YtdofpjabgnfglaaGreatDoorAm9
import Derived.MapKept
set_option linter.unusedVariables false
set_option linter.unusedSectionVars false
set_option linter.unusedSimpArgs false
namespace Go.Am
open Go
variable [GT]

variable {P : Program} {G : Program} {X : Nat → Prop} {ι : Inj} {st st' : St} {w : World} {v : V}

theorem bool_sel (a b : Bool) : sel a b (!b) = true ↔ a = b := by cases a <;> cases b <;> simp [sel]

/-- what is the same by the evaluator is the same value -/
theorem eqC_true {k : K3} {x y : V} {x' y' : Value} (h : eqC k x y = some true) (hx : VRel ι x x') (hy : VRel ι y y') : x' = y' ∧ ∀ n, Instr.sameBits n x' y' = true := by
  cases k <;> cases x <;> cases y <;> simp only [eqC, reduceCtorEq] at h
  · rename_i a b
    cases hx; cases hy
    obtain ⟨h1, h2⟩ := whn_some.1 h
    simp only [decide_eq_true_eq] at h1
    subst h1
    simp only [Option.some.injEq, intEq_eq, decide_eq_true_eq] at h2
    subst h2
    refine ⟨rfl, fun n => ?_⟩
    cases n <;> simp [Instr.sameBits]
  · cases hx with | str _ _ x g1 g2 => cases hy with | str _ _ y g3 g4 =>
    subst g2 g4
    simp only [Option.some.injEq, beqL_eq, beq_iff_eq] at h
    have : x = y := by
      obtain ⟨⟨a⟩⟩ := x; obtain ⟨⟨b⟩⟩ := y; simp at h; rw [h]
    subst this
    refine ⟨rfl, fun n => ?_⟩
    have := (MapKept.bytes_beq x x).2 rfl
    cases n <;> simp [Instr.sameBits, this]
  · cases hx; cases hy
    simp only [Option.some.injEq, bool_sel] at h
    subst h
    refine ⟨rfl, fun n => ?_⟩
    cases n <;> simp [Instr.sameBits]

theorem eqCs_true : ∀ {ks : List K3} {a b : List V} {a' b' : List Value}, eqCs ks a b = some true → VsRel ι a a' → VsRel ι b b' → a' = b' ∧ ∀ n, ((a'.zip b').all fun (x, y) => Instr.sameBits n x y) = true
  | [], a, b, a', b', h, ha, hb => by
    cases ha <;> cases hb <;> first | (cases h; done) | exact ⟨rfl, fun n => rfl⟩
  | k :: ks, a, b, a', b', h, ha, hb => by
    cases ha <;> cases hb <;> first | (cases h; done) | skip
    rename_i x x' s s' hx hs y y' t t' hy ht
    have h' : ob (eqC k x y) (fun r => sel r (eqCs ks s t) (some false)) = some true := h
    obtain ⟨r, h1, h2⟩ := ob_some.1 h'
    cases r with
    | false => cases h2
    | true =>
      obtain ⟨g1, g2⟩ := eqC_true h1 hx hy
      obtain ⟨g3, g4⟩ := eqCs_true (ks := ks) (a := s) (b := t) h2 hs ht
      refine ⟨by rw [g1, g3], fun n => ?_⟩
      simp only [List.zip_cons_cons, List.all_cons, g2 n, g4 n, Bool.and_self]

theorem eqV_true {q : EqK} (hq : isPlainK q = true) {x y : V} {x' y' : Value} (h : eqV q x y = some true) (hx : VRel ι x x') (hy : VRel ι y y') : x' = y' ∧ Instr.sameBits 10000 x' y' = true := by
  cases q with
  | nilp k => simp [isPlainK] at hq
  | one k => obtain ⟨h1, h2⟩ := eqC_true h hx hy; exact ⟨h1, h2 _⟩
  | struct ks =>
    cases x <;> cases y <;> simp only [eqV, eqS, reduceCtorEq] at h
    cases hx with | agg _ c hc _ => cases hy with | agg _ d hd _ =>
    obtain ⟨h1, h2⟩ := eqCs_true h hc hd
    have : c = d := Array.ext' h1
    subst this
    refine ⟨rfl, ?_⟩
    simp only [Instr.sameBits, beq_self_eq_true, Bool.true_and]
    exact h2 9999

/-- a key that is the same as itself is one that can be asked for -/
theorem checkC_run {k : K3} {x y : V} {x' : Value} {r : Bool} (h : eqC k x y = some r) (hx : VRel ι x x') {t : TypeId} (ht : k3? P t = some k) (em : Bool) (n : Nat) (w : World) : (Instr.checkKey em (n + 1) t x').run P w = .ok () w := by
  unfold k3? at ht
  cases hu : P.underlying t with
  | none => simp [hu] at ht
  | some td =>
    rw [hu] at ht
    unfold Instr.checkKey
    simp only [Sem.run_bind, run_underlying hu, Result.andThen_ok]
    cases td <;> simp at ht <;> subst ht <;> cases x <;> cases y <;> simp only [eqC, reduceCtorEq] at h <;> cases hx <;> rfl

theorem checkF_run {xs : Array Value} (em : Bool) (d : Nat) : ∀ (fs : List Field) (n : Nat) (ks : List K3), eqF P fs n = some ks → ∀ (a b : List V) (r : Bool), eqCs ks a b = some r → r = true →
    (∀ (i : Nat) (v : V), a[i]? = some v → ∃ v', xs[n + i]? = some v' ∧ VRel ι v v') → ∀ w : World,
    (forIn fs PUnit.unit fun (f : Field) _ => (do
      if f.name ≠ "_" then do
        Instr.checkKey em (d + 1) f.type (← part f.type xs f.offset)
        pure (ForInStep.yield PUnit.unit)
      else pure (ForInStep.yield PUnit.unit) : Sem (ForInStep PUnit))).run P w = .ok PUnit.unit w
  | [], n, ks, h, a, b, r, hr, h0, hx, w => by simp
  | f :: fs, n, ks, h, a, b, r, hr, h0, hx, w => by
    subst h0
    simp only [eqF] at h
    obtain ⟨h1, h⟩ := whn_some.1 h
    obtain ⟨h2, h⟩ := whn_some.1 h
    cases hk : k3? P f.type with
    | none => simp [hk] at h
    | some k => cases hl : eqF P fs (n + 1) with
      | none => simp [hk, hl] at h
      | some l =>
        simp only [hk, hl, Option.some.injEq] at h; subst h
        have hoff : f.offset = n := Nat.eq_of_beq_eq_true h2
        cases a with
        | nil => cases hr
        | cons x s => cases b with
          | nil => cases hr
          | cons y t =>
            have hr' : ob (eqC k x y) (fun r => sel r (eqCs l s t) (some false)) = some true := hr
            obtain ⟨q, g1, g2⟩ := ob_some.1 hr'
            obtain ⟨x', x1, x2⟩ := hx 0 x (by simp)
            cases q with
            | false => cases g2
            | true =>
              have hne : f.name ≠ "_" := by simpa using h1
              rw [List.forIn_cons]
              simp only [hne, ne_eq, not_false_eq_true, if_true, Sem.run_bind, part_run hk xs f.offset (by rw [hoff]; exact x1), Result.andThen_ok, checkC_run g1 x2 hk em d, Sem.run_pure]
              exact checkF_run em d fs (n + 1) l hl s t true g2 rfl (fun i v hv => by
                obtain ⟨v', k1, k2⟩ := hx (i + 1) v (by simpa using hv)
                exact ⟨v', by rwa [show n + (i + 1) = n + 1 + i by omega] at k1, k2⟩) w

theorem check_run {q : EqK} (hp : isPlainK q = true) {t : TypeId} (hq : eqK? P t = some q) {x : V} {x' : Value} (h : eqV q x x = some true) (hx : VRel ι x x') (em : Bool) (w : World) :
    (Instr.checkKey em 10000 t x').run P w = .ok () w := by
  cases q with
  | nilp k => simp [isPlainK] at hp
  | one k =>
    refine checkC_run h hx ?_ em 9999 w
    unfold eqK? at hq
    unfold k3?
    cases hu : P.underlying t with
    | none => simp [hu] at hq
    | some td =>
      rw [hu] at hq
      cases td <;> first
        | (simp at hq; done)
        | (simp only [Option.some.injEq, EqK.one.injEq] at hq; subst hq; rfl)
        | (simp only [whn_some] at hq; obtain ⟨_, _, hq⟩ := hq; revert hq; split <;> simp [whn_some])
  | struct ks =>
    unfold eqK? at hq
    cases hu : P.underlying t with
    | none => simp [hu] at hq
    | some td =>
      rw [hu] at hq
      cases td <;> simp only [Option.some.injEq, reduceCtorEq] at hq
      rename_i fs
      obtain ⟨h1, hq⟩ := whn_some.1 hq
      obtain ⟨h2, hq⟩ := whn_some.1 hq
      cases hf : eqF P fs.toList 0 with
      | none => simp [hf] at hq
      | some l =>
        rw [hf] at hq
        obtain ⟨_, hq⟩ := whn_some.1 hq
        cases hq
        cases x <;> simp only [eqV, eqS, reduceCtorEq] at h
        cases hx with | agg _ xs hx1 _ =>
        unfold Instr.checkKey
        simp only [Sem.run_bind, run_underlying hu, Result.andThen_ok]
        rw [← Array.forIn_toList]
        have := checkF_run (P := P) (xs := xs) em 9998 fs.toList 0 _ hf _ _ true h rfl (fun i v hv => by
          obtain ⟨v', k1, k2⟩ := hx1.get hv
          exact ⟨v', by simpa using k1, k2⟩) w
        simp only [ne_eq, ite_not] at this ⊢
        rw [this]; rfl

/-! ### Where a key stands -/

noncomputable def scan (q : EqK) (k : V) : List (V × V) → Option (Option Nat)
  | [] => some none
  | e :: r => ob (eqV q k e.1) fun b => sel b (some (some 0)) (ob (scan q k r) fun i => some (i.map (· + 1)))

theorem look_scan (q : EqK) (k : V) : ∀ (es : List (V × V)) (r : Option V), lookV q k es = some r → ∃ s, scan q k es = some s ∧ (s = none → r = none) ∧ ∀ i, s = some i → ∃ e, es[i]? = some e ∧ r = some e.2
  | [], r, h => by
    have h' : some none = some r := h
    cases h'
    exact ⟨none, rfl, fun _ => rfl, fun i hi => by cases hi⟩
  | e :: es, r, h => by
    have h' : ob (eqV q k e.1) (fun b => sel b (some (some e.2)) (lookV q k es)) = some r := h
    obtain ⟨b, h1, h2⟩ := ob_some.1 h'
    cases b with
    | true =>
      have h2' : some (some e.2) = some r := h2
      cases h2'
      refine ⟨some 0, by simp [scan, h1, ob, sel], (fun h => by cases h), fun i hi => ?_⟩
      cases hi; exact ⟨e, by simp, rfl⟩
    | false =>
      obtain ⟨s, g1, g2, g3⟩ := look_scan q k es r h2
      refine ⟨s.map (· + 1), by simp [scan, h1, g1, ob, sel], fun hs => g2 (by cases s <;> simp at hs; rfl), fun i hi => ?_⟩
      cases s with
      | none => simp at hi
      | some j => simp at hi; subst hi; obtain ⟨e', k1, k2⟩ := g3 j rfl; exact ⟨e', by simpa using k1, k2⟩

theorem upd_scan (q : EqK) (k x : V) : ∀ (es es2 : List (V × V)), updV q k x es = some es2 → ∃ s, scan q k es = some s ∧ (s = none → es2 = es ++ [(k, x)]) ∧ ∀ i, s = some i → es2 = es.set i (k, x)
  | [], es2, h => by
    have h' : some [(k, x)] = some es2 := h
    cases h'
    exact ⟨none, rfl, fun _ => rfl, fun i hi => by cases hi⟩
  | e :: es, es2, h => by
    have h' : ob (eqV q k e.1) (fun b => sel b (some ((k, x) :: es)) (ob (updV q k x es) fun l => some (e :: l))) = some es2 := h
    obtain ⟨b, h1, h2⟩ := ob_some.1 h'
    cases b with
    | true =>
      have h2' : some ((k, x) :: es) = some es2 := h2
      cases h2'
      refine ⟨some 0, by simp [scan, h1, ob, sel], (fun h => by cases h), fun i hi => ?_⟩
      cases hi; rfl
    | false =>
      obtain ⟨l, k1, k2⟩ := ob_some.1 (show ob (updV q k x es) (fun l => some (e :: l)) = some es2 from h2)
      cases k2
      obtain ⟨s, g1, g2, g3⟩ := upd_scan q k x es l k1
      refine ⟨s.map (· + 1), by simp [scan, h1, g1, ob, sel], fun hs => ?_, fun i hi => ?_⟩
      · rw [g2 (by cases s <;> simp at hs; rfl)]; rfl
      · cases s with
        | none => simp at hi
        | some j => simp at hi; subst hi; rw [g3 j rfl]; rfl

theorem del_scan (q : EqK) (k : V) : ∀ (es es2 : List (V × V)), delV q k es = some es2 → ∃ s, scan q k es = some s ∧ (s = none → es2 = es) ∧ ∀ i, s = some i → es2 = es.eraseIdx i
  | [], es2, h => by
    have h' : some [] = some es2 := h
    cases h'
    exact ⟨none, rfl, fun _ => rfl, fun i hi => by cases hi⟩
  | e :: es, es2, h => by
    have h' : ob (eqV q k e.1) (fun b => sel b (some es) (ob (delV q k es) fun l => some (e :: l))) = some es2 := h
    obtain ⟨b, h1, h2⟩ := ob_some.1 h'
    cases b with
    | true =>
      have h2' : some es = some es2 := h2
      cases h2'
      refine ⟨some 0, by simp [scan, h1, ob, sel], (fun h => by cases h), fun i hi => ?_⟩
      cases hi; rfl
    | false =>
      obtain ⟨l, k1, k2⟩ := ob_some.1 (show ob (delV q k es) (fun l => some (e :: l)) = some es2 from h2)
      cases k2
      obtain ⟨s, g1, g2, g3⟩ := del_scan q k es l k1
      refine ⟨s.map (· + 1), by simp [scan, h1, g1, ob, sel], fun hs => ?_, fun i hi => ?_⟩
      · rw [g2 (by cases s <;> simp at hs; rfl)]
      · cases s with
        | none => simp at hi
        | some j => simp at hi; subst hi; rw [g3 j rfl]; rfl

theorem ERel.get {es : List (V × V)} {es' : List MapEntry} (h : ERel ι es es') : ∀ {i : Nat} {e : V × V}, es[i]? = some e → ∃ e', es'[i]? = some e' ∧ VRel ι e.1 e'.key ∧ VRel ι e.2 e'.val := by
  induction h with
  | nil => intro i e he; simp at he
  | cons k v e l l' hk hv ht ih =>
    intro i x hx
    cases i with
    | zero => simp at hx; subst hx; exact ⟨e, by simp, hk, hv⟩
    | succ i => obtain ⟨e', g1, g2⟩ := ih (i := i) (e := x) (by simpa using hx); exact ⟨e', by simpa using g1, g2⟩

theorem ERel.length {es : List (V × V)} {es' : List MapEntry} (h : ERel ι es es') : es.length = es'.length := by
  induction h with
  | nil => rfl
  | cons k v e l l' hk hv ht ih => simp [ih]

theorem scan_lt (q : EqK) (k : V) : ∀ (es : List (V × V)) (i : Nat), scan q k es = some (some i) → ∃ e, es[i]? = some e ∧ eqV q k e.1 = some true
  | [], i, h => by simp [scan] at h
  | e :: es, i, h => by
    obtain ⟨b, h1, h2⟩ := ob_some.1 (show ob (eqV q k e.1) (fun b => sel b (some (some 0)) (ob (scan q k es) fun i => some (i.map (· + 1)))) = some (some i) from h)
    cases b with
    | true => have h2' : some (some 0) = some (some i) := h2
              cases h2'; exact ⟨e, by simp, h1⟩
    | false =>
      obtain ⟨j, k1, k2⟩ := ob_some.1 (show ob (scan q k es) (fun i => some (i.map (· + 1))) = some (some i) from h2)
      cases j with
      | none => simp at k2
      | some j => simp at k2; subst k2
                  obtain ⟨e', g1, g2⟩ := scan_lt q k es j k1
                  exact ⟨e', by simpa using g1, g2⟩

theorem asking_run {q : EqK} {t : TypeId} (hq : eqK? P t = some q) {k : V} {k' : Value} (hk : VRel ι k k') (w : World) : ∀ (es : List (V × V)) (es' : List MapEntry) (s : Option Nat) (j : Nat), scan q k es = some s → ERel ι es es' →
    (Instr.findAsking t k' es' j).run P w = .ok (s.map fun i => (j + i, (es'.getD i default).val)) w
  | [], es', s, j, h, he => by
    cases he
    have h' : some none = some s := h
    cases h'
    simp [Instr.findAsking]
  | e :: es, es', s, j, h, he => by
    obtain ⟨b, h1, h2⟩ := ob_some.1 (show ob (eqV q k e.1) (fun b => sel b (some (some 0)) (ob (scan q k es) fun i => some (i.map (· + 1)))) = some s from h)
    cases he with | cons _ _ e' _ l' g1 g2 ht =>
    have hrun : (Op.equal t k' e'.key).run P w = .ok b w := eqV_run h1 hk g1 9998 t hq w
    simp only [Instr.findAsking, Sem.run_bind, hrun, Result.andThen_ok, Sem.run_ite]
    cases b with
    | true =>
      have h2' : some (some 0) = some s := h2
      cases h2'
      simp
    | false =>
      obtain ⟨i, k1, k2⟩ := ob_some.1 (show ob (scan q k es) (fun i => some (i.map (· + 1))) = some s from h2)
      cases k2
      simp only [Bool.false_eq_true, if_false]
      rw [asking_run hq hk w es l' i (j + 1) k1 ht]
      cases i with
      | none => rfl
      | some i => simp; omega

theorem now_run {k3 : K3} {t : TypeId} {d : TypeDesc} (hd : P.underlying t = some d) (hq : k3? P t = some k3) {k : V} {k' : Value} (hk : VRel ι k k') : ∀ (es : List (V × V)) (es' : List MapEntry) (s : Option Nat) (j : Nat), scan (.one k3) k es = some s → ERel ι es es' →
    Instr.findNow d k' es' j = some (s.map fun i => (j + i, (es'.getD i default).val))
  | [], es', s, j, h, he => by
    cases he
    have h' : some none = some s := h
    cases h'
    simp [Instr.findNow]
  | e :: es, es', s, j, h, he => by
    obtain ⟨b, h1, h2⟩ := ob_some.1 (show ob (eqC k3 k e.1) (fun b => sel b (some (some 0)) (ob (scan (.one k3) k es) fun i => some (i.map (· + 1)))) = some s from h)
    cases he with | cons ke ve e' _ l' g1 g2 ht =>
    have hsame : Instr.sameNow d k' e'.key = some b := by
      unfold k3? at hq
      rw [hd] at hq
      cases d <;> simp at hq <;> subst hq <;> cases k <;> cases ke <;> simp only [eqC, reduceCtorEq] at h1
      · cases hk
        generalize e'.key = y at g1
        cases g1
        simp only [Option.some.injEq] at h1
        subst h1
        rename_i a b
        cases a <;> cases b <;> rfl
      · cases hk
        generalize e'.key = y at g1
        cases g1
        obtain ⟨p1, p2⟩ := whn_some.1 h1
        simp only [Option.some.injEq, intEq_eq] at p2
        simp only [decide_eq_true_eq] at p1
        subst p1
        subst p2
        simp [Instr.sameNow]
        rfl
      · cases hk with | str _ _ x q1 q2 =>
        generalize e'.key = y at g1
        cases g1 with | str _ _ y q3 q4 =>
        subst q2 q4
        simp only [Option.some.injEq, beqL_eq] at h1
        subst h1
        simp only [Instr.sameNow, beq_toListBytes, ByteArray.toList_eq]
    simp only [Instr.findNow, hsame]
    cases b with
    | true =>
      have h2' : some (some 0) = some s := h2
      cases h2'
      simp
    | false =>
      obtain ⟨i, k1, k2⟩ := ob_some.1 (show ob (scan (.one k3) k es) (fun i => some (i.map (· + 1))) = some s from h2)
      cases k2
      simp only
      rw [now_run hd hq hk es l' i (j + 1) k1 ht]
      cases i with
      | none => rfl
      | some i => simp; omega

theorem findKey_run {q : EqK} (hp : isPlainK q = true) {t : TypeId} (hq : eqK? P t = some q) {k : V} {k' : Value} (hk : VRel ι k k') (w : World) {es : List (V × V)} {es' : List MapEntry} {s : Option Nat} (h : scan q k es = some s) (he : ERel ι es es') :
    (Instr.findKey t k' es').run P w = .ok (s.map fun i => (i, (es'.getD i default).val)) w := by
  have hz : (s.map fun i => (i, (es'.getD i default).val)) = s.map fun i => (0 + i, (es'.getD i default).val) := by cases s <;> simp
  rw [hz]
  cases hu : P.underlying t with
  | none => unfold eqK? at hq; simp [hu] at hq
  | some d =>
    cases q with
    | nilp k => simp [isPlainK] at hp
    | one k3 =>
      have hk3 : k3? P t = some k3 := by
        unfold eqK? at hq
        unfold k3?
        rw [hu] at hq ⊢
        cases d <;> first
          | (simp at hq; done)
          | (simp only [Option.some.injEq, EqK.one.injEq] at hq; subst hq; rfl)
          | (simp only [whn_some] at hq; obtain ⟨_, _, hq⟩ := hq; revert hq; split <;> simp [whn_some])
      simp [Instr.findKey, run_underlying hu, now_run hu hk3 hk es es' s 0 h he]
    | struct ks =>
      have hds : ∃ fs, d = .struct fs := by
        unfold eqK? at hq
        rw [hu] at hq
        cases d <;> simp only [Option.some.injEq, reduceCtorEq] at hq
        exact ⟨_, rfl⟩
      obtain ⟨fs, rfl⟩ := hds
      simp only [Instr.findKey, Sem.run_bind, run_underlying hu, Result.andThen_ok]
      cases he with
      | nil =>
        have h' : some none = some s := h
        cases h'
        simp [Instr.findNow]
      | cons k0 v0 e l l' h1 h2 h3 =>
        have : Instr.findNow (.struct fs) k' (e :: l') 0 = none := by simp [Instr.findNow, Instr.sameNow]
        rw [this]
        exact asking_run hq hk w _ _ s 0 h (.cons k0 v0 e l l' h1 h2 h3)

/-! ### The operations -/

theorem HRel.mapAt (h : HRel G X ι st w) {r : Nat} {es : List (V × V)} (hm : getMap st r = some es) : ∃ l es' clock, ι r = some l ∧ w.heap[l.blk]? = some (.map es' clock) ∧ ERel ι es es'.toList :=
  h.obj r _ (getMap_some hm)

theorem lk_out (h : HRel G X ι st w) {t kt et : TypeId} {q : EqK} {z : V} {ok : Bool} {m i : V} {m' i' : Value} (hu : P.underlying t = some (.map kt et)) (hq : eqK? P kt = some q) (hp : isPlainK q = true)
    (hz : zeroV? P et = some z) (hm : VRel ι m m') (hi : VRel ι i i') (hr : opLk q z ok (some m) (some i) st = some (v, st')) : SOut P G X ι st w (Instr.lookup t m' i' ok) v st' := by
  obtain ⟨_, e, hr⟩ := ob_some.1 hr
  cases e
  obtain ⟨_, e, hr⟩ := ob_some.1 hr
  cases e
  obtain ⟨b, h1, hr⟩ := ob_some.1 hr
  obtain ⟨hb, hr⟩ := whn_some.1 hr
  subst hb
  obtain ⟨zv, z1, z2⟩ := zeroV_rel ι hz
  have hck : ∀ em, (Instr.checkKey em 10000 kt i').run P w = .ok () w := fun em => check_run hp hq h1 hi em w
  have hres : ∀ (u : V) (u' : Value) (b : Bool), VRel ι u u' → VRel ι (okRes ok u b) (if ok then .tuple #[u', .bool b] else u') := by
    intro u u' b hu
    cases ok with
    | false => exact hu
    | true => exact .tup _ _ (.cons _ _ _ _ hu (.cons _ _ _ _ (.bool b) .nil))
  cases hm with
  | mnil =>
    cases hr
    refine .same h ?_ (hres _ _ _ z2)
    have hf := findKey_run hp hq hi w (es := []) (es' := []) (s := none) rfl .nil
    simp [Instr.lookup, run_underlying hu, hck, hf, zero_run z1]
  | map r l hl =>
    obtain ⟨es, h2, hr⟩ := ob_some.1 hr
    obtain ⟨l2, es', ck, k1, k2, k3⟩ := h.mapAt h2
    rw [hl] at k1; cases k1
    obtain ⟨o, h3, hr⟩ := ob_some.1 hr
    obtain ⟨s, s1, s2, s3⟩ := look_scan q i es o h3
    have hf := findKey_run hp hq hi w s1 k3
    have hg : (getObj l.blk).run P w = .ok (.map es' ck) w := MapKept.run_getObj_map k2
    cases s with
    | none =>
      rw [s2 rfl] at hr
      cases hr
      refine .same h ?_ (hres _ _ _ z2)
      simp [Instr.lookup, run_underlying hu, hg, hck, hf, zero_run z1]
    | some j =>
      obtain ⟨e, e1, e2⟩ := s3 j rfl
      rw [e2] at hr
      cases hr
      obtain ⟨e', f1, f2, f3⟩ := k3.get e1
      have hgd : es'.toList.getD j default = e' := by simp [List.getD, f1]
      refine .same h ?_ (hres _ _ _ f3)
      simp only [Option.map_some, hgd] at hf
      simp [Instr.lookup, run_underlying hu, hg, hck, hf]
  | _ => cases hr

theorem ERel.set {es : List (V × V)} {es' : List MapEntry} (h : ERel ι es es') : ∀ (i : Nat) (k v : V) (e : MapEntry), VRel ι k e.key → VRel ι v e.val → ERel ι (es.set i (k, v)) (es'.set i e) := by
  induction h with
  | nil => intro i k v e _ _; exact .nil
  | cons k0 v0 e0 l l' hk hv ht ih =>
    intro i k v e h1 h2
    cases i with
    | zero => exact .cons _ _ _ _ _ h1 h2 ht
    | succ i => exact .cons _ _ _ _ _ hk hv (ih i k v e h1 h2)

theorem ERel.erase {es : List (V × V)} {es' : List MapEntry} (h : ERel ι es es') : ∀ (i : Nat), ERel ι (es.eraseIdx i) (es'.eraseIdx i) := by
  induction h with
  | nil => intro i; exact .nil
  | cons k0 v0 e0 l l' hk hv ht ih =>
    intro i
    cases i with
    | zero => exact ht
    | succ i => exact .cons _ _ _ _ _ hk hv (ih i)

theorem ERel.snoc {es : List (V × V)} {es' : List MapEntry} (h : ERel ι es es') {k v : V} {e : MapEntry} (h1 : VRel ι k e.key) (h2 : VRel ι v e.val) : ERel ι (es ++ [(k, v)]) (es' ++ [e]) := by
  induction h with
  | nil => exact .cons _ _ _ _ _ h1 h2 .nil
  | cons k0 v0 e0 l l' hk hv ht ih => exact .cons _ _ _ _ _ hk hv ih

theorem HRel.putMap (h : HRel G X ι st w) {r : Nat} {es es2 : List (V × V)} (hm : getMap st r = some es) {l : Loc} (hl : ι r = some l) {ea ea2 : Array MapEntry} {ck ck2 : Nat} (hw : w.heap[l.blk]? = some (.map ea ck)) (he : ERel ι es2 ea2.toList) :
    HRel G X ι (st.put r (.map es2)) { w with heap := w.heap.setIfInBounds l.blk (.map ea2 ck2) } ∧ Stp ι st w ι (st.put r (.map es2)) { w with heap := w.heap.setIfInBounds l.blk (.map ea2 ck2) } := by
  obtain ⟨g1, g2⟩ := MapKept.heap_set (o' := .map ea2 ck2) hw
  exact h.put (getMap_some hm) trivial hl (by simp) g2 rfl rfl rfl ⟨l, ea2, ck2, hl, g1, he⟩

theorem mu_out (h : HRel G X ι st w) {t kt et : TypeId} {q : EqK} {m i x : V} {m' i' x' : Value} (hu : P.underlying t = some (.map kt et)) (hq : eqK? P kt = some q) (hp : isPlainK q = true)
    (hm : VRel ι m m') (hi : VRel ι i i') (hx : VRel ι x x') (hr : opMu q (some m) (some i) (some x) st = some (v, st')) : v = undefV ∧ UOut P G X ι st w (Instr.mapUpdate t m' i' x') st' := by
  obtain ⟨_, e, hr⟩ := ob_some.1 hr
  cases e
  obtain ⟨_, e, hr⟩ := ob_some.1 hr
  cases e
  obtain ⟨_, e, hr⟩ := ob_some.1 hr
  cases e
  obtain ⟨r, h1, hr⟩ := ob_some.1 hr
  obtain ⟨es, h2, hr⟩ := ob_some.1 hr
  obtain ⟨b, h3, hr⟩ := ob_some.1 hr
  obtain ⟨hb, hr⟩ := whn_some.1 hr
  subst hb
  obtain ⟨es2, h4, hr⟩ := ob_some.1 hr
  cases hr
  rw [asM_inv h1] at hm
  cases hm with | map _ l hl =>
  obtain ⟨l2, es', ck, k1, k2, k3⟩ := h.mapAt h2
  rw [hl] at k1; cases k1
  have hck : ∀ em, (Instr.checkKey em 10000 kt i').run P w = .ok () w := fun em => check_run hp hq h3 hi em w
  obtain ⟨s, s1, s2, s3⟩ := upd_scan q i x es es2 h4
  have hf := findKey_run hp hq hi w s1 k3
  have hg : (getObj l.blk).run P w = .ok (.map es' ck) w := MapKept.run_getObj_map k2
  refine ⟨rfl, ?_⟩
  cases s with
  | none =>
    have hes := s2 rfl
    obtain ⟨p1, p2⟩ := h.putMap (es2 := es2) (ea2 := es'.push { key := i', val := x', born := ck }) (ck2 := ck + 1) h2 hl k2 (by rw [hes, Array.toList_push]; exact k3.snoc hi hx)
    refine ⟨ι, _, ?_, p1, p2⟩
    have hset := MapKept.run_setObj_map (P := P) (.map (es'.push { key := i', val := x', born := ck }) (ck + 1)) k2
    simp [Instr.mapUpdate, run_underlying hu, hg, hck, hf, hset]
  | some j =>
    have hes := s3 j rfl
    obtain ⟨e, e1, e2⟩ := scan_lt q i es j s1
    obtain ⟨e', f1, f2, f3⟩ := k3.get e1
    have hgd : es'.toList.getD j default = e' := by simp [List.getD, f1]
    have f1' : es'[j]? = some e' := by simpa using f1
    obtain ⟨t1, t2⟩ := eqV_true hp e2 hi f2
    have hsame : Instr.sameBits 10000 e'.key i' = true := by rw [t1] at t2 ⊢; exact t2
    have hmod : (es'.modify j fun y => { y with key := i', val := x' }).toList = es'.toList.set j { e' with key := i', val := x' } := by
      apply List.ext_getElem?
      intro n
      rw [Array.getElem?_toList, Array.getElem?_modify, List.getElem?_set]
      by_cases hn : j = n
      · subst hn
        have : j < es'.toList.length := (List.getElem?_eq_some_iff.1 f1).1
        have this2 : j < es'.size := by simpa using this
        have h8 : es'[j] = e' := (Array.getElem?_eq_some_iff.1 f1').2
        simp [this2, h8]
      · simp [hn]
    obtain ⟨p1, p2⟩ := h.putMap (es2 := es2) (ea2 := es'.modify j fun y => { y with key := i', val := x' }) (ck2 := ck) h2 hl k2 (by rw [hes, hmod]; exact k3.set j i x _ hi hx)
    refine ⟨ι, _, ?_, p1, p2⟩
    have hset := MapKept.run_setObj_map (P := P) (.map (es'.modify j fun y => { y with key := i', val := x' }) ck) k2
    simp only [Option.map_some, hgd] at hf
    simp [Instr.mapUpdate, run_underlying hu, hg, hck, hf, f1', Instr.keyThatStays, hsame, hset]

theorem del_out (h : HRel G X ι st w) {t u ty kt et : TypeId} {q : EqK} {m i : V} {m' i' : Value} (hu : P.underlying t = some (.map kt et)) (hq : eqK? P kt = some q) (hp : isPlainK q = true)
    (hm : VRel ι m m') (hi : VRel ι i i') (hr : opDel q (some m) (some i) st = some (v, st')) : SOut P G X ι st w (Builtin.delete_ #[t, u] ty #[m', i']) v st' := by
  obtain ⟨_, e, hr⟩ := ob_some.1 hr
  cases e
  obtain ⟨_, e, hr⟩ := ob_some.1 hr
  cases e
  obtain ⟨r, h1, hr⟩ := ob_some.1 hr
  obtain ⟨es, h2, hr⟩ := ob_some.1 hr
  obtain ⟨b, h3, hr⟩ := ob_some.1 hr
  obtain ⟨hb, hr⟩ := whn_some.1 hr
  subst hb
  obtain ⟨es2, h4, hr⟩ := ob_some.1 hr
  cases hr
  rw [asM_inv h1] at hm
  cases hm with | map _ l hl =>
  obtain ⟨l2, es', ck, k1, k2, k3⟩ := h.mapAt h2
  rw [hl] at k1; cases k1
  have hck : ∀ em, (Instr.checkKey em 10000 kt i').run P w = .ok () w := fun em => check_run hp hq h3 hi em w
  obtain ⟨s, s1, s2, s3⟩ := del_scan q i es es2 h4
  have hf := findKey_run hp hq hi w s1 k3
  have hg : (getObj l.blk).run P w = .ok (.map es' ck) w := MapKept.run_getObj_map k2
  have hund : VRel ι undefV (.tuple #[]) := .tup _ _ .nil
  cases s with
  | none =>
    have hes := s2 rfl
    obtain ⟨p1, p2⟩ := h.putMap (es2 := es2) (ea2 := es') (ck2 := ck) h2 hl k2 (by rw [hes]; exact k3)
    refine ⟨ι, _, _, ?_, hund, p1, p2⟩
    have hset := MapKept.run_setObj_map (P := P) (.map es' ck) k2
    simp [Builtin.delete_, run_underlying hu, hg, hck, hf, hset]
  | some j =>
    have hes := s3 j rfl
    obtain ⟨e, e1, e2⟩ := scan_lt q i es j s1
    have hlt : j < es'.size := by
      have := (List.getElem?_eq_some_iff.1 e1).1
      rw [k3.length] at this; simpa using this
    have hera : (es'.eraseIdxIfInBounds j).toList = es'.toList.eraseIdx j := by
      unfold Array.eraseIdxIfInBounds
      rw [dif_pos hlt, Array.toList_eraseIdx]
    obtain ⟨p1, p2⟩ := h.putMap (es2 := es2) (ea2 := es'.eraseIdxIfInBounds j) (ck2 := ck) h2 hl k2 (by rw [hes, hera]; exact k3.erase j)
    refine ⟨ι, _, _, ?_, hund, p1, p2⟩
    have hset := MapKept.run_setObj_map (P := P) (.map (es'.eraseIdxIfInBounds j) ck) k2
    simp only [Option.map_some] at hf
    simp [Builtin.delete_, run_underlying hu, hg, hck, hf, hset]

theorem mkm_out (h : HRel G X ι st w) (hX : ∀ b, X b → st'.next ≤ b) {t : TypeId} (hr : (some (V.map st.next, st.alloc (.map [])) : R) = some (v, st')) : SOut P G X ι st w (Instr.makeMap t none) v st' := by
  cases hr
  have hX1 : ¬ X st.next := fun hx => by
    have h9 : st.next + 1 ≤ st.next := hX _ hx
    omega
  obtain ⟨p1, p2⟩ := h.alloc hX1 (o := .map []) (x := .map #[] 0) (l := ⟨w.heap.size, 0, 0, 0⟩) (w' := { w with heap := w.heap.push (.map #[] 0) }) rfl rfl rfl rfl rfl
    ⟨_, #[], 0, upd_same _ _ _, by simp, .nil⟩
  exact ⟨_, _, _, by simp [Instr.makeMap], .map st.next _ (upd_same _ _ _), p1, p2⟩

end Go.Am
