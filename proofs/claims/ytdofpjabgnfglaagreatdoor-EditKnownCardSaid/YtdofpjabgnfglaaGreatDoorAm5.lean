/-
The operations on values and places, one by one: what the evaluator reckons is what the true operation does.
-/
import Derived.Test.YtdofpjabgnfglaaGreatDoorAm4
import Derived.IntWalk
import Derived.Laws.Strings
import Derived.Laws.StructEq
import Derived.Great.BuildSlice
set_option linter.unusedVariables false
set_option linter.unusedSectionVars false
set_option linter.unusedSimpArgs false
namespace Go.Am
open Go
variable [GT]

variable {P : Program} {G : Program} {X : Nat → Prop} {ι : Inj} {st : St} {w : World}

/-- what comes of an operation that yields a value -/
def SOut (P : Program) (G : Program) (X : Nat → Prop) (ι : Inj) (st : St) (w : World) (s : Sem Value) (v : V) (st' : St) : Prop :=
  ∃ ι' v' w', s.run P w = .ok v' w' ∧ VRel ι' v v' ∧ HRel G X ι' st' w' ∧ Stp ι st w ι' st' w'

/-- of one that yields none -/
def UOut (P : Program) (G : Program) (X : Nat → Prop) (ι : Inj) (st : St) (w : World) (s : Sem Unit) (st' : St) : Prop :=
  ∃ ι' w', s.run P w = .ok () w' ∧ HRel G X ι' st' w' ∧ Stp ι st w ι' st' w'

theorem SOut.same (h : HRel G X ι st w) {s : Sem Value} {v : V} {v' : Value} (hs : s.run P w = .ok v' w) (hv : VRel ι v v') : SOut P G X ι st w s v st :=
  ⟨ι, v', w, hs, hv, h, .refl _ _ _⟩

theorem pur_some {v : Option V} {r : V × St} (h : pur v st = some r) : v = some r.1 ∧ r.2 = st := by
  obtain ⟨u, h1, h2⟩ := ob_some.1 h
  cases h2; exact ⟨h1, rfl⟩

/-! ### Integers -/

theorem beq_dec (a b : Nat) : Nat.beq a b = decide (a = b) := by
  rw [Bool.eq_iff_iff, Nat.beq_eq]; simp

theorem intEq_eq (a b : Int) : intEq a b = decide (a = b) := by
  cases a <;> cases b <;> simp only [intEq, beq_dec] <;> rw [Bool.eq_iff_iff] <;> simp
  rename_i x y
  constructor
  · intro h; rw [h]
  · intro h; exact Int.ofNat.inj h

theorem intLt_eq (a b : Int) : intLt a b = decide (a < b) := by
  cases a <;> cases b <;> simp only [intLt, Nat.blt_eq] <;> rw [Bool.eq_iff_iff] <;> simp <;> omega

theorem w64_eq (n : Int) : w64 n = IntKind.i64.wrap n := by
  cases n with
  | ofNat m =>
    show sel (Nat.blt m 9223372036854775808) (Int.ofNat m) (IntKind.i64.wrap (Int.ofNat m)) = _
    rw [sel_eq]
    split
    · rename_i h
      rw [Nat.blt_eq] at h
      exact (IntWalk.i64_in _ ⟨by have : (0 : Int) ≤ Int.ofNat m := Int.natCast_nonneg m; omega, by have : (Int.ofNat m : Int) = (m : Int) := rfl; omega⟩).symm
    · rfl
  | negSucc m =>
    show sel (Nat.blt m 9223372036854775808) (Int.negSucc m) (IntKind.i64.wrap (Int.negSucc m)) = _
    rw [sel_eq]
    split
    · rename_i h
      rw [Nat.blt_eq] at h
      exact (IntWalk.i64_in _ ⟨by omega, by omega⟩).symm
    · rfl

theorem wrapF_eq (k : IntKind) (n : Int) : wrapF k n = k.wrap n := by
  cases k <;> first | exact w64_eq n | rfl

theorem binI_run (op : BinOp) (k : IntKind) (a b : Int) (t : TypeId) (hsh : isSh op = false) {v : V} (h : binI op k a b = some v) (w : World) :
    ∃ v', (binOp op t (.int k a) (.int k b)).run P w = .ok v' w ∧ VRel ι v v' := by
  cases op <;> simp only [isSh] at hsh <;> simp only [binI, sel_eq, intEq_eq, intLt_eq, wrapF_eq] at h
  all_goals first
    | (exact absurd hsh (by decide))
    | (simp only [Option.some.injEq] at h; subst h
       refine ⟨_, by simp only [binOp, ne_eq, not_true_eq_false, if_false, Op.intArith, Op.intBits, Op.intCmp]; rfl, ?_⟩
       first
        | exact .int _ _
        | exact .bool _
        | (have e : ∀ (p q : Bool), p = q → VRel ι (.bool p) (.bool q) := fun p q e => e ▸ .bool p
           apply e; rw [Bool.eq_iff_iff]; simp; try omega))
    | (split at h
       · simp at h
       · rename_i hb
         simp only [Option.some.injEq] at h; subst h
         have hb' : ¬ b = 0 := by simpa using hb
         exact ⟨.int k _, by simp [binOp, Op.intDiv, hb'], .int _ _⟩)

theorem shf_run (op : BinOp) (k j : IntKind) (a b : Int) (t : TypeId) {v : V} (h : shf op k a b = some v) (hop : isSh op = true) (w : World) :
    ∃ v', (binOp op t (.int k a) (.int j b)).run P w = .ok v' w ∧ VRel ι v v' := by
  simp only [shf, sel_eq, intLt_eq, wrapF_eq] at h
  split at h
  · simp at h
  · rename_i hb
    have hb' : ¬ b < 0 := by simpa using hb
    cases op <;> simp only [isSh] at hop <;> first | (exact absurd hop (by decide)) | skip
    · simp only [Option.some.injEq] at h; subst h
      exact ⟨.int k _, by simp [binOp, Op.shift, hb'], .int _ _⟩
    · simp only [Option.some.injEq] at h; subst h
      exact ⟨.int k _, by simp [binOp, Op.shift, hb'], .int _ _⟩

/-! ### Strings -/

theorem beqL_eq : ∀ a b : List UInt8, beqL (a.map UInt8.toNat) (b.map UInt8.toNat) = (a == b)
  | [], [] => rfl
  | [], _ :: _ => rfl
  | _ :: _, [] => rfl
  | x :: a, y :: b => by
    show sel (Nat.beq x.toNat y.toNat) (beqL (a.map UInt8.toNat) (b.map UInt8.toNat)) false = _
    rw [sel_eq, beqL_eq a b]
    by_cases e : x = y
    · subst e; simp
    · have : ¬ x.toNat = y.toNat := fun h => e (UInt8.toNat_inj.1 h)
      simp [e, this]

theorem bltL_eq : ∀ a b : List UInt8, bltL (a.map UInt8.toNat) (b.map UInt8.toNat) = Op.bytesLess a b
  | [], [] => rfl
  | [], _ :: _ => rfl
  | _ :: _, [] => rfl
  | x :: a, y :: b => by
    show sel (Nat.blt x.toNat y.toNat) true (sel (Nat.beq x.toNat y.toNat) (bltL (a.map UInt8.toNat) (b.map UInt8.toNat)) false) = _
    rw [sel_eq, sel_eq, bltL_eq a b, Op.bytesLess]
    rw [Bool.eq_iff_iff]
    by_cases e : x = y
    · subst e; simp
    · have h1 : ¬ x.toNat = y.toNat := fun h => e (UInt8.toNat_inj.1 h)
      simp [e, h1, UInt8.lt_iff_toNat_lt]

theorem bool_rel {p q : Bool} (h : p = q) : VRel ι (.bool p) (.bool q) := h ▸ .bool p

theorem binS_run (op : BinOp) (n : Nat) (a : List Nat) (m : Nat) (b : List Nat) (x y : ByteArray) (t : TypeId) {v : V} (h : binS op n a m b = some v)
    (hx : VRel ι (.str n a) (.string x)) (hy : VRel ι (.str m b) (.string y)) (w : World) : ∃ v', (binOp op t (.string x) (.string y)).run P w = .ok v' w ∧ VRel ι v v' := by
  cases hx with | str _ _ _ h1 h2 => cases hy with | str _ _ _ h3 h4 =>
  subst h1 h2 h3 h4
  cases op <;> simp only [binS, beqL_eq, bltL_eq] at h
  case add =>
    obtain ⟨h5, h6⟩ := whn_some.1 h
    cases h6
    rw [Nat.blt_eq] at h5
    have h7 : ¬ (((x.size + y.size : Nat) : Int) > IntKind.i64.max) := by
      have : IntKind.i64.max = 9223372036854775807 := by decide
      rw [this]
      have : x.size + y.size < 1099511627776 := h5
      omega
    refine ⟨.string (x ++ y), by simp only [binOp, Op.stringOp, h7, if_false]; rfl, .str _ _ _ (by rw [ByteArray.size_append]; rfl) ?_⟩
    rw [ByteArray.data_append, appL_eq]; simp
  all_goals first
    | (simp at h; done)
    | (simp only [Option.some.injEq] at h; subst h
       exact ⟨_, by simp only [binOp, Op.stringOp, ByteArray.toList_eq]; rfl, bool_rel (by simp)⟩)

theorem binV_run (op : BinOp) {x y : V} {x' y' : Value} (t : TypeId) {v : V} (h : binV op x y = some v) (hx : VRel ι x x') (hy : VRel ι y y') (w : World) :
    ∃ v', (binOp op t x' y').run P w = .ok v' w ∧ VRel ι v v' := by
  cases x <;> cases y <;> simp only [binV] at h <;> first | (simp at h; done) | skip
  · rename_i k a j b
    cases hx; cases hy
    rw [sel_eq] at h
    split at h
    · rename_i hs; exact shf_run op k j a b t h hs w
    · rename_i hs
      obtain ⟨h1, h2⟩ := whn_some.1 h
      have : k = j := by simpa using h1
      subst this
      exact binI_run op k a b t (by simpa using hs) h2 w
  · cases hx with | str _ _ x' h1 h2 => cases hy with | str _ _ y' h3 h4 =>
    exact binS_run op _ _ _ _ x' y' t h (.str _ _ _ h1 h2) (.str _ _ _ h3 h4) w

/-! ### What is the same -/

theorem eqC_run {k : K3} {x y : V} {x' y' : Value} {r : Bool} (h : eqC k x y = some r) (hx : VRel ι x x') (hy : VRel ι y y') (d : Nat) (t : TypeId) (ht : k3? P t = some k) (w : World) :
    (Op.equalIn (d + 1) t x' y').run P w = .ok r w := by
  unfold k3? at ht
  cases hu : P.underlying t with
  | none => simp [hu] at ht
  | some td =>
    rw [hu] at ht
    cases td <;> simp at ht <;> subst ht
    · cases x <;> cases y <;> simp only [eqC] at h <;> first | (simp at h; done) | skip
      rename_i a b
      cases hx; cases hy
      simp only [Option.some.injEq] at h; subst h
      rw [run_equalIn_bool' w d t a b hu]
      cases a <;> cases b <;> rfl
    · cases x <;> cases y <;> simp only [eqC] at h <;> first | (simp at h; done) | skip
      rename_i k2 k a j b
      cases hx; cases hy
      obtain ⟨h4, h5⟩ := whn_some.1 h
      have : k = j := by simpa using h4
      subst this
      simp only [Option.some.injEq] at h5; subst h5
      rw [run_equalIn_int w d t k k2 a b hu, intEq_eq]
      rfl
    · cases x <;> cases y <;> simp only [eqC] at h <;> first | (simp at h; done) | skip
      rename_i n s m u
      cases hx with | str _ _ x' g1 g2 => cases hy with | str _ _ y' g3 g4 =>
      simp only [Option.some.injEq] at h; subst h
      subst g2 g4
      rw [run_equalIn_string w d t x' y' hu, beqL_eq, ByteArray.toList_eq, ByteArray.toList_eq]

theorem eqC_one {k : K3} {x y : V} {r : Bool} (h : eqC k x y = some r) : (∃ k n, x = .int k n) ∨ (∃ n s, x = .str n s) ∨ ∃ b, x = .bool b := by
  cases k <;> cases x <;> cases y <;> simp [eqC] at h <;> simp

theorem part_run {t : TypeId} {k : K3} (ht : k3? P t = some k) (xs : Array Value) (off : Nat) {v : Value} (hv : xs[off]? = some v) (w : World) : (part t xs off).run P w = .ok v w := by
  unfold k3? at ht
  cases hu : P.underlying t with
  | none => simp [hu] at ht
  | some td =>
    have : isAggD td = false := by rw [hu] at ht; cases td <;> simp at ht <;> rfl
    simp [part, isAgg_run hu, this, hv]

theorem eqF_run {xs ys : Array Value} (d : Nat) : ∀ (fs : List Field) (n : Nat) (ks : List K3), eqF P fs n = some ks → ∀ (a b : List V) (r : Bool), eqCs ks a b = some r →
    (∀ (i : Nat) (v : V), a[i]? = some v → ∃ v', xs[n + i]? = some v' ∧ VRel ι v v') → (∀ (i : Nat) (v : V), b[i]? = some v → ∃ v', ys[n + i]? = some v' ∧ VRel ι v v') → ∀ w : World,
    (Op.eqFields (d + 1) xs ys fs).run P w = .ok r w
  | [], n, ks, h, a, b, r, hr, hx, hy, w => by
    simp only [eqF, Option.some.injEq] at h; subst h
    cases a <;> cases b <;> first | (cases hr; done) | skip
    have : some true = some r := hr
    cases this; rfl
  | f :: fs, n, ks, h, a, b, r, hr, hx, hy, w => by
    simp only [eqF] at h
    obtain ⟨h1, h⟩ := whn_some.1 h
    obtain ⟨h2, h⟩ := whn_some.1 h
    cases hk : k3? P f.type with
    | none => simp [hk] at h
    | some k => cases hl : eqF P fs (n + 1) with
      | none => simp [hk, hl] at h
      | some l =>
        simp only [hk, hl, Option.some.injEq] at h; subst h
        have hoff : f.offset = n := Nat.eq_of_beq_eq_true h2
        cases a with
        | nil => cases hr
        | cons x s => cases b with
          | nil => cases hr
          | cons y t =>
            have hr' : ob (eqC k x y) (fun r => sel r (eqCs l s t) (some false)) = some r := hr
            obtain ⟨q, g1, g2⟩ := ob_some.1 hr'
            obtain ⟨x', x1, x2⟩ := hx 0 x (by simp)
            obtain ⟨y', y1, y2⟩ := hy 0 y (by simp)
            rw [Op.eqFields, if_pos (by simpa using h1)]
            simp only [Sem.run_bind, part_run hk xs f.offset (by rw [hoff]; exact x1), part_run hk ys f.offset (by rw [hoff]; exact y1), Result.andThen_ok,
              eqC_run g1 x2 y2 d f.type hk, Sem.run_ite]
            rw [sel_eq] at g2
            cases q with
            | false => simp at g2; subst g2; simp
            | true =>
              simp only [if_true] at g2
              simp only [Bool.not_true, Bool.false_eq_true, if_false]
              exact eqF_run d fs (n + 1) l hl s t r g2 (fun i v hv => by
                obtain ⟨v', k1, k2⟩ := hx (i + 1) v (by simpa using hv)
                exact ⟨v', by rwa [show n + (i + 1) = n + 1 + i by omega] at k1, k2⟩) (fun i v hv => by
                obtain ⟨v', k1, k2⟩ := hy (i + 1) v (by simpa using hv)
                exact ⟨v', by rwa [show n + (i + 1) = n + 1 + i by omega] at k1, k2⟩) w

theorem eqN_run {k : NK} {x y : V} {x' y' : Value} {r : Bool} (h : eqN k x y = some r) (hx : VRel ι x x') (hy : VRel ι y y') (d : Nat) (t : TypeId) (hq : eqK? P t = some (.nilp k)) (w : World) :
    (Op.equalIn (d + 1) t x' y').run P w = .ok r w := by
  unfold eqK? at hq
  cases hu : P.underlying t with
  | none => simp [hu] at hq
  | some td =>
    rw [hu] at hq
    cases td <;> first
      | (simp at hq; done)
      | (simp only [Option.some.injEq, EqK.nilp.injEq] at hq; subst hq
         cases x <;> cases y <;> simp only [eqN, Option.some.injEq, reduceCtorEq] at h <;> cases hx <;> cases hy <;> subst h <;> simp [Op.equalIn, run_underlying hu]; done)
      | (simp only [whn_some] at hq; obtain ⟨_, _, hq⟩ := hq; revert hq; split <;> simp [whn_some])

theorem eqV_run {q : EqK} {x y : V} {x' y' : Value} {r : Bool} (h : eqV q x y = some r) (hx : VRel ι x x') (hy : VRel ι y y') (d : Nat) (t : TypeId) (hq : eqK? P t = some q) (w : World) :
    (Op.equalIn (d + 2) t x' y').run P w = .ok r w := by
  cases q with
  | nilp k => exact eqN_run h hx hy (d + 1) t hq w
  | one k =>
    refine eqC_run h hx hy (d + 1) t ?_ w
    unfold eqK? at hq
    unfold k3?
    cases hu : P.underlying t with
    | none => simp [hu] at hq
    | some td =>
      rw [hu] at hq
      cases td <;> first
        | (simp at hq; done)
        | (simp only [Option.some.injEq, EqK.one.injEq] at hq; subst hq; rfl)
        | (simp only [whn_some] at hq; obtain ⟨_, _, hq⟩ := hq; revert hq; split <;> simp [whn_some])
  | struct ks =>
    unfold eqK? at hq
    cases hu : P.underlying t with
    | none => simp [hu] at hq
    | some td =>
      rw [hu] at hq
      cases td <;> simp only [Option.some.injEq, reduceCtorEq] at hq
      rename_i fs
      obtain ⟨h1, hq⟩ := whn_some.1 hq
      obtain ⟨h2, hq⟩ := whn_some.1 hq
      cases hf : eqF P fs.toList 0 with
      | none => simp [hf] at hq
      | some l =>
        rw [hf] at hq
        obtain ⟨_, hq⟩ := whn_some.1 hq
        cases hq
        cases x <;> cases y <;> simp only [eqV, eqS, reduceCtorEq] at h
        cases hx with | agg _ xs hx1 _ => cases hy with | agg _ ys hy1 _ =>
        have hfo : P.fieldsOf t = fs := by simp [Program.fieldsOf, hu]
        rw [run_equalIn_agg w (d + 1) t xs ys (by rw [hfo]; exact hu) (by simpa using h2), hfo]
        exact eqF_run d fs.toList 0 _ hf _ _ r h (fun i v hv => by
          obtain ⟨v', k1, k2⟩ := hx1.get hv
          exact ⟨v', by simpa using k1, k2⟩) (fun i v hv => by
          obtain ⟨v', k1, k2⟩ := hy1.get hv
          exact ⟨v', by simpa using k1, k2⟩) w

theorem lookT_mem {t : Nat} {k : K3} : ∀ {l : List (Nat × K3)}, lookT t l = some k → (t, k) ∈ l
  | [], h => by cases h
  | p :: l, h => by
    have h : sel (Nat.beq t p.1) (some p.2) (lookT t l) = some k := h
    rw [sel_eq] at h
    split at h
    · rename_i e
      have := Nat.eq_of_beq_eq_true e
      cases h; subst this
      simp
    · exact List.mem_cons_of_mem _ (lookT_mem h)

theorem ifTys_mem {t : Nat} {k : K3} (h : (t, k) ∈ ifTys P) : k3? P t = some k ∧ ∃ i, P.info? t = some i ∧ i.comparable = true := by
  unfold ifTys at h
  rw [List.mem_filterMap] at h
  obtain ⟨u, _, h⟩ := h
  split at h <;> first | (simp at h; done) | skip
  rename_i k2 i h1 h2
  cases hc : i.comparable with
  | false => rw [hc] at h; simp at h
  | true =>
    rw [hc] at h
    simp only [cond_true, Option.some.injEq, Prod.mk.injEq] at h
    obtain ⟨rfl, rfl⟩ := h
    exact ⟨h1, i, h2, hc⟩

theorem eqT_run {x y : V} {x' y' : Value} {r : Bool} (h : eqT (ifTys P) x y = some r) (hx : VRel ι x x') (hy : VRel ι y y') {t : TypeId} {ms : Array (String × TypeId)} (hu : P.underlying t = some (.interface ms)) (d : Nat) (w : World) :
    (Op.equalIn (d + 2) t x' y').run P w = .ok r w := by
  unfold eqT at h
  split at h
  · cases h; cases hx; cases hy; simp [Op.equalIn, run_underlying hu]
  · cases h; cases hx; cases hy; simp [Op.equalIn, run_underlying hu]
  · rename_i t1 x u y
    cases hx with | iface _ _ vx hvx =>
    cases hy with | iface _ _ vy hvy =>
    rw [sel_eq] at h
    split at h
    · rename_i e
      have := Nat.eq_of_beq_eq_true e
      subst this
      obtain ⟨k, h1, h2⟩ := ob_some.1 h
      obtain ⟨h3, i, h4, h5⟩ := ifTys_mem (lookT_mem h1)
      have h6 := eqC_run h2 hvx hvy d t1 h3 w
      rw [Op.equalIn]
      simp [run_underlying hu, info_run h4, h5, h6]
    · rename_i e
      cases h
      have hne : ¬ t1 = u := fun e2 => e (by subst e2; exact Nat.beq_refl _)
      rw [Op.equalIn]
      simp [run_underlying hu, hne]
  · cases h

theorem eqT_guard {l : List (Nat × K3)} {x y : V} {x' y' : Value} {r : Bool} (op : BinOp) (t : TypeId) (p p' : Operand) (h : eqT l x y = some r) (hx : VRel ι x x') (hy : VRel ι y y') (w : World) : (eqGuard op t p p' x' y').run P w = .ok () w := by
  unfold eqT at h
  split at h
  · cases hx; cases hy; simp [eqGuard]; try (split <;> rfl)
  · cases hx; cases hy; simp [eqGuard]; try (split <;> rfl)
  · cases hx; cases hy; simp [eqGuard]; try (split <;> rfl)
  · cases h

theorem eqGuard_run {q : EqK} {x y : V} {x' y' : Value} {r : Bool} (op : BinOp) (t : TypeId) (p p' : Operand) (h : eqV q x y = some r) (hx : VRel ι x x') (hy : VRel ι y y')
    (hq : eqK? P t = some q) (w : World) : (eqGuard op t p p' x' y').run P w = .ok () w := by
  cases q with
  | nilp k =>
    cases k <;> cases x <;> cases y <;> simp only [eqV, eqN, reduceCtorEq] at h <;> cases hx <;> cases hy <;> simp [eqGuard] <;> (try (split <;> rfl))
  | one k =>
    rcases eqC_one h with ⟨_, _, rfl⟩ | ⟨_, _, rfl⟩ | ⟨_, rfl⟩ <;> cases hx <;> simp [eqGuard] <;> (try (split <;> rfl))
  | struct ks =>
    cases x <;> cases y <;> simp only [eqV, eqS, reduceCtorEq] at h
    cases hx; cases hy
    refine run_eqGuard_agg w op t p p' _ _ ?_
    unfold eqK? at hq
    revert hq
    split <;> simp [whn_some]
    intro h1 _ _
    simpa using h1

end Go.Am
