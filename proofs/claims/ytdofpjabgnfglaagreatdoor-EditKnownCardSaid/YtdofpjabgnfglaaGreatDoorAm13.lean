/-
Any operation but a call: what the evaluator reckons is what the true operation does.
-/
import Derived.Test.YtdofpjabgnfglaaGreatDoorAm12
set_option linter.unusedVariables false
set_option linter.unusedSectionVars false
set_option linter.unusedSimpArgs false
namespace Go.Am
open Go
variable [GT]

variable {P : Program} {G : Program} {X : Nat → Prop} {ι : Inj} {st st' : St} {w : World} {v : V}

theorem len_out (h : HRel G X ι st w) {t ty : TypeId} {td : TypeDesc} {k : LK} {a : V} {a' : Value} (hu : P.underlying t = some td) (hk : (k = .s ∧ td = .string) ∨ (k = .l ∧ ∃ e, td = .slice e) ∨ (k = .m ∧ ∃ p q, td = .map p q))
    (ha : VRel ι a a') (hr : opLen k (some a) st = some (v, st')) : SOut P G X ι st w (Builtin.len_ #[t] ty #[a']) v st' := by
  obtain ⟨_, e, hr⟩ := ob_some.1 hr
  cases e
  rcases hk with ⟨rfl, rfl⟩ | ⟨rfl, e, rfl⟩ | ⟨rfl, p, q, rfl⟩
  · cases ha with
    | str n s bs g1 g2 => cases hr; exact .same h (v' := .int .i64 n) (by simp [Builtin.len_, run_underlying hu, goInt, g1]) (.int _ _)
    | _ => cases hr
  · cases ha with
    | snil => cases hr; exact .same h (v' := .int .i64 0) (by simp [Builtin.len_, run_underlying hu, goInt]) (.int _ _)
    | slice b o n c ex l cap off _ _ _ _ _ _ => cases hr; exact .same h (v' := .int .i64 n) (by simp [Builtin.len_, run_underlying hu, goInt]) (.int _ _)
    | _ => cases hr
  · cases ha with
    | mnil => cases hr; exact .same h (v' := .int .i64 0) (by simp [Builtin.len_, run_underlying hu, goInt]) (.int _ _)
    | map r l hl =>
      obtain ⟨es, h2, hr⟩ := ob_some.1 hr
      cases hr
      obtain ⟨l2, es', ck, k1, k2, k3⟩ := h.mapAt h2
      rw [hl] at k1; cases k1
      have hg : (getObj l.blk).run P w = .ok (.map es' ck) w := MapKept.run_getObj_map k2
      refine .same h (v' := .int .i64 es'.size) (by simp [Builtin.len_, run_underlying hu, goInt, hg]) ?_
      have : lenL es = es'.size := by rw [lenL_eq, k3.length, Array.length_toList]
      rw [this]; exact .int _ _
    | _ => cases hr

theorem cap_out (h : HRel G X ι st w) {t ty e : TypeId} {a : V} {a' : Value} (hu : P.underlying t = some (.slice e)) (ha : VRel ι a a') (hr : opCap (some a) st = some (v, st')) :
    SOut P G X ι st w (Builtin.cap_ #[t] ty #[a']) v st' := by
  obtain ⟨_, e, hr⟩ := ob_some.1 hr
  cases e
  cases ha with
  | snil => cases hr; exact .same h (v' := .int .i64 0) (by simp [Builtin.cap_, run_underlying hu, goInt]) (.int _ _)
  | slice b o n c ex l cap off h1 h2 h3 h4 h5 h6 =>
    obtain ⟨he, hr⟩ := whn_some.1 hr
    cases hr
    have := h4 he
    subst this
    exact .same h (v' := .int .i64 _) (by simp [Builtin.cap_, run_underlying hu, goInt]) (.int _ _)
  | _ => cases hr

theorem min_out (h : HRel G X ι st w) {ts : Array TypeId} {ty : TypeId} {a b : V} {a' b' : Value} (ha : VRel ι a a') (hb : VRel ι b b') (hr : opMin (some a) (some b) st = some (v, st')) :
    SOut P G X ι st w (Builtin.min_ ts ty #[a', b']) v st' := by
  obtain ⟨_, e, hr⟩ := ob_some.1 hr
  cases e
  obtain ⟨_, e, hr⟩ := ob_some.1 hr
  cases e
  obtain ⟨p, h1, hr⟩ := ob_some.1 hr
  obtain ⟨q, h2, hr⟩ := ob_some.1 hr
  cases hr
  rw [asInt_inv h1] at ha
  rw [asInt_inv h2] at hb
  cases ha; cases hb
  refine .same h (v' := .int p.1 (if q.2 < p.2 then q.2 else p.2)) (by simp [Builtin.min_, Builtin.min2]) ?_
  have : sel (intLt q.2 p.2) q.2 p.2 = if q.2 < p.2 then q.2 else p.2 := by rw [sel_eq, intLt_eq]; simp
  rw [this]; exact .int _ _

theorem max_out (h : HRel G X ι st w) {ts : Array TypeId} {ty : TypeId} {a b : V} {a' b' : Value} (ha : VRel ι a a') (hb : VRel ι b b') (hr : opMax (some a) (some b) st = some (v, st')) :
    SOut P G X ι st w (Builtin.max_ ts ty #[a', b']) v st' := by
  obtain ⟨_, e, hr⟩ := ob_some.1 hr
  cases e
  obtain ⟨_, e, hr⟩ := ob_some.1 hr
  cases e
  obtain ⟨p, h1, hr⟩ := ob_some.1 hr
  obtain ⟨q, h2, hr⟩ := ob_some.1 hr
  cases hr
  rw [asInt_inv h1] at ha
  rw [asInt_inv h2] at hb
  cases ha; cases hb
  refine .same h (v' := .int p.1 (if p.2 < q.2 then q.2 else p.2)) (by simp [Builtin.max_, Builtin.max2]; try (split <;> split <;> first | rfl | omega)) ?_
  have : sel (intLt p.2 q.2) q.2 p.2 = if p.2 < q.2 then q.2 else p.2 := by rw [sel_eq, intLt_eq]; simp
  rw [this]; exact .int _ _

/-- what comes of one operation -/
def Ran (P : Program) (X : Nat → Prop) (ι : Inj) (st : St) (w : World) (o : Oper) (a : Act) (v : V) (st' : St) : Prop :=
  ∃ ι' v' w', ((execOp a.eval o).run P w = .ok (.value v') w' ∨ ((execOp a.eval o).run P w = .ok .skip w' ∧ v' = undef)) ∧ VRel ι' v v' ∧ HRel P X ι' st' w' ∧ Stp ι st w ι' st' w'

theorem ran_v {o : Oper} {a : Act} {s : Sem Value} (hs : SOut P P X ι st w s v st') (he : execOp a.eval o = s >>= fun x => pure (.value x)) : Ran P X ι st w o a v st' := by
  obtain ⟨ι', v', w', h1, h2, h3, h4⟩ := hs
  exact ⟨ι', v', w', .inl (by rw [he, Sem.run_bind, h1]; rfl), h2, h3, h4⟩

theorem ran_u {o : Oper} {a : Act} {s : Sem Unit} (hs : v = undefV ∧ UOut P P X ι st w s st') (he : execOp a.eval o = s >>= fun _ => pure .skip) : Ran P X ι st w o a v st' := by
  obtain ⟨hv, ι', w', h1, h3, h4⟩ := hs
  subst hv
  exact ⟨ι', undef, w', .inr ⟨by rw [he, Sem.run_bind, h1]; rfl, rfl⟩, .tup _ _ .nil, h3, h4⟩

theorem ran_pure {o : Oper} {a : Act} {u : Value} (h : HRel P X ι st w) (hu : VRel ι v u) (he : execOp a.eval o = pure (.value u)) : Ran P X ι st w o a v st :=
  ⟨ι, u, w, .inl (by rw [he]; rfl), hu, h, .refl _ _ _⟩

theorem some_of_ob {α β : Type} {x : Option α} {k : α → Option β} {r : β} (h : ob x k = some r) : ∃ a, x = some a := by
  obtain ⟨a, h1, _⟩ := ob_some.1 h
  exact ⟨a, h1⟩

def Op.isCallF : Op → Bool
  | .call c => match c.callee with
    | .builtin _ => false
    | _ => true
  | _ => false

theorem cOpds_one {args : List Operand} {y : Opd} (h : cOpds P args = some [y]) : ∃ x, args = [x] ∧ cOpd P x = some y := by
  cases args with
  | nil => simp [cOpds] at h
  | cons x r =>
    simp only [cOpds] at h
    split at h <;> first | (simp at h; done) | skip
    rename_i a l h1 h2
    simp only [Option.some.injEq, List.cons.injEq] at h
    obtain ⟨rfl, rfl⟩ := h
    cases r with
    | nil => exact ⟨x, rfl, h1⟩
    | cons x2 r =>
      simp only [cOpds] at h2
      split at h2 <;> simp at h2

theorem cOpds_two {args : List Operand} {y z : Opd} (h : cOpds P args = some [y, z]) : ∃ x x2, args = [x, x2] ∧ cOpd P x = some y ∧ cOpd P x2 = some z := by
  cases args with
  | nil => simp [cOpds] at h
  | cons x r =>
    simp only [cOpds] at h
    split at h <;> first | (simp at h; done) | skip
    rename_i a l h1 h2
    simp only [Option.some.injEq, List.cons.injEq] at h
    obtain ⟨rfl, rfl⟩ := h
    obtain ⟨x2, rfl, h3⟩ := cOpds_one h2
    exact ⟨x, x2, rfl, h1, h3⟩

theorem builtin_out (h : HRel P X ι st w) (hX : ∀ b, X b → st'.next ≤ b) {a : Act} {T : Tm} (ht : TRel ι T a.tmps) {b : Builtin} {ts : List TypeId} {args : List Operand} {l : List Opd} {c : COp} (call : CallF)
    (hl : cOpds P args = some l) (hc : cBuiltin P b ts l = some c) (hr : opV call T c st = some (v, st')) {ty : TypeId} {cs : Array Bool} :
    ∃ s : Sem Value, builtin b ts.toArray ty cs (args.map a.eval).toArray = (do pure (.value (← s))) ∧ SOut P P X ι st w s v st' := by
  have hg := h.glob
  unfold cBuiltin at hc
  split at hc <;> first | (simp at hc; done) | skip
  · rename_i t y
    obtain ⟨x, rfl, hx⟩ := cOpds_one hl
    split at hc <;> first | (simp at hc; done) | skip
    · rename_i hu
      cases hc
      have hr : opLen .s (ev T y) st = some (v, st') := hr
      obtain ⟨u, h1⟩ := some_of_ob hr
      rw [h1] at hr
      exact ⟨_, rfl, len_out h hu (.inl ⟨rfl, rfl⟩) (cOpd_rel hg ht hx h1) hr⟩
    · rename_i e hu
      cases hc
      have hr : opLen .l (ev T y) st = some (v, st') := hr
      obtain ⟨u, h1⟩ := some_of_ob hr
      rw [h1] at hr
      exact ⟨_, rfl, len_out h hu (.inr (.inl ⟨rfl, e, rfl⟩)) (cOpd_rel hg ht hx h1) hr⟩
    · rename_i p q hu
      cases hc
      have hr : opLen .m (ev T y) st = some (v, st') := hr
      obtain ⟨u, h1⟩ := some_of_ob hr
      rw [h1] at hr
      exact ⟨_, rfl, len_out h hu (.inr (.inr ⟨rfl, p, q, rfl⟩)) (cOpd_rel hg ht hx h1) hr⟩
    · rename_i n e hu
      cases hc
      have hr : some (V.int .i64 (.ofNat n), st) = some (v, st') := hr
      cases hr
      exact ⟨_, rfl, .same h (v' := .int .i64 n) (by simp [Builtin.len_, run_underlying hu, goInt]) (.int _ _)⟩
  · rename_i t y
    obtain ⟨x, rfl, hx⟩ := cOpds_one hl
    split at hc <;> first | (simp at hc; done) | skip
    rename_i e hu
    cases hc
    have hr : opCap (ev T y) st = some (v, st') := hr
    obtain ⟨u, h1⟩ := some_of_ob hr
    rw [h1] at hr
    exact ⟨_, rfl, cap_out h hu (cOpd_rel hg ht hx h1) hr⟩
  · rename_i y z
    obtain ⟨x, x2, rfl, hx, hx2⟩ := cOpds_two hl
    cases hc
    have hr : opMin (ev T y) (ev T z) st = some (v, st') := hr
    obtain ⟨u, h1⟩ := some_of_ob hr
    rw [h1] at hr
    obtain ⟨_, e, hr2⟩ := ob_some.1 hr
    cases e
    obtain ⟨u2, h2⟩ := some_of_ob hr2
    rw [h2] at hr
    exact ⟨_, rfl, min_out h (cOpd_rel hg ht hx h1) (cOpd_rel hg ht hx2 h2) hr⟩
  · rename_i y z
    obtain ⟨x, x2, rfl, hx, hx2⟩ := cOpds_two hl
    cases hc
    have hr : opMax (ev T y) (ev T z) st = some (v, st') := hr
    obtain ⟨u, h1⟩ := some_of_ob hr
    rw [h1] at hr
    obtain ⟨_, e, hr2⟩ := ob_some.1 hr
    cases e
    obtain ⟨u2, h2⟩ := some_of_ob hr2
    rw [h2] at hr
    exact ⟨_, rfl, max_out h (cOpd_rel hg ht hx h1) (cOpd_rel hg ht hx2 h2) hr⟩
  · rename_i t u0 y z
    obtain ⟨x, x2, rfl, hx, hx2⟩ := cOpds_two hl
    split at hc <;> first | (simp at hc; done) | skip
    rename_i e hu
    have happ : ∀ (s bs : Nat) (zc : List V) (ud : TypeDesc), size? P e = some s → bytes? P e = some bs → P.underlying u0 = some ud → (∀ k, ud ≠ .int k) → zeroC? P e = some zc → zc.length = s → opApp s bs (ev T y) (ev T z) st = some (v, st') →
        ∃ s : Sem Value, builtin .append [t, u0].toArray ty cs ([x, x2].map a.eval).toArray = (do pure (.value (← s))) ∧ SOut P P X ι st w s v st' := by
      intro s bs zc ud hs hb hud hni hz hzl hr
      obtain ⟨u, h1⟩ := some_of_ob hr
      rw [h1] at hr
      obtain ⟨_, e1, hr2⟩ := ob_some.1 hr
      cases e1
      obtain ⟨u2, h2⟩ := some_of_ob hr2
      rw [h2] at hr
      exact ⟨_, rfl, app_out h hX hu hs hb hz hzl hud hni (cOpd_rel hg ht hx h1) (cOpd_rel hg ht hx2 h2) hr⟩
    split at hc <;> first | (simp at hc; done) | skip
    · rename_i s bs k hs hb hud
      split at hc <;> first | (simp at hc; done) | skip
      rename_i zc hz
      cases hzl : zc.length.beq s with
      | false => simp [hzl] at hc
      | true =>
        simp only [hzl, cond_true, Option.some.injEq] at hc; subst hc
        have hr : opAppz zc s bs (ev T y) (ev T z) st = some (v, st') := hr
        obtain ⟨u, h1⟩ := some_of_ob hr
        rw [h1] at hr
        obtain ⟨_, e1, hr2⟩ := ob_some.1 hr
        cases e1
        obtain ⟨u2, h2⟩ := some_of_ob hr2
        rw [h2] at hr
        exact ⟨_, rfl, appz_out h hX hu hs hb hz (Nat.eq_of_beq_eq_true hzl) hud (cOpd_rel hg ht hx h1) (cOpd_rel hg ht hx2 h2) hr⟩
    · rename_i s bs k hs hb hud
      split at hc <;> first | (simp at hc; done) | skip
      rename_i zc hz
      cases hzl : zc.length.beq s with
      | false => simp [hzl] at hc
      | true =>
        simp only [hzl, cond_true, Option.some.injEq] at hc; subst hc
        exact happ s bs zc _ hs hb hud (fun k h => by cases h) hz (Nat.eq_of_beq_eq_true hzl) hr
    · rename_i s bs hs hb hud
      split at hc <;> first | (simp at hc; done) | skip
      rename_i zc hz
      cases hzl : zc.length.beq s with
      | false => simp [hzl] at hc
      | true =>
        simp only [hzl, cond_true, Option.some.injEq] at hc; subst hc
        exact happ s bs zc _ hs hb hud (fun k h => by cases h) hz (Nat.eq_of_beq_eq_true hzl) hr
  · rename_i t u0 y z
    obtain ⟨x, x2, rfl, hx, hx2⟩ := cOpds_two hl
    split at hc <;> first | (simp at hc; done) | skip
    rename_i e e2 hu hu2
    split at hc <;> first | (simp at hc; done) | skip
    rename_i s hs
    cases hc
    have hr : opCpy s (ev T y) (ev T z) st = some (v, st') := hr
    obtain ⟨u, h1⟩ := some_of_ob hr
    rw [h1] at hr
    obtain ⟨_, e1, hr2⟩ := ob_some.1 hr
    cases e1
    obtain ⟨u2, h2⟩ := some_of_ob hr2
    rw [h2] at hr
    exact ⟨_, rfl, cpy_out h hu hs (cOpd_rel hg ht hx h1) (cOpd_rel hg ht hx2 h2) hr⟩
  · rename_i t y
    obtain ⟨x, rfl, hx⟩ := cOpds_one hl
    split at hc <;> first | (simp at hc; done) | skip
    rename_i e hu
    split at hc <;> first | (simp at hc; done) | skip
    rename_i s zc hs hz
    cases hzl : zc.length.beq s with
    | false => simp [hzl] at hc
    | true =>
      simp only [hzl, cond_true, Option.some.injEq] at hc; subst hc
      have hr : opClr zc s (ev T y) st = some (v, st') := hr
      obtain ⟨u, h1⟩ := some_of_ob hr
      rw [h1] at hr
      exact ⟨_, rfl, clr_out h hu hz (Nat.eq_of_beq_eq_true hzl) (cOpd_rel hg ht hx h1) hr⟩
  · rename_i t u0 y z
    obtain ⟨x, x2, rfl, hx, hx2⟩ := cOpds_two hl
    split at hc <;> first | (simp at hc; done) | skip
    rename_i k e hu
    split at hc <;> first | (simp at hc; done) | skip
    rename_i q hq
    cases hp : isPlainK q with
    | false => simp [hp] at hc
    | true =>
      simp only [hp, cond_true, Option.some.injEq] at hc; subst hc
      have hr : opDel q (ev T y) (ev T z) st = some (v, st') := hr
      obtain ⟨u, h1⟩ := some_of_ob hr
      rw [h1] at hr
      obtain ⟨_, e1, hr2⟩ := ob_some.1 hr
      cases e1
      obtain ⟨u2, h2⟩ := some_of_ob hr2
      rw [h2] at hr
      exact ⟨_, rfl, del_out h hu hq hp (cOpd_rel hg ht hx h1) (cOpd_rel hg ht hx2 h2) hr⟩

theorem eqGuard_bin (op : BinOp) (t : TypeId) (p p' : Operand) {x y : V} {x' y' : Value} (h : binV op x y = some v) (hx : VRel ι x x') (hy : VRel ι y y') (w : World) : (eqGuard op t p p' x' y').run P w = .ok () w := by
  cases x <;> cases y <;> first
    | (cases h; done)
    | (cases hx; cases hy; cases op <;> rfl)

/-- an interface against the literal nil -/
theorem isn_run {neg : Bool} {u : V} {u' : Value} {t : TypeId} (hu : ∃ ms, P.underlying t = some (.interface ms)) (hx : VRel ι u u') (hr : opIsn neg (some u) st = some (v, st')) (p : Operand) (w : World) :
    st' = st ∧ ∃ b, v = .bool b ∧ (do eqGuard (bif neg then .neq else .eql) t p (.const .nilIface) u' .nilIface; binOp (bif neg then .neq else .eql) t u' .nilIface).run P w = .ok (.bool b) w ∧
      (do eqGuard (bif neg then .neq else .eql) t (.const .nilIface) p .nilIface u'; binOp (bif neg then .neq else .eql) t .nilIface u').run P w = .ok (.bool b) w := by
  obtain ⟨_, e, hr⟩ := ob_some.1 hr
  cases e
  obtain ⟨ms, hu⟩ := hu
  cases hx with
  | inil =>
    cases hr
    have e0 : (Op.equalIn Op.maxDepth t .nilIface .nilIface).run P w = .ok true w :=
      (show ∀ d, (Op.equalIn (d + 1) t .nilIface .nilIface).run P w = .ok true w from fun d => by simp [Op.equalIn, run_underlying hu]) 9999
    refine ⟨rfl, _, rfl, ?_, ?_⟩ <;> cases neg <;> simp [eqGuard, binOp, Op.equal, e0]
  | iface t2 x x' hx =>
    cases hr
    have e0 : (Op.equalIn Op.maxDepth t (.iface t2 x') .nilIface).run P w = .ok false w :=
      (show ∀ d, (Op.equalIn (d + 1) t (.iface t2 x') .nilIface).run P w = .ok false w from fun d => by simp [Op.equalIn, run_underlying hu]) 9999
    have e1 : (Op.equalIn Op.maxDepth t .nilIface (.iface t2 x')).run P w = .ok false w :=
      (show ∀ d, (Op.equalIn (d + 1) t .nilIface (.iface t2 x')).run P w = .ok false w from fun d => by simp [Op.equalIn, run_underlying hu]) 9999
    refine ⟨rfl, _, rfl, ?_, ?_⟩ <;> cases neg <;> simp [eqGuard, binOp, Op.equal, e0, e1]
  | _ => cases hr

theorem eqK_n {t : TypeId} (h : eqK? P t = some (.nilp .i)) : ∃ ms, P.underlying t = some (.interface ms) := by
  unfold eqK? at h
  cases hu : P.underlying t with
  | none => simp [hu] at h
  | some td =>
    rw [hu] at h
    cases td <;> first
      | exact ⟨_, rfl⟩
      | (simp at h; done)
      | (simp [whn] at h; done)
      | (exfalso; revert h; simp only [whn_some]; intro ⟨_, h⟩; revert h; split <;> simp [whn_some])
      | (exfalso; revert h; split <;> simp [whn_some])

theorem binEq_run {q : EqK} {x y : V} {x' y' : Value} {r : Bool} (h : eqV q x y = some r) (hx : VRel ι x x') (hy : VRel ι y y') {t : TypeId} (hq : eqK? P t = some q) (w : World)
    (hni : ∀ k n, x ≠ .int k n) (hns : ∀ n s, x ≠ .str n s) : (binOp .eql t x' y').run P w = .ok (.bool r) w ∧ (binOp .neq t x' y').run P w = .ok (.bool (!r)) w := by
  have he : (Op.equal t x' y').run P w = .ok r w := eqV_run h hx hy 9998 t hq w
  cases x <;> first
    | (exact absurd rfl (hni _ _))
    | (exact absurd rfl (hns _ _))
    | (cases hx <;> cases y <;> first
        | (cases q <;> (try rename_i kk; try cases kk) <;> (first | (cases h; done) | skip); done)
        | (cases hy <;> refine ⟨?_, ?_⟩ <;> simp [binOp, he]; done)
        | (cases hy; refine ⟨?_, ?_⟩ <;> simp [binOp, he]; done))

theorem eqV_int {q : EqK} {k : IntKind} {n : Int} {y : V} {r : Bool} (h : eqV q (.int k n) y = some r) : q = .one .i := by
  cases q with
  | one k3 => cases k3 <;> cases y <;> first | rfl | (cases h; done)
  | nilp k3 => cases k3 <;> cases y <;> cases h
  | struct ks => cases y <;> cases h

theorem eqV_str {q : EqK} {n : Nat} {s : List Nat} {y : V} {r : Bool} (h : eqV q (.str n s) y = some r) : q = .one .s := by
  cases q with
  | one k3 => cases k3 <;> cases y <;> first | rfl | (cases h; done)
  | nilp k3 => cases k3 <;> cases y <;> cases h
  | struct ks => cases y <;> cases h

theorem eqK_i {t : TypeId} (h : eqK? P t = some (.one .i)) : ∃ k, P.underlying t = some (.int k) := by
  unfold eqK? at h
  cases hu : P.underlying t with
  | none => simp [hu] at h
  | some td =>
    rw [hu] at h
    cases td <;> first
      | (simp at h; done)
      | (exact ⟨_, rfl⟩)
      | (simp only [whn_some] at h; obtain ⟨_, _, h⟩ := h; revert h; split <;> simp [whn_some])

theorem eqK_s {t : TypeId} (h : eqK? P t = some (.one .s)) : P.underlying t = some .string := by
  unfold eqK? at h
  cases hu : P.underlying t with
  | none => simp [hu] at h
  | some td =>
    rw [hu] at h
    cases td <;> first
      | (simp at h; done)
      | rfl
      | (simp only [whn_some] at h; obtain ⟨_, _, h⟩ := h; revert h; split <;> simp [whn_some])

theorem op_out (h : HRel P X ι st w) (hX : ∀ b, X b → st'.next ≤ b) {a : Act} {T : Tm} (ht : TRel ι T a.tmps) {o : Oper} {c : COp} (call : CallF) (hc : cOp P o.op = some c) (hnc : Op.isCallF o.op = false)
    (hr : opV call T c st = some (v, st')) : Ran P X ι st w o a v st' := by
  have hg := h.glob
  obtain ⟨dst, op, type, pos, after, guard⟩ := o
  simp only at hc hnc
  cases op <;> simp only [cOp, reduceCtorEq] at hc
  case move x =>
    cases hx : cOpd P x with
    | none => simp [hx] at hc
    | some y =>
      simp only [hx, Option.some.injEq] at hc; subst hc
      obtain ⟨h1, h2⟩ := pur_some hr
      subst h2
      exact ran_pure h (cOpd_rel hg ht hx h1) rfl
  case assign x =>
    cases hx : cOpd P x with
    | none => simp [hx] at hc
    | some y =>
      simp only [hx, Option.some.injEq] at hc; subst hc
      obtain ⟨h1, h2⟩ := pur_some hr
      subst h2
      exact ran_pure h (cOpd_rel hg ht hx h1) rfl
  case pick x y z =>
    cases hx : cOpd P x with
    | none => simp [hx] at hc
    | some x' => cases hy : cOpd P y with
      | none => simp [hx, hy] at hc
      | some y' => cases hz : cOpd P z with
        | none => simp [hx, hy, hz] at hc
        | some z' =>
          simp only [hx, hy, hz, Option.some.injEq] at hc; subst hc
          obtain ⟨u, h1, hr⟩ := ob_some.1 (show ob (ev T x') (fun c => ob (asBool c) fun c => sel c (pur (ev T y') st) (pur (ev T z') st)) = some (v, st') from hr)
          obtain ⟨b, h2, hr⟩ := ob_some.1 hr
          have hx1 := cOpd_rel hg ht hx h1
          rw [asBool_inv h2] at hx1
          have hb : a.eval x = .bool b := by
            generalize a.eval x = q at hx1
            cases hx1; rfl
          rw [sel_eq] at hr
          cases b with
          | true =>
            obtain ⟨h3, h4⟩ := pur_some hr
            subst h4
            exact ran_pure h (cOpd_rel hg ht hy h3) (by simp [execOp, hb, Go.asBool])
          | false =>
            obtain ⟨h3, h4⟩ := pur_some hr
            subst h4
            exact ran_pure h (cOpd_rel hg ht hz h3) (by simp [execOp, hb, Go.asBool])
  case alloc t =>
    cases hz : zeroC? P t with
    | none => simp [hz] at hc
    | some z =>
      simp only [hz, Option.some.injEq] at hc; subst hc
      have hX1 : ¬ X st.next := fun hx => by
        have hr' : some (V.ptr st.next 0, st.alloc (.cells (rowOf z) (lenL z) (lenL z))) = some (v, st') := hr
        cases hr'
        have h9 : st.next + 1 ≤ st.next := hX _ hx
        omega
      exact ran_v (newv_out h hX1 hz hr) rfl
  case box t x =>
    split at hc <;> first | (simp at hc; done) | skip
    rename_i y hx
    cases hc
    obtain ⟨u, h1⟩ := some_of_ob hr
    have hr : opBox (ev T y) st = some (v, st') := hr
    rw [h1] at hr
    have hX1 : ¬ X st.next := fun hx => by
      obtain ⟨_, _, hr⟩ := ob_some.1 hr
      obtain ⟨z, _, hr⟩ := ob_some.1 hr
      have hr' : some (V.ptr st.next 0, st.alloc (.cells (rowOf z) (lenL z) (lenL z))) = some (v, st') := hr
      cases hr'
      have h9 : st.next + 1 ≤ st.next := hX _ hx
      omega
    exact ran_v (box_out h hX1 (cOpd_rel hg ht hx h1) hr) rfl
  case build t ps =>
    split at hc <;> first | (simp at hc; done) | skip
    · rename_i fs hu
      split at hc <;> first | (simp at hc; done) | skip
      rename_i z l hz hl
      cases ha : allSz P fs.toList with
      | false => simp [ha] at hc
      | true =>
        simp only [ha, cond_true, Option.some.injEq] at hc; subst hc
        exact ran_v (bld_struct h hg ht hu hz hl ha hr) rfl
    · rename_i n e hu
      split at hc <;> first | (simp at hc; done) | skip
      rename_i s hs
      split at hc <;> first | (simp at hc; done) | skip
      rename_i z l hz hl
      cases hc
      exact ran_v (bld_array h hg ht hu hs hz hl hr) rfl
  case buildSlice t n ps =>
    split at hc <;> first | (simp at hc; done) | skip
    rename_i e hu
    split at hc <;> first | (simp at hc; done) | skip
    rename_i s z hs hz
    split at hc <;> first | (simp at hc; done) | skip
    rename_i l hl
    cases hb : (z.length.beq s && (n * s).ble 16777216) with
    | false => simp [hb] at hc
    | true =>
      simp only [hb, cond_true, Option.some.injEq] at hc; subst hc
      rw [Bool.and_eq_true] at hb
      exact ran_v (bsl_out h hX hg ht hu hs hz (Nat.eq_of_beq_eq_true hb.1) (Nat.le_of_ble_eq_true hb.2) hl hr) rfl
  case load t x =>
    split at hc <;> first | (simp at hc; done) | skip
    rename_i d y hu hx
    cases hd : isAggD d with
    | false =>
      simp only [hd, cond_false, Option.some.injEq] at hc; subst hc
      obtain ⟨u, h1⟩ := some_of_ob hr
      have hr : opLd (ev T y) st = some (v, st') := hr
      rw [h1] at hr
      exact ran_v (ld_out h (cOpd_rel hg ht hx h1) hu hd hr) rfl
    | true =>
      simp only [hd, cond_true] at hc
      split at hc <;> first | (simp at hc; done) | skip
      rename_i n hs
      cases hc
      obtain ⟨u, h1⟩ := some_of_ob hr
      have hr : opLda n (ev T y) st = some (v, st') := hr
      rw [h1] at hr
      exact ran_v (lda_out h (cOpd_rel hg ht hx h1) hu hd hs hr) rfl
  case store t x y =>
    split at hc <;> first | (simp at hc; done) | skip
    rename_i n x' y' hs hx hy
    cases hc
    have hr : opSto n (ev T x') (ev T y') st = some (v, st') := hr
    obtain ⟨u, h1⟩ := some_of_ob hr
    rw [h1] at hr
    obtain ⟨_, e, hr2⟩ := ob_some.1 hr
    cases e
    obtain ⟨u2, h2⟩ := some_of_ob hr2
    rw [h2] at hr
    exact ran_u (sto_out h (cOpd_rel hg ht hx h1) (cOpd_rel hg ht hy h2) hs hr) rfl
  case nilCheck x =>
    split at hc <;> first | (simp at hc; done) | skip
    rename_i y hx
    cases hc
    have hr : opNchk (ev T y) st = some (v, st') := hr
    obtain ⟨u, h1⟩ := some_of_ob hr
    rw [h1] at hr
    have hv := cOpd_rel hg ht hx h1
    obtain ⟨_, e, hr⟩ := ob_some.1 hr
    cases e
    generalize hq : a.eval x = q at hv
    cases hv with
    | ptr b o l hl => cases hr; exact ran_pure h (.ptr b o l hl) (by simp [execOp, hq])
    | fn f cap c hcc => cases hr; exact ran_pure h (.fn f cap c hcc) (by simp [execOp, hq])
    | _ => cases hr
  case binOp op t x y yt =>
    split at hc <;> first | (simp at hc; done) | skip
    · rename_i x' y' k hx hy hu
      cases hc
      have hr : opBin op (ev T x') (ev T y') st = some (v, st') := hr
      obtain ⟨u, h1, hr⟩ := ob_some.1 hr
      obtain ⟨u2, h2, hr⟩ := ob_some.1 hr
      obtain ⟨h3, h4⟩ := pur_some hr
      subst h4
      have g1 := cOpd_rel hg ht hx h1
      have g2 := cOpd_rel hg ht hy h2
      obtain ⟨v', g3, g4⟩ := binV_run (P := P) op t h3 g1 g2 w
      have hgd := eqGuard_bin (P := P) op t x y h3 g1 g2 w
      exact ran_v (s := do eqGuard op t x y (a.eval x) (a.eval y); binOp op t (a.eval x) (a.eval y)) (.same h (by rw [Sem.run_bind, hgd]; exact g3) g4) rfl
    · rename_i x' y' hx hy hu
      cases hc
      have hr : opBin op (ev T x') (ev T y') st = some (v, st') := hr
      obtain ⟨u, h1, hr⟩ := ob_some.1 hr
      obtain ⟨u2, h2, hr⟩ := ob_some.1 hr
      obtain ⟨h3, h4⟩ := pur_some hr
      subst h4
      have g1 := cOpd_rel hg ht hx h1
      have g2 := cOpd_rel hg ht hy h2
      obtain ⟨v', g3, g4⟩ := binV_run (P := P) op t h3 g1 g2 w
      have hgd := eqGuard_bin (P := P) op t x y h3 g1 g2 w
      exact ran_v (s := do eqGuard op t x y (a.eval x) (a.eval y); binOp op t (a.eval x) (a.eval y)) (.same h (by rw [Sem.run_bind, hgd]; exact g3) g4) rfl
    · rename_i x' y' d hni hns hx hy hu
      have key : ∀ (neg : Bool) (q : EqK) (op2 : BinOp), eqK? P t = some q → opEq neg q (ev T x') (ev T y') st = some (v, st') → (op2 = .eql ∧ neg = false ∨ op2 = .neq ∧ neg = true) → op2 = op →
          Ran P X ι st w ⟨dst, .binOp op t x y yt, type, pos, after, guard⟩ a v st' := by
        intro neg q op2 hq hr hop he
        subst he
        obtain ⟨u, h1, hr⟩ := ob_some.1 hr
        obtain ⟨u2, h2, hr⟩ := ob_some.1 hr
        obtain ⟨r, h3, hr⟩ := ob_some.1 hr
        cases hr
        have g1 := cOpd_rel hg ht hx h1
        have g2 := cOpd_rel hg ht hy h2
        obtain ⟨e1, e2⟩ := binEq_run (P := P) h3 g1 g2 hq w (fun k n e => by
          subst e
          have := eqV_int h3
          subst this
          obtain ⟨k2, e3⟩ := eqK_i hq
          rw [hu] at e3; cases e3; exact hni _ rfl) (fun n s e => by
          subst e
          have := eqV_str h3
          subst this
          have e3 := eqK_s hq
          rw [hu] at e3; cases e3; exact hns rfl)
        have hgd := eqGuard_run (P := P) op2 t x y h3 g1 g2 hq w
        rcases hop with ⟨rfl, rfl⟩ | ⟨rfl, rfl⟩
        · exact ran_v (s := do eqGuard .eql t x y (a.eval x) (a.eval y); binOp .eql t (a.eval x) (a.eval y)) (.same h (by rw [Sem.run_bind, hgd]; exact e1) (.bool _)) rfl
        · exact ran_v (s := do eqGuard .neq t x y (a.eval x) (a.eval y); binOp .neq t (a.eval x) (a.eval y)) (.same h (by rw [Sem.run_bind, hgd]; exact e2) (.bool _)) rfl
      have key2 : ∀ (neg : Bool) (q : EqK), eqK? P t = some q → opV call T (eqOp P neg q x y x' y') st = some (v, st') → (bif neg then BinOp.neq else BinOp.eql) = op →
          Ran P X ι st w ⟨dst, .binOp op t x y yt, type, pos, after, guard⟩ a v st' := by
        intro neg q hq hr he
        unfold eqOp at hr
        split at hr
        · have hr : opIsn neg (ev T x') st = some (v, st') := hr
          obtain ⟨u, h1⟩ := some_of_ob hr
          rw [h1] at hr
          obtain ⟨rfl, b, rfl, r1, _⟩ := isn_run (P := P) (eqK_n hq) (cOpd_rel hg ht hx h1) hr x w
          subst he
          exact ran_v (s := do eqGuard (bif neg then .neq else .eql) t x (.const .nilIface) (a.eval x) .nilIface; binOp (bif neg then .neq else .eql) t (a.eval x) .nilIface) (.same h r1 (.bool _)) rfl
        · have hr : opIsn neg (ev T y') st = some (v, st') := hr
          obtain ⟨u, h1⟩ := some_of_ob hr
          rw [h1] at hr
          obtain ⟨rfl, b, rfl, _, r1⟩ := isn_run (P := P) (eqK_n hq) (cOpd_rel hg ht hy h1) hr y w
          subst he
          exact ran_v (s := do eqGuard (bif neg then .neq else .eql) t (.const .nilIface) y .nilIface (a.eval y); binOp (bif neg then .neq else .eql) t .nilIface (a.eval y)) (.same h r1 (.bool _)) rfl
        · have hr : opEqi neg (ifTys P) (ev T x') (ev T y') st = some (v, st') := hr
          obtain ⟨u, h1, hr⟩ := ob_some.1 hr
          obtain ⟨u2, h2, hr⟩ := ob_some.1 hr
          obtain ⟨r, h3, hr⟩ := ob_some.1 hr
          cases hr
          have g1 := cOpd_rel hg ht hx h1
          have g2 := cOpd_rel hg ht hy h2
          obtain ⟨ms, hms⟩ := eqK_n hq
          have e0 : (Op.equal t (a.eval x) (a.eval y)).run P w = .ok r w := eqT_run (P := P) h3 g1 g2 hms 9998 w
          have hgd := eqT_guard (P := P) op t x y h3 g1 g2 w
          have hb : (binOp (bif neg then .neq else .eql) t (a.eval x) (a.eval y)).run P w = .ok (.bool (sel neg (!r) r)) w := by
            revert e0
            generalize a.eval x = x2 at g1
            generalize a.eval y = y2 at g2
            intro e0
            unfold eqT at h3
            split at h3
            · cases g1; cases g2; cases neg <;> simp [binOp, e0, sel_eq]
            · cases g1; cases g2; cases neg <;> simp [binOp, e0, sel_eq]
            · cases g1; cases g2; cases neg <;> simp [binOp, e0, sel_eq]
            · cases h3
          subst he
          exact ran_v (s := do eqGuard (bif neg then .neq else .eql) t x y (a.eval x) (a.eval y); binOp (bif neg then .neq else .eql) t (a.eval x) (a.eval y)) (.same h (by rw [Sem.run_bind, hgd]; exact hb) (.bool _)) rfl
        · cases neg with
          | false => exact key false q .eql hq hr (.inl ⟨rfl, rfl⟩) he
          | true => exact key true q .neq hq hr (.inr ⟨rfl, rfl⟩) he
      split at hc <;> first | (simp at hc; done) | skip
      · rename_i q hq
        cases hc
        exact key2 false q hq hr rfl
      · rename_i q hq
        cases hc
        exact key2 true q hq hr rfl
  case unOp op t x =>
    cases op <;> simp only [reduceCtorEq] at hc
    · split at hc <;> first | (simp at hc; done) | skip
      rename_i y hx
      cases hc
      have hr : opNeg (ev T y) st = some (v, st') := hr
      obtain ⟨u, h1⟩ := some_of_ob hr
      rw [h1] at hr
      exact ran_v (neg_out h (cOpd_rel hg ht hx h1) hr) rfl
    · split at hc <;> first | (simp at hc; done) | skip
      rename_i y hx
      cases hc
      have hr : opNot (ev T y) st = some (v, st') := hr
      obtain ⟨u, h1⟩ := some_of_ob hr
      rw [h1] at hr
      exact ran_v (not_out h (cOpd_rel hg ht hx h1) hr) rfl
  case convert s d x =>
    split at hc <;> first | (simp at hc; done) | skip
    · rename_i k0 k y hs hd hx
      cases hc
      have hr : opCvi k (ev T y) st = some (v, st') := hr
      obtain ⟨u, h1⟩ := some_of_ob hr
      rw [h1] at hr
      exact ran_v (cvi_out h hs hd (cOpd_rel hg ht hx h1) hr) rfl
    · rename_i y hs hd hx
      cases hc
      have hr : opCvss (ev T y) st = some (v, st') := hr
      obtain ⟨u, h1⟩ := some_of_ob hr
      rw [h1] at hr
      exact ran_v (cvss_out h hs hd (cOpd_rel hg ht hx h1) hr) rfl
    · rename_i e y hs hd hx
      split at hc <;> first | (simp at hc; done) | skip
      rename_i he
      cases hc
      have hr : opCvsb (ev T y) st = some (v, st') := hr
      obtain ⟨u, h1⟩ := some_of_ob hr
      rw [h1] at hr
      exact ran_v (cvsb_out h hX hs hd he (cOpd_rel hg ht hx h1) hr) rfl
    · rename_i e y hs hd hx
      split at hc <;> first | (simp at hc; done) | skip
      rename_i he
      cases hc
      have hr : opCvbs (ev T y) st = some (v, st') := hr
      obtain ⟨u, h1⟩ := some_of_ob hr
      rw [h1] at hr
      exact ran_v (cvbs_out h hs hd he (cOpd_rel hg ht hx h1) hr) rfl
    · rename_i e0 e y hs hd hx
      cases hsd : Nat.beq s d with
      | false => simp [hsd] at hc
      | true =>
        have hsd := Nat.eq_of_beq_eq_true hsd
        subst hsd
        simp only [Nat.beq_refl, cond_true] at hc
        split at hc <;> first | (simp at hc; done) | skip
        rename_i he
        cases hc
        have hr : opCvbb (ev T y) st = some (v, st') := hr
        obtain ⟨u, h1⟩ := some_of_ob hr
        rw [h1] at hr
        exact ran_v (cvbb_out h hs hd he (cOpd_rel hg ht hx h1) hr) rfl
  case makeFunc fn first cap =>
    cases fn <;> simp only [reduceCtorEq] at hc
    rename_i f
    split at hc <;> first | (simp at hc; done) | skip
    rename_i l hf hl
    cases hc
    have hr : opMkf f (evs T l) st = some (v, st') := hr
    obtain ⟨u, h1, hr⟩ := ob_some.1 hr
    cases hr
    have g1 := cOpds_rel hg ht hl h1
    have hfe : first = #[] := Array.ext' hf
    refine ran_pure h (.fn f u (cap.map a.eval) (by simpa using g1)) ?_
    subst hfe
    simp [execOp, Instr.makeFunc]
  case makeMap t r =>
    cases r <;> simp only [reduceCtorEq, Option.some.injEq] at hc
    subst hc
    exact ran_v (mkm_out h hX hr) rfl
  case makeSlice t x y =>
    split at hc <;> first | (simp at hc; done) | skip
    rename_i e hu
    split at hc <;> first | (simp at hc; done) | skip
    rename_i s bs z hs hb hz
    split at hc <;> first | (simp at hc; done) | skip
    rename_i x' y' hx hy
    cases hzl : z.length.beq s with
    | false => simp [hzl] at hc
    | true =>
      simp only [hzl, cond_true, Option.some.injEq] at hc; subst hc
      have hr : opMks z s bs (ev T x') (ev T y') st = some (v, st') := hr
      obtain ⟨u, h1⟩ := some_of_ob hr
      rw [h1] at hr
      obtain ⟨_, e, hr2⟩ := ob_some.1 hr
      cases e
      obtain ⟨u2, h2⟩ := some_of_ob hr2
      rw [h2] at hr
      exact ran_v (mks_out h hX hu hs hb hz (Nat.eq_of_beq_eq_true hzl) (cOpd_rel hg ht hx h1) (cOpd_rel hg ht hy h2) hr) rfl
  case slice t x lo hi mx =>
    split at hc <;> first | (simp at hc; done) | skip
    · rename_i hu
      split at hc <;> first | (simp at hc; done) | skip
      rename_i y l' h' hx hl hh
      cases hc
      have hr : opSls T (ev T y) l' h' st = some (v, st') := hr
      obtain ⟨u, h1⟩ := some_of_ob hr
      rw [h1] at hr
      exact ran_v (sls_out h hg ht hu hl hh (cOpd_rel hg ht hx h1) hr) rfl
    · rename_i e hu
      split at hc <;> first | (simp at hc; done) | skip
      rename_i s hs
      split at hc <;> first | (simp at hc; done) | skip
      rename_i y l' h' m' hx hl hh hm
      cases hc
      have hr : opSl T s (ev T y) l' h' m' st = some (v, st') := hr
      obtain ⟨u, h1⟩ := some_of_ob hr
      rw [h1] at hr
      exact ran_v (sl_out h hg ht hu hs hl hh hm (cOpd_rel hg ht hx h1) hr) rfl
  case fieldAddr t x f =>
    split at hc <;> first | (simp at hc; done) | skip
    rename_i fs hu
    split at hc <;> first | (simp at hc; done) | skip
    rename_i fl y hf hx
    split at hc <;> first | (simp at hc; done) | skip
    rename_i s hs
    cases h0 : s.beq 0 with
    | true => simp [h0] at hc
    | false =>
      simp only [h0, cond_false, Option.some.injEq] at hc; subst hc
      have hr : opFa fl.offset (ev T y) st = some (v, st') := hr
      obtain ⟨u, h1⟩ := some_of_ob hr
      rw [h1] at hr
      exact ran_v (fa_out h hu hf hs (fun e => by rw [e] at h0; cases h0) rfl (cOpd_rel hg ht hx h1) hr) rfl
  case field t x f =>
    split at hc <;> first | (simp at hc; done) | skip
    rename_i fs hu
    split at hc <;> first | (simp at hc; done) | skip
    rename_i fl y hf hx
    split at hc <;> first | (simp at hc; done) | skip
    rename_i d n hd hs
    cases hgd : isAggD d with
    | true =>
      simp only [hgd, cond_true, Option.some.injEq] at hc; subst hc
      have hr : opFlda fl.offset n (ev T y) st = some (v, st') := hr
      obtain ⟨u, h1⟩ := some_of_ob hr
      rw [h1] at hr
      exact ran_v (flda_out h hu hf hd hgd hs rfl (cOpd_rel hg ht hx h1) hr) rfl
    | false =>
      simp only [hgd, cond_false, Option.some.injEq] at hc; subst hc
      have hr : opFld fl.offset (ev T y) st = some (v, st') := hr
      obtain ⟨u, h1⟩ := some_of_ob hr
      rw [h1] at hr
      exact ran_v (fld_out h hu hf hd hgd rfl (cOpd_rel hg ht hx h1) hr) rfl
  case indexAddr t x y =>
    split at hc <;> first | (simp at hc; done) | skip
    · rename_i e hu
      split at hc <;> first | (simp at hc; done) | skip
      rename_i s x' y' hs hx hy
      cases hc
      have hr : opIa s (ev T x') (ev T y') st = some (v, st') := hr
      obtain ⟨u, h1⟩ := some_of_ob hr
      rw [h1] at hr
      obtain ⟨_, e, hr2⟩ := ob_some.1 hr
      cases e
      obtain ⟨u2, h2⟩ := some_of_ob hr2
      rw [h2] at hr
      exact ran_v (ia_out h hu hs (cOpd_rel hg ht hx h1) (cOpd_rel hg ht hy h2) hr) rfl
    · rename_i n e hu
      split at hc <;> first | (simp at hc; done) | skip
      rename_i s x' y' hs hx hy
      cases hc
      have hr : opIap n s (ev T x') (ev T y') st = some (v, st') := hr
      obtain ⟨u, h1⟩ := some_of_ob hr
      rw [h1] at hr
      obtain ⟨_, e, hr2⟩ := ob_some.1 hr
      cases e
      obtain ⟨u2, h2⟩ := some_of_ob hr2
      rw [h2] at hr
      exact ran_v (iap_out h hu hs (cOpd_rel hg ht hx h1) (cOpd_rel hg ht hy h2) hr) rfl
  case index t x y =>
    split at hc <;> first | (simp at hc; done) | skip
    · rename_i hu
      split at hc <;> first | (simp at hc; done) | skip
      rename_i x' y' hx hy
      cases hc
      have hr : opIxs (ev T x') (ev T y') st = some (v, st') := hr
      obtain ⟨u, h1⟩ := some_of_ob hr
      rw [h1] at hr
      obtain ⟨_, e, hr2⟩ := ob_some.1 hr
      cases e
      obtain ⟨u2, h2⟩ := some_of_ob hr2
      rw [h2] at hr
      exact ran_v (ixs_out h hu (cOpd_rel hg ht hx h1) (cOpd_rel hg ht hy h2) hr) rfl
    · rename_i n e hu
      split at hc <;> first | (simp at hc; done) | skip
      rename_i d s hd hs
      split at hc <;> first | (simp at hc; done) | skip
      rename_i x' y' hx hy
      cases hc
      have hr : opIxa n s (isAggD d) (ev T x') (ev T y') st = some (v, st') := hr
      obtain ⟨u2, h2⟩ := some_of_ob hr
      rw [h2] at hr
      obtain ⟨u, h1⟩ : ∃ u, ev T x' = some u := by
        obtain ⟨_, e, hr2⟩ := ob_some.1 hr
        cases e
        obtain ⟨_, _, hr2⟩ := ob_some.1 hr2
        obtain ⟨_, hr2⟩ := whn_some.1 hr2
        rw [sel_eq] at hr2
        split at hr2
        · exact some_of_ob hr2
        · exact some_of_ob hr2
      rw [h1] at hr
      exact ran_v (ixa_out h hu hd hs (cOpd_rel hg ht hx h1) (cOpd_rel hg ht hy h2) hr) rfl
  case lookup t x y ok =>
    split at hc <;> first | (simp at hc; done) | skip
    rename_i k e hu
    split at hc <;> first | (simp at hc; done) | skip
    rename_i q z hq hz
    split at hc <;> first | (simp at hc; done) | skip
    rename_i x' y' hx hy
    cases hp : isPlainK q with
    | false => simp [hp] at hc
    | true =>
      simp only [hp, cond_true, Option.some.injEq] at hc; subst hc
      have hr : opLk q z ok (ev T x') (ev T y') st = some (v, st') := hr
      obtain ⟨u, h1⟩ := some_of_ob hr
      rw [h1] at hr
      obtain ⟨_, e, hr2⟩ := ob_some.1 hr
      cases e
      obtain ⟨u2, h2⟩ := some_of_ob hr2
      rw [h2] at hr
      exact ran_v (lk_out h hu hq hp hz (cOpd_rel hg ht hx h1) (cOpd_rel hg ht hy h2) hr) rfl
  case mapUpdate t x y z =>
    split at hc <;> first | (simp at hc; done) | skip
    rename_i kt e hu
    split at hc <;> first | (simp at hc; done) | skip
    rename_i q hq
    split at hc <;> first | (simp at hc; done) | skip
    rename_i x' y' z' hx hy hz
    cases hp : isPlainK q with
    | false => simp [hp] at hc
    | true =>
      simp only [hp, cond_true, Option.some.injEq] at hc; subst hc
      have hr : opMu q (ev T x') (ev T y') (ev T z') st = some (v, st') := hr
      obtain ⟨u, h1⟩ := some_of_ob hr
      rw [h1] at hr
      obtain ⟨_, e, hr2⟩ := ob_some.1 hr
      cases e
      obtain ⟨u2, h2⟩ := some_of_ob hr2
      rw [h2] at hr hr2
      obtain ⟨_, e, hr2⟩ := ob_some.1 hr2
      cases e
      obtain ⟨u3, h3⟩ := some_of_ob hr2
      rw [h3] at hr
      exact ran_u (mu_out h hu hq hp (cOpd_rel hg ht hx h1) (cOpd_rel hg ht hy h2) (cOpd_rel hg ht hz h3) hr) rfl
  case insert t x y z =>
    split at hc <;> first | (simp at hc; done) | skip
    rename_i kt e hu
    split at hc <;> first | (simp at hc; done) | skip
    rename_i q hq
    split at hc <;> first | (simp at hc; done) | skip
    rename_i x' y' z' hx hy hz
    cases hp : isPlainK q with
    | false => simp [hp] at hc
    | true =>
      simp only [hp, cond_true, Option.some.injEq] at hc; subst hc
      have hr : opMu q (ev T x') (ev T y') (ev T z') st = some (v, st') := hr
      obtain ⟨u, h1⟩ := some_of_ob hr
      rw [h1] at hr
      obtain ⟨_, e, hr2⟩ := ob_some.1 hr
      cases e
      obtain ⟨u2, h2⟩ := some_of_ob hr2
      rw [h2] at hr hr2
      obtain ⟨_, e, hr2⟩ := ob_some.1 hr2
      cases e
      obtain ⟨u3, h3⟩ := some_of_ob hr2
      rw [h3] at hr
      exact ran_u (mu_out h hu hq hp (cOpd_rel hg ht hx h1) (cOpd_rel hg ht hy h2) (cOpd_rel hg ht hz h3) hr) rfl
  case makeInterface t x =>
    split at hc <;> first | (simp at hc; done) | skip
    rename_i d y hni hu hx
    cases hc
    have hr : opMki t (ev T y) st = some (v, st') := hr
    obtain ⟨u, h1, hr⟩ := ob_some.1 hr
    cases hr
    have g1 := cOpd_rel hg ht hx h1
    refine ran_v (s := Instr.makeInterface t (a.eval x)) (.same h (v' := .iface t (a.eval x)) ?_ (.iface t _ _ g1)) rfl
    simp only [Instr.makeInterface, Sem.run_bind, run_underlying hu, Result.andThen_ok]
    cases d <;> first | rfl | exact absurd rfl (hni _)
  case extract x i =>
    split at hc <;> first | (simp at hc; done) | skip
    rename_i y hx
    cases hc
    have hr : opExt (ev T y) i st = some (v, st') := hr
    obtain ⟨u, h1⟩ := some_of_ob hr
    rw [h1] at hr
    exact ran_v (ext_out h (cOpd_rel hg ht hx h1) hr) rfl
  case call c0 =>
    split at hc <;> first | (simp at hc; done) | skip
    rename_i l hl
    obtain ⟨callee, args, argTypes⟩ := c0
    simp only at hc hl hnc
    cases callee <;> simp only [Op.isCallF, reduceCtorEq] at hnc hc
    rename_i b
    obtain ⟨s, hs, hso⟩ := builtin_out (ty := type) (cs := args.map fun | .const _ => true | _ => false) h hX ht call hl hc hr
    refine ran_v hso ?_
    have hs' : builtin b argTypes type (args.map fun | .const _ => true | _ => false) (args.map a.eval) = (do pure (.value (← s))) := by
      have e1 : argTypes.toList.toArray = argTypes := rfl
      have e2 : (args.toList.map a.eval).toArray = args.map a.eval := by apply Array.ext'; simp
      rw [e1, e2] at hs; exact hs
    simp only [execOp, resolve, pure_bind, invoke]
    exact hs'

end Go.Am
