/-
Answers that are given from outside: Go's own search of bytes; calls whose answer bears no address.
-/
import Derived.Test.YtdofpjabgnfglaaGreatDoorAm28
import Derived.Test.YtdofpjabgnfglaaGreatDoorAm32
import Derived.Lib.Bytealg
import Derived.Lib.Index
set_option linter.unusedVariables false
set_option linter.unusedSectionVars false
namespace Go.Am
open Go
variable [GT]

theorem blt_lt {a b : Nat} (h : Nat.blt a b = true) : a < b := by rw [Nat.blt_eq] at h; exact h

/-! ### The first place of a byte, of a text -/

noncomputable def sucI (n : Int) : Int := Int.rec (fun n => .ofNat (Nat.succ n)) (fun _ => .negSucc (nat_lit 0)) n
noncomputable def ixB (c : Nat) (l : List Nat) : Int := List.rec (.negSucc (nat_lit 0)) (fun x _ ih => sel (Nat.beq x c) (.ofNat (nat_lit 0)) (sucI ih)) l
noncomputable def preL (a : List Nat) : List Nat → Bool := List.rec (motive := fun _ => List Nat → Bool) (fun _ => true) (fun x _ ih b => List.rec false (fun y t _ => sel (Nat.beq x y) (ih t) false) b) a
noncomputable def ixS (sub : List Nat) (l : List Nat) : Int :=
  List.rec (List.rec (.ofNat (nat_lit 0)) (fun _ _ _ => .negSucc (nat_lit 0)) sub) (fun x t ih => sel (preL sub (x :: t)) (.ofNat (nat_lit 0)) (sucI ih)) l
noncomputable def cnB (c : Nat) (l : List Nat) : Nat := List.rec (nat_lit 0) (fun x _ ih => sel (Nat.beq x c) (Nat.succ ih) ih) l

theorem toNat_beq (a b : UInt8) : Nat.beq a.toNat b.toNat = (a == b) := by
  cases h : a == b with
  | true => have := eq_of_beq h; subst this; exact Nat.beq_refl _
  | false =>
    cases h2 : Nat.beq a.toNat b.toNat with
    | false => rfl
    | true =>
      have := UInt8.toNat_inj.1 (Nat.eq_of_beq_eq_true h2)
      subst this
      simp at h

theorem sucI_eq (n : Int) (h : -1 ≤ n) : sucI n = if n == -1 then -1 else n + 1 := by
  cases n with
  | ofNat n =>
    have : ¬ (Int.ofNat n == -1) = true := by simp
    rw [if_neg this]; rfl
  | negSucc n =>
    have : n = 0 := by omega
    subst this; rfl

theorem ixB_eq (c : UInt8) : ∀ l : List UInt8, ixB c.toNat (l.map UInt8.toNat) = Lib.indexByte l c
  | [] => rfl
  | x :: l => by
    show sel (Nat.beq x.toNat c.toNat) 0 (sucI (ixB c.toNat (l.map UInt8.toNat))) = _
    rw [toNat_beq, ixB_eq c l, sucI_eq _ (Lib.indexByte_ge l c), sel_eq]
    rfl

theorem preL_eq : ∀ a b : List UInt8, preL (a.map UInt8.toNat) (b.map UInt8.toNat) = a.isPrefixOf b
  | [], b => by cases b <;> rfl
  | x :: a, [] => rfl
  | x :: a, y :: b => by
    show sel (Nat.beq x.toNat y.toNat) (preL (a.map UInt8.toNat) (b.map UInt8.toNat)) false = _
    rw [toNat_beq, preL_eq a b, sel_eq, List.isPrefixOf]
    cases x == y <;> simp

theorem ixS_eq (sub : List UInt8) : ∀ l : List UInt8, ixS (sub.map UInt8.toNat) (l.map UInt8.toNat) = Lib.index l sub
  | [] => by
    cases sub <;> rfl
  | x :: l => by
    show sel (preL (sub.map UInt8.toNat) (x.toNat :: l.map UInt8.toNat)) 0 (sucI (ixS (sub.map UInt8.toNat) (l.map UInt8.toNat))) = _
    have := preL_eq sub (x :: l)
    simp only [List.map_cons] at this
    rw [this, ixS_eq sub l, sucI_eq _ (Lib.index_ge l sub), sel_eq]
    rfl

theorem cnB_eq (c : UInt8) : ∀ l : List UInt8, cnB c.toNat (l.map UInt8.toNat) = Lib.countByte l c
  | [] => rfl
  | x :: l => by
    show sel (Nat.beq x.toNat c.toNat) (Nat.succ (cnB c.toNat (l.map UInt8.toNat))) (cnB c.toNat (l.map UInt8.toNat)) = _
    rw [toNat_beq, cnB_eq c l, sel_eq]
    unfold Lib.countByte
    rw [List.count_cons]
    cases x == c <;> simp

/-! ### Answers -/

/-- a text and a byte -/
noncomputable def eIxB : List V → St → R := fun l st =>
  match l with
  | [.str _ s, .int .u8 c] => ob (natI c) fun c => whn (Nat.blt c (nat_lit 256)) (some (.int .i64 (ixB c s), st))
  | _ => none
noncomputable def eCnB : List V → St → R := fun l st =>
  match l with
  | [.str _ s, .int .u8 c] => ob (natI c) fun c => whn (Nat.blt c (nat_lit 256)) (some (.int .i64 (.ofNat (cnB c s)), st))
  | _ => none
noncomputable def eIxS : List V → St → R := fun l st =>
  match l with
  | [.str n s, .str _ sub] => whn (Nat.blt n (nat_lit 4294967281)) (some (.int .i64 (ixS sub s), st))
  | _ => none

variable {P : Program}

/-- a call to Go's own text that stands in for itself -/
theorem good_native {f : Nat} {fn : Func} {e : Array Value → Sem Value} {g : List V → St → R} (hf : P.funcs[f]? = some fn) (hname : (fn.name == "runtime.NumGoroutine") = false) (hb : fn.body.isNone = true) (hn : Extern.findNext fn = none) (he : Extern.find fn = some e)
    (h : ∀ args st v st', g args st = some (v, st') → st' = st ∧ ∀ (ι : Inj) (args' : Array Value) (w : World), VsRel ι args args'.toList → ∃ v', (e args').run P w = .ok v' w ∧ VRel ι v v') :
    CallGood P fun f' args st => sel (Nat.beq f' f) (g args st) none := by
  intro f' args st v st' hlt hr X ι w args' hh hargs hX
  simp only at hr
  rw [sel_eq] at hr
  split at hr <;> first | (cases hr; done) | skip
  rename_i hff
  have := Nat.eq_of_beq_eq_true hff
  subst this
  obtain ⟨h1, h2⟩ := h args st v st' hr
  subst h1
  obtain ⟨v', k1, k2⟩ := h2 ι args' w hargs
  right
  exact ⟨v', w, by rw [run_callFunc_extern hf hname hb hn he, k1]; rfl, ι, k2, hh, .refl _ _ _⟩

/-- a call to a function whose contract leaves the memory as it is -/
theorem good_calls {f : Nat} {fn : Func} {b : Code} {g : List V → St → R} (hf : P.funcs[f]? = some fn) (hb : fn.body = some b) (hn : (fn.name == "runtime.NumGoroutine") = false)
    (h : ∀ args st v st', g args st = some (v, st') → st' = st ∧ ∀ (X : Nat → Prop) (ι : Inj) (args' : Array Value) (w : World), HRel P X ι st w → VsRel ι args args'.toList → Calls P f args' w fun e w' => ∃ v', e = .returned v' ∧ VRel ι v v' ∧ ∃ n, w' = { w with drawn := n }) :
    CallGood P fun f' args st => sel (Nat.beq f' f) (g args st) none := by
  intro f' args st v st' hlt hr X ι w args' hh hargs hX
  simp only at hr
  rw [sel_eq] at hr
  split at hr <;> first | (cases hr; done) | skip
  rename_i hff
  have := Nat.eq_of_beq_eq_true hff
  subst this
  obtain ⟨h1, h2⟩ := h args st v st' hr
  subst h1
  refine .inl ⟨enter_run hf hb hn w, (h2 X ι args' w hh hargs).mono fun e w' ⟨v', k1, k2, n, k3⟩ => ?_⟩
  subst k3
  exact ⟨v', k1, ι, k2, ⟨fun b o hb => (hh.obj b o hb).turn (fun _ _ h => h) fun _ _ _ => rfl, hh.dom, hh.live, hh.inj, hh.glob, fun g o hg hl => ⟨(hh.glo g o hg hl).1.turn (fun _ _ h => h) fun _ _ _ => rfl, (hh.glo g o hg hl).2⟩⟩,
    fun _ _ h => h, Nat.le_refl _, Nat.le_refl _, fun _ _ _ => rfl, fun b o l g1 g2 g3 => .inr ⟨b, o, l, g1, g2, g3, rfl⟩, fun _ _ h => .inl h, rfl, rfl, rfl⟩

theorem str_byte {ι : Inj} {n : Nat} {s : List Nat} {c : Int} {args' : Array Value} (h : VsRel ι [.str n s, .int .u8 c] args'.toList) : ∃ bs : ByteArray, args' = #[.string bs, .int .u8 c] ∧ bs.size = n ∧ bs.data.toList.map UInt8.toNat = s := by
  obtain ⟨l⟩ := args'
  cases h with
  | cons _ v1 _ l1 h1 h =>
    cases h with
    | cons _ v2 _ l2 h2 h =>
      cases h
      cases h1 with | str _ _ bs g1 g2 =>
      cases h2
      exact ⟨bs, rfl, g1, g2⟩

theorem str_str {ι : Inj} {n m : Nat} {s t : List Nat} {args' : Array Value} (h : VsRel ι [.str n s, .str m t] args'.toList) : ∃ bs ts : ByteArray, args' = #[.string bs, .string ts] ∧ bs.size = n ∧ bs.data.toList.map UInt8.toNat = s ∧ ts.data.toList.map UInt8.toNat = t := by
  obtain ⟨l⟩ := args'
  cases h with
  | cons _ v1 _ l1 h1 h =>
    cases h with
    | cons _ v2 _ l2 h2 h =>
      cases h
      cases h1 with | str _ _ bs g1 g2 =>
      cases h2 with | str _ _ ts k1 k2 =>
      exact ⟨bs, ts, rfl, g1, g2, k2⟩

theorem byte_of (c : Nat) (h : c < 256) : (Int.ofNat c).toNat.toUInt8.toNat = c := by
  show (c.toUInt8).toNat = c
  simp [Nat.toUInt8, UInt8.toNat_ofNat']
  omega

theorem eIxB_some {args : List V} {st : St} {v : V} {st' : St} (h : eIxB args st = some (v, st')) : ∃ n s c, c < 256 ∧ args = [.str n s, .int .u8 (.ofNat c)] ∧ v = .int .i64 (ixB c s) ∧ st' = st := by
  unfold eIxB at h
  split at h
  · rename_i n s c
    obtain ⟨c', h1, h2⟩ := ob_some.1 h
    obtain ⟨h3, h4⟩ := whn_some.1 h2
    cases h4
    cases c with
    | ofNat k => cases h1; exact ⟨n, s, c', blt_lt h3, rfl, rfl, rfl⟩
    | negSucc k => cases h1
  · cases h

theorem eCnB_some {args : List V} {st : St} {v : V} {st' : St} (h : eCnB args st = some (v, st')) : ∃ n s c, c < 256 ∧ args = [.str n s, .int .u8 (.ofNat c)] ∧ v = .int .i64 (.ofNat (cnB c s)) ∧ st' = st := by
  unfold eCnB at h
  split at h
  · rename_i n s c
    obtain ⟨c', h1, h2⟩ := ob_some.1 h
    obtain ⟨h3, h4⟩ := whn_some.1 h2
    cases h4
    cases c with
    | ofNat k => cases h1; exact ⟨n, s, c', blt_lt h3, rfl, rfl, rfl⟩
    | negSucc k => cases h1
  · cases h

theorem eIxS_some {args : List V} {st : St} {v : V} {st' : St} (h : eIxS args st = some (v, st')) : ∃ n s m t, n < 4294967281 ∧ args = [.str n s, .str m t] ∧ v = .int .i64 (ixS t s) ∧ st' = st := by
  unfold eIxS at h
  split at h
  · rename_i n s m t
    obtain ⟨h3, h4⟩ := whn_some.1 h
    cases h4
    exact ⟨n, s, m, t, blt_lt h3, rfl, rfl, rfl⟩
  · cases h

theorem good_IxB {f : Nat} {fn : Func} (hf : P.funcs[f]? = some fn) (hname : (fn.name == "runtime.NumGoroutine") = false) (hb : fn.body.isNone = true) (hn : Extern.findNext fn = none) (he : Extern.find fn = some Extern.BytealgIndexByte.indexByte) :
    CallGood P fun f' args st => sel (Nat.beq f' f) (eIxB args st) none :=
  good_native hf hname hb hn he fun args st v st' h => by
    obtain ⟨n, s, c, h1, rfl, rfl, rfl⟩ := eIxB_some h
    refine ⟨rfl, fun ι args' w ha => ?_⟩
    obtain ⟨bs, rfl, g1, g2⟩ := str_byte ha
    refine ⟨_, Lib.run_indexByteString bs (.ofNat c) w, ?_⟩
    rw [← ixB_eq, byte_of c h1, g2]
    exact .int _ _

theorem good_CnB {f : Nat} {fn : Func} (hf : P.funcs[f]? = some fn) (hname : (fn.name == "runtime.NumGoroutine") = false) (hb : fn.body.isNone = true) (hn : Extern.findNext fn = none) (he : Extern.find fn = some Extern.BytealgCount.count) :
    CallGood P fun f' args st => sel (Nat.beq f' f) (eCnB args st) none :=
  good_native hf hname hb hn he fun args st v st' h => by
    obtain ⟨n, s, c, h1, rfl, rfl, rfl⟩ := eCnB_some h
    refine ⟨rfl, fun ι args' w ha => ?_⟩
    obtain ⟨bs, rfl, g1, g2⟩ := str_byte ha
    refine ⟨_, Lib.run_countString bs (.ofNat c) w, ?_⟩
    rw [← cnB_eq, byte_of c h1, g2]
    exact .int _ _

/-- a contract for the search of a text, wherever the memory bears some number in the variable g -/
theorem good_IxS {f gm : Nat} {fn : Func} {b : Code} {q : PT V} {n e : Nat} {x : Int} (hf : P.funcs[f]? = some fn) (hb : fn.body = some b) (hn : (fn.name == "runtime.NumGoroutine") = false)
    (hgt : GT.gt.get gm = some (.cells q n e)) (hq : q.get 0 = some (.int .i64 x)) (hgl : gm < P.globals.size)
    (hc : ∀ (s sub : ByteArray) (m : Int) (w : World), s.size < 4294967281 → w.cell? ⟨gm, 0, none⟩ = some (.int .i64 m) → Calls P f #[.string s, .string sub] w fun e w' => e = .returned (.int .i64 (Lib.index s.data.toList sub.data.toList)) ∧ w' = w) :
    CallGood P fun f' args st => sel (Nat.beq f' f) (eIxS args st) none :=
  good_calls hf hb hn fun args st v st' h => by
    obtain ⟨n2, s, m, t, h1, rfl, rfl, rfl⟩ := eIxS_some h
    refine ⟨rfl, fun X ι args' w hh ha => ?_⟩
    obtain ⟨bs, ts, rfl, g1, g2, g3⟩ := str_str ha
    obtain ⟨l, k1, k2, _⟩ := (hh.glo gm _ hgt trivial).1
    obtain ⟨l2, k3, k4, k5⟩ := hh.glob gm hgl
    rw [k1] at k3; cases k3
    obtain ⟨v', r1, r2, _⟩ := k2 0 _ hq
    rw [k4, k5] at r1
    cases r2
    refine (hc bs ts x w (by rw [g1]; exact h1) r1).mono fun e w' ⟨e1, e2⟩ => ?_
    subst e2
    refine ⟨_, e1, ?_, _, rfl⟩
    rw [← ixS_eq, g2, g3]
    exact .int _ _

/-! ### Calls whose answer bears no address -/

mutual
def plainV : V → Bool
  | .bool _ | .int _ _ | .str _ _ | .pnil | .snil | .mnil | .fnil | .inil => true
  | .agg l => plainL l
  | .tup l => plainL l
  | .iface _ v => plainV v
  | _ => false
def plainL : List V → Bool
  | [] => true
  | v :: l => plainV v && plainL l
end

mutual
theorem plain_rel {ι ι' : Inj} {v : V} {v' : Value} (hp : plainV v = true) (h : VRel ι v v') : VRel ι' v v' := by
  cases h with
  | bool b => exact .bool b
  | int k n => exact .int k n
  | str n s bs hn hs => exact .str n s bs hn hs
  | pnil => exact .pnil
  | snil => exact .snil
  | mnil => exact .mnil
  | fnil => exact .fnil
  | inil => exact .inil
  | iface t v v' h => exact .iface t v v' (plain_rel (by simpa only [plainV] using hp) h)
  | agg cs c h h1 => exact .agg cs c (plains_rel (by simpa only [plainV] using hp) h) h1
  | tup vs c h => exact .tup vs c (plains_rel (by simpa only [plainV] using hp) h)
  | ptr b o l h => simp [plainV] at hp
  | slice b o n c ex l cap off h hn hc he hs ho => simp [plainV] at hp
  | map r l h => simp [plainV] at hp
  | fn f cap c h => simp [plainV] at hp
  | yld b l h => simp [plainV] at hp
theorem plains_rel {ι ι' : Inj} {v : List V} {v' : List Value} (hp : plainL v = true) (h : VsRel ι v v') : VsRel ι' v v' := by
  cases h with
  | nil => exact .nil
  | cons v v' l l' h ht =>
    simp only [plainL, Bool.and_eq_true] at hp
    exact .cons v v' l l' (plain_rel hp.1 h) (plains_rel hp.2 ht)
end

/-- the numbers of what is only read, and of what it leads to -/
def low : Nat := 1000

mutual
def lowV : V → Bool
  | .bool _ | .int _ _ | .str _ _ | .pnil | .snil | .mnil | .fnil | .inil => true
  | .ptr b _ => Nat.blt b low
  | .iface _ v => lowV v
  | .agg l => lowL l
  | _ => false
def lowL : List V → Bool
  | [] => true
  | v :: l => lowV v && lowL l
end

mutual
theorem low_rel {ι ι' : Inj} (hm : ∀ b l, b < low → ι b = some l → ι' b = some l) {v : V} {v' : Value} (hp : lowV v = true) (h : VRel ι v v') : VRel ι' v v' := by
  cases h with
  | bool b => exact .bool b
  | int k n => exact .int k n
  | str n s bs hn hs => exact .str n s bs hn hs
  | pnil => exact .pnil
  | snil => exact .snil
  | mnil => exact .mnil
  | fnil => exact .fnil
  | inil => exact .inil
  | ptr b o l h => exact .ptr b o l (hm _ _ (blt_lt (by simpa only [lowV] using hp)) h)
  | iface t v v' h => exact .iface t v v' (low_rel hm (by simpa only [lowV] using hp) h)
  | agg cs c h h1 => exact .agg cs c (lows_rel hm (by simpa only [lowV] using hp) h) h1
  | tup vs c h => simp [lowV] at hp
  | slice b o n c ex l cap off h hn hc he hs ho => simp [lowV] at hp
  | map r l h => simp [lowV] at hp
  | fn f cap c h => simp [lowV] at hp
  | yld b l h => simp [lowV] at hp
theorem lows_rel {ι ι' : Inj} (hm : ∀ b l, b < low → ι b = some l → ι' b = some l) {v : List V} {v' : List Value} (hp : lowL v = true) (h : VsRel ι v v') : VsRel ι' v v' := by
  cases h with
  | nil => exact .nil
  | cons v v' l l' h ht =>
    simp only [lowL, Bool.and_eq_true] at hp
    exact .cons v v' l l' (low_rel hm hp.1 h) (lows_rel hm hp.2 ht)
end

/-- all that is only read is low -/
def GtLow [GT] : Prop := ∀ g cs n e, GT.gt.get g = some (.cells cs n e) → g < low ∧ ∀ i v, cs.get i = some v → lowV v = true

/-- A CALL THAT WAS RECKONED BY ITSELF: at any state it answers the same, and leaves the state as it is. -/
theorem pure_call {call : CallF} (hcg : CallGood P call) (hG : GtLow) (hGs : P.globals.size ≤ low) {f : Nat} (hlt : f < YN) {args : List V} (ha : plainL args = true) {v : V} (hv : plainV v = true) {st1 : St}
    (hrun : call f args ⟨.nil, low⟩ = some (v, st1)) {X : Nat → Prop} {ι : Inj} {st : St} {w : World} {args' : Array Value} (hh : HRel P X ι st w) (hargs : VsRel ι args args'.toList) :
    ((callFunc f args').run P w = .ok (.enter f args') w ∧ Calls P f args' w fun e w' => ∃ v', e = .returned v' ∧ Ends P X ι st w v st v' w') ∨
    ∃ v' w', (callFunc f args').run P w = .ok (.value v') w' ∧ Ends P X ι st w v st v' w' := by
  let ι0 : Inj := fun b => if b < low then ι b else none
  have h0 : ∀ b l, b < low → ι b = some l → ι0 b = some l := fun b l hb hl => by simp only [ι0, if_pos hb]; exact hl
  have h0' : ∀ b l, ι0 b = some l → ι b = some l ∧ b < low := fun b l hl => by
    simp only [ι0] at hl
    split at hl
    · exact ⟨hl, by assumption⟩
    · cases hl
  have hh0 : HRel P (fun _ => False) ι0 ⟨.nil, low⟩ w := by
    refine ⟨fun b o hb => ?_, fun b l hb => ⟨.inl (h0' b l hb).2, (hh.dom b l (h0' b l hb).1).2⟩, fun b o hb => ?_, fun b b' l l' o o' hb => ?_, fun g hg => ?_, fun g o hg hl => ⟨?_, fun b o' l l' hb => ?_⟩⟩
    · rw [show (⟨.nil, low⟩ : St).heap = .nil from rfl, PT.get_nil] at hb; cases hb
    · rw [show (⟨.nil, low⟩ : St).heap = .nil from rfl, PT.get_nil] at hb; cases hb
    · rw [show (⟨.nil, low⟩ : St).heap = .nil from rfl, PT.get_nil] at hb; cases hb
    · obtain ⟨l, k1, k2⟩ := hh.glob g hg
      exact ⟨l, h0 g l (Nat.lt_of_lt_of_le hg hGs) k1, k2⟩
    · cases o with
      | cells cs n e =>
        obtain ⟨l, k1, k2, k3⟩ := (hh.glo g _ hg hl).1
        obtain ⟨q1, q2⟩ := hG g cs n e hg
        refine ⟨l, h0 g l q1 k1, fun i v hv => ?_, k3⟩
        obtain ⟨v', r1, r2, r3⟩ := k2 i v hv
        exact ⟨v', r1, low_rel h0 (q2 i v hv) r2, r3⟩
      | _ => exact (hh.glo g _ hg hl).1.elim
    · rw [show (⟨.nil, low⟩ : St).heap = .nil from rfl, PT.get_nil] at hb; cases hb
  have fin : ∀ (v' : Value) (w' : World), Ends P (fun _ => False) ι0 ⟨.nil, low⟩ w v st1 v' w' → Ends P X ι st w v st v' w' := fun v' w' ⟨ι1, k1, k2, k3⟩ => by
    have hk : ∀ B, B < w.heap.size → w'.heap[B]? = w.heap[B]? := fun B hB => k3.kept B hB fun b o l hb => by
      rw [show (⟨.nil, low⟩ : St).heap = .nil from rfl, PT.get_nil] at hb; cases hb
    refine ⟨ι, plain_rel hv k1, ⟨fun b o hb => (hh.obj b o hb).turn (fun _ _ h => h) fun l hl _ => hk _ (hh.dom b l hl).2, fun b l hb => ⟨(hh.dom b l hb).1, Nat.lt_of_lt_of_le (hh.dom b l hb).2 k3.size⟩, hh.live, hh.inj, hh.glob,
      fun g o hg hl => ⟨(hh.glo g o hg hl).1.turn (fun _ _ h => h) fun l hl2 _ => hk _ (hh.dom g l hl2).2, (hh.glo g o hg hl).2⟩⟩,
      fun _ _ h => h, Nat.le_refl _, k3.size, fun B hB _ => hk B hB, fun b o l g1 g2 g3 => .inr ⟨b, o, l, g1, g2, g3, rfl⟩, fun _ _ h => .inl h, k3.tape, k3.os, k3.out⟩
  rcases hcg f args _ v st1 hlt hrun (fun _ => False) ι0 w args' hh0 (plains_rel ha hargs) (fun b hb => hb.elim) with ⟨k1, k2⟩ | ⟨v', w', k1, k2⟩
  · exact .inl ⟨k1, k2.mono fun e w' ⟨v', he, hE⟩ => ⟨v', he, fin v' w' hE⟩⟩
  · exact .inr ⟨v', w', k1, fin v' w' k2⟩

/-- what was reckoned, as a table -/
noncomputable def eTab (tab : List (List V × V)) (args : List V) (st : St) : R :=
  List.rec none (fun p _ ih => sel (sameL p.1 args) (some (p.2, st)) ih) tab

theorem eTab_some {tab : List (List V × V)} {args : List V} {st : St} {v : V} {st' : St} (h : eTab tab args st = some (v, st')) : st' = st ∧ (args, v) ∈ tab := by
  induction tab with
  | nil => cases h
  | cons p tab ih =>
    have h : sel (sameL p.1 args) (some (p.2, st)) (eTab tab args st) = some (v, st') := h
    rw [sel_eq] at h
    split at h
    · rename_i hs
      have := sameL_eq hs
      cases h
      subst this
      exact ⟨rfl, by simp⟩
    · obtain ⟨h1, h2⟩ := ih h
      exact ⟨h1, by simp [h2]⟩

theorem good_tab {call : CallF} (hcg : CallGood P call) (hG : GtLow) (hGs : P.globals.size ≤ low) {f : Nat} {tab : List (List V × V)}
    (hall : ∀ p ∈ tab, plainL p.1 = true ∧ plainV p.2 = true ∧ ∃ st1, call f p.1 ⟨.nil, low⟩ = some (p.2, st1)) :
    CallGood P fun f' args st => sel (Nat.beq f' f) (eTab tab args st) none := by
  intro f' args st v st' hlt hr X ι w args' hh hargs hX
  simp only at hr
  rw [sel_eq] at hr
  split at hr <;> first | (cases hr; done) | skip
  rename_i hff
  have := Nat.eq_of_beq_eq_true hff
  subst this
  obtain ⟨h1, h2⟩ := eTab_some hr
  subst h1
  obtain ⟨h3, h4, st1, h5⟩ := hall _ h2
  exact pure_call hcg hG hGs hlt h3 h4 h5 hh hargs

end Go.Am
