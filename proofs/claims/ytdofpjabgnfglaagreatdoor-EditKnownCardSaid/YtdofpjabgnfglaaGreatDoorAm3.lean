/-
Trees by number, what an abstract memory says of the true one, and how both turn together.
-/
import Derived.Test.YtdofpjabgnfglaaGreatDoorAm2
import Derived.Laws.IdiomCopy
import Derived.Laws.Cells
import Derived.Orders
set_option linter.unusedVariables false
set_option linter.unusedSectionVars false
set_option linter.unusedSimpArgs false
namespace Go.Am
open Go
variable [GT]

/-! ### Small words -/

theorem ob_some {α β : Type} {x : Option α} {k : α → Option β} {r : β} : ob x k = some r ↔ ∃ a, x = some a ∧ k a = some r := by
  cases x <;> simp [ob]

theorem whn_some {α : Type} {c : Bool} {t : Option α} {r : α} : whn c t = some r ↔ c = true ∧ t = some r := by
  cases c <;> simp [whn]

theorem sel_eq {α : Type} (c : Bool) (t e : α) : sel c t e = if c = true then t else e := by
  cases c <;> rfl

theorem oc_none {α β : Type} (e : β) (k : α → β) : oc none e k = e := rfl
theorem oc_some {α β : Type} (a : α) (e : β) (k : α → β) : oc (some a) e k = k a := rfl

theorem dropL_eq {α : Type} (n : Nat) : ∀ l : List α, dropL n l = l.drop n := by
  induction n with
  | zero => intro l; rfl
  | succ n ih => intro l; cases l with
    | nil => rfl
    | cons x t => exact ih t

theorem takeL_eq {α : Type} (n : Nat) : ∀ l : List α, takeL n l = l.take n := by
  induction n with
  | zero => intro l; rfl
  | succ n ih => intro l; cases l with
    | nil => rfl
    | cons x t => exact congrArg (x :: ·) (ih t)

theorem appL_eq {α : Type} (a b : List α) : appL a b = a ++ b := by
  induction a with
  | nil => rfl
  | cons x t ih => exact congrArg (x :: ·) ih

theorem nthL_eq {α : Type} (n : Nat) : ∀ l : List α, nthL n l = l[n]? := by
  induction n with
  | zero => intro l; cases l <;> rfl
  | succ n ih => intro l; cases l with
    | nil => rfl
    | cons x t => exact ih t

theorem lenL_eq {α : Type} (l : List α) : lenL l = l.length := by
  induction l with
  | nil => rfl
  | cons x t ih => exact congrArg Nat.succ ih

/-! ### Trees -/

theorem dig_mod (m m' : Nat) (h : dig (m % 4) = dig (m' % 4)) : m % 4 = m' % 4 := by
  have key : ∀ a b : Nat, a < 4 → b < 4 → dig a = dig b → a = b := by
    intro a b ha hb
    match a, b, ha, hb with
    | 0, 0, _, _ => simp
    | 1, 1, _, _ => simp
    | 2, 2, _, _ => simp
    | 3, 3, _, _ => simp
    | 0, 1, _, _ | 0, 2, _, _ | 0, 3, _, _ | 1, 0, _, _ | 1, 2, _, _ | 1, 3, _, _ | 2, 0, _, _ | 2, 1, _, _ | 2, 3, _, _ | 3, 0, _, _ | 3, 1, _, _ | 3, 2, _, _ => intro h; exact absurd h (by intro h; cases h)
  exact key _ _ (Nat.mod_lt _ (by decide)) (Nat.mod_lt _ (by decide)) h

theorem pthF_inj (f : Nat) : ∀ (f' n n' : Nat), n ≤ f → n' ≤ f' → pthF f n = pthF f' n' → n = n' := by
  induction f with
  | zero =>
    intro f' n n' h h' e
    have hn : n = 0 := by omega
    subst hn
    cases f' with
    | zero => omega
    | succ f' => cases n' with
      | zero => rfl
      | succ m => exact absurd e (by simp [pthF])
  | succ f ih =>
    intro f' n n' h h' e
    cases n with
    | zero =>
      cases f' with
      | zero => omega
      | succ f' => cases n' with
        | zero => rfl
        | succ m => exact absurd e (by simp [pthF])
    | succ n => cases f' with
      | zero => have : n' = 0 := by omega
                subst this; exact absurd e (by simp [pthF])
      | succ f' => cases n' with
        | zero => exact absurd e (by simp [pthF])
        | succ n' =>
          have e' : dig (n % 4) :: pthF f (n / 4) = dig (n' % 4) :: pthF f' (n' / 4) := e
          injection e' with e1 e2
          have d1 := dig_mod n n' e1
          have d2 := ih f' (n / 4) (n' / 4) (by omega) (by omega) e2
          omega

theorem pth_inj {n n' : Nat} (h : pth n = pth n') : n = n' := pthF_inj n n' n n' (Nat.le_refl _) (Nat.le_refl _) h

theorem getp_nil {α : Type} (p : List D4) : getp p (PT.nil : PT α) = none := by cases p <;> rfl

theorem getp_setp {α : Type} (u : α) (p : List D4) : ∀ (q : List D4) (t : PT α), getp q (setp u p t) = if p = q then some u else getp q t := by
  induction p with
  | nil =>
    intro q t
    cases q with
    | nil => cases t <;> simp [getp, setp]
    | cons y q =>
      simp only [reduceCtorEq, if_false]
      cases t with
      | nil => show getp q (D4.rec (motive := fun _ => PT α) .nil .nil .nil .nil y) = none
               cases y <;> exact getp_nil q
      | node v a b c d => rfl
  | cons x p ih =>
    intro q t
    cases q with
    | nil => simp only [reduceCtorEq, if_false]; cases t <;> cases x <;> rfl
    | cons y q =>
      have hq : (x :: p = y :: q) ↔ (x = y ∧ p = q) := by simp
      cases t with
      | nil =>
        cases x <;> cases y <;> simp only [hq, reduceCtorEq, true_and, false_and, if_false] <;>
          first
            | (rw [getp_nil]; have h9 := ih q (PT.nil : PT α); rw [getp_nil] at h9; exact h9)
            | exact getp_nil q
      | node v a b c d =>
        cases x <;> cases y <;> simp only [hq, reduceCtorEq, true_and, false_and, if_false] <;>
          first
            | exact ih q _
            | rfl

theorem PT.get_set {α : Type} (t : PT α) (i j : Nat) (x : α) : (t.set i x).get j = if i = j then some x else t.get j := by
  unfold PT.get PT.set
  rw [getp_setp]
  by_cases h : i = j
  · subst h; simp
  · have : ¬ pth i = pth j := fun e => h (pth_inj e)
    simp [h, this]

theorem PT.get_nil {α : Type} (j : Nat) : (PT.nil : PT α).get j = none := getp_nil _

theorem storeN_get (l : List V) : ∀ (cs : PT V) (o i : Nat), (storeN l cs o).get i = if o ≤ i ∧ i < o + l.length then l[i - o]? else cs.get i := by
  induction l with
  | nil => intro cs o i; have : ¬ (o ≤ i ∧ i < o + 0) := by omega
           simp only [List.length_nil, this, if_false]; rfl
  | cons v l ih =>
    intro cs o i
    show (storeN l (cs.set o v) (o + 1)).get i = _
    rw [ih, PT.get_set]
    by_cases h : o = i
    · subst h
      rw [if_neg (by omega), if_pos rfl, if_pos (by simp)]; simp
    · by_cases h2 : o + 1 ≤ i ∧ i < o + 1 + l.length
      · have h3 : o ≤ i ∧ i < o + (v :: l).length := by simp; omega
        rw [if_pos h2, if_pos h3]
        have : i - o = (i - (o + 1)) + 1 := by omega
        rw [this]; simp
      · have h3 : ¬ (o ≤ i ∧ i < o + (v :: l).length) := by simp; omega
        rw [if_neg h2, if_neg h3, if_neg h]

theorem rowOf_get (l : List V) (i : Nat) : (rowOf l).get i = l[i]? := by
  unfold rowOf
  rw [storeN_get]
  by_cases h : i < l.length
  · simp [h]
  · simp [h, PT.get_nil, List.getElem?_eq_none (Nat.le_of_not_lt h)]

theorem loadN_some (cs : PT V) (n : Nat) : ∀ (o : Nat) (l : List V), loadN cs n o = some l → l.length = n ∧ ∀ i v, l[i]? = some v → cs.get (o + i) = some v := by
  induction n with
  | zero => intro o l h; have h' : some [] = some l := h
            cases h'; simp
  | succ n ih =>
    intro o l h
    have h' : ob (cs.get o) (fun v => ob (loadN cs n (o + 1)) fun l => some (v :: l)) = some l := h
    obtain ⟨v, hv, h1⟩ := ob_some.1 h'
    obtain ⟨l', hl, h2⟩ := ob_some.1 h1
    have : l = v :: l' := by simpa using h2.symm
    subst this
    obtain ⟨h3, h4⟩ := ih _ _ hl
    refine ⟨by simp [h3], fun i u hu => ?_⟩
    cases i with
    | zero => simp at hu; subst hu; simpa using hv
    | succ i => have := h4 i u (by simpa using hu)
                rwa [show o + (i + 1) = o + 1 + i by omega]

/-! ### What a value stands for -/

/-- where an abstract block lies: the true block, its first cell there, the block's cells, an element's cells -/
structure Loc where
  blk : Nat
  base : Nat
  size : Nat
  esz : Nat

abbrev Inj := Nat → Option Loc

mutual
inductive VRel (ι : Inj) : V → Value → Prop where
  | bool (b : Bool) : VRel ι (.bool b) (.bool b)
  | int (k : IntKind) (n : Int) : VRel ι (.int k n) (.int k n)
  | str (n : Nat) (s : List Nat) (bs : ByteArray) (hn : bs.size = n) (hs : bs.data.toList.map UInt8.toNat = s) : VRel ι (.str n s) (.string bs)
  | pnil : VRel ι .pnil (.pointer none)
  | ptr (b o : Nat) (l : Loc) (h : ι b = some l) : VRel ι (.ptr b o) (.pointer (some ⟨l.blk, l.base + o, none⟩))
  | snil : VRel ι .snil (.slice none 0 0)
  | slice (b o n c : Nat) (ex : Bool) (l : Loc) (cap off : Nat) (h : ι b = some l) (hn : n ≤ c) (hc : c ≤ cap) (he : ex = true → cap = c)
      (hs : l.base + o + cap * l.esz ≤ l.size) (ho : 0 < cap → off = l.base + o) : VRel ι (.slice b o n c ex) (.slice (some ⟨l.blk, off, none⟩) n cap)
  | mnil : VRel ι .mnil (.map none)
  | map (r : Nat) (l : Loc) (h : ι r = some l) : VRel ι (.map r) (.map (some l.blk))
  | fnil : VRel ι .fnil .nilFunc
  | fn (f : Nat) (cap : List V) (c : Array Value) (h : VsRel ι cap c.toList) : VRel ι (.fn f cap) (.func (.func f) #[] c)
  | inil : VRel ι .inil .nilIface
  | iface (t : Nat) (v : V) (v' : Value) (h : VRel ι v v') : VRel ι (.iface t v) (.iface t v')
  | agg (cs : List V) (c : Array Value) (h : VsRel ι cs c.toList) (h1 : ∀ x ∈ c.toList, x.oneCell' = true) : VRel ι (.agg cs) (.agg c)
  | tup (vs : List V) (c : Array Value) (h : VsRel ι vs c.toList) : VRel ι (.tup vs) (.tuple c)
  | yld (b : Nat) (l : Loc) (h : ι b = some l) : VRel ι (.yld b) (.func (.yield l.blk) #[] #[])
inductive VsRel (ι : Inj) : List V → List Value → Prop where
  | nil : VsRel ι [] []
  | cons (v : V) (v' : Value) (l : List V) (l' : List Value) (h : VRel ι v v') (ht : VsRel ι l l') : VsRel ι (v :: l) (v' :: l')
end

mutual
theorem VRel.mono {ι ι' : Inj} (hm : ∀ b l, ι b = some l → ι' b = some l) {v : V} {v' : Value} (h : VRel ι v v') : VRel ι' v v' := by
  cases h with
  | bool b => exact .bool b
  | int k n => exact .int k n
  | str n s bs hn hs => exact .str n s bs hn hs
  | pnil => exact .pnil
  | ptr b o l h => exact .ptr b o l (hm _ _ h)
  | snil => exact .snil
  | slice b o n c ex l cap off h hn hc he hs ho => exact .slice b o n c ex l cap off (hm _ _ h) hn hc he hs ho
  | mnil => exact .mnil
  | map r l h => exact .map r l (hm _ _ h)
  | fnil => exact .fnil
  | fn f cap c h => exact .fn f cap c (VsRel.mono hm h)
  | inil => exact .inil
  | iface t v v' h => exact .iface t v v' (VRel.mono hm h)
  | agg cs c h h1 => exact .agg cs c (VsRel.mono hm h) h1
  | tup vs c h => exact .tup vs c (VsRel.mono hm h)
  | yld b l h => exact .yld b l (hm _ _ h)
theorem VsRel.mono {ι ι' : Inj} (hm : ∀ b l, ι b = some l → ι' b = some l) {v : List V} {v' : List Value} (h : VsRel ι v v') : VsRel ι' v v' := by
  cases h with
  | nil => exact .nil
  | cons v v' l l' h ht => exact .cons v v' l l' (VRel.mono hm h) (VsRel.mono hm ht)
end

theorem VsRel.length {ι : Inj} : ∀ {l : List V} {l' : List Value}, VsRel ι l l' → l.length = l'.length
  | [], [], _ => rfl
  | _ :: _, _ :: _, .cons _ _ _ _ _ ht => congrArg Nat.succ (VsRel.length ht)

theorem VsRel.get {ι : Inj} : ∀ {l : List V} {l' : List Value}, VsRel ι l l' → ∀ {i : Nat} {v : V}, l[i]? = some v → ∃ v', l'[i]? = some v' ∧ VRel ι v v'
  | [], [], _, i, v, h => by simp at h
  | a :: l, a' :: l', .cons _ _ _ _ h ht, 0, v, hv => ⟨a', by simp, by simp at hv; exact hv ▸ h⟩
  | a :: l, a' :: l', .cons _ _ _ _ h ht, i + 1, v, hv => by
    obtain ⟨v', h1, h2⟩ := VsRel.get ht (i := i) (v := v) (by simpa using hv)
    exact ⟨v', by simpa using h1, h2⟩

theorem VsRel.of_get {ι : Inj} : ∀ {l : List V} {l' : List Value}, l.length = l'.length → (∀ (i : Nat) (v : V) (v' : Value), l[i]? = some v → l'[i]? = some v' → VRel ι v v') → VsRel ι l l'
  | [], [], _, _ => .nil
  | a :: l, a' :: l', hl, h => .cons _ _ _ _ (h 0 a a' (by simp) (by simp)) (VsRel.of_get (by simpa using hl) (fun i v v' h1 h2 => h (i + 1) v v' (by simpa using h1) (by simpa using h2)))
  | [], _ :: _, hl, _ => by simp at hl
  | _ :: _, [], hl, _ => by simp at hl

theorem VsRel.append {ι : Inj} : ∀ {l m : List V} {l' m' : List Value}, VsRel ι l l' → VsRel ι m m' → VsRel ι (l ++ m) (l' ++ m')
  | [], _, [], _, _, h => h
  | _ :: _, _, _ :: _, _, .cons _ _ _ _ h ht, hm => .cons _ _ _ _ h (VsRel.append ht hm)

theorem VsRel.drop {ι : Inj} {l : List V} {l' : List Value} (n : Nat) (h : VsRel ι l l') : VsRel ι (l.drop n) (l'.drop n) :=
  VsRel.of_get (by simp [h.length]) (fun i v v' h1 h2 => by
    rw [List.getElem?_drop] at h1 h2
    obtain ⟨u, hu, hr⟩ := h.get h1
    rw [h2] at hu; cases hu; exact hr)

theorem VsRel.take {ι : Inj} {l : List V} {l' : List Value} (n : Nat) (h : VsRel ι l l') : VsRel ι (l.take n) (l'.take n) :=
  VsRel.of_get (by simp [h.length]) (fun i v v' h1 h2 => by
    rw [List.getElem?_take] at h1 h2
    split at h1
    · rename_i hi; rw [if_pos hi] at h2
      obtain ⟨u, hu, hr⟩ := h.get h1
      rw [h2] at hu; cases hu; exact hr
    · simp at h1)

/-! ### What a state says of a world -/

def Obj.live : Obj → Prop
  | .dead => False
  | _ => True

/-- entries of a map -/
inductive ERel (ι : Inj) : List (V × V) → List MapEntry → Prop where
  | nil : ERel ι [] []
  | cons (k v : V) (e : MapEntry) (l : List (V × V)) (l' : List MapEntry) (hk : VRel ι k e.key) (hv : VRel ι v e.val) (ht : ERel ι l l') : ERel ι ((k, v) :: l) (e :: l')

theorem ERel.mono {ι ι' : Inj} (hm : ∀ b l, ι b = some l → ι' b = some l) {l : List (V × V)} {l' : List MapEntry} (h : ERel ι l l') : ERel ι' l l' := by
  induction h with
  | nil => exact .nil
  | cons k v e l l' hk hv _ ih => exact .cons k v e l l' (hk.mono hm) (hv.mono hm) ih

/-- no cell of the block is frozen -/
def FrOk (fr : Nat × Nat) (n esz : Nat) : Prop := fr.1 = fr.2 ∨ (esz = 1 ∧ n ≤ fr.1)

theorem FrOk.not {fr : Nat × Nat} {n e i : Nat} (h : FrOk fr n e) (hi : i < n) : ¬ (fr.1 ≤ i ∧ i < fr.2) := by
  rcases h with h | h <;> omega

theorem FrOk.zero (n e : Nat) : FrOk (0, 0) n e := .inl rfl

def CellsRel (ι : Inj) (w : World) (l : Loc) (cs : PT V) (n : Nat) : Prop :=
  ∃ c elem fr, w.heap[l.blk]? = some (.cells c elem fr) ∧ c.size = l.size ∧ FrOk fr l.size l.esz ∧ l.base + n ≤ l.size ∧
    ∀ i v, cs.get i = some v → i < n ∧ ∃ v', c[l.base + i]? = some v' ∧ VRel ι v v' ∧ v'.oneCell' = true

/-- what is known of a frame's variables -/
def TRel (ι : Inj) (T : Tm) (tmps : Array Value) : Prop := ∀ t v, T.get t = some v → t < tmps.size ∧ VRel ι v (tmps.getD t undef)

theorem TRel.mono {ι ι' : Inj} {T : Tm} {tmps : Array Value} (h : TRel ι T tmps) (hm : ∀ b l, ι b = some l → ι' b = some l) : TRel ι' T tmps :=
  fun t v ht => ⟨(h t v ht).1, (h t v ht).2.mono hm⟩

/-- a loop over a function: what its record holds between two rounds -/
structure RecOk (P : Program) (ι : Inj) (ps : List Nat) (a c : CC) (T : Tm) (r : Loop) : Prop where
  state : r.state = .ready
  pending : r.pending = none
  params : r.params.toList = ps
  code : ∃ N, N ≤ r.tmps.size ∧ (∀ p ∈ ps, p < N) ∧ a = comp P N r.assign ∧ c = comp P N r.body
  noa : noRng a = true
  noc : noRng c = true
  tmps : TRel ι T r.tmps

theorem RecOk.mono {P : Program} {ι ι' : Inj} {ps : List Nat} {a c : CC} {T : Tm} {r : Loop} (h : RecOk P ι ps a c T r) (hm : ∀ b l, ι b = some l → ι' b = some l) : RecOk P ι' ps a c T r :=
  ⟨h.state, h.pending, h.params, h.code, h.noa, h.noc, h.tmps.mono hm⟩

def ORel (P : Program) (ι : Inj) (w : World) (b : Nat) : Obj → Prop
  | .lrec ps a c T => ∃ l r, ι b = some l ∧ w.heap[l.blk]? = some (.loop r) ∧ RecOk P ι ps a c T r
  | .cells cs n esz => ∃ l, ι b = some l ∧ l.esz = esz ∧ CellsRel ι w l cs n
  | .map es => ∃ l es' clock, ι b = some l ∧ w.heap[l.blk]? = some (.map es' clock) ∧ ERel ι es es'.toList
  | .dead => True

theorem ORel.loc {P : Program} {ι : Inj} {w : World} {b : Nat} {o : Obj} (h : ORel P ι w b o) (hl : o.live) : ∃ l, ι b = some l := by
  cases o with
  | dead => exact hl.elim
  | cells cs n e => obtain ⟨l, h1, _⟩ := h; exact ⟨l, h1⟩
  | map es => obtain ⟨l, _, _, h1, _⟩ := h; exact ⟨l, h1⟩
  | lrec ps a c T => obtain ⟨l, _, h1, _⟩ := h; exact ⟨l, h1⟩

/-- cells that are read alone -/
def CellsRd (ι : Inj) (w : World) (l : Loc) (cs : PT V) : Prop :=
  ∀ i v, cs.get i = some v → ∃ v', w.cell? ⟨l.blk, l.base + i, none⟩ = some v' ∧ VRel ι v v' ∧ v'.oneCell' = true

/-- what is only read -/
def RdRel (ι : Inj) (w : World) (b : Nat) : Obj → Prop
  | .cells cs n _ => ∃ l, ι b = some l ∧ CellsRd ι w l cs ∧ (0 < n → ∃ c t fr, w.heap[l.blk]? = some (.cells c t fr) ∧ c.size = n)
  | _ => False

theorem RdRel.loc {ι : Inj} {w : World} {b : Nat} {o : Obj} (h : RdRel ι w b o) (_ : o.live) : ∃ l, ι b = some l := by
  cases o with
  | cells cs n e => obtain ⟨l, h1, _⟩ := h; exact ⟨l, h1⟩
  | _ => exact h.elim

theorem RdRel.turn {ι ι' : Inj} {w w' : World} {b : Nat} {o : Obj} (h : RdRel ι w b o) (hm : ∀ b l, ι b = some l → ι' b = some l)
    (hw : ∀ l, ι b = some l → o.live → w'.heap[l.blk]? = w.heap[l.blk]?) : RdRel ι' w' b o := by
  cases o with
  | cells cs n e =>
    obtain ⟨l, h1, h2, h3⟩ := h
    have hk := hw l h1 trivial
    refine ⟨l, hm _ _ h1, fun i v hv => ?_, fun hn => by rw [hk]; exact h3 hn⟩
    obtain ⟨v', g1, g2, g3⟩ := h2 i v hv
    refine ⟨v', ?_, g2.mono hm, g3⟩
    simp only [World.cell?] at g1 ⊢
    rw [hk]; exact g1
  | _ => exact h.elim

structure HRel (G : Program) (X : Nat → Prop) (ι : Inj) (st : St) (w : World) : Prop where
  obj : ∀ b o, st.heap.get b = some o → ORel G ι w b o
  dom : ∀ b l, ι b = some l → (b < st.next ∨ X b) ∧ l.blk < w.heap.size
  live : ∀ b o, st.heap.get b = some o → b < st.next
  inj : ∀ b b' l l' o o', st.heap.get b = some o → o.live → st.heap.get b' = some o' → o'.live → ι b = some l → ι b' = some l' → l.blk = l'.blk → b = b'
  glob : ∀ g, g < G.globals.size → ∃ l, ι g = some l ∧ l.blk = g ∧ l.base = 0
  glo : ∀ g o, GT.gt.get g = some o → o.live → RdRel ι w g o ∧ ∀ b o' l l', st.heap.get b = some o' → o'.live → ι b = some l → ι g = some l' → l.blk ≠ l'.blk

/-- how state and world turn -/
structure Stp (ι : Inj) (st : St) (w : World) (ι' : Inj) (st' : St) (w' : World) : Prop where
  ext : ∀ b l, ι b = some l → ι' b = some l
  next : st.next ≤ st'.next
  size : w.heap.size ≤ w'.heap.size
  kept : ∀ B, B < w.heap.size → (∀ b o l, st.heap.get b = some o → o.live → ι b = some l → l.blk ≠ B) → w'.heap[B]? = w.heap[B]?
  new : ∀ b o l, st'.heap.get b = some o → o.live → ι' b = some l → w.heap.size ≤ l.blk ∨ ∃ b0 o0 l0, st.heap.get b0 = some o0 ∧ o0.live ∧ ι b0 = some l0 ∧ l0.blk = l.blk
  ids : ∀ b l, ι' b = some l → ι b = some l ∨ (st.next ≤ b ∧ b < st'.next)
  tape : w'.tape = w.tape
  os : w'.os = w.os
  out : w'.output = w.output

theorem Stp.refl (ι : Inj) (st : St) (w : World) : Stp ι st w ι st w :=
  ⟨fun _ _ h => h, Nat.le_refl _, Nat.le_refl _, fun _ _ _ => rfl, fun b o l h h1 h2 => .inr ⟨b, o, l, h, h1, h2, rfl⟩, fun _ _ h => .inl h, rfl, rfl, rfl⟩

theorem Stp.trans {ι ι1 ι2 : Inj} {st st1 st2 : St} {w w1 w2 : World} (h : Stp ι st w ι1 st1 w1) (h' : Stp ι1 st1 w1 ι2 st2 w2) : Stp ι st w ι2 st2 w2 where
  ext b l hb := h'.ext _ _ (h.ext _ _ hb)
  next := Nat.le_trans h.next h'.next
  size := Nat.le_trans h.size h'.size
  kept B hB hno := by
    rw [h'.kept B (Nat.lt_of_lt_of_le hB h.size) (fun b o l hb hl hi e => ?_), h.kept B hB hno]
    rcases h.new b o l hb hl hi with h1 | ⟨b0, o0, l0, g1, g2, g3, g4⟩
    · omega
    · exact hno b0 o0 l0 g1 g2 g3 (g4.trans e)
  new b o l hb hl hi := by
    rcases h'.new b o l hb hl hi with h1 | ⟨b0, o0, l0, g1, g2, g3, g4⟩
    · exact .inl (Nat.le_trans h.size h1)
    · rcases h.new b0 o0 l0 g1 g2 g3 with h1 | ⟨b1, o1, l1, k1, k2, k3, k4⟩
      · exact .inl (g4 ▸ h1)
      · exact .inr ⟨b1, o1, l1, k1, k2, k3, k4.trans g4⟩
  ids b l hb := by
    rcases h'.ids b l hb with h1 | h1
    · rcases h.ids b l h1 with h2 | h2
      · exact .inl h2
      · exact .inr ⟨h2.1, Nat.lt_of_lt_of_le h2.2 h'.next⟩
    · exact .inr ⟨Nat.le_trans h.next h1.1, h1.2⟩
  tape := h'.tape.trans h.tape
  os := h'.os.trans h.os
  out := h'.out.trans h.out

def upd (ι : Inj) (b : Nat) (l : Loc) : Inj := fun x => if x = b then some l else ι x

theorem upd_same (ι : Inj) (b : Nat) (l : Loc) : upd ι b l b = some l := by simp [upd]

theorem upd_ext {ι : Inj} {b : Nat} {l : Loc} (h : ι b = none) : ∀ x y, ι x = some y → upd ι b l x = some y := by
  intro x y hx
  unfold upd
  split
  · rename_i e; subst e; rw [h] at hx; cases hx
  · exact hx

theorem HRel.fresh {G : Program} {X : Nat → Prop} {ι : Inj} {st : St} {w : World} (h : HRel G X ι st w) (hX : ¬ X st.next) : ι st.next = none := by
  cases hi : ι st.next with
  | none => rfl
  | some l => rcases (h.dom _ _ hi).1 with h1 | h1
              · omega
              · exact absurd h1 hX

theorem heap_push_old (w : World) (x : Go.Obj) {B : Nat} (h : B < w.heap.size) : (w.heap.push x)[B]? = w.heap[B]? := by
  rw [Array.getElem?_push]; split
  · omega
  · rfl

theorem CellsRel.turn {ι ι' : Inj} {w w' : World} {l : Loc} {cs : PT V} {n : Nat} (h : CellsRel ι w l cs n) (hm : ∀ b l, ι b = some l → ι' b = some l)
    (hw : w'.heap[l.blk]? = w.heap[l.blk]?) : CellsRel ι' w' l cs n := by
  obtain ⟨c, e, fr, h1, h2, h3, h4, h5⟩ := h
  exact ⟨c, e, fr, hw.trans h1, h2, h3, h4, fun i v hv => by
    obtain ⟨g1, v', g2, g3, g4⟩ := h5 i v hv
    exact ⟨g1, v', g2, g3.mono hm, g4⟩⟩

theorem ORel.turn {G : Program} {ι ι' : Inj} {w w' : World} {b : Nat} {o : Obj} (h : ORel G ι w b o) (hm : ∀ b l, ι b = some l → ι' b = some l)
    (hw : ∀ l, ι b = some l → o.live → w'.heap[l.blk]? = w.heap[l.blk]?) : ORel G ι' w' b o := by
  cases o with
  | dead => trivial
  | cells cs n e =>
    obtain ⟨l, h1, h2, h3⟩ := h
    exact ⟨l, hm _ _ h1, h2, h3.turn hm (hw l h1 trivial)⟩
  | map es =>
    obtain ⟨l, es', ck, h1, h2, h3⟩ := h
    exact ⟨l, es', ck, hm _ _ h1, (hw l h1 trivial).trans h2, h3.mono hm⟩
  | lrec ps a c T =>
    obtain ⟨l, r, h1, h2, h3⟩ := h
    exact ⟨l, r, hm _ _ h1, (hw l h1 trivial).trans h2, h3.mono hm⟩

/-- A new object. -/
theorem HRel.alloc {G : Program} {X : Nat → Prop} {ι : Inj} {st : St} {w w' : World} {o : Obj} {x : Go.Obj} {l : Loc} (h : HRel G X ι st w) (hX : ¬ X st.next)
    (hw : w'.heap = w.heap.push x) (ht : w'.tape = w.tape) (hos : w'.os = w.os) (hout : w'.output = w.output) (hl : l.blk = w.heap.size)
    (ho : ORel G (upd ι st.next l) w' st.next o) :
    HRel G X (upd ι st.next l) (st.alloc o) w' ∧ Stp ι st w (upd ι st.next l) (st.alloc o) w' := by
  have hf := h.fresh hX
  have hext := upd_ext (l := l) hf
  have hsz : w'.heap.size = w.heap.size + 1 := by rw [hw, Array.size_push]
  have hold : ∀ B, B < w.heap.size → w'.heap[B]? = w.heap[B]? := fun B hB => by rw [hw]; exact heap_push_old w x hB
  have hget : ∀ b, (st.alloc o).heap.get b = if st.next = b then some o else st.heap.get b := fun b => by
    show (st.heap.set st.next o).get b = _
    rw [PT.get_set]
  refine ⟨⟨fun b o' hb => ?_, fun b l' hb => ?_, fun b o' hb => ?_, fun b b' l1 l2 o1 o2 h1 h2 h3 h4 h5 h6 h7 => ?_, fun g hg => ?_, fun g o2 hg hlv => ?_⟩,
    ⟨hext, Nat.le_succ _, by omega, fun B hB _ => hold B hB, fun b o' l' h1 h2 h3 => ?_, fun b l' hb => ?_, ht, hos, hout⟩⟩
  · rw [hget] at hb
    split at hb
    · rename_i e; subst e; cases hb; exact ho
    · exact (h.obj b o' hb).turn hext (fun l' hl' _ => hold _ (h.dom _ _ hl').2)
  · unfold upd at hb
    split at hb
    · rename_i e; cases hb; exact ⟨.inl (by rw [e]; exact Nat.lt_succ_self _), by omega⟩
    · obtain ⟨g1, g2⟩ := h.dom b l' hb
      exact ⟨g1.imp (fun g => Nat.lt_succ_of_lt g) id, by omega⟩
  · rw [hget] at hb
    split at hb
    · rename_i e; rw [← e]; exact Nat.lt_succ_self _
    · exact Nat.lt_succ_of_lt (h.live b o' hb)
  · rw [hget] at h1 h3
    unfold upd at h5 h6
    split at h1 <;> split at h3
    · omega
    · rename_i e e'
      rw [if_pos e.symm] at h5
      rw [if_neg (fun x => e' x.symm)] at h6
      cases h5
      have := (h.dom _ _ h6).2
      omega
    · rename_i e e'
      rw [if_neg (fun x => e x.symm)] at h5
      rw [if_pos e'.symm] at h6
      cases h6
      have := (h.dom _ _ h5).2
      omega
    · rename_i e e'
      rw [if_neg (fun x => e x.symm)] at h5
      rw [if_neg (fun x => e' x.symm)] at h6
      exact h.inj b b' l1 l2 o1 o2 h1 h2 h3 h4 h5 h6 h7
  · obtain ⟨l', g1, g2⟩ := h.glob g hg
    exact ⟨l', hext _ _ g1, g2⟩
  · obtain ⟨q1, q2⟩ := h.glo g o2 hg hlv
    obtain ⟨lg, hlg⟩ := q1.loc hlv
    have hlt := (h.dom _ _ hlg).2
    refine ⟨q1.turn hext (fun l' hl' _ => hold _ (h.dom _ _ hl').2), fun b o' l1 l2 h1 h2 h3 h4 => ?_⟩
    have e := hext _ _ hlg
    rw [h4] at e; cases e
    rw [hget] at h1
    unfold upd at h3
    split at h1
    · rename_i e; rw [if_pos e.symm] at h3; cases h3; omega
    · rename_i e; rw [if_neg (fun x => e x.symm)] at h3; exact q2 b o' l1 _ h1 h2 h3 hlg
  · rw [hget] at h1
    unfold upd at h3
    split at h1
    · rename_i e
      rw [if_pos e.symm] at h3
      cases h3
      exact .inl (by omega)
    · rename_i e
      rw [if_neg (fun x => e x.symm)] at h3
      exact .inr ⟨b, o', l', h1, h2, h3, rfl⟩
  · unfold upd at hb
    split at hb
    · rename_i e; exact .inr ⟨by omega, by rw [e]; exact Nat.lt_succ_self _⟩
    · exact .inl hb

/-- An object that is turned in its place. -/
theorem HRel.put {G : Program} {X : Nat → Prop} {ι : Inj} {st : St} {w w' : World} {b : Nat} {o o' : Obj} {l : Loc} (h : HRel G X ι st w)
    (hb : st.heap.get b = some o') (hlv : o'.live) (hι : ι b = some l) (hsz : w'.heap.size = w.heap.size) (hk : ∀ B, B ≠ l.blk → w'.heap[B]? = w.heap[B]?)
    (ht : w'.tape = w.tape) (hos : w'.os = w.os) (hout : w'.output = w.output) (ho : ORel G ι w' b o) :
    HRel G X ι (st.put b o) w' ∧ Stp ι st w ι (st.put b o) w' := by
  have hget : ∀ x, (st.put b o).heap.get x = if b = x then some o else st.heap.get x := fun x => by
    show (st.heap.set b o).get x = _
    rw [PT.get_set]
  refine ⟨⟨fun x o2 hx => ?_, fun x l' hx => ?_, fun x o2 hx => ?_, fun x x' l1 l2 o1 o2 h1 h2 h3 h4 h5 h6 h7 => ?_, h.glob, fun g o2 hg hlv2 => ?_⟩,
    ⟨fun _ _ h => h, Nat.le_refl _, by omega, fun B hB hno => hk B (fun e => hno b o' l hb hlv hι e.symm), fun x o2 l' h1 h2 h3 => ?_, fun _ _ h => .inl h, ht, hos, hout⟩⟩
  · rw [hget] at hx
    split at hx
    · rename_i e; subst e; cases hx; exact ho
    · rename_i e
      refine (h.obj x o2 hx).turn (fun _ _ h => h) (fun l' hl' hl2 => hk _ (fun e2 => e ?_))
      exact (h.inj x b l' l o2 o' hx hl2 hb hlv hl' hι e2).symm
  · obtain ⟨g1, g2⟩ := h.dom x l' hx
    exact ⟨g1, by omega⟩
  · rw [hget] at hx
    split at hx
    · rename_i e; exact e ▸ h.live b o' hb
    · exact h.live x o2 hx
  · rw [hget] at h1 h3
    have g1 : ∃ o, st.heap.get x = some o ∧ o.live := by
      split at h1
      · rename_i e; exact ⟨o', e ▸ hb, hlv⟩
      · exact ⟨o1, h1, h2⟩
    have g3 : ∃ o, st.heap.get x' = some o ∧ o.live := by
      split at h3
      · rename_i e; exact ⟨o', e ▸ hb, hlv⟩
      · exact ⟨o2, h3, h4⟩
    obtain ⟨p1, q1, q2⟩ := g1
    obtain ⟨p3, q3, q4⟩ := g3
    exact h.inj x x' l1 l2 p1 p3 q1 q2 q3 q4 h5 h6 h7
  · obtain ⟨q1, q2⟩ := h.glo g o2 hg hlv2
    refine ⟨q1.turn (fun _ _ h => h) (fun l' hl' _ => hk _ (fun e => q2 b o' l l' hb hlv hι hl' e.symm)), fun x o3 l1 l2 h1 h2 h3 h4 => ?_⟩
    rw [hget] at h1
    split at h1
    · rename_i e; subst e; rw [hι] at h3; cases h3; exact q2 _ o' _ l2 hb hlv hι h4
    · exact q2 x o3 l1 l2 h1 h2 h3 h4
  · rw [hget] at h1
    split at h1
    · rename_i e; exact .inr ⟨b, o', l, hb, hlv, hι, by subst e; rw [hι] at h3; cases h3; rfl⟩
    · exact .inr ⟨x, o2, l', h1, h2, h3, rfl⟩

/-- An object that dies. -/
theorem HRel.kill {G : Program} {X : Nat → Prop} {ι : Inj} {st : St} {w : World} {b : Nat} {o' : Obj} (h : HRel G X ι st w) (hb : st.heap.get b = some o') :
    HRel G X ι (st.put b .dead) w := by
  have hget : ∀ x, (st.put b .dead).heap.get x = if b = x then some .dead else st.heap.get x := fun x => by
    show (st.heap.set b .dead).get x = _
    rw [PT.get_set]
  refine ⟨fun x o2 hx => ?_, h.dom, fun x o2 hx => ?_, fun x x' l1 l2 o1 o2 h1 h2 h3 h4 h5 h6 h7 => ?_, h.glob, fun g o2 hg hlv2 => ⟨(h.glo g o2 hg hlv2).1, fun x o3 l1 l2 h1 h2 h3 h4 => ?_⟩⟩
  · rw [hget] at hx
    split at hx
    · cases hx; trivial
    · exact h.obj x o2 hx
  · rw [hget] at hx
    split at hx
    · rename_i e; exact e ▸ h.live b o' hb
    · exact h.live x o2 hx
  · rw [hget] at h1 h3
    split at h1
    · cases h1; exact h2.elim
    · split at h3
      · cases h3; exact h4.elim
      · exact h.inj x x' l1 l2 o1 o2 h1 h2 h3 h4 h5 h6 h7
  · rw [hget] at h1
    split at h1
    · cases h1; exact h2.elim
    · exact (h.glo g o2 hg hlv2).2 x o3 l1 l2 h1 h2 h3 h4

end Go.Am
