/-
Steps of a run, one by one: for runs whose state is not known.
-/
import Derived.Test.YtdofpjabgnfglaaGreatDoorAm35
set_option linter.unusedVariables false
set_option linter.unusedSectionVars false
namespace Go.Am
open Go
variable [GT]

section
variable {cp : CP} {E : Ext} {n : Nat} {T T1 : Tm} {st st1 : St} {r : RS} {a b : CC}

theorem seq_to (h1 : run cp E n a T st = some (.norm, T1, st1)) (h2 : run cp E n b T1 st1 = r) : run cp E (n + 1) (.seq a b) T st = r := by
  show thn (run cp E n a T st) (fun T st => run cp E n b T st) = r
  rw [h1]; exact h2
theorem reg_to {its : List It} (h : itsV (callW cp E (run cp E n)) its T st = some (T1, st1)) : run cp E (n + 1) (.reg its) T st = some (.norm, T1, st1) := by
  show norm (itsV (callW cp E (run cp E n)) its T st) = _
  rw [h]; rfl
theorem dreg_to {its : List DIt} {S : List St} (h : runD (callW cp E (run cp E n)) its T st st [st] = some (T1, st1, S)) (hc : chkD (callW cp E (run cp E n)) T1 S its = true) : run cp E (n + 1) (.dreg its) T st = some (.norm, T1, st1) := by
  show norm (dregV (callW cp E (run cp E n)) its T st) = _
  have : dregV (callW cp E (run cp E n)) its T st = some (T1, st1) := by
    show ob (runD _ its T st st [st]) _ = _
    rw [h]
    show whn (chkD _ T1 S its) _ = _
    rw [hc]; rfl
  rw [this]; rfl
theorem cond_true {c : Opd} (hc : ev T c = some (.bool true)) (h : run cp E n a T st = r) : run cp E (n + 1) (.cond c a b) T st = r := by
  show cnd (ev T c) (run cp E n a T st) (run cp E n b T st) = r
  rw [hc]; exact h
theorem cond_false {c : Opd} (hc : ev T c = some (.bool false)) (h : run cp E n b T st = r) : run cp E (n + 1) (.cond c a b) T st = r := by
  show cnd (ev T c) (run cp E n a T st) (run cp E n b T st) = r
  rw [hc]; exact h
theorem skip_to : run cp E (n + 1) .skip T st = some (.norm, T, st) := rfl
theorem ret_to : run cp E (n + 1) .ret T st = some (.ret, T, st) := rfl
theorem its_nil {call : CallF} : itsV call [] T st = some (T, st) := rfl
theorem its_to {call : CallF} {d : Option Nat} {o : COp} {its : List It} {v : V} {r : TS} (h1 : opV call T o st = some (v, st1)) (h2 : itsV call its (putT T d v) st1 = r) : itsV call (⟨d, none, o⟩ :: its) T st = r := by
  show ob (some true) (fun b => sel b (ob (opV call T o st) fun r => itsV call its (putT T d r.1) r.2) (itsV call its (putT T d undefV) st)) = r
  show ob (opV call T o st) (fun r => itsV call its (putT T d r.1) r.2) = r
  rw [h1]; exact h2

theorem runD_nil {call : CallF} {S : List St} {base : St} : runD call [] T base st S = some (T, st, S) := rfl
theorem pur_to {call : CallF} {d : Option Nat} {o : COp} {its : List DIt} {v : V} {base st2 : St} {S : List St} {r : Option (Tm × St × List St)} (h1 : opV call T o base = some (v, st2)) (h2 : runD call its (putT T d v) base st S = r) :
    runD call (⟨⟨d, none, o⟩, .pur⟩ :: its) T base st S = r := by
  show ob (opV call T o base) (fun r => runD call its (putT T d r.1) base st S) = r
  rw [h1]; exact h2
theorem ld_to {call : CallF} {d : Option Nat} {o : COp} {its : List DIt} {v : V} {base st2 : St} {S : List St} {c : List Nat} {r : Option (Tm × St × List St)} (h1 : opV call T o base = some (v, st2)) (h2 : runD call its (putT T d v) base st S = r) :
    runD call (⟨⟨d, none, o⟩, .ld c⟩ :: its) T base st S = r := by
  show ob (opV call T o base) (fun r => runD call its (putT T d r.1) base st S) = r
  rw [h1]; exact h2
theorem eff_to {call : CallF} {d : Option Nat} {o : COp} {its : List DIt} {v : V} {base st2 : St} {S : List St} {r : Option (Tm × St × List St)} (h1 : opV call T o st = some (v, st2)) (h2 : runD call its (putT T d v) st2 st2 (st2 :: S) = r) :
    runD call (⟨⟨d, none, o⟩, .eff⟩ :: its) T base st S = r := by
  show ob (opV call T o st) (fun r => runD call its (putT T d r.1) r.2 r.2 (r.2 :: S)) = r
  rw [h1]; exact h2
end

theorem call_to {cp : CP} {E : Ext} {rec : RunF} {T : Tm} {st st1 : St} {f : Opd} {args : List Opd} {g : Nat} {l : List V} {v : V} {h : List V → St → R} (hf : ev T f = some (.fn g [])) (hl : evs T args = some l) (hg : g < YN) (hE : E g = some h)
    (hr : h l st = some (v, st1)) : opV (callW cp E rec) T (.call f args) st = some (v, st1) := by
  show ob (ev T f) (fun f => ob (evs T args) fun l => ob (asFn f) fun p => callW cp E rec p.1 (appL l p.2) st) = _
  rw [hf, hl]
  show ob (whn (Nat.blt g YN) (some (g, []))) (fun p => callW cp E rec p.1 (appL l p.2) st) = _
  have e1 : Nat.blt g YN = true := by rw [Nat.blt_eq]; exact hg
  have e2 : Nat.ble YN g = false := by
    cases h : Nat.ble YN g with
    | false => rfl
    | true => have := Nat.le_of_ble_eq_true h; omega
  rw [e1]
  show callW cp E rec g (appL l []) st = _
  have e3 : appL l [] = l := by rw [appL_eq, List.append_nil]
  rw [e3]
  show sel (Nat.ble YN g) _ (oc (E g) _ fun g => g l st) = _
  rw [e2, hE]
  exact hr

/-! ### What is known of a state -/

theorem getC_alloc {st : St} {o : Obj} {b : Nat} (h : b ≠ st.next) : getCells (st.alloc o) b = getCells st b := by
  unfold getCells
  rw [show (st.alloc o).heap.get b = if st.next = b then some o else st.heap.get b from PT.get_set _ _ _ _, if_neg (fun e => h e.symm)]
theorem getC_new {st : St} {cs : PT V} {n e : Nat} : getCells (st.alloc (.cells cs n e)) st.next = some (cs, n, e) := by
  unfold getCells
  rw [show (st.alloc (.cells cs n e)).heap.get st.next = if st.next = st.next then some (.cells cs n e) else st.heap.get st.next from PT.get_set _ _ _ _, if_pos rfl]
  rfl
theorem getC_put {st : St} {o : Obj} {b c : Nat} (h : b ≠ c) : getCells (st.put c o) b = getCells st b := by
  unfold getCells
  rw [show (st.put c o).heap.get b = if c = b then some o else st.heap.get b from PT.get_set _ _ _ _, if_neg (fun e => h e.symm)]
theorem getC_same {st : St} {cs : PT V} {n e c : Nat} : getCells (st.put c (.cells cs n e)) c = some (cs, n, e) := by
  unfold getCells
  rw [show (st.put c (.cells cs n e)).heap.get c = if c = c then some (.cells cs n e) else st.heap.get c from PT.get_set _ _ _ _, if_pos rfl]
  rfl

theorem sl_to {T : Tm} {st : St} {s b o n c : Nat} {ex : Bool} {cs : PT V} {N l h : Nat} {lo hi : Option Opd} (hb : getCells st b = some (cs, N, s)) (hl : bnd T 0 lo = some l) (hh : bnd T n hi = some h) (h1 : l ≤ h) (h2 : h ≤ c) :
    opSl T s (some (.slice b o n c ex)) lo hi none st = some (.slice b (o + l * s) (h - l) (c - l) ex, st) := by
  show ob (getCells st b) (fun q => whn (Nat.beq q.2.2 s) (ob (bnd T 0 lo) fun l => ob (bnd T n hi) fun h => whn (Nat.ble l h) (whn (Nat.ble h c) (some (V.slice b (Nat.add o (Nat.mul l s)) (Nat.sub h l) (Nat.sub c l) ex, st))))) = _
  rw [hb, hl, hh]
  show whn (Nat.beq s s) (whn (Nat.ble l h) (whn (Nat.ble h c) _)) = _
  rw [Nat.beq_refl, Nat.ble_eq_true_of_le h1, Nat.ble_eq_true_of_le h2]; rfl

theorem cpy_to {st : St} {s b o n c b2 o2 n2 c2 : Nat} {ex ex2 : Bool} {cs cs2 : PT V} {N N2 k : Nat} {l : List V} (hb : getCells st b = some (cs, N, s)) (hb2 : getCells st b2 = some (cs2, N2, s)) (hk : Nat.min n n2 = k)
    (hl : loadN cs2 (Nat.mul k s) o2 = some l) (h1 : o + n * s ≤ N) :
    opCpy s (some (.slice b o n c ex)) (some (.slice b2 o2 n2 c2 ex2)) st = some (.int .i64 (.ofNat (Nat.min k n)), st.put b (.cells (storeN (takeL (Nat.mul (Nat.min k n) s) l) cs o) N s)) := by
  show ob (ob (getCells st b2) fun q => ob (loadN q.1 (Nat.mul (Nat.min n n2) s) o2) fun l => some (l, Nat.min n n2)) (fun p => ob (getCells st b) fun q => whn (Nat.beq q.2.2 s) (whn (Nat.ble (Nat.add o (Nat.mul n s)) q.2.1) _)) = _
  rw [hb2]
  show ob (ob (loadN cs2 (Nat.mul (Nat.min n n2) s) o2) fun l => some (l, Nat.min n n2)) _ = _
  rw [hk, hl, hb]
  show whn (Nat.beq s s) (whn (Nat.ble (Nat.add o (Nat.mul n s)) N) _) = _
  rw [Nat.beq_refl, show Nat.ble (Nat.add o (Nat.mul n s)) N = true from Nat.ble_eq_true_of_le h1]; rfl

theorem cap_to {st : St} {b o n c : Nat} : opCap (some (.slice b o n c true)) st = some (.int .i64 (.ofNat c), st) := rfl

theorem appz_to {st : St} {z : List V} {s bytes b o n c m : Nat} {cs : PT V} {N : Nat} (hb : getCells st b = some (cs, N, s)) (hn : n = 0) (hm : m < big) (hmb : m * bytes < big) (hc : c < n + m) (hN : Nat.beq N 0 = false) :
    opAppz z s bytes (some (.slice b o n c true)) (some (.int .i64 (.ofNat m))) st = some (.slice st.next 0 (Nat.add n m) (Nat.add n m) false, st.alloc (.cells (storeN (repV z m) (rowOf []) 0) (Nat.mul (Nat.add n m) s) s)) := by
  subst hn
  show whn (Nat.blt m big) (whn (Nat.blt (Nat.mul m bytes) big) (appS s bytes b o 0 c true (repV z m) m st)) = _
  have e1 : Nat.blt m big = true := by rw [Nat.blt_eq]; exact hm
  have e2 : Nat.blt (Nat.mul m bytes) big = true := by rw [Nat.blt_eq]; exact hmb
  have e3 : Nat.add 0 m = m := Nat.zero_add m
  have e4 : Nat.mul 0 s = 0 := Nat.zero_mul s
  rw [e1, e2]
  show appS s bytes b o 0 c true (repV z m) m st = _
  unfold appS
  rw [hb]
  show whn (Nat.beq s s) (sel (Nat.ble (Nat.add 0 m) c) _ (whn (Nat.blt (Nat.add 0 m) big) (whn (Nat.blt (Nat.mul (Nat.add 0 m) bytes) big) (sel (sel (Nat.beq o 0) (Nat.beq N (Nat.mul 0 s)) false) _ (ob (loadN cs (Nat.mul 0 s) o) _))))) = _
  rw [Nat.beq_refl, e3, e4, hN, e1, e2]
  have e5 : Nat.ble m c = false := by
    cases h : Nat.ble m c with
    | false => rfl
    | true => have := Nat.le_of_ble_eq_true h; omega
  rw [e5]
  have e6 : sel (Nat.beq o 0) false false = false := by cases Nat.beq o 0 <;> rfl
  rw [e6]
  show appR s b o 0 m true (rowOf []) (repV z m) st = _
  unfold appR
  rw [e3, e4]; rfl

end Go.Am
