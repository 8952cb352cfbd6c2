/-
One element put ahead of the one that is there: what the library's text does, where there is no room and where there is.
-/
import Derived.Test.YtdofpjabgnfglaaGreatDoorAm36
import Derived.Test.YtdofpjabgnfglaaGreatDoorTab
set_option maxRecDepth 100000
set_option linter.unusedVariables false
namespace Go.Proofs.YtdofpjabgnfglaaGreatDoor
open Go Go.Am
variable [GT]

theorem seq_ret {cp : CP} {E : Ext} {n : Nat} {T T1 : Tm} {st st1 : St} {a b : CC} (h1 : run cp E n a T st = some (.ret, T1, st1)) : run cp E (n + 1) (.seq a b) T st = some (.ret, T1, st1) := by
  show thn (run cp E n a T st) (fun T st => run cp E n b T st) = _
  rw [h1]; rfl

variable {cp : CP} {E : Ext} {n : Nat} {st : St} {b o b2 o2 c2 : Nat} {ex2 : Bool} {cs cs2 : PT V} {N N2 : Nat} {xs ys : List V}

/-- the row of two that stand empty -/
noncomputable def zz : PT V := storeN (repV [.int .i64 0, .str 0 [], .str 0 [], .str 0 [], .str 0 [], .snil, .snil] 2) (rowOf []) 0

theorem insA (hb : getCells st b = some (cs, N, 7)) (hN : Nat.beq N 0 = false) (hb2 : getCells st b2 = some (cs2, N2, 7)) (hnb : b ≠ st.next) (hnb2 : b2 ≠ st.next)
    (hx : loadN cs 7 o = some xs) (hy : loadN cs2 7 o2 = some ys) :
    ∃ T' st', run cp E (n + 15) c51.body (initT [.slice b o 1 1 true, .int .i64 0, .slice b2 o2 1 c2 ex2] 0 .nil) st = some (.ret, T', st') ∧
      T'.get 6 = some (.slice st.next 0 2 2 false) ∧
      st' = ((st.alloc (.cells zz 14 7)).put st.next (.cells (storeN (takeL 7 ys) zz 0) 14 7)).put st.next (.cells (storeN (takeL 7 xs) (storeN (takeL 7 ys) zz 0) 7) 14 7) := by
  have H : run cp E (n + 15) c51.body (initT [.slice b o 1 1 true, .int .i64 0, .slice b2 o2 1 c2 ex2] 0 .nil) st = some (.ret, _, _) := (seq_to (reg_to (its_to (by rfl) its_nil)) (seq_to (reg_to (its_to (by rfl) (its_to (by rfl) (its_to (by exact sl_to (hb) rfl rfl (by first | decide | omega) (by first | decide | omega)) its_nil)))) (seq_to (reg_to (its_to (by rfl) (its_to (by rfl) (its_to (by rfl) its_nil)))) (seq_to (seq_to (reg_to (its_to (by rfl) (its_to (by rfl) its_nil))) (cond_false (by rfl) skip_to)) (seq_to (reg_to (its_to (by rfl) (its_to (by rfl) (its_to (by rfl) its_nil)))) (seq_to (seq_to (reg_to (its_to (by rfl) (its_to (by rfl) (its_to (by rfl) its_nil)))) (cond_false (by rfl) skip_to)) (seq_ret (seq_to (reg_to (its_to (by rfl) (its_to (by rfl) (its_to (by rfl) (its_to (by rfl) (its_to (by rfl) (its_to (by rfl) its_nil))))))) (cond_true (by rfl) (seq_to (reg_to (its_to (by rfl) (its_to (by rfl) (its_to (by exact sl_to (hb) rfl rfl (by first | decide | omega) (by first | decide | omega)) (its_to (by rfl) (its_to (by rfl) (its_to (by rfl) (its_to (by rfl) (its_to (by rfl) (its_to (by exact appz_to hb rfl (by decide) (by decide) (by decide) hN) (its_to (by rfl) its_nil))))))))))) (seq_to (reg_to (its_to (by rfl) (its_to (by rfl) (its_to (by exact sl_to (getC_new) rfl rfl (by first | decide | omega) (by first | decide | omega)) (its_to (by rfl) (its_to (by exact cpy_to getC_new ((getC_alloc hnb2).trans hb2) (k := 1) rfl hy (by decide)) its_nil)))))) (seq_to (dreg_to (pur_to (by rfl) (pur_to (by rfl) (pur_to (by rfl) (pur_to (by rfl) (ld_to (by exact sl_to (getC_same) rfl rfl (by first | decide | omega) (by first | decide | omega)) (pur_to (by rfl) (pur_to (by rfl) (ld_to (by exact sl_to ((getC_put hnb).trans ((getC_alloc hnb).trans hb)) rfl rfl (by first | decide | omega) (by first | decide | omega)) (eff_to (by exact cpy_to getC_same ((getC_put hnb).trans ((getC_alloc hnb).trans hb)) (k := 1) rfl hx (by decide)) (runD_nil)))))))))) (by rfl)) (seq_to (reg_to (its_to (by rfl) (its_to (by rfl) its_nil))) ret_to)))))))))))))
  exact ⟨_, _, H, by kernel_rfl, by kernel_rfl⟩

theorem insB {k : Nat} (hb : getCells st b = some (cs, N, 7)) (hb2 : getCells st b2 = some (cs2, N2, 7)) (hne : b2 ≠ b)
    (hx : loadN cs 7 o = some xs) (hy : loadN cs2 7 o2 = some ys) (hcap : 2 ≤ k + 2) (hsz1 : o + 1 * 7 + 1 * 7 ≤ N) (hsz2 : o + 0 * 7 + 2 * 7 ≤ N)
    (hgt : intLt (Int.ofNat (k + 2)) (wrapF .i64 ((Int.ofNat 1).add (Int.ofNat 1))) = false)
    {g : List V → St → R} (hE : E 116 = some g) (hov : g [.slice b2 o2 1 c2 ex2, .slice b (o + 1 * 7) (2 - 1) (k + 2 - 0 - 1) true] st = some (.bool false, st)) :
    ∃ T' st', run cp E (n + 15) c51.body (initT [.slice b o 1 (k + 2) true, .int .i64 0, .slice b2 o2 1 c2 ex2] 0 .nil) st = some (.ret, T', st') ∧
      T'.get 6 = some (.slice b (o + 0 * 7) 2 (k + 2) true) ∧
      st' = (st.put b (.cells (storeN (takeL 7 xs) cs (o + 1 * 7)) N 7)).put b (.cells (storeN (takeL 7 ys) (storeN (takeL 7 xs) cs (o + 1 * 7)) (o + 0 * 7)) N 7) := by
  have H : run cp E (n + 15) c51.body (initT [.slice b o 1 (k + 2) true, .int .i64 0, .slice b2 o2 1 c2 ex2] 0 .nil) st = some (.ret, _, _) := (seq_to (reg_to (its_to (by rfl) its_nil)) (seq_to (reg_to (its_to (by rfl) (its_to (by rfl) (its_to (by exact sl_to (hb) rfl rfl (by first | decide | omega) (by first | decide | omega)) its_nil)))) (seq_to (reg_to (its_to (by rfl) (its_to (by rfl) (its_to (by rfl) its_nil)))) (seq_to (seq_to (reg_to (its_to (by rfl) (its_to (by rfl) its_nil))) (cond_false (by rfl) skip_to)) (seq_to (reg_to (its_to (by rfl) (its_to (by rfl) (its_to (by rfl) its_nil)))) (seq_to (seq_to (reg_to (its_to (by rfl) (its_to (by rfl) (its_to (by rfl) its_nil)))) (cond_false (by rfl) skip_to)) (seq_to (seq_to (reg_to (its_to (by rfl) (its_to (by rfl) (its_to (by rfl) (its_to (by rfl) (its_to (by rfl) (its_to (by rfl) its_nil))))))) (cond_false (by exact congrArg (fun b => some (V.bool b)) hgt) skip_to)) (seq_to (reg_to (its_to (by rfl) (its_to (by rfl) (its_to (by rfl) (its_to (by rfl) (its_to (by exact sl_to (hb) rfl rfl (by first | decide | omega) (by first | decide | omega)) (its_to (by rfl) its_nil))))))) (seq_ret (seq_to (reg_to (its_to (by rfl) (its_to (by rfl) (its_to (by rfl) (its_to (by rfl) (its_to (by rfl) (its_to (by exact sl_to (hb) rfl rfl (by first | decide | omega) (by first | decide | omega)) (its_to (by exact call_to rfl rfl (by decide) hE hov) (its_to (by rfl) its_nil))))))))) (cond_true (by rfl) (seq_to (dreg_to (pur_to (by rfl) (pur_to (by rfl) (pur_to (by rfl) (pur_to (by rfl) (ld_to (by exact sl_to (hb) rfl rfl (by first | decide | omega) (by first | decide | omega)) (pur_to (by rfl) (pur_to (by rfl) (ld_to (by exact sl_to (hb) rfl rfl (by first | decide | omega) (by first | decide | omega)) (eff_to (by exact cpy_to hb hb (k := 1) rfl hx hsz1) (runD_nil)))))))))) (by rfl)) (seq_to (reg_to (its_to (by rfl) (its_to (by rfl) (its_to (by exact sl_to (getC_same) rfl rfl (by first | decide | omega) (by first | decide | omega)) (its_to (by rfl) (its_to (by exact cpy_to getC_same ((getC_put hne).trans hb2) (k := 1) rfl hy hsz2) its_nil)))))) (seq_to (reg_to (its_to (by rfl) (its_to (by rfl) its_nil))) ret_to))))))))))))))
  exact ⟨_, _, H, by kernel_rfl, by kernel_rfl⟩
end Go.Proofs.YtdofpjabgnfglaaGreatDoor
