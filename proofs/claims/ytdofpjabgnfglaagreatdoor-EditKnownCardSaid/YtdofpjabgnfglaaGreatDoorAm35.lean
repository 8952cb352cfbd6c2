/-
Answers that are given from outside, further: numbers as text, texts joined, a text cloned, one element put ahead of one.
-/
import Derived.Test.YtdofpjabgnfglaaGreatDoorAm33
import Derived.Lib.ItoaNum
set_option linter.unusedVariables false
set_option linter.unusedSectionVars false
namespace Go.Am
open Go
variable [GT]

/-- the digits of a number -/
noncomputable def decL (f : Nat) : Nat → List Nat → List Nat :=
  Nat.rec (motive := fun _ => Nat → List Nat → List Nat) (fun _ acc => acc)
    (fun _ ih n acc => sel (Nat.blt n (nat_lit 10)) (Nat.add (nat_lit 48) n :: acc) (ih (Nat.div n (nat_lit 10)) (Nat.add (nat_lit 48) (Nat.mod n (nat_lit 10)) :: acc))) f

noncomputable def itoaV (n : Int) : List Nat := Int.rec (fun n => decL (nat_lit 20) n []) (fun m => (nat_lit 45) :: decL (nat_lit 20) (Nat.succ m) []) n

noncomputable def strOf (l : List Nat) : V := .str (lenL l) l

def fitsI (n : Int) : Bool := decide (-9223372036854775808 ≤ n) && decide (n ≤ 9223372036854775807)

noncomputable def eIto : List V → St → R := fun l st =>
  match l with
  | [.int .i64 n] => whn (fitsI n) (some (strOf (itoaV n), st))
  | _ => none

/-- a text that is cloned -/
noncomputable def eCln : List V → St → R := fun l st =>
  match l with
  | [.str n s] => whn (Nat.blt (nat_lit 0) n) <| whn (Nat.blt n (nat_lit 1000000)) (some (.str n s, st))
  | _ => none

/-- all are texts -/
noncomputable def strsV (l : List V) : Option (List (List Nat)) :=
  List.rec (some []) (fun v _ ih => ob (asStr v) fun p => ob ih fun l => some (p.2 :: l)) l

noncomputable def joinV (sep : List Nat) (l : List (List Nat)) : List Nat :=
  List.rec [] (fun x t _ => appL x (List.rec [] (fun y _ ih => appL sep (appL y ih)) t)) l

noncomputable def eJoi : List V → St → R := fun l st =>
  match l with
  | [.slice b o n _ _, .str m sep] => whn (Nat.beq m (nat_lit 1)) <| ob (getCells st b) fun q => whn (Nat.beq q.2.2 (nat_lit 1)) <| ob (loadN q.1 n o) fun l => ob (strsV l) fun l =>
      whn (Nat.ble (nat_lit 2) n) <| whn (Nat.blt n (nat_lit 1000000)) <| whn (Nat.blt (lenL (joinV sep l)) (nat_lit 1000000)) (some (strOf (joinV sep l), st))
  | _ => none

/-- one element put ahead of the one that is there -/
noncomputable def eIns (s : Nat) : List V → St → R := fun l st =>
  match l with
  | [.slice b o n c ex, .int .i64 i, .slice b2 o2 m _ _] =>
    whn (Nat.beq n (nat_lit 1)) <| whn (Nat.beq m (nat_lit 1)) <| ob (getCells st b) fun q => ob (getCells st b2) fun q2 => whn (Nat.beq q.2.2 s) <| whn (Nat.beq q2.2.2 s) <|
    whn (Bool.not (Nat.beq b b2)) <| ob (loadN q.1 s o) fun xs => ob (loadN q2.1 s o2) fun ys =>
      sel (intEq i (.ofNat (nat_lit 0)))
        (some (.slice st.next (nat_lit 0) (nat_lit 2) (nat_lit 2) false, (st.put b .dead).alloc (.cells (rowOf (appL ys xs)) (Nat.mul (nat_lit 2) s) s)))
        none
  | _ => none

/-! ### Numbers -/

theorem decL_eq : ∀ (f n : Nat) (acc : List Nat), n < 10 ^ f → 0 < f → decL f n acc = (Lib.decDigits n).map UInt8.toNat ++ acc
  | 0, _, _, _, h => by omega
  | f + 1, n, acc, h, _ => by
    have e : decL (f + 1) n acc = sel (Nat.blt n 10) ((48 + n) :: acc) (decL f (n / 10) ((48 + n % 10) :: acc)) := rfl
    rw [e, sel_eq, Lib.decDigits]
    by_cases hn : n < 10
    · have h1 : Nat.blt n 10 = true := by rw [Nat.blt_eq]; exact hn
      rw [if_pos h1, dif_pos hn]
      simp; omega
    · have h1 : ¬ Nat.blt n 10 = true := by rw [Nat.blt_eq]; exact hn
      rw [if_neg h1, dif_neg hn]
      have h2 : n / 10 < 10 ^ f := by rw [Nat.pow_succ] at h; omega
      have h3 : 0 < f := by
        cases f with
        | zero => simp at h; omega
        | succ f => omega
      rw [decL_eq f (n / 10) _ h2 h3]
      simp; omega

theorem itoaV_eq (n : Int) (h : fitsI n = true) : itoaV n = (Lib.itoa n).map UInt8.toNat := by
  simp only [fitsI, Bool.and_eq_true, decide_eq_true_eq] at h
  unfold Lib.itoa
  cases n with
  | ofNat n =>
    have h1 : ¬ (Int.ofNat n < 0) := by simp
    rw [if_neg h1]
    show decL 20 n [] = _
    have h2 : (Int.ofNat n) ≤ 9223372036854775807 := h.2
    have h3 : n < 10 ^ 20 := by
      have : (n : Int) ≤ 9223372036854775807 := h2
      omega
    rw [decL_eq 20 n [] h3 (by omega)]
    simp
  | negSucc m =>
    have h1 : Int.negSucc m < 0 := Int.negSucc_lt_zero m
    rw [if_pos h1]
    show 45 :: decL 20 (m + 1) [] = _
    have h3 : m + 1 < 10 ^ 20 := by
      have := h.1
      omega
    rw [decL_eq 20 (m + 1) [] h3 (by omega)]
    simp [Int.natAbs]

theorem strOf_rel {ι : Inj} (l : List UInt8) : VRel ι (strOf (l.map UInt8.toNat)) (.string ⟨l.toArray⟩) :=
  .str _ _ _ (by rw [lenL_eq]; simp [ByteArray.size]) (by simp)

end Go.Am
