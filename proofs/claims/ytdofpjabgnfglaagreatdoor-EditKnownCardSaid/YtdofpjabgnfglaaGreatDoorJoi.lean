/-
Texts that are joined by a separator of one byte.
-/
import Derived.Test.YtdofpjabgnfglaaGreatDoorShelf
import Derived.Lib.Hide
import Derived.Lib.Builder
import Derived.WalkKit
import Derived.ProofKit
set_option maxRecDepth 100000
set_option linter.unusedVariables false
set_option linter.unusedSimpArgs false
namespace Go.Proofs.YtdofpjabgnfglaaGreatDoor
open Go Go.RowKit

/-- how long so many of the texts are together -/
def szs (xs : List ByteArray) (k : Nat) : Nat := ((xs.take k).map ByteArray.size).sum

theorem szs_succ {xs : List ByteArray} {k : Nat} {x : ByteArray} (h : xs[k]? = some x) : szs xs (k + 1) = szs xs k + x.size := by
  unfold szs
  obtain ⟨h1, h2⟩ := List.getElem?_eq_some_iff.1 h
  rw [List.take_succ_eq_append_getElem h1, h2]
  simp

theorem szs_le (xs : List ByteArray) (k : Nat) : szs xs k ≤ szs xs xs.length := by
  unfold szs
  rw [List.take_length]
  conv => rhs; rw [← List.take_append_drop k xs]
  rw [List.map_append, List.sum_append]
  omega

theorem grow_at (B b n : Nat) (w : World) (hBb : B ≤ b) (hb : w.heap[b]? = some (.cells #[.pointer none, .slice none 0 0] 139 (0, 0))) (hBw : B ≤ w.heap.size) (hn : n < 10000000) :
    Calls Tryz.prog 82 #[.pointer (some ⟨b, 0, none⟩), .int .i64 n] w fun e w' => e = .returned (.tuple #[]) ∧ (Lib.BuilderAt 139 5 B b (.pointer (some ⟨b, 0, none⟩)) [] w' ∧ Below B w w') :=
  Any.Builder_Grow_fresh { Tryz.lays156 with } Tryz.Builder_Extra_156 B b n w hBb hb hBw (by omega)

theorem put_at (B b : Nat) (bs : List Value) (s : ByteArray) (w : World) (h : Lib.IsBuilder 139 5 B b bs w) (hlen : bs.length + s.size < 10000000) (hBw : B ≤ w.heap.size) :
    Calls Tryz.prog 83 #[.pointer (some ⟨b, 0, none⟩), .string s] w fun e w' => e = .returned (.tuple #[.int .i64 s.size, .nilIface]) ∧ (Lib.BuilderAt 139 5 B b (.pointer (some ⟨b, 0, none⟩)) (bs ++ Lib.strCells s) w' ∧ Below B w w') :=
  Any.Builder_WriteString { Tryz.lays156 with } Tryz.Builder_Extra_156 B b bs s w h (by omega) hBw

theorem told_at (B b : Nat) (l : List UInt8) (w : World) (h : Lib.IsBuilder 139 5 B b (Lib.byteCells l) w) (hBw : B ≤ w.heap.size) :
    Calls Tryz.prog 84 #[.pointer (some ⟨b, 0, none⟩)] w fun e w' => e = .returned (.string ⟨l.toArray⟩) ∧ Below B w w' :=
  Any.Builder_String_any { Tryz.lays156 with } Tryz.Builder_Extra_156 B b l w h hBw

/-- what the builder holds behind so many rounds -/
def held (sep x0 : List UInt8) (r : List ByteArray) (k : Nat) : List UInt8 := x0 ++ (r.take k).flatMap fun x => sep ++ x.data.toList

theorem held_succ (sep x0 : ByteArray) (r : List ByteArray) {k : Nat} {y : ByteArray} (hy : r[k]? = some y) :
    Lib.byteCells (held sep.data.toList x0.data.toList r k) ++ Lib.strCells sep ++ Lib.strCells y = Lib.byteCells (held sep.data.toList x0.data.toList r (k + 1)) := by
  obtain ⟨h1, h2⟩ := List.getElem?_eq_some_iff.1 hy
  unfold held
  rw [List.take_succ_eq_append_getElem h1, h2, List.flatMap_append, Lib.strCells_eq, Lib.strCells_eq, ← Lib.byteCells_append, ← Lib.byteCells_append]
  simp [List.append_assoc]

theorem held_len (sep : List UInt8) (x0 : ByteArray) (r : List ByteArray) (k : Nat) (hs : sep.length = 1) (hk : k ≤ r.length) : (held sep x0.data.toList r k).length = k + szs (x0 :: r) (k + 1) := by
  unfold held szs
  induction k with
  | zero => simp
  | succ k ih =>
    have ih := ih (by omega)
    have h1 : k < r.length := by omega
    simp only [List.take_succ_cons, List.map_cons, List.sum_cons, List.length_append] at ih ⊢
    rw [List.take_succ_eq_append_getElem h1, List.flatMap_append, List.map_append, List.sum_append, List.length_append]
    simp only [List.flatMap_cons, List.flatMap_nil, List.append_nil, List.map_cons, List.map_nil, List.sum_cons, List.sum_nil, List.length_append, hs]
    have := Lib.size_eq r[k]
    omega

theorem join_calls (bk o c : Nat) (x0 : ByteArray) (r : List ByteArray) (sep : ByteArray) (w : World) (hc : ∀ (j : Nat) x, (x0 :: r)[j]? = some x → w.cell? ⟨bk, o + j, none⟩ = some (.string x)) (hbk : bk < w.heap.size)
    (hsep : sep.size = 1) (h1 : 1 ≤ r.length) (hN : r.length < 1000000) (hcap : r.length + 1 ≤ c) (hlen : szs (x0 :: r) (x0 :: r).length < 1000000) :
    Calls Tryz.prog 36 #[.slice (some ⟨bk, o, none⟩) (r.length + 1) c, .string sep] w fun e w' => e = .returned (.string ⟨(held sep.data.toList x0.data.toList r r.length).toArray⟩) ∧ Below w.heap.size w w' := by
  have hdv : (1 : Int) < 9223372036854775807 / (r.length : Int) := by
    have : (2 : Int) ≤ 9223372036854775807 / (r.length : Int) := (Int.le_ediv_iff_mul_le (by omega)).2 (by omega)
    omega
  have HC := Lib.hid hc
  clear hc
  have HL := Lib.hid hlen
  clear hlen
  go_enter Tryz.func36, Tryz.ntmps36
  go_wp2_with fail
  all_goals (
    go_loop [5, 41] (fun n i => ∃ k : Nat, k ≤ r.length + 1 ∧ i = .int .i64 k ∧ n = .int .i64 ((r.length + szs (x0 :: r) k : Nat) : Int)) (fun _ i => r.length + 1 - (intOf i).toNat)
    case atStart => exact ⟨0, Nat.zero_le _, rfl, by simp [szs]⟩
    case round =>
      obtain ⟨k, hk, rfl, rfl⟩ := hrel
      by_cases hkn : k < r.length + 1
      · obtain ⟨x, hx⟩ : ∃ x, (x0 :: r)[k]? = some x := ⟨(x0 :: r)[k], List.getElem?_eq_getElem (by simpa using hkn)⟩
        have hcl := HC k x hx
        have e1 := szs_succ hx
        have e2 := szs_le (x0 :: r) (k + 1)
        have e3 : szs (x0 :: r) (x0 :: r).length < 1000000 := HL
        generalize hA1 : szs (x0 :: r) (k + 1) = A1 at e1 e2
        generalize hA0 : szs (x0 :: r) k = A0 at e1
        generalize szs (x0 :: r) (x0 :: r).length = A2 at e2 e3
        have HA1 := Lib.hid hA1
        have HX := Lib.hid hx
        clear hA1 hA0 hx
        have hlim : A1 < 1000000 := by omega
        clear e2 e3
        go_wp2
        exact ⟨⟨k + 1, by omega, by go_num, by rw [show szs (x0 :: r) (k + 1) = A1 from HA1, e1]; refine congrArg _ ?_; omega⟩, by simp [intOf]; omega⟩
      · have hke : k = r.length + 1 := by omega
        subst hke
        have hT : r.length + szs (x0 :: r) (r.length + 1) < 2000000 := by
          have e3 : szs (x0 :: r) (x0 :: r).length < 1000000 := HL
          simp only [List.length_cons] at e3
          omega
        generalize hG : r.length + szs (x0 :: r) (r.length + 1) = G at hT
        have HG := Lib.hid hG
        clear hG
        go_wp2_with fail
        refine (grow_at w.heap.size w.heap.size G _ (Nat.le_refl _) (heap_alloc_new w _) (by simp) (by omega)).mono ?_
        rintro e w1 ⟨rfl, h2, h3⟩
        have h4 : Below w.heap.size w w1 := ((Below.refl w.heap.size w).alloc (Nat.le_refl _) _).trans h3
        have c0 : w1.cell? ⟨bk, o, none⟩ = some (.string x0) := by
          rw [h4.cell (p := ⟨bk, o, none⟩) hbk]
          exact HC 0 x0 rfl
        have hB1 : w.heap.size ≤ w1.heap.size := h4.size
        have H2 := Lib.hid h2
        have H4 := Lib.hid h4
        clear h2 h3 h4
        go_wp2_with fail
        refine (put_at w.heap.size w.heap.size [] x0 w1 (Or.inr H2) (by
          have e3 : szs (x0 :: r) (x0 :: r).length < 1000000 := HL
          have e4 := szs_le (x0 :: r) 1
          have e5 : szs (x0 :: r) 1 = x0.size := by simp [szs]
          simp only [List.length_nil]
          omega) hB1).mono ?_
        rintro e w2 ⟨rfl, h2, h3⟩
        have h5 : Lib.BuilderAt 139 5 w.heap.size w.heap.size (.pointer (some ⟨w.heap.size, 0, none⟩)) (Lib.byteCells (held sep.data.toList x0.data.toList r 0)) w2 := by
          rw [List.nil_append, Lib.strCells_eq] at h2
          simpa [held] using h2
        have H5 := Lib.hid (Or.inr h5 : Lib.IsBuilder 139 5 w.heap.size w.heap.size _ w2)
        have h6 : Below w.heap.size w w1 := H4
        have H6 := Lib.hid (h6.trans h3)
        clear h2 h3 h5 h6
        go_wp2_with fail
        go_loopw [65] (fun i wr => ∃ k : Nat, k ≤ r.length ∧ i = .int .i64 k ∧ Hid (Lib.IsBuilder 139 5 w.heap.size w.heap.size (Lib.byteCells (held sep.data.toList x0.data.toList r k)) wr) ∧ Hid (Below w.heap.size w wr)) (fun i _ => r.length - (intOf i).toNat)
        case atStart => exact ⟨0, Nat.zero_le _, rfl, H5, H6⟩
        case round =>
          obtain ⟨k, hk', rfl, HB, HW⟩ := hrel
          have hW : Below w.heap.size w wr := HW
          have hBw : w.heap.size ≤ wr.heap.size := hW.size
          by_cases hkr : k < r.length
          · obtain ⟨y, hy⟩ : ∃ y, r[k]? = some y := ⟨r[k], List.getElem?_eq_getElem hkr⟩
            have hcy : wr.cell? ⟨bk, o + 1 + k, none⟩ = some (.string y) := by
              rw [hW.cell (p := ⟨bk, o + 1 + k, none⟩) hbk, show o + 1 + k = o + (k + 1) by omega]
              exact HC (k + 1) y (by simpa using hy)
            have hl := held_len sep.data.toList x0 r k (by rw [← Lib.size_eq]; exact hsep) hk'
            have hys : y.size + szs (x0 :: r) (k + 1) < 1000000 := by
              have e3 : szs (x0 :: r) (x0 :: r).length < 1000000 := HL
              have e4 := szs_succ (xs := x0 :: r) (k := k + 1) (x := y) (by simpa using hy)
              have e5 := szs_le (x0 :: r) (k + 1 + 1)
              omega
            have Hn := Lib.hid (held_succ sep x0 r hy)
            have HLn := Lib.hid hl
            have HY := Lib.hid hys
            clear hy hl hys hW
            go_wp2_with fail
            refine (put_at w.heap.size w.heap.size _ sep wr HB (by
              have e1 : (held sep.data.toList x0.data.toList r k).length = k + szs (x0 :: r) (k + 1) := HLn
              have e2 : y.size + szs (x0 :: r) (k + 1) < 1000000 := HY
              rw [Lib.byteCells_length]
              omega) hBw).mono ?_
            rintro e w3 ⟨rfl, h3, h4⟩
            have hB3 : w.heap.size ≤ w3.heap.size := Nat.le_trans hBw h4.size
            have H3 := Lib.hid h3
            have H4' := Lib.hid h4
            clear h3 h4
            go_wp2_with fail
            refine (put_at w.heap.size w.heap.size _ y w3 (Or.inr H3) (by
              have e1 : (held sep.data.toList x0.data.toList r k).length = k + szs (x0 :: r) (k + 1) := HLn
              have e2 : y.size + szs (x0 :: r) (k + 1) < 1000000 := HY
              rw [List.length_append, Lib.byteCells_length, Lib.strCells_length]
              omega) hB3).mono ?_
            rintro e w4 ⟨rfl, h5, h6⟩
            rw [show Lib.byteCells (held sep.data.toList x0.data.toList r k) ++ Lib.strCells sep ++ Lib.strCells y = Lib.byteCells (held sep.data.toList x0.data.toList r (k + 1)) from Hn] at h5
            have H7 := Lib.hid (Or.inr h5 : Lib.IsBuilder 139 5 w.heap.size w.heap.size _ w4)
            have h8 : Below w.heap.size w wr := HW
            have h9 : Below w.heap.size wr w3 := H4'
            have H8 := Lib.hid ((h8.trans h9).trans h6)
            clear h5 h6 h8 h9
            go_wp2
            exact ⟨⟨k + 1, by omega, by go_num, H7, H8⟩, by simp [intOf]; omega⟩
          · have hke : k = r.length := by omega
            subst hke
            clear hW
            go_wp2_with fail
            refine (told_at w.heap.size w.heap.size _ wr HB hBw).mono ?_
            rintro e w5 ⟨rfl, h5⟩
            have h8 : Below w.heap.size w wr := HW
            have H9 := Lib.hid (h8.trans h5)
            clear h5 h8
            go_wp2
            go_ret
            exact ⟨rfl, H9⟩)

end Go.Proofs.YtdofpjabgnfglaaGreatDoor
