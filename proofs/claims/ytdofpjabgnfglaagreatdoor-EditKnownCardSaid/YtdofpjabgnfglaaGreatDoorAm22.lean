/-
What the static checks of a region say, gathered.
-/
import Derived.Test.YtdofpjabgnfglaaGreatDoorAm21
set_option linter.unusedVariables false
set_option linter.unusedSectionVars false
set_option linter.unusedSimpArgs false
namespace Go.Am
open Go
variable [GT]

/-- how many effects stand ahead of a place -/
def cntE (its : List It) (p : Nat) : Nat := ((its.take p).filter fun x => isEff (kindOf x.op)).length

structure Stat (ops : List Oper) (its : List It) (l : List DIt) (B : Nat → Nat → Prop) : Prop where
  lenI : its.length = ops.length
  lenL : l.length = ops.length
  it : ∀ (i : Nat) (d : DIt), l[i]? = some d → its[i]? = some d.it
  kind : ∀ (i : Nat) (d : DIt), l[i]? = some d → match d.k with
    | .ld _ => kindOf d.it.op = .ld []
    | k => kindOf d.it.op = k
  ord : ∀ L : Nat → Prop, (∀ (i : Nat) (o : Oper), ops[i]? = some o → L i → ∀ e ∈ o.after.toList, Region.binds .any e = true → L e.on) →
    ∀ (i : Nat) (o : Oper), ops[i]? = some o → (∀ e ∈ o.after.toList, Region.binds .any e = true → L e.on) → ∀ j, B i j → L j ∧ j < i
  effs : ∀ (i j : Nat) (x y : It), i < j → its[i]? = some x → its[j]? = some y → kindOf x.op = .eff ∨ kindOf x.op = .alc → kindOf y.op = .eff → B j i
  raw : ∀ (i j : Nat) (x y : It) (d : Nat), i < j → its[i]? = some x → its[j]? = some y → x.dst = some d → readsT y d = true → B j i
  war : ∀ (i j : Nat) (x y : It) (d : Nat), i < j → its[i]? = some x → its[j]? = some y → y.dst = some d → readsT x d = true ∨ x.dst = some d → B j i
  chk : ∀ (i : Nat) (d : DIt) (c : List Nat), l[i]? = some d → d.k = .ld c → ∀ p, p ≤ its.length → (∀ j y, its[j]? = some y → kindOf y.op = .eff → (j < p → ¬ B j i) ∧ (p ≤ j → ¬ B i j)) →
    cntE its p = cntE its i ∨ ((cntE its its.length - cntE its p) ∈ c ∧ (∀ j y t, i < j → its[j]? = some y → y.dst = some t → readsT d.it t = false ∧ d.it.dst ≠ some t) ∧ ∀ t, d.it.dst = some t → readsT d.it t = false)

theorem isEff_eq {k : DK} : isEff k = true ↔ k = .eff := by cases k <;> simp [isEff]

theorem take_filter {α : Type} (f : α → Bool) (l : List α) (p : Nat) : (l.filter f).take ((l.take p).filter f).length = (l.take p).filter f ∧ (l.filter f).drop ((l.take p).filter f).length = (l.drop p).filter f := by
  have h : l.filter f = (l.take p).filter f ++ (l.drop p).filter f := by rw [← List.filter_append, List.take_append_drop]
  constructor
  · rw [h]; simp
  · rw [h]; simp

theorem iota_mem : ∀ (n i j : Nat), j ∈ iota i n ↔ i ≤ j ∧ j < i + n
  | 0, i, j => by simp [iota]
  | n + 1, i, j => by
    simp only [iota, List.mem_cons, iota_mem n (i + 1) j]; omega

theorem cIts_length {P : Program} {N : Nat} {all : List Oper} : ∀ {ops : List Oper} {its : List It}, cIts P N all ops = some its → its.length = ops.length ∧ ∀ (i : Nat) (o : Oper), ops[i]? = some o → ∃ x, its[i]? = some x ∧ cIt P N all o = some x
  | [], its, h => by
    simp only [cIts, Option.some.injEq] at h
    subst h
    exact ⟨rfl, fun i o ho => by simp at ho⟩
  | o :: ops, its, h => by
    simp only [cIts] at h
    split at h <;> first | (simp at h; done) | skip
    rename_i x l h1 h2
    simp only [Option.some.injEq] at h
    subst h
    obtain ⟨g1, g2⟩ := cIts_length h2
    refine ⟨by simp [g1], fun i o2 ho => ?_⟩
    cases i with
    | zero => simp at ho; subst ho; exact ⟨x, by simp, h1⟩
    | succ i =>
      obtain ⟨y, k1, k2⟩ := g2 i o2 (by simpa using ho)
      exact ⟨y, by simpa using k1, k2⟩

theorem zipD_map : ∀ {its : List It} {anc : List Nat} {i0 : Nat}, its.length = anc.length → (zipD its anc i0).map (·.it) = its ∧ ∀ x ∈ zipD its anc i0, x.k = kindOf x.it.op
  | [], [], _, _ => ⟨rfl, fun x hx => by simp [zipD] at hx⟩
  | a :: its, [], _, hl => by simp at hl
  | [], _ :: _, _, hl => by simp at hl
  | a :: its, m :: anc, i0, hl => by
    obtain ⟨h1, h2⟩ := zipD_map (i0 := i0 + 1) (its := its) (anc := anc) (by simpa using hl)
    refine ⟨by simp only [zipD, List.map_cons, h1], fun x hx => ?_⟩
    simp only [zipD, List.mem_cons] at hx
    rcases hx with rfl | hx
    · rfl
    · exact h2 x hx

theorem cnt_zip {its : List It} {anc : List Nat} (hl : its.length = anc.length) (p : Nat) : (((zipD its anc 0).take p).filter fun x => isEff x.k).length = cntE its p := by
  obtain ⟨h1, h2⟩ := zipD_map (i0 := 0) hl
  unfold cntE
  conv => rhs; rw [← h1]
  rw [← List.map_take, List.filter_map, List.length_map]
  congr 1
  apply List.filter_congr
  intro x hx
  simp [h2 x (List.mem_of_mem_take hx)]

theorem zipD_at {its : List It} {anc : List Nat} (hl : its.length = anc.length) {j : Nat} {x : DInfo} (h : (zipD its anc 0)[j]? = some x) : x.i = j ∧ anc[j]? = some x.anc ∧ its[j]? = some x.it := by
  have hlt : j < its.length := by
    have := (List.getElem?_eq_some_iff.1 h).1
    rw [zipD_length hl] at this
    exact this
  obtain ⟨m, g1, g2⟩ := zipD_get (i0 := 0) hl j _ (List.getElem?_eq_getElem hlt)
  rw [h] at g2
  simp only [Option.some.injEq] at g2
  subst g2
  exact ⟨by simp, g1, List.getElem?_eq_getElem hlt⟩

theorem seg_zip {its : List It} {anc : List Nat} (hl : its.length = anc.length) (i : Nat) :
    ((((zipD its anc 0).filter fun x => isEff x.k)).filter fun e => Nat.blt e.i i).length = cntE its i := by
  have hcomm : ∀ (f g : DInfo → Bool) (l : List DInfo), (l.filter f).filter g = (l.filter g).filter f := by
    intro f g l
    rw [List.filter_filter, List.filter_filter]
    congr 1; funext x; exact Bool.and_comm _ _
  rw [← cnt_zip hl i, hcomm]
  congr 2
  conv => lhs; rw [← List.take_append_drop i (zipD its anc 0)]
  rw [List.filter_append]
  have h1 : ((zipD its anc 0).take i).filter (fun e => Nat.blt e.i i) = (zipD its anc 0).take i := by
    apply List.filter_eq_self.2
    intro x hx
    obtain ⟨j, hj, he⟩ := List.mem_iff_getElem.1 hx
    have hj2 : j < i := by simp at hj; omega
    have hx2 : (zipD its anc 0)[j]? = some x := by
      rw [← he, List.getElem_take]
      exact List.getElem?_eq_getElem _
    rw [(zipD_at hl hx2).1, Nat.blt_eq]; exact hj2
  have h2 : ((zipD its anc 0).drop i).filter (fun e => Nat.blt e.i i) = [] := by
    apply List.filter_eq_nil_iff.2
    intro x hx
    obtain ⟨j, hj, he⟩ := List.mem_iff_getElem.1 hx
    have hx2 : (zipD its anc 0)[i + j]? = some x := by
      rw [← he, List.getElem_drop]
      exact List.getElem?_eq_getElem _
    rw [(zipD_at hl hx2).1, Nat.blt_eq]; omega
  rw [h1, h2, List.append_nil]

theorem cDreg_stat {ops : List Oper} {its : List It} {l : List DIt} (hlen : its.length = ops.length) (h : cDreg ops its = some l) : ∃ B, Stat ops its l B := by
  unfold cDreg at h
  split at h <;> first | (simp at h; done) | skip
  rename_i anc ha
  cases hp : pairsOk (zipD its anc 0) with
  | false => simp [hp] at h
  | true =>
    simp only [hp, cond_true] at h
    obtain ⟨a1, a2, a3⟩ := ancsF_spec (i := 0) rfl ha
    have hla : its.length = anc.length := by omega
    have hz := fun k it (hk : its[k]? = some it) => zipD_get (i0 := 0) hla k it hk
    have hzl := zipD_length (i0 := 0) hla
    obtain ⟨l1, l2⟩ := lookAll_get h
    let B : Nat → Nat → Prop := fun i j => ∃ m, anc[i]? = some m ∧ bitOf m j = true
    have hitem : ∀ (i : Nat) (d : DIt), l[i]? = some d → ∃ x m, its[i]? = some x ∧ anc[i]? = some m ∧
        lookAt ((zipD its anc 0).filter fun x => isEff x.k) (zipD its anc 0) ⟨i, m, x, kindOf x.op⟩ = some d := fun i d hd => by
      have hlt : i < its.length := by
        have := (List.getElem?_eq_some_iff.1 hd).1
        omega
      obtain ⟨x, hx⟩ : ∃ x, its[i]? = some x := ⟨_, List.getElem?_eq_getElem hlt⟩
      obtain ⟨m, g1, g2⟩ := hz i x hx
      obtain ⟨d2, g3, g4⟩ := l2 i _ g2
      rw [hd] at g3; cases g3
      exact ⟨x, m, hx, g1, by simpa using g4⟩
    have hpair : ∀ (i j : Nat) (x y : It), i < j → its[i]? = some x → its[j]? = some y → ∃ m m', anc[i]? = some m ∧ anc[j]? = some m' ∧ pairOk ⟨i, m, x, kindOf x.op⟩ ⟨j, m', y, kindOf y.op⟩ = true ∧ tmpOk ⟨i, m, x, kindOf x.op⟩ ⟨j, m', y, kindOf y.op⟩ = true :=
      fun i j x y hij hx hy => by
        obtain ⟨m, g1, g2⟩ := hz i x hx
        obtain ⟨m', g3, g4⟩ := hz j y hy
        have := pairsOk_get hp i j _ _ hij g2 g4
        simp only [Nat.zero_add] at this
        exact ⟨m, m', g1, g3, this⟩
    refine ⟨B, hlen, by omega, fun i d hd => ?_, fun i d hd => ?_, fun L hL i o ho hr j hj => ?_, fun i j x y hij hx hy hk1 hk2 => ?_, fun i j x y t hij hx hy h1 h2 => ?_, fun i j x y t hij hx hy h1 h2 => ?_, ?_⟩
    · obtain ⟨x, m, g1, g2, g3⟩ := hitem i d hd
      unfold lookAt at g3
      cases hk : isLd (kindOf x.op) with
      | false =>
        simp only [hk, cond_false, Option.some.injEq] at g3
        subst g3; exact g1
      | true =>
        simp only [hk, cond_true] at g3
        split at g3
        · simp only [Option.some.injEq] at g3; subst g3; exact g1
        · rename_i ms hms
          cases hl : lastOk ⟨i, m, x, kindOf x.op⟩ (zipD its anc 0) with
          | false => simp [hl] at g3
          | true => simp only [hl, cond_true, Option.some.injEq] at g3; subst g3; exact g1
    · obtain ⟨x, m, g1, g2, g3⟩ := hitem i d hd
      unfold lookAt at g3
      cases hk : isLd (kindOf x.op) with
      | false =>
        simp only [hk, cond_false, Option.some.injEq] at g3
        subst g3
        show (match kindOf x.op with | .ld _ => kindOf x.op = .ld [] | k => kindOf x.op = k)
        generalize kindOf x.op = q at hk
        cases q <;> first | rfl | (simp [isLd] at hk)
      | true =>
        have hld : kindOf x.op = .ld [] := by
          generalize hxo : x.op = c at hk
          cases c <;> simp [kindOf, isLd] at hk ⊢
        simp only [hk, cond_true] at g3
        split at g3
        · simp only [Option.some.injEq] at g3; subst g3; exact hld
        · rename_i ms hms
          cases hl : lastOk ⟨i, m, x, kindOf x.op⟩ (zipD its anc 0) with
          | false => simp [hl] at g3
          | true => simp only [hl, cond_true, Option.some.injEq] at g3; subst g3; exact hld
    · obtain ⟨m, g1, g2⟩ := hj
      exact anc_listed ha L hL i o m ho g1 hr j g2
    · obtain ⟨m, m', g1, g2, g3, _⟩ := hpair i j x y hij hx hy
      refine ⟨m', g2, ?_⟩
      cases hb : bitOf m' i with
      | true => rfl
      | false =>
        have e1 : (isEff (kindOf x.op) || isAlc (kindOf x.op)) = true := by rcases hk1 with h | h <;> simp [h, isEff, isAlc]
        have e2 : isEff (kindOf y.op) = true := by simp [hk2, isEff]
        simp [pairOk, hb, e1, e2] at g3
    · obtain ⟨m, m', g1, g2, g3, _⟩ := hpair i j x y hij hx hy
      refine ⟨m', g2, ?_⟩
      cases hb : bitOf m' i with
      | true => rfl
      | false => simp [pairOk, hb, h1, h2] at g3
    · obtain ⟨m, m', g1, g2, _, g3⟩ := hpair i j x y hij hx hy
      refine ⟨m', g2, ?_⟩
      cases hb : bitOf m' i with
      | true => rfl
      | false =>
        rcases h2 with h2 | h2
        · simp [tmpOk, hb, h1, h2] at g3
        · simp [tmpOk, hb, h1, h2] at g3
    · intro i d c hd hk p hp2 hall
      obtain ⟨x, m, g1, g2, g3⟩ := hitem i d hd
      have hM : ((zipD its anc 0).filter fun x => isEff x.k).length = cntE its its.length := by
        rw [← cnt_zip hla its.length, List.take_of_length_le (by rw [hzl]; exact Nat.le_refl _)]
      have hle : cntE its p ≤ cntE its its.length := by
        rw [← hM, ← cnt_zip hla p]
        exact (List.Sublist.filter _ (List.take_sublist p _)).length_le
      have hmay : mayAt ⟨i, m, x, kindOf x.op⟩ ((zipD its anc 0).filter fun x => isEff x.k) (cntE its p) = true := by
        unfold mayAt
        obtain ⟨t1, t2⟩ := take_filter (fun x : DInfo => isEff x.k) (zipD its anc 0) p
        rw [cnt_zip hla p] at t1 t2
        rw [t1, t2, Bool.and_eq_true, List.all_eq_true, List.all_eq_true]
        constructor
        · intro e he
          obtain ⟨he1, he2⟩ := List.mem_filter.1 he
          obtain ⟨j, hj, hje⟩ := List.mem_iff_getElem.1 he1
          have hjp : j < p := by simp at hj; omega
          have hx2 : (zipD its anc 0)[j]? = some e := by
            rw [← hje, List.getElem_take]
            exact List.getElem?_eq_getElem _
          obtain ⟨q1, q2, q3⟩ := zipD_at hla hx2
          have hke : kindOf e.it.op = .eff := by
            rw [← (zipD_map (i0 := 0) hla).2 e (List.mem_of_getElem? hx2)]
            exact isEff_eq.1 he2
          have := (hall j e.it q3 hke).1 hjp
          cases hb : bitOf e.anc i with
          | false => simp [hb]
          | true => exact absurd ⟨e.anc, q2, hb⟩ this
        · intro e he
          obtain ⟨he1, he2⟩ := List.mem_filter.1 he
          obtain ⟨j, hj, hje⟩ := List.mem_iff_getElem.1 he1
          have hx2 : (zipD its anc 0)[p + j]? = some e := by
            rw [← hje, List.getElem_drop]
            exact List.getElem?_eq_getElem _
          obtain ⟨q1, q2, q3⟩ := zipD_at hla hx2
          have hke : kindOf e.it.op = .eff := by
            rw [← (zipD_map (i0 := 0) hla).2 e (List.mem_of_getElem? hx2)]
            exact isEff_eq.1 he2
          have := (hall (p + j) e.it q3 hke).2 (by omega)
          cases hb : bitOf m e.i with
          | false => simp [hb]
          | true => rw [q1] at hb; exact absurd ⟨m, g2, hb⟩ this
      by_cases hseg : cntE its p = cntE its i
      · exact .inl hseg
      · right
        have hmem : cntE its p ∈ chkOf ((zipD its anc 0).filter fun x => isEff x.k) ⟨i, m, x, kindOf x.op⟩ := by
          unfold chkOf
          rw [List.mem_filter, iota_mem, hM]
          refine ⟨⟨by omega, by omega⟩, ?_⟩
          rw [hmay, seg_zip hla i]
          cases hb : Nat.beq (cntE its p) (cntE its i) with
          | false => rfl
          | true => exact absurd (Nat.eq_of_beq_eq_true hb) hseg
        unfold lookAt at g3
        cases hkl : isLd (kindOf x.op) with
        | false =>
          simp only [hkl, cond_false, Option.some.injEq] at g3
          subst g3
          simp only at hk
          rw [hk] at hkl
          simp [isLd] at hkl
        | true =>
          simp only [hkl, cond_true] at g3
          split at g3
          · rename_i hms
            rw [hms] at hmem
            simp at hmem
          · rename_i ms hms
            cases hl : lastOk ⟨i, m, x, kindOf x.op⟩ (zipD its anc 0) with
            | false => simp [hl] at g3
            | true =>
              simp only [hl, cond_true, Option.some.injEq] at g3
              subst g3
              simp only [DK.ld.injEq] at hk
              subst hk
              refine ⟨?_, fun j y t hij hy hyd => ?_, fun t ht => ?_⟩
              · rw [← hM]
                exact List.mem_map.2 ⟨cntE its p, hmem, rfl⟩
              · obtain ⟨m', r1, r2⟩ := hz j y hy
                unfold lastOk at hl
                rw [Bool.and_eq_true, List.all_eq_true] at hl
                have := hl.2 _ (List.mem_of_getElem? r2)
                have hnb : Nat.ble (0 + j) i = false := by
                  cases hb : Nat.ble (0 + j) i with
                  | false => rfl
                  | true => have := Nat.le_of_ble_eq_true hb; omega
                simp only [hnb, Bool.false_or, hyd, Bool.and_eq_true, Bool.not_eq_true'] at this
                refine ⟨this.1, fun hxd => ?_⟩
                have h2 := this.2
                simp only at hxd
                rw [hxd] at h2
                simp at h2
              · unfold lastOk at hl
                rw [Bool.and_eq_true] at hl
                have := hl.1
                simp only at ht
                simp only [ht] at this
                simpa using this

end Go.Am
