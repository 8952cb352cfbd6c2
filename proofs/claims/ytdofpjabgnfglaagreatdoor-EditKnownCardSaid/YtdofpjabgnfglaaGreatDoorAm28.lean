/-
A region whose order is drawn comes, in whatever order, to what the order of its text comes to.
-/
import Derived.Test.YtdofpjabgnfglaaGreatDoorAm27
set_option linter.unusedVariables false
set_option linter.unusedSectionVars false
set_option linter.unusedSimpArgs false
namespace Go.Am
open Go
variable [GT]

theorem ancE_back {seen : List Nat} {i : Nat} : ∀ {l : List Edge} {m : Nat}, ancsF.ancE l i seen = some m → ∀ e ∈ l, Region.binds .any e = true → e.on < seen.length
  | [], m, h, e, he, _ => by simp at he
  | e0 :: l, m, h, e, he, hb => by
    simp only [ancsF.ancE] at h
    split at h <;> first | (simp at h; done) | skip
    rename_i m1 h1
    rcases List.mem_cons.1 he with rfl | he
    · rw [hb] at h
      simp only [cond_true] at h
      split at h <;> first | (simp at h; done) | skip
      rename_i s hs
      exact (List.getElem?_eq_some_iff.1 hs).1
    · exact ancE_back h1 e he hb

theorem ancsF_back : ∀ {ops : List Oper} {i : Nat} {seen out : List Nat}, seen.length = i → ancsF ops i seen = some out →
    ∀ k o, ops[k]? = some o → ∀ e ∈ o.after.toList, Region.binds .any e = true → e.on < i + k
  | [], i, seen, out, hl, h, k, o, hk, _, _, _ => by simp at hk
  | o0 :: ops, i, seen, out, hl, h, k, o, hk, e, he, hb => by
    simp only [ancsF] at h
    split at h <;> first | (simp at h; done) | skip
    rename_i m hm
    cases k with
    | zero =>
      simp only [List.getElem?_cons_zero, Option.some.injEq] at hk
      subst hk
      have := ancE_back hm e he hb
      omega
    | succ k =>
      have := ancsF_back (i := i + 1) (seen := seen ++ [m]) (by simp [hl]) h k o (by simpa using hk) e he hb
      omega

theorem cDreg_back {ops : List Oper} {its : List It} {l : List DIt} (h : cDreg ops its = some l) : ∀ k o, ops[k]? = some o → ∀ e ∈ o.after.toList, Region.binds .any e = true → e.on < k := by
  unfold cDreg at h
  split at h <;> first | (simp at h; done) | skip
  rename_i anc ha
  intro k o hk e he hb
  have := ancsF_back (i := 0) rfl ha k o hk e he hb
  omega

theorem cnt_set : ∀ (l : List Bool) (i : Nat), l[i]? = some false → (l.set i true).countP (fun x => !x) + 1 = l.countP (fun x => !x)
  | [], i, h => by simp at h
  | x :: l, 0, h => by
    simp at h; subst h
    simp [List.countP_cons]
  | x :: l, i + 1, h => by
    have := cnt_set l i (by simpa using h)
    simp only [List.set_cons_succ, List.countP_cons]
    omega

/-- those that are listed -/
def Lst (listed : Array Bool) (j : Nat) : Prop := listed.getD j false = true

theorem Lst.set {listed : Array Bool} {i : Nat} (hi : i < listed.size) (j : Nat) : Lst (listed.setIfInBounds i true) j ↔ Lst listed j ∨ j = i := by
  unfold Lst
  rw [Array.getD_eq_getD_getElem?, Array.getD_eq_getD_getElem?, Array.getElem?_setIfInBounds]
  by_cases h : i = j
  · subst h; simp [hi]
  · have h' : ¬ j = i := fun e => h e.symm
    simp [h, h']

section
variable {P : Program} {call : CallF} {N : Nat} {ops : Array Oper} {its : List It} {l : List DIt} {B : Nat → Nat → Prop} {b : Nat → Bool} {v : Nat → V} {T : Nat → Tm} {base cur : Nat → St} {S : Nat → List St} {L : Nat → Prop} {p : Nat}
variable {X0 : Nat → Prop} {ι0 ι ι' : Inj} {w0 w w' : World}

theorem OrdI.congr {L' : Nat → Prop} (h : OrdI ops its L p) (hL : ∀ j, L' j ↔ L j) : OrdI ops its L' p where
  closed i o ho hi e he hb := (hL _).2 (h.closed i o ho ((hL _).1 hi) e he hb)
  lt i hi := h.lt i ((hL _).1 hi)
  ple := h.ple
  pe := h.pe
  eff j y hy hk := (hL j).trans (h.eff j y hy hk)

/-- an effect, or something new, that has not run stands behind the effects that have -/
theorem OrdI.behind (hr : Run P call N ops its l B b v T base cur S) (h : OrdI ops its L p) {i : Nat} {x : It} (hx : its[i]? = some x) (hk : kindOf x.op = .eff ∨ kindOf x.op = .alc) (hn : ¬ L i) : p ≤ i := by
  rcases h.pe with rfl | ⟨e, y, rfl, hy, hye⟩
  · exact Nat.zero_le _
  · have hLe : L e := (h.eff e y hy hye).2 (Nat.lt_succ_self _)
    by_cases h1 : e < i
    · omega
    · by_cases h2 : e = i
      · subst h2; exact absurd hLe hn
      · exact absurd (h.before hr hLe (hr.st.effs i e x y (by omega) hx hy hk hye)).1 hn

theorem OrdI.closedAdd {i : Nat} {o : Oper} (h : OrdI ops its L p) (ho : ops[i]? = some o) (hready : ∀ e ∈ o.after, Region.binds .any e = true → L e.on) :
    ∀ (j : Nat) (o : Oper), ops[j]? = some o → (L j ∨ j = i) → ∀ e ∈ o.after, Region.binds .any e = true → L e.on ∨ e.on = i := fun j o2 ho2 hj e he hb => by
  rcases hj with hj | rfl
  · exact .inl (h.closed j o2 ho2 hj e he hb)
  · rw [ho] at ho2; cases ho2
    exact .inl (hready e he hb)

theorem OrdI.addQuiet {i : Nat} {o : Oper} {x : It} (h : OrdI ops its L p) (ho : ops[i]? = some o) (hx : its[i]? = some x) (hready : ∀ e ∈ o.after, Region.binds .any e = true → L e.on) (hk : kindOf x.op ≠ .eff) :
    OrdI ops its (fun j => L j ∨ j = i) p where
  closed := h.closedAdd ho hready
  lt j hj := by
    rcases hj with hj | rfl
    · exact h.lt j hj
    · exact (List.getElem?_eq_some_iff.1 hx).1
  ple := h.ple
  pe := h.pe
  eff j y hy hye := by
    rw [← h.eff j y hy hye]
    constructor
    · rintro (hj | rfl)
      · exact hj
      · rw [hx] at hy; cases hy; exact absurd hye hk
    · exact .inl

theorem OrdI.addEff (hr : Run P call N ops its l B b v T base cur S) {i : Nat} {o : Oper} {x : It} (h : OrdI ops its L p) (ho : ops[i]? = some o) (hx : its[i]? = some x)
    (hready : ∀ e ∈ o.after, Region.binds .any e = true → L e.on) (hk : kindOf x.op = .eff) (hpi : p ≤ i) : OrdI ops its (fun j => L j ∨ j = i) (i + 1) where
  closed := h.closedAdd ho hready
  lt j hj := by
    rcases hj with hj | rfl
    · exact h.lt j hj
    · exact (List.getElem?_eq_some_iff.1 hx).1
  ple := (List.getElem?_eq_some_iff.1 hx).1
  pe := .inr ⟨i, x, rfl, hx, hk⟩
  eff j y hy hye := by
    constructor
    · rintro (hj | rfl)
      · have := (h.eff j y hy hye).1 hj; omega
      · exact Nat.lt_succ_self _
    · intro hj
      by_cases e : j = i
      · exact .inr e
      · exact .inl (h.ready hr ho hready (hr.st.effs j i y x (by omega) hy hx (.inl hye) hk)).1

theorem sim {r : Option Nat} (hr : Run P call N ops its l B b v T base cur S) (hback : ∀ k o, ops[k]? = some o → ∀ e ∈ o.after, Region.binds .any e = true → e.on < k) (hX0 : ∀ c, X0 c → (cur its.length).next ≤ c) {a0 : Act} (hN : N ≤ a0.tmps.size)
    {Q : Exit → Act → World → Prop} (hQ : ∀ a w, Fin P X0 ι0 (base 0) w0 a0 (T its.length) (cur its.length) a w → Q .normal a w) :
    ∀ (fuel : Nat) (listed : Array Bool) (a : Act) (w : World) (ι : Inj) (p : Nat) (TL : Tm), listed.size = ops.size → listed.toList.countP (fun x => !x) ≤ fuel → OrdI ops its (Lst listed) p →
      MemI P X0 its b base cur ι0 w0 (Lst listed) p ι w → TmpOk its v (T 0) (Lst listed) TL → TRel ι TL a.tmps → a.tmps.size = a0.tmps.size → a.defers = a0.defers → wpAnyIn (Fw r) 0 P .any ops Q fuel listed a w := by
  have hlen : its.length = ops.size := by rw [hr.st.lenI]; simp
  have hend : ∀ (listed : Array Bool) (a : Act) (w : World) (ι : Inj) (p : Nat) (TL : Tm), OrdI ops its (Lst listed) p →
      MemI P X0 its b base cur ι0 w0 (Lst listed) p ι w → TmpOk its v (T 0) (Lst listed) TL → TRel ι TL a.tmps → a.tmps.size = a0.tmps.size → a.defers = a0.defers → (∀ j, j < its.length → Lst listed j) → Q .normal a w := by
    intro listed a w ι p TL ho hm htm ht hs hd hall
    obtain ⟨h1, h2⟩ := hm.end hr ho hall
    refine hQ a w ⟨⟨ι, fun d u hu => ?_, h1, h2, [], by simpa using hd, .nil⟩, hs⟩
    have := htm.uniq (hr.can.tmp hr.st its.length (Nat.le_refl _)) (d := d) fun j y hy _ => by
      have := (List.getElem?_eq_some_iff.1 hy).1
      exact ⟨fun _ => this, fun _ => hall j this⟩
    rw [← this] at hu
    exact ht d u hu
  have hready0 : ∀ (listed : Array Bool), listed.size = ops.size → Region.ready .any ops listed = [] → ∀ j, j < its.length → Lst listed j := by
    intro listed hsz hnil j
    induction j using Nat.strongRecOn with
    | ind j ih =>
      intro hj
      have hjo : j < ops.size := by omega
      cases hc : listed.getD j true with
      | true =>
        unfold Lst
        rw [Array.getD_eq_getD_getElem?] at hc ⊢
        rw [Array.getElem?_eq_getElem (by omega)] at hc ⊢
        exact hc
      | false =>
        have : j ∈ Region.ready .any ops listed := by
          unfold Region.ready
          rw [List.mem_filter, List.mem_range]
          refine ⟨hjo, ?_⟩
          rw [hc, Array.getElem?_eq_getElem hjo]
          simp only [Bool.not_false, Bool.true_and, Option.map_some, Option.getD_some, Array.all_eq_true_iff_forall_mem, Bool.or_eq_true, Bool.not_eq_true']
          intro e he
          cases hb : Region.binds .any e with
          | false => exact .inl rfl
          | true =>
            have := hback j _ (Array.getElem?_eq_getElem hjo) e he hb
            exact .inr (ih e.on this (by omega))
        rw [hnil] at this; simp at this
  intro fuel
  induction fuel with
  | zero =>
    intro listed a w ι p TL hsz hcnt ho hm htm ht hs hd
    have hall : ∀ j, j < its.length → Lst listed j := fun j hj => by
      unfold Lst
      rw [Array.getD_eq_getD_getElem?, Array.getElem?_eq_getElem (by omega)]
      cases hc : listed[j]'(by omega) with
      | true => rfl
      | false =>
        have := cnt_set listed.toList j (by rw [List.getElem?_eq_getElem (by simp; omega)]; simpa using hc)
        omega
    refine ⟨?_, hend listed a w ι p TL ho hm htm ht hs hd hall⟩
    unfold Region.ready
    rw [List.filter_eq_nil_iff]
    intro j hj
    have hj : j < ops.size := by simpa using hj
    have := hall j (by omega)
    unfold Lst at this
    rw [Array.getD_eq_getD_getElem?, Array.getElem?_eq_getElem (by omega)] at this
    rw [Array.getD_eq_getD_getElem?, Array.getElem?_eq_getElem (by omega)]
    simp only [Option.getD_some] at this ⊢
    rw [this]; simp
  | succ fuel ih =>
    intro listed a w ι p TL hsz hcnt ho hm htm ht hs hd
    refine ⟨fun hnil => hend listed a w ι p TL ho hm htm ht hs hd (hready0 listed hsz hnil), fun i hi => ?_⟩
    unfold Region.ready at hi
    rw [List.mem_filter, List.mem_range] at hi
    obtain ⟨hio, hi⟩ := hi
    have hoi : ops[i]? = some ops[i] := Array.getElem?_eq_getElem hio
    rw [hoi] at hi
    simp only [Option.map_some, Option.getD_some, Bool.and_eq_true, Bool.not_eq_true', Array.all_eq_true_iff_forall_mem, Bool.or_eq_true] at hi
    obtain ⟨hi1, hi2⟩ := hi
    generalize hoe : ops[i] = o at hoi hi2
    have hil : i < listed.size := by omega
    have hif : listed.toList[i]? = some false := by
      rw [Array.getD_eq_getD_getElem?, Array.getElem?_eq_getElem hil] at hi1
      rw [List.getElem?_eq_getElem (by simpa using hil)]
      simpa using hi1
    have hn : ¬ Lst listed i := by
      unfold Lst
      rw [Array.getD_eq_getD_getElem?]
      have : listed[i]? = some false := by simpa using hif
      rw [this]; simp
    have hready : ∀ e ∈ o.after, Region.binds .any e = true → Lst listed e.on := fun e he hb => by
      rcases hi2 e he with h | h
      · rw [hb] at h; cases h
      · exact h
    obtain ⟨x, hx, hcx⟩ := (cIts_length hr.hits).2 i o (by simpa using hoi)
    obtain ⟨g1, g2, g3, _⟩ := cIt_some hcx
    have hag := ho.agree hr hoi hx hready hn htm
    obtain ⟨d, hdl, hdx, m1, m2, m3, m4⟩ := hr.can.item hr.st hx
    have hmet : met TL x.gd = some (b i) := by rw [hag.met]; exact m1
    have hw := wanted_eq ht hcx hmet
    have hcnt' : (listed.setIfInBounds i true).toList.countP (fun x => !x) ≤ fuel := by
      rw [Array.toList_setIfInBounds]
      have := cnt_set listed.toList i hif
      omega
    have hset := fun j => Lst.set hil j
    have hsz' : (listed.setIfInBounds i true).size = ops.size := by rw [Array.size_setIfInBounds]; exact hsz
    have htm' : TmpOk its v (T 0) (Lst (listed.setIfInBounds i true)) (putT TL x.dst (v i)) :=
      (htm.put hx fun j y t hij hy hLj hxd hyd => hn (ho.before hr hLj (hr.st.war i j x y t hij hx hy hyd (.inr hxd))).1).congr fun j _ => (hset j).symm
    have hdlt : ∀ t, x.dst = some t → t < a.tmps.size := fun t htd => Nat.lt_of_lt_of_le (g1 t (by rw [← g3]; exact htd)) (by rw [hs]; exact hN)
    -- the next round
    have next : ∀ {v' : Value} {w' : World} {ι' : Inj} {p' : Nat}, OrdI ops its (fun j => Lst listed j ∨ j = i) p' → MemI P X0 its b base cur ι0 w0 (fun j => Lst listed j ∨ j = i) p' ι' w' →
        (∀ c l, ι c = some l → ι' c = some l) → VRel ι' (v i) v' → wpAnyIn (Fw r) 0 P .any ops Q fuel (listed.setIfInBounds i true) (a.put o.dst v') w' := fun {v' w' ι' p'} ho' hm' hext hv => by
      refine ih _ _ _ ι' p' _ hsz' hcnt' (ho'.congr hset) ?_ htm' ?_ (by rw [put_size]; exact hs) (by rw [put_defers]; exact hd)
      · have : Lst (listed.setIfInBounds i true) = fun j => Lst listed j ∨ j = i := funext fun j => propext (hset j)
        rw [this]; exact hm'
      · rw [← g3]
        exact (ht.mono hext).put hdlt hv
    unfold wpOpIn
    rw [hoi]
    simp only [hw]
    have hbase := hr.base_cur ho
    cases hk : kindOf x.op with
    | eff =>
      have hpi := ho.behind hr hx (.inl hk) hn
      have ho' := ho.addEff hr hoi hx hready hk hpi
      have hall : ∀ j y, p ≤ j → j < i → its[j]? = some y → kindOf y.op ≠ .eff ∧ (kindOf y.op = .alc → Lst listed j) := fun j y h1 h2 hy =>
        ⟨fun hye => by
          have := (ho.eff j y hy hye).1 (ho.ready hr hoi hready (hr.st.effs j i y x h2 hy hx (.inl hye) hk)).1
          omega, fun hya => (ho.ready hr hoi hready (hr.st.effs j i y x h2 hy hx (.inr hya) hk)).1⟩
      have hat := hm.at hr ho hpi (by omega) hall
      have m5 : (b i = true → opV call (T i) x.op (cur i) = some (v i, cur (i + 1))) ∧ (b i = false → cur (i + 1) = cur i) := by
        rcases m4 with ⟨_, _, _, k1, k2⟩ | ⟨_, k, _⟩ | ⟨_, k, _⟩ | ⟨c, _, k, _⟩
        · exact ⟨k1, k2⟩
        · rw [hk] at k; cases k
        · rw [hk] at k; cases k
        · rw [hk] at k; cases k
      cases hb : b i with
      | true =>
        simp only [if_true]
        refine oper_wp hr.hcg hr.hyg hat (st' := cur (i + 1)) (v := v i) (fun c hc => ?_) ht g2 (by rw [hag.op]; exact m5.1 hb) fun v' w' ⟨ι', e1, e2, e3⟩ =>
          next ho' (hm.eff hr ho hx hk hpi hall e2 e3) e3.ext e1
        rcases hc with hc | ⟨k, k1, k2, k3⟩
        · have := hr.cur_mono (show i + 1 ≤ its.length by omega) (Nat.le_refl _)
          have := hX0 c hc
          omega
        · have hki : k ≠ i := fun e => by
            subst e
            obtain ⟨y, q1, q2, _⟩ := k1
            rw [hx] at q1; cases q1
            rw [hk] at q2; cases q2
          have := hr.cur_mono (show i + 1 ≤ k by omega) (Nat.le_of_lt (k1.next_lt hr).2)
          omega
      | false =>
        simp only [Bool.false_eq_true, if_false]
        refine ⟨fun _ _ => trivial, ?_⟩
        have e := m5.2 hb
        refine next ho' (hm.eff hr ho hx hk hpi hall (by rw [e]; exact hat) (by rw [e]; exact .refl _ _ _)) (fun _ _ h => h) ?_
        rw [m3 hb]
        exact .tup _ _ .nil
    | alc =>
      have hpi := ho.behind hr hx (.inr hk) hn
      have ho' := ho.addQuiet hoi hx hready (by rw [hk]; simp)
      cases hb : b i with
      | true =>
        simp only [if_true]
        obtain ⟨_, o2, q1, q2, q3, q4⟩ := hr.early hx hk hb
        have hpn : (base p).next ≤ (cur i).next := by rw [hbase]; exact hr.cur_mono hpi (by omega)
        have hraise := hm.rel.raise (X' := fun c => (cur i).next + 1 ≤ c) hpn fun c l1 hc => by
          rcases hm.dom c l1 hc with k | k | ⟨k, k1, k2⟩
          · omega
          · have := hX0 c k
            have := hr.cur_mono (show i + 1 ≤ its.length by omega) (Nat.le_refl _)
            omega
          · have hki : k ≠ i := fun e => by subst e; exact hn k1.choose_spec.2.2.1
            obtain ⟨r1, r2⟩ := k1.next_lt hr
            by_cases h : k < i
            · have := hr.cur_mono (show k + 1 ≤ i by omega) (by omega)
              omega
            · have := hr.cur_mono (show i + 1 ≤ k by omega) (by omega)
              omega
        refine oper_wp hr.hcg hr.hyg hraise (st' := (⟨(base p).heap, (cur i).next⟩ : St).alloc o2) (v := v i) (fun c hc => hc) ht g2 (by rw [hag.op]; exact q4 _) fun v' w' ⟨ι', e1, e2, e3⟩ =>
          next ho' (hm.alc hr ho hx hk hpi hb hn q1 q2 e2 e3) e3.ext e1
      | false =>
        simp only [Bool.false_eq_true, if_false]
        refine ⟨fun _ _ => trivial, ?_⟩
        refine next ho' (hm.still (fun k => ⟨fun ⟨y, h1, h2, h3, h4, h5⟩ => ⟨y, h1, h2, ?_, h4, h5⟩, fun ⟨y, h1, h2, h3, h4, h5⟩ => ⟨y, h1, h2, .inl h3, h4, h5⟩⟩) hm.rel (.refl _ _ _)) (fun _ _ h => h) ?_
        · rcases h3 with h3 | rfl
          · exact h3
          · rw [hb] at h4; cases h4
        · rw [m3 hb]
          exact .tup _ _ .nil
    | _ =>
      have hk1 : kindOf x.op ≠ .eff := by rw [hk]; simp
      have hk2 : kindOf x.op ≠ .alc := by rw [hk]; simp
      have ho' := ho.addQuiet hoi hx hready hk1
      have hE : ∀ k, Early its b (fun j => Lst listed j ∨ j = i) p k ↔ Early its b (Lst listed) p k := fun k =>
        ⟨fun ⟨y, h1, h2, h3, h4, h5⟩ => ⟨y, h1, h2, by
          rcases h3 with h3 | rfl
          · exact h3
          · rw [hx] at h1; cases h1; exact absurd h2 hk2, h4, h5⟩, fun ⟨y, h1, h2, h3, h4, h5⟩ => ⟨y, h1, h2, .inl h3, h4, h5⟩⟩
      cases hb : b i with
      | true =>
        simp only [if_true]
        have hlk := ho.look hr hoi hx hready hn hk1 hk2 hb htm
        have hraise := hm.rel.raise (X' := fun c => (base p).next ≤ c) (Nat.le_refl _) fun c l1 hc => by omega
        refine oper_wp hr.hcg hr.hyg hraise (st' := base p) (v := v i) (fun c hc => hc) ht g2 hlk fun v' w' ⟨ι', e1, e2, e3⟩ =>
          next ho' (hm.still hE e2 e3) e3.ext e1
      | false =>
        simp only [Bool.false_eq_true, if_false]
        refine ⟨fun _ _ => trivial, ?_⟩
        refine next ho' (hm.still hE hm.rel (.refl _ _ _)) (fun _ _ h => h) ?_
        rw [m3 hb]
        exact .tup _ _ .nil
end

/-- REGIONS WHOSE ORDER IS DRAWN ARE GOOD. -/
theorem dreg_ok {P : Program} (hm : P.follows .mixedOrders = true) : DregOk P := by
  intro call hcg hyg hcu id N ops its l hits hcd T0 st T' st' hrun
  obtain ⟨S', h1, h2⟩ := dregV_some hrun
  obtain ⟨B, hst⟩ := cDreg_stat (cIts_length hits).1 hcd
  obtain ⟨b, v, T, base, cur, S, hcan, e1, e2, e3, e4, e5, e6, e7⟩ := runD_canon call l T0 st st [st] T' st' S' h1
  have hll : l.length = its.length := by rw [hst.lenL, hst.lenI]
  rw [hll] at e5 e6 e7
  have hr : Run P call N ops its l B b v T base cur S := ⟨hcg, hyg, hcu, hits, hst, hcan, by rw [e2, e3], by rw [e4, e2], by rw [e5, e7]; exact h2⟩
  subst e5; subst e6
  refine ⟨by rw [← e3]; exact hr.cur_mono (Nat.zero_le _) (Nat.le_refl _), fun r X ι a w Q hX h ht hN hQ => ?_⟩
  refine wpIn_region_any hm ?_
  have hback := cDreg_back hcd
  have hempty : ∀ j, ¬ Lst (Array.replicate ops.size false) j := fun j => by
    unfold Lst
    rw [Array.getD_eq_getD_getElem?, Array.getElem?_replicate]
    split <;> simp
  refine sim (ι0 := ι) (w0 := { w with drawn := w.drawn + 1 }) (a0 := a) hr (fun k o hk e he hb => hback k o (by simpa using hk) e (by simpa using he) hb) hX hN (fun a' w' hf => ?_) ops.size _ a _ ι 0 T0 (by simp) ?_ ?_ ?_ ?_ ht rfl rfl
  · refine hQ a' w' ?_
    obtain ⟨⟨ι', f1, f2, f3, ds, f5, f6⟩, f4⟩ := hf
    rw [e2] at f3
    exact ⟨⟨ι', f1, f2, ⟨f3.ext, f3.next, f3.size, f3.kept, f3.new, f3.ids, f3.tape, f3.os, f3.out⟩, ds, f5, f6⟩, f4⟩
  · refine Nat.le_trans (List.countP_le_length) ?_
    simp
  · exact ⟨fun i o _ hi => absurd hi (hempty i), fun i hi => absurd hi (hempty i), Nat.zero_le _, .inl rfl, fun j y _ _ => ⟨fun hj => absurd hj (hempty j), fun hj => absurd hj (Nat.not_lt_zero _)⟩⟩
  · have hno : ∀ i, ¬ Early its b (Lst (Array.replicate ops.size false)) 0 i := fun i ⟨_, _, _, h3, _⟩ => hempty i h3
    refine ⟨?_, fun c l1 hc => ?_, fun i hi => absurd hi (hno i), fun i j _ _ hi => absurd hi (hno i), fun i _ hi => absurd hi (hno i), fun _ _ hc => hc, Nat.le_refl _, fun _ _ _ => rfl,
      fun c o l1 g1 g2 g3 => .inr ⟨c, o, l1, g1, g2, g3, rfl⟩, fun c l1 hc => .inl hc, rfl, rfl, rfl⟩
    · rw [e2]
      exact ⟨h.obj, fun c l1 hc => ⟨.inr trivial, (h.dom c l1 hc).2⟩, h.live, h.inj, h.glob, h.glo⟩
    · rw [e2]
      rcases (h.dom c l1 hc).1 with k | k
      · exact .inl k
      · exact .inr (.inl k)
  · rw [← e1]
    exact fun d => ⟨fun i x _ hi => absurd hi (hempty i), fun _ => rfl⟩

end Go.Am
