/-
A region whose order is drawn: what holds between two of its operations, whatever the order.
-/
import Derived.Test.YtdofpjabgnfglaaGreatDoorAm25
set_option linter.unusedVariables false
set_option linter.unusedSectionVars false
set_option linter.unusedSimpArgs false
namespace Go.Am
open Go
variable [GT]

/-- the run by the text -/
structure Run (P : Program) (call : CallF) (N : Nat) (ops : Array Oper) (its : List It) (l : List DIt) (B : Nat → Nat → Prop) (b : Nat → Bool) (v : Nat → V) (T : Nat → Tm) (base cur : Nat → St) (S : Nat → List St) : Prop where
  hcg : CallGood P call
  hyg : YieldGood P call
  hcu : CallUp call
  hits : cIts P N ops.toList ops.toList = some its
  st : Stat ops.toList its l B
  can : Canon call l b v T base cur S
  b0 : base 0 = cur 0
  s0 : S 0 = [base 0]
  chk : chkD call (T its.length) (S its.length) l = true

/-- place i made something new that the text has not come to -/
def Early (its : List It) (b : Nat → Bool) (L : Nat → Prop) (p i : Nat) : Prop :=
  ∃ x, its[i]? = some x ∧ kindOf x.op = .alc ∧ L i ∧ b i = true ∧ p ≤ i

/-- between two operations: those in L have run, the effects among them are those ahead of p -/
structure OrdI (ops : Array Oper) (its : List It) (L : Nat → Prop) (p : Nat) : Prop where
  closed : ∀ (i : Nat) (o : Oper), ops[i]? = some o → L i → ∀ e ∈ o.after, Region.binds .any e = true → L e.on
  lt : ∀ i, L i → i < its.length
  ple : p ≤ its.length
  pe : p = 0 ∨ ∃ e y, p = e + 1 ∧ its[e]? = some y ∧ kindOf y.op = .eff
  eff : ∀ (j : Nat) (y : It), its[j]? = some y → kindOf y.op = .eff → (L j ↔ j < p)

/-- the memory, between two operations -/
structure MemI (G : Program) (X0 : Nat → Prop) (its : List It) (b : Nat → Bool) (base cur : Nat → St) (ι0 : Inj) (w0 : World) (L : Nat → Prop) (p : Nat) (ι : Inj) (w : World) : Prop where
  rel : HRel G (fun _ => True) ι (base p) w
  dom : ∀ c l, ι c = some l → c < (base p).next ∨ X0 c ∨ ∃ i, Early its b L p i ∧ c = (cur i).next
  pend : ∀ i, Early its b L p i → ∃ o, o.live ∧ cur (i + 1) = (cur i).alloc o ∧ Pend G ι w (base p) (cur i).next o
  apart : ∀ i j li lj, Early its b L p i → Early its b L p j → i ≠ j → ι (cur i).next = some li → ι (cur j).next = some lj → li.blk ≠ lj.blk
  pnew : ∀ i li, Early its b L p i → ι (cur i).next = some li → w0.heap.size ≤ li.blk
  ext : ∀ c l, ι0 c = some l → ι c = some l
  size : w0.heap.size ≤ w.heap.size
  kept : ∀ C, C < w0.heap.size → (∀ c o l, (base 0).heap.get c = some o → o.live → ι0 c = some l → l.blk ≠ C) → w.heap[C]? = w0.heap[C]?
  new : ∀ c o l, (base p).heap.get c = some o → o.live → ι c = some l → w0.heap.size ≤ l.blk ∨ ∃ c0 o0 l0, (base 0).heap.get c0 = some o0 ∧ o0.live ∧ ι0 c0 = some l0 ∧ l0.blk = l.blk
  ids : ∀ c l, ι c = some l → ι0 c = some l ∨ ((base 0).next ≤ c ∧ c < (cur its.length).next)
  tape : w.tape = w0.tape
  os : w.os = w0.os
  out : w.output = w0.output

section
variable {P : Program} {call : CallF} {N : Nat} {ops : Array Oper} {its : List It} {l : List DIt} {B : Nat → Nat → Prop} {b : Nat → Bool} {v : Nat → V} {T : Nat → Tm} {base cur : Nat → St} {S : Nat → List St} {L : Nat → Prop} {p : Nat}

/-- what must come ahead of a listed one is listed -/
theorem OrdI.before (hr : Run P call N ops its l B b v T base cur S) (h : OrdI ops its L p) {i j : Nat} (hi : L i) (hB : B i j) : L j ∧ j < i := by
  have hlt := h.lt i hi
  rw [hr.st.lenI] at hlt
  obtain ⟨o, ho⟩ : ∃ o, ops.toList[i]? = some o := ⟨_, List.getElem?_eq_getElem hlt⟩
  exact hr.st.ord L (fun k o hk hLk e he hb => h.closed k o (by simpa using hk) hLk e (by simpa using he) hb) i o ho
    (fun e he hb => h.closed i o (by simpa using ho) hi e (by simpa using he) hb) j hB

/-- what must come ahead of one that may come is listed -/
theorem OrdI.ready (hr : Run P call N ops its l B b v T base cur S) (h : OrdI ops its L p) {i j : Nat} {o : Oper} (ho : ops[i]? = some o)
    (hready : ∀ e ∈ o.after, Region.binds .any e = true → L e.on) (hB : B i j) : L j ∧ j < i :=
  hr.st.ord L (fun k o hk hLk e he hb => h.closed k o (by simpa using hk) hLk e (by simpa using he) hb) i o (by simpa using ho)
    (fun e he hb => hready e (by simpa using he) hb) j hB

/-- the temporaries that it reads are those that it reads by the text -/
theorem OrdI.agree (hr : Run P call N ops its l B b v T base cur S) (h : OrdI ops its L p) {i : Nat} {o : Oper} {x : It} (ho : ops[i]? = some o) (hx : its[i]? = some x)
    (hready : ∀ e ∈ o.after, Region.binds .any e = true → L e.on) (hn : ¬ L i) {TL : Tm} (ht : TmpOk its v (T 0) L TL) : Agree x TL (T i) := fun d hd =>
  ht.uniq (hr.can.tmp hr.st i (Nat.le_of_lt (List.getElem?_eq_some_iff.1 hx).1)) fun j y hy hyd => by
    constructor
    · intro hLj
      by_cases h1 : j < i
      · exact h1
      · by_cases h2 : j = i
        · subst h2; exact absurd hLj hn
        · exact absurd (h.before hr hLj (hr.st.war i j x y d (by omega) hx hy hyd (.inl hd))).1 hn
    · intro hji
      exact (h.ready hr ho hready (hr.st.raw j i y x d hji hy hx hyd hd)).1

/-- a blind operation or a look yields at the state at hand what it yields by the text -/
theorem OrdI.look (hr : Run P call N ops its l B b v T base cur S) (h : OrdI ops its L p) {i : Nat} {o : Oper} {x : It} (ho : ops[i]? = some o) (hx : its[i]? = some x)
    (hready : ∀ e ∈ o.after, Region.binds .any e = true → L e.on) (hn : ¬ L i) (hk1 : kindOf x.op ≠ .eff) (hk2 : kindOf x.op ≠ .alc) (hb : b i = true) {TL : Tm} (ht : TmpOk its v (T 0) L TL) :
    opV call TL x.op (base p) = some (v i, base p) := by
  have hag := h.agree hr ho hx hready hn ht
  obtain ⟨d, hd, hdx, g1, g2, g3, g4⟩ := hr.can.item hr.st hx
  rcases g4 with ⟨_, hk, _⟩ | ⟨_, hk, _⟩ | ⟨_, hk, _, _, g5⟩ | ⟨c, hdk, hk, _, _, g5⟩
  · exact absurd hk hk1
  · exact absurd hk hk2
  · obtain ⟨st1, g6⟩ := g5 hb
    rw [hag.op]
    exact (pur_bl hk _ _ _ g6).2 _
  · obtain ⟨st1, g6⟩ := g5 hb
    have hst1 := ld_lk hk _ _ g6
    subst hst1
    have hilt := (List.getElem?_eq_some_iff.1 hx).1
    rcases hr.st.chk i d c hd hdk p h.ple (fun j y hy hyk => ⟨fun hjp hB => hn (h.before hr ((h.eff j y hy hyk).2 hjp) hB).1, fun hpj hB => by
        have := (h.eff j y hy hyk).1 (h.ready hr ho hready hB).1
        omega⟩) with he | ⟨hmem, hlast, hown⟩
    · have hbe : base p = base i := by
        by_cases hpi : p ≤ i
        · exact hr.can.base_eq hr.st hpi (Nat.le_of_lt hilt) he
        · exact (hr.can.base_eq hr.st (show i ≤ p by omega) h.ple he.symm).symm
      rw [hbe, hag.op]; exact g6
    · have hlastT := hr.can.tmp hr.st its.length (Nat.le_refl _)
      have hitmp := hr.can.tmp hr.st i (Nat.le_of_lt hilt)
      have hagn : Agree x (T its.length) (T i) := fun t htr => hlastT.uniq hitmp fun j y hy hyd => by
        have hjl := (List.getElem?_eq_some_iff.1 hy).1
        constructor
        · intro _
          by_cases h1 : j < i
          · exact h1
          · by_cases h2 : j = i
            · subst h2
              rw [hx] at hy; cases hy
              rw [hdx] at hown
              rw [hown t hyd] at htr; cases htr
            · have := (hlast j y t (by omega) hy hyd).1
              rw [hdx] at this
              rw [this] at htr; cases htr
        · intro _; exact hjl
      have hne : c ≠ [] := fun e => by rw [e] at hmem; simp at hmem
      obtain ⟨b', q1, q2⟩ := chkD_spec hr.chk i d c hd hdk hne
      rw [hdx, hagn.met, g1] at q1
      cases q1
      obtain ⟨t, u, q3, q4, q5⟩ := q2 hb
      obtain ⟨stm, r, q6, q7, q8⟩ := q5 _ hmem
      rw [nthL_eq, hr.can.at hr.st hr.s0 its.length (Nat.le_refl _) p h.ple] at q6
      cases q6
      rw [hdx] at q3 q7
      have hu : u = v i := by
        have hw : (T its.length).get t = some (v i) := (hlastT t).1 i x hx hilt q3 fun j y hij hy _ hyd => by
          have := (hlast j y t hij hy hyd).2
          rw [hdx] at this
          exact this q3
        rw [q4] at hw; cases hw; rfl
      rw [hagn.op] at q7
      rw [hag.op, q7]
      have := ld_lk hk _ _ (show _ = some (r.1, r.2) from q7)
      obtain ⟨r1, r2⟩ := r
      simp only at this q8
      subst this
      rw [q8, hu]
end

end Go.Am
