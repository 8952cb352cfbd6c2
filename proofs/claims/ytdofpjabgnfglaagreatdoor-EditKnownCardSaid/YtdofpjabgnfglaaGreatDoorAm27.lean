/-
A region whose order is drawn: the invariant, step by step.
-/
import Derived.Test.YtdofpjabgnfglaaGreatDoorAm26
set_option linter.unusedVariables false
set_option linter.unusedSectionVars false
set_option linter.unusedSimpArgs false
namespace Go.Am
open Go
variable [GT]

section
variable {P : Program} {call : CallF} {N : Nat} {ops : Array Oper} {its : List It} {l : List DIt} {B : Nat → Nat → Prop} {b : Nat → Bool} {v : Nat → V} {T : Nat → Tm} {base cur : Nat → St} {S : Nat → List St} {L : Nat → Prop} {p : Nat}
variable {G : Program} {X0 : Nat → Prop} {ι0 ι ι' : Inj} {w0 w w' : World}

theorem Run.base_cur (hr : Run P call N ops its l B b v T base cur S) (h : OrdI ops its L p) : base p = cur p := by
  rcases h.pe with rfl | ⟨e, y, rfl, hy, hk⟩
  · exact hr.b0
  · rcases hr.can.states hr.st hy with ⟨_, h1, _⟩ | ⟨h1, _⟩
    · exact h1
    · exact absurd hk h1

theorem Run.cur_mono (hr : Run P call N ops its l B b v T base cur S) {i j : Nat} (hij : i ≤ j) (hj : j ≤ its.length) : (cur i).next ≤ (cur j).next :=
  (hr.can.mono hr.st hr.hcu (by rw [hr.b0]; exact Nat.le_refl _) hij hj).1

/-- an early one is a step of the text -/
theorem Run.early (hr : Run P call N ops its l B b v T base cur S) {i : Nat} {x : It} (hx : its[i]? = some x) (hk : kindOf x.op = .alc) (hb : b i = true) :
    opV call (T i) x.op (cur i) = some (v i, cur (i + 1)) ∧ ∃ o : Obj, o.live ∧ cur (i + 1) = (cur i).alloc o ∧ (cur (i + 1)).next = (cur i).next + 1 ∧
      ∀ h, opV call (T i) x.op ⟨h, (cur i).next⟩ = some (v i, (⟨h, (cur i).next⟩ : St).alloc o) := by
  obtain ⟨d, hd, hdx, g1, g2, g3, g4⟩ := hr.can.item hr.st hx
  rcases g4 with ⟨_, hk2, _⟩ | ⟨_, _, _, g5, _⟩ | ⟨_, hk2, _⟩ | ⟨c, _, hk2, _⟩
  · rw [hk] at hk2; cases hk2
  · have g6 := g5 hb
    obtain ⟨o, q1, q2, q3⟩ := alc_nw hk _ _ _ g6
    exact ⟨g6, o, q1, q2, by rw [q2]; rfl, q3⟩
  · rw [hk] at hk2; cases hk2
  · rw [hk] at hk2; cases hk2

/-- of a place that is no effect, and makes nothing new -/
theorem Run.still (hr : Run P call N ops its l B b v T base cur S) {i : Nat} {x : It} (hx : its[i]? = some x) (hk1 : kindOf x.op ≠ .eff) (hk2 : kindOf x.op ≠ .alc ∨ b i = false) : cur (i + 1) = cur i := by
  obtain ⟨d, hd, hdx, g1, g2, g3, g4⟩ := hr.can.item hr.st hx
  rcases g4 with ⟨_, hk, _⟩ | ⟨_, hk, _, _, g5⟩ | ⟨_, hk, _, g5, _⟩ | ⟨c, _, hk, _, g5, _⟩
  · exact absurd hk hk1
  · rcases hk2 with hk2 | hk2
    · exact absurd hk hk2
    · exact g5 hk2
  · exact g5
  · exact g5

theorem Early.next_lt (hr : Run P call N ops its l B b v T base cur S) {k : Nat} (hk : Early its b L p k) : (cur (k + 1)).next = (cur k).next + 1 ∧ k < its.length := by
  obtain ⟨x, hx, h1, _, h2, _⟩ := hk
  obtain ⟨_, o, _, _, h3, _⟩ := hr.early hx h1 h2
  exact ⟨h3, (List.getElem?_eq_some_iff.1 hx).1⟩

/-- the numbers of two early ones differ -/
theorem Early.ne (hr : Run P call N ops its l B b v T base cur S) {L' : Nat → Prop} {j k : Nat} (hj : Early its b L p j) (hk : Early its b L' p k) (h : j < k) : (cur j).next < (cur k).next := by
  obtain ⟨h1, _⟩ := hj.next_lt hr
  obtain ⟨_, h2⟩ := hk.next_lt hr
  have := hr.cur_mono (show j + 1 ≤ k by omega) (Nat.le_of_lt h2)
  omega

/-- the memory as the text has it at place i, if all that the text makes till then has been made -/
theorem MemI.commit (hr : Run P call N ops its l B b v T base cur S) (ho : OrdI ops its L p) (hm : MemI G X0 its b base cur ι0 w0 L p ι w) : ∀ i, p ≤ i → i ≤ its.length →
    (∀ j x, p ≤ j → j < i → its[j]? = some x → kindOf x.op ≠ .eff ∧ (kindOf x.op = .alc → L j)) →
    HRel G (fun _ => True) ι (cur i) w ∧ ∀ c o, (cur i).heap.get c = some o → (base p).heap.get c = some o ∨ ∃ k, Early its b L p k ∧ k < i ∧ c = (cur k).next
  | 0, hi, _, _ => by
    have : p = 0 := by omega
    subst this
    rw [← hr.base_cur ho]
    exact ⟨hm.rel, fun c o h => .inl h⟩
  | i + 1, hi, hle, hall => by
    by_cases hpi : p = i + 1
    · subst hpi
      rw [← hr.base_cur ho]
      exact ⟨hm.rel, fun c o h => .inl h⟩
    · obtain ⟨x, hx⟩ : ∃ x, its[i]? = some x := ⟨_, List.getElem?_eq_getElem (by omega)⟩
      obtain ⟨h1, h2⟩ := hm.commit hr ho i (by omega) (by omega) fun j y hj1 hj2 hy => hall j y hj1 (by omega) hy
      obtain ⟨k1, k2⟩ := hall i x (by omega) (by omega) hx
      have back : ∀ c o, (cur i).heap.get c = some o → (base p).heap.get c = some o ∨ ∃ k, Early its b L p k ∧ k < i + 1 ∧ c = (cur k).next := fun c o hc => by
        rcases h2 c o hc with h | ⟨k, q1, q2, q3⟩
        · exact .inl h
        · exact .inr ⟨k, q1, by omega, q3⟩
      by_cases hka : kindOf x.op = .alc ∧ b i = true
      · obtain ⟨hka, hbi⟩ := hka
        have he : Early its b L p i := ⟨x, hx, hka, k2 hka, hbi, by omega⟩
        obtain ⟨_, o, q1, q2, q3, _⟩ := hr.early hx hka hbi
        obtain ⟨o', r1, r2, r3⟩ := hm.pend i he
        have hoo : o' = o := by
          have e1 : ((cur i).alloc o').heap.get (cur i).next = some o' := by rw [alloc_get, if_pos rfl]
          have e2 : ((cur i).alloc o).heap.get (cur i).next = some o := by rw [alloc_get, if_pos rfl]
          rw [← r2, q2, e2] at e1; cases e1; rfl
        subst hoo
        rw [q2]
        refine ⟨h1.commit (X' := fun _ => True) ?_ fun _ _ _ => .inr trivial, fun c o2 hc => ?_⟩
        · obtain ⟨li, s1, s2, s3, s4⟩ := r3
          refine ⟨li, s1, s2, fun c o2 l2 g1 g2 g3 => ?_, s4⟩
          rcases h2 c o2 g1 with h | ⟨k, t1, t2, t3⟩
          · exact s3 c o2 l2 h g2 g3
          · subst t3
            exact hm.apart k i l2 li t1 he (by omega) g3 s1
        · rw [alloc_get] at hc
          split at hc
          · rename_i e
            exact .inr ⟨i, he, by omega, e.symm⟩
          · exact back c o2 hc
      · have hst := hr.still hx k1 (by
          by_cases h : kindOf x.op = .alc
          · right
            cases hb : b i with
            | false => rfl
            | true => exact absurd ⟨h, hb⟩ hka
          · exact .inl h)
        rw [hst]
        exact ⟨h1, back⟩

/-- live blocks of a state that were there at the start, or are new since -/
def NewOk (base : Nat → St) (ι0 : Inj) (w0 : World) (ι : Inj) (st : St) : Prop :=
  ∀ c o l, st.heap.get c = some o → o.live → ι c = some l → w0.heap.size ≤ l.blk ∨ ∃ c0 o0 l0, (base 0).heap.get c0 = some o0 ∧ o0.live ∧ ι0 c0 = some l0 ∧ l0.blk = l.blk

theorem NewOk.turn {st st' : St} (h : NewOk base ι0 w0 ι st) (hs : Stp ι st w ι' st' w') (hsz : w0.heap.size ≤ w.heap.size) : NewOk base ι0 w0 ι' st' := fun c o l h1 h2 h3 => by
  rcases hs.new c o l h1 h2 h3 with k | ⟨b0, o0, l0, k1, k2, k3, k4⟩
  · exact .inl (Nat.le_trans hsz k)
  · rcases h b0 o0 l0 k1 k2 k3 with k | ⟨c0, o1, l1, q1, q2, q3, q4⟩
    · exact .inl (k4 ▸ k)
    · exact .inr ⟨c0, o1, l1, q1, q2, q3, q4.trans k4⟩

theorem NewOk.kept {st st' : St} (h : NewOk base ι0 w0 ι st) (hs : Stp ι st w ι' st' w') (hsz : w0.heap.size ≤ w.heap.size) {C : Nat} (hC : C < w0.heap.size)
    (hno : ∀ c o l, (base 0).heap.get c = some o → o.live → ι0 c = some l → l.blk ≠ C) : w'.heap[C]? = w.heap[C]? :=
  hs.kept C (Nat.lt_of_lt_of_le hC hsz) fun c o l h1 h2 h3 e => by
    rcases h c o l h1 h2 h3 with k | ⟨c0, o1, l1, q1, q2, q3, q4⟩
    · omega
    · exact hno c0 o1 l1 q1 q2 q3 (q4.trans e)

/-- of the state at place i, too -/
theorem MemI.newAt (hr : Run P call N ops its l B b v T base cur S) (ho : OrdI ops its L p) (hm : MemI G X0 its b base cur ι0 w0 L p ι w) {i : Nat} (h1 : p ≤ i) (h2 : i ≤ its.length)
    (hall : ∀ j x, p ≤ j → j < i → its[j]? = some x → kindOf x.op ≠ .eff ∧ (kindOf x.op = .alc → L j)) : NewOk base ι0 w0 ι (cur i) := fun c o l g1 g2 g3 => by
  rcases (hm.commit hr ho i h1 h2 hall).2 c o g1 with h | ⟨k, t1, t2, t3⟩
  · exact hm.new c o l h g2 g3
  · subst t3
    exact .inl (hm.pnew k l t1 g3)

/-- where the text is at place i: the numbers that are known beside -/
def Bes (X0 : Nat → Prop) (its : List It) (b : Nat → Bool) (cur : Nat → St) (L : Nat → Prop) (p i : Nat) : Nat → Prop := fun c => X0 c ∨ ∃ k, Early its b L p k ∧ i ≤ k ∧ c = (cur k).next

theorem MemI.at (hr : Run P call N ops its l B b v T base cur S) (ho : OrdI ops its L p) (hm : MemI G X0 its b base cur ι0 w0 L p ι w) {i : Nat} (h1 : p ≤ i) (h2 : i ≤ its.length)
    (hall : ∀ j x, p ≤ j → j < i → its[j]? = some x → kindOf x.op ≠ .eff ∧ (kindOf x.op = .alc → L j)) : HRel G (Bes X0 its b cur L p i) ι (cur i) w := by
  have h := (hm.commit hr ho i h1 h2 hall).1
  refine ⟨h.obj, fun c l hc => ⟨?_, (h.dom c l hc).2⟩, h.live, h.inj, h.glob, h.glo⟩
  rcases hm.dom c l hc with k | k | ⟨k, k1, k2⟩
  · left
    have := hr.cur_mono h1 h2
    rw [← hr.base_cur ho] at this
    omega
  · exact .inr (.inl k)
  · by_cases hki : i ≤ k
    · exact .inr (.inr ⟨k, k1, hki, k2⟩)
    · left
      obtain ⟨q1, q2⟩ := k1.next_lt hr
      have := hr.cur_mono (show k + 1 ≤ i by omega) h2
      omega

/-- the end -/
theorem MemI.end (hr : Run P call N ops its l B b v T base cur S) (ho : OrdI ops its L p) (hm : MemI G X0 its b base cur ι0 w0 L p ι w) (hL : ∀ i, i < its.length → L i) :
    HRel G X0 ι (cur its.length) w ∧ Stp ι0 (base 0) w0 ι (cur its.length) w := by
  have hall : ∀ j x, p ≤ j → j < its.length → its[j]? = some x → kindOf x.op ≠ .eff ∧ (kindOf x.op = .alc → L j) := fun j x h1 h2 hx =>
    ⟨fun hk => by have := (ho.eff j x hx hk).1 (hL j h2); omega, fun _ => hL j h2⟩
  have h := hm.at hr ho ho.ple (Nat.le_refl _) hall
  have hmono := hr.can.mono hr.st hr.hcu (by rw [hr.b0]; exact Nat.le_refl _) (Nat.zero_le _) (Nat.le_refl _)
  refine ⟨⟨h.obj, fun c l hc => ⟨?_, (h.dom c l hc).2⟩, h.live, h.inj, h.glob, h.glo⟩, hm.ext, ?_, hm.size, hm.kept, hm.newAt hr ho ho.ple (Nat.le_refl _) hall, hm.ids, hm.tape, hm.os, hm.out⟩
  · rcases (h.dom c l hc).1 with k | k | ⟨k, k1, k2, k3⟩
    · exact .inl k
    · exact .inr k
    · obtain ⟨_, q2⟩ := k1.next_lt hr
      omega
  · rw [hr.b0]; exact hmono.1

/-- an effect -/
theorem MemI.eff (hr : Run P call N ops its l B b v T base cur S) (ho : OrdI ops its L p) (hm : MemI G X0 its b base cur ι0 w0 L p ι w) {i : Nat} {x : It} (hx : its[i]? = some x) (hk : kindOf x.op = .eff) (hpi : p ≤ i)
    (hall : ∀ j x, p ≤ j → j < i → its[j]? = some x → kindOf x.op ≠ .eff ∧ (kindOf x.op = .alc → L j))
    (h : HRel G (Bes X0 its b cur L p i) ι' (cur (i + 1)) w') (hs : Stp ι (cur i) w ι' (cur (i + 1)) w') : MemI G X0 its b base cur ι0 w0 (fun j => L j ∨ j = i) (i + 1) ι' w' := by
  have hlt := (List.getElem?_eq_some_iff.1 hx).1
  have hbc : base (i + 1) = cur (i + 1) := by
    rcases hr.can.states hr.st hx with ⟨_, h1, _⟩ | ⟨h1, _⟩
    · exact h1
    · exact absurd hk h1
  have hE : ∀ k, Early its b (fun j => L j ∨ j = i) (i + 1) k → Early its b L p k ∧ i + 1 ≤ k := fun k ⟨y, h1, h2, h3, h4, h5⟩ =>
    ⟨⟨y, h1, h2, by rcases h3 with h3 | h3; exact h3; omega, h4, by omega⟩, h5⟩
  have hnew := hm.newAt hr ho hpi (by omega) hall
  have hcom := hm.commit hr ho i hpi (by omega) hall
  have hpnd : ∀ k, Early its b L p k → i + 1 ≤ k → ∃ o, o.live ∧ cur (k + 1) = (cur k).alloc o ∧ Pend G ι w (cur i) (cur k).next o := fun k hk1 hk2 => by
    obtain ⟨o, q1, q2, l1, q3, q4, q5, q6⟩ := hm.pend k hk1
    refine ⟨o, q1, q2, l1, q3, q4, fun c o2 l2 g1 g2 g3 => ?_, q6⟩
    rcases hcom.2 c o2 g1 with h | ⟨k', t1, t2, t3⟩
    · exact q5 c o2 l2 h g2 g3
    · subst t3
      exact hm.apart k' k l2 l1 t1 hk1 (by omega) g3 q3
  have hsame : ∀ k l1, Early its b L p k → ι' (cur k).next = some l1 → ι (cur k).next = some l1 := fun k l1 hk1 hl1 => by
    obtain ⟨o, _, _, l2, q3, _⟩ := hm.pend k hk1
    have := hs.ext _ _ q3
    rw [hl1] at this; cases this; exact q3
  refine ⟨?_, fun c l1 hc => ?_, fun k hk1 => ?_, fun j k lj lk hj hk1 hne e1 e2 => ?_, fun k l1 hk1 hl1 => ?_, fun c l1 hc => hs.ext _ _ (hm.ext _ _ hc), Nat.le_trans hm.size hs.size,
    fun C hC hno => (hnew.kept hs hm.size hC hno).trans (hm.kept C hC hno), ?_, fun c l1 hc => ?_, hs.tape.trans hm.tape, hs.os.trans hm.os, hs.out.trans hm.out⟩
  · rw [hbc]
    exact ⟨h.obj, fun c l1 hc => ⟨.inr trivial, (h.dom c l1 hc).2⟩, h.live, h.inj, h.glob, h.glo⟩
  · rw [hbc]
    rcases (h.dom c l1 hc).1 with k | k | ⟨k, k1, k2, k3⟩
    · exact .inl k
    · exact .inr (.inl k)
    · have hki : k ≠ i := fun e => by
        subst e
        obtain ⟨y, g1, g2, _⟩ := k1
        rw [hx] at g1; cases g1
        rw [hk] at g2; cases g2
      obtain ⟨y, g1, g2, g3, g4, g5⟩ := k1
      exact .inr (.inr ⟨k, ⟨y, g1, g2, .inl g3, g4, by omega⟩, k3⟩)
  · obtain ⟨k1, k2⟩ := hE k hk1
    obtain ⟨o, q1, q2, q3⟩ := hpnd k k1 k2
    rw [hbc]
    exact ⟨o, q1, q2, q3.keep (fun g o g1 g2 => (hm.rel.glo g o g1 g2).1.loc g2) q1 hs fun l1 hl1 => (hm.rel.dom _ _ hl1).2⟩
  · exact hm.apart j k lj lk (hE j hj).1 (hE k hk1).1 hne (hsame j lj (hE j hj).1 e1) (hsame k lk (hE k hk1).1 e2)
  · exact hm.pnew k l1 (hE k hk1).1 (hsame k l1 (hE k hk1).1 hl1)
  · rw [hbc]
    exact hnew.turn hs hm.size
  · rcases hs.ids c l1 hc with k | ⟨k1, k2⟩
    · exact hm.ids c l1 k
    · right
      have g1 := hr.cur_mono (Nat.zero_le i) (by omega)
      have g2 := hr.cur_mono (show i + 1 ≤ its.length by omega) (Nat.le_refl _)
      rw [hr.b0]; omega

/-- something new -/
theorem MemI.alc (hr : Run P call N ops its l B b v T base cur S) (ho : OrdI ops its L p) (hm : MemI G X0 its b base cur ι0 w0 L p ι w) {i : Nat} {x : It} (hx : its[i]? = some x) (hk : kindOf x.op = .alc) (hpi : p ≤ i) (hb : b i = true) (hn : ¬ L i)
    {o : Obj} (hol : o.live) (hoc : cur (i + 1) = (cur i).alloc o) {X1 : Nat → Prop}
    (h : HRel G X1 ι' ((⟨(base p).heap, (cur i).next⟩ : St).alloc o) w') (hs : Stp ι ⟨(base p).heap, (cur i).next⟩ w ι' ((⟨(base p).heap, (cur i).next⟩ : St).alloc o) w') :
    MemI G X0 its b base cur ι0 w0 (fun j => L j ∨ j = i) p ι' w' := by
  have hlt := (List.getElem?_eq_some_iff.1 hx).1
  have hpn : (base p).next ≤ (cur i).next := by
    rw [hr.base_cur ho]; exact hr.cur_mono hpi (by omega)
  have hei : Early its b (fun j => L j ∨ j = i) p i := ⟨x, hx, hk, .inr rfl, hb, hpi⟩
  have hE : ∀ k, Early its b (fun j => L j ∨ j = i) p k → k = i ∨ (k ≠ i ∧ Early its b L p k) := fun k ⟨y, h1, h2, h3, h4, h5⟩ => by
    by_cases e : k = i
    · exact .inl e
    · exact .inr ⟨e, ⟨y, h1, h2, by rcases h3 with h3 | h3; exact h3; exact absurd h3 e, h4, h5⟩⟩
  have hE' : ∀ k, Early its b L p k → Early its b (fun j => L j ∨ j = i) p k := fun k ⟨y, h1, h2, h3, h4, h5⟩ => ⟨y, h1, h2, .inl h3, h4, h5⟩
  obtain ⟨hrel, hpend⟩ := HRel.early (X2 := fun _ => True) hol hpn hm.rel h hs fun _ _ _ => .inr trivial
  have hget : ((⟨(base p).heap, (cur i).next⟩ : St).alloc o).heap.get (cur i).next = some o := by rw [alloc_get, if_pos rfl]
  have hsub : ∀ c o2, (base p).heap.get c = some o2 → ((⟨(base p).heap, (cur i).next⟩ : St).alloc o).heap.get c = some o2 := fun c o2 hc => by
    rw [alloc_get, if_neg (by have := hm.rel.live c o2 hc; show ¬ (cur i).next = c; omega)]; exact hc
  obtain ⟨li, hli⟩ : ∃ l, ι' (cur i).next = some l := by
    have := h.obj _ _ hget
    cases o with
    | dead => exact absurd hol (by simp [Obj.live])
    | cells cs n e => obtain ⟨l, h1, _⟩ := this; exact ⟨l, h1⟩
    | map es => obtain ⟨l, _, _, h1, _⟩ := this; exact ⟨l, h1⟩
    | lrec ps a c T => obtain ⟨l, _, h1, _⟩ := this; exact ⟨l, h1⟩
  have hpi2 := hpend ⟨li, hli⟩
  have hfr : w.heap.size ≤ li.blk := by
    rcases hs.new _ o li hget hol hli with k | ⟨b0, o0, l0, k1, k2, k3, k4⟩
    · exact k
    · obtain ⟨l1, q1, _, q3, _⟩ := hpi2
      rw [hli] at q1; cases q1
      exact absurd k4 (q3 b0 o0 l0 k1 k2 (hs.ext _ _ k3))
  have hsame : ∀ k l1, Early its b L p k → ι' (cur k).next = some l1 → ι (cur k).next = some l1 := fun k l1 hk1 hl1 => by
    obtain ⟨o, _, _, l2, q3, _⟩ := hm.pend k hk1
    have := hs.ext _ _ q3
    rw [hl1] at this; cases this; exact q3
  have hold : ∀ k l1, Early its b L p k → ι' (cur k).next = some l1 → l1.blk < w.heap.size := fun k l1 hk1 hl1 => (hm.rel.dom _ _ (hsame k l1 hk1 hl1)).2
  have hnew : NewOk base ι0 w0 ι ⟨(base p).heap, (cur i).next⟩ := hm.new
  refine ⟨hrel, fun c l1 hc => ?_, fun k hk1 => ?_, fun j k lj lk hj hk1 hne e1 e2 => ?_, fun k l1 hk1 hl1 => ?_, fun c l1 hc => hs.ext _ _ (hm.ext _ _ hc), Nat.le_trans hm.size hs.size,
    fun C hC hno => (hnew.kept hs hm.size hC hno).trans (hm.kept C hC hno), fun c o2 l1 g1 g2 g3 => hnew.turn hs hm.size c o2 l1 (hsub c o2 g1) g2 g3, fun c l1 hc => ?_, hs.tape.trans hm.tape, hs.os.trans hm.os, hs.out.trans hm.out⟩
  · rcases hs.ids c l1 hc with k | ⟨k1, k2⟩
    · rcases hm.dom c l1 k with k | k | ⟨k, k1, k2⟩
      · exact .inl k
      · exact .inr (.inl k)
      · exact .inr (.inr ⟨k, hE' k k1, k2⟩)
    · have k1 : (cur i).next ≤ c := k1
      have k2 : c < (cur i).next + 1 := k2
      exact .inr (.inr ⟨i, hei, by omega⟩)
  · rcases hE k hk1 with rfl | ⟨hki, hk2⟩
    · exact ⟨o, hol, hoc, hpi2⟩
    · obtain ⟨o2, q1, q2, q3⟩ := hm.pend k hk2
      have q4 : Pend G ι w ⟨(base p).heap, (cur i).next⟩ (cur k).next o2 := q3
      obtain ⟨l1, r1, r2, r3, r4⟩ := q4.keep (fun g o g1 g2 => (hm.rel.glo g o g1 g2).1.loc g2) q1 hs fun l1 hl1 => (hm.rel.dom _ _ hl1).2
      exact ⟨o2, q1, q2, l1, r1, r2, fun c o3 l3 g1 g2 g3 => r3 c o3 l3 (hsub c o3 g1) g2 g3, r4⟩
  · rcases hE j hj with rfl | ⟨hji, hj2⟩
    · rcases hE k hk1 with rfl | ⟨hki, hk2⟩
      · exact absurd rfl hne
      · rw [hli] at e1; cases e1
        have := hold k lk hk2 e2
        omega
    · rcases hE k hk1 with rfl | ⟨hki, hk2⟩
      · rw [hli] at e2; cases e2
        have := hold j lj hj2 e1
        omega
      · exact hm.apart j k lj lk hj2 hk2 hne (hsame j lj hj2 e1) (hsame k lk hk2 e2)
  · rcases hE k hk1 with rfl | ⟨hki, hk2⟩
    · rw [hli] at hl1; cases hl1
      exact Nat.le_trans hm.size hfr
    · exact hm.pnew k l1 hk2 (hsame k l1 hk2 hl1)
  · rcases hs.ids c l1 hc with k | ⟨k1, k2⟩
    · exact hm.ids c l1 k
    · right
      have k1 : (cur i).next ≤ c := k1
      have k2 : c < (cur i).next + 1 := k2
      have g1 := hr.cur_mono (Nat.zero_le i) (by omega)
      have g2 := hr.cur_mono (show i + 1 ≤ its.length by omega) (Nat.le_refl _)
      have g3 : (cur (i + 1)).next = (cur i).next + 1 := by rw [hoc]; rfl
      rw [hr.b0]; omega

/-- nothing is turned -/
theorem MemI.still (hm : MemI G X0 its b base cur ι0 w0 L p ι w) {L' : Nat → Prop} (hE : ∀ k, Early its b L' p k ↔ Early its b L p k) {X1 : Nat → Prop}
    (h : HRel G X1 ι' (base p) w') (hs : Stp ι (base p) w ι' (base p) w') : MemI G X0 its b base cur ι0 w0 L' p ι' w' := by
  have hids : ∀ c l, ι' c = some l → ι c = some l := fun c l hc => by
    rcases hs.ids c l hc with k | ⟨k1, k2⟩
    · exact k
    · omega
  have hnew : NewOk base ι0 w0 ι (base p) := hm.new
  refine ⟨⟨h.obj, fun c l1 hc => ⟨.inr trivial, (h.dom c l1 hc).2⟩, h.live, h.inj, h.glob, h.glo⟩, fun c l1 hc => ?_, fun k hk1 => ?_, fun j k lj lk hj hk1 hne e1 e2 => hm.apart j k lj lk ((hE j).1 hj) ((hE k).1 hk1) hne (hids _ _ e1) (hids _ _ e2),
    fun k l1 hk1 hl1 => hm.pnew k l1 ((hE k).1 hk1) (hids _ _ hl1), fun c l1 hc => hs.ext _ _ (hm.ext _ _ hc), Nat.le_trans hm.size hs.size,
    fun C hC hno => (hnew.kept hs hm.size hC hno).trans (hm.kept C hC hno), hnew.turn hs hm.size, fun c l1 hc => hm.ids c l1 (hids _ _ hc), hs.tape.trans hm.tape, hs.os.trans hm.os, hs.out.trans hm.out⟩
  · rcases hm.dom c l1 (hids _ _ hc) with k | k | ⟨k, k1, k2⟩
    · exact .inl k
    · exact .inr (.inl k)
    · exact .inr (.inr ⟨k, (hE k).2 k1, k2⟩)
  · obtain ⟨o, q1, q2, q3⟩ := hm.pend k ((hE k).1 hk1)
    exact ⟨o, q1, q2, q3.keep (fun g o g1 g2 => (hm.rel.glo g o g1 g2).1.loc g2) q1 hs fun l1 hl1 => (hm.rel.dom _ _ hl1).2⟩
end

end Go.Am
