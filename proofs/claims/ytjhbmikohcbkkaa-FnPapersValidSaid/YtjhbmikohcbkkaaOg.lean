/-
  A region that draws its order is proved operation by operation: each holds in whatever state the others may have left. No program is named here.
-/
import Derived.Test.YtjhbmikohcbkkaaEnc
import Derived.Orders
namespace Go.Proofs.Ytjhbmikohcbkkaa

/-- What operation i has left in its slot. -/
def ogVal (ops : Array Oper) (i : Nat) (a : Act) : Value :=
  match (ops[i]?).bind (·.dst) with
  | some d => a.tmps.getD d undef
  | none => undef
/-- The same, told of the operation. -/
def ogOut (o : Oper) (v : Value) : Value :=
  match o.dst with
  | some _ => v
  | none => undef
/-- The frame outside the region's own slots. -/
structure OgBase (ops : Array Oper) (a0 a : Act) : Prop where
  defers : a.defers = a0.defers
  size : a.tmps.size = a0.tmps.size
  other : ∀ t : Nat, (∀ i : Nat, (ops[i]?).bind (·.dst) ≠ some t) → a.tmps.getD t undef = a0.tmps.getD t undef

/-- No guard; each slot is written once and lies in the frame; what is waited for stands before. -/
structure OgOk (ops : Array Oper) (n : Nat) : Prop where
  guard : ∀ (i : Nat) (o : Oper), ops[i]? = some o → o.guard = none
  dst : ∀ (i : Nat) (o : Oper) (d : Nat), ops[i]? = some o → o.dst = some d → d < n
  once : ∀ (i j : Nat) (o o' : Oper) (d : Nat), ops[i]? = some o → ops[j]? = some o' → o.dst = some d → o'.dst = some d → i = j
  before : ∀ (i : Nat) (o : Oper), ops[i]? = some o → ∀ e ∈ o.after, Region.binds .any e = true → e.on < i
def ogOk (ops : Array Oper) (n : Nat) : Bool :=
  (List.range ops.size).all fun i =>
    match ops[i]? with
    | none => true
    | some o => o.guard.isNone && (o.after.toList.all fun e => !Region.binds .any e || decide (e.on < i)) &&
      match o.dst with
      | none => true
      | some d => decide (d < n) && (List.range ops.size).all fun j => j == i || (match ops[j]? with | none => true | some o' => o'.dst != some d)
theorem OgOk.of {ops : Array Oper} {n : Nat} (h : ogOk ops n = true) : OgOk ops n := by
  unfold ogOk at h
  rw [List.all_eq_true] at h
  have key : ∀ (i : Nat) (o : Oper), ops[i]? = some o → o.guard.isNone = true ∧ (∀ e ∈ o.after, Region.binds .any e = true → e.on < i) ∧ ∀ d, o.dst = some d → d < n ∧ ∀ (j : Nat) (o' : Oper), ops[j]? = some o' → j ≠ i → o'.dst ≠ some d := fun i o ho => by
    have hi := (Array.getElem?_eq_some_iff.1 ho).1
    have := h i (List.mem_range.2 hi)
    rw [ho] at this
    simp only [Bool.and_eq_true] at this
    obtain ⟨⟨h1, h2⟩, h3⟩ := this
    refine ⟨h1, fun e he hb => ?_, fun d hd => ?_⟩
    · rw [List.all_eq_true] at h2
      have := h2 e (by simpa using he)
      rw [hb] at this
      simpa using this
    · rw [hd] at h3
      simp only [Bool.and_eq_true, decide_eq_true_eq] at h3
      refine ⟨h3.1, fun j o' ho' hj => ?_⟩
      have hjs := (Array.getElem?_eq_some_iff.1 ho').1
      have := (List.all_eq_true.1 h3.2) j (List.mem_range.2 hjs)
      rw [ho'] at this
      simp [hj] at this
      exact this
  refine ⟨fun i o ho => ?_, fun i o d ho hd => ((key i o ho).2.2 d hd).1, fun i j o o' d ho ho' hd hd' => ?_, fun i o ho => (key i o ho).2.1⟩
  · have := (key i o ho).1
    cases hg : o.guard with
    | none => rfl
    | some x => rw [hg] at this; cases this
  · by_cases hij : i = j
    · exact hij
    · exact absurd hd' (((key i o ho).2.2 d hd).2 j o' ho' (Ne.symm hij))

/-- What stands while the region runs. -/
structure OgInv (ops : Array Oper) (a0 : Act) (S : Array Bool → World → Prop) (A : Nat → Value → World → Prop) (listed : Array Bool) (a : Act) (w : World) : Prop where
  base : OgBase ops a0 a
  len : listed.size = ops.size
  world : S listed w
  closed : ∀ (j : Nat) (o : Oper), ops[j]? = some o → listed.getD j false = true → ∀ e ∈ o.after, Region.binds .any e = true → listed.getD e.on false = true
  done : ∀ i, listed.getD i false = true → A i (ogVal ops i a) w

/-- What operation i owes. -/
def OgStep (P : Program) (ops : Array Oper) (a0 : Act) (S : Array Bool → World → Prop) (A : Nat → Value → World → Prop) (Q : Exit → Act → World → Prop) (i : Nat) (o : Oper) : Prop :=
  ∀ (listed : Array Bool) (a : Act) (w : World), listed.size = ops.size → listed.getD i true = false → OgBase ops a0 a → S listed w →
    (∀ e ∈ o.after, Region.binds .any e = true → A e.on (ogVal ops e.on a) w) →
    (∀ (j : Nat) (oj : Oper), ops[j]? = some oj → (∃ e ∈ oj.after, Region.binds .any e = true ∧ e.on = i) → listed.getD j false = false) →
    o.wp P a w (fun a' w' => ∃ v, a' = a.put o.dst v ∧ S (listed.setIfInBounds i true) w' ∧ A i (ogOut o v) w' ∧
      ∀ (j : Nat) (oj : Oper) (u : Value), ops[j]? = some oj → j ≠ i → (∀ e ∈ oj.after, Region.binds .any e = true → e.on ≠ i) → A j u w → A j u w') Q

section
variable {P : Program} {ops : Array Oper} {Q : Exit → Act → World → Prop} {a0 : Act} {S : Array Bool → World → Prop} {A : Nat → Value → World → Prop}

theorem OgInv.step {listed : Array Bool} {a : Act} {w : World} (hok : OgOk ops a0.tmps.size) (hs : ∀ (i : Nat) (o : Oper), ops[i]? = some o → OgStep P ops a0 S A Q i o)
    (h : OgInv ops a0 S A listed a w) {i : Nat} (hi : i ∈ Region.ready .any ops listed) :
    wpOp P ops Q i (fun a' w' => OgInv ops a0 S A (listed.setIfInBounds i true) a' w') a w := by
  obtain ⟨hun, o, ho, hall⟩ := mem_ready.1 hi
  have hlt := (Array.getElem?_eq_some_iff.1 ho).1
  have hw : Region.wanted o (yielded ops a.tmps) = true := by unfold Region.wanted; rw [hok.guard i o ho]
  unfold wpOp
  simp only [ho, hw, if_true]
  refine .inl ?_
  refine Oper.wp_mono ?_ (hs i o ho listed a w h.len hun h.base h.world (fun e he hb => h.done e.on (hall e he hb)) fun j oj hj ⟨e, he, hb, hei⟩ => by
    cases hl : listed.getD j false with
    | false => rfl
    | true =>
      have := h.closed j oj hj hl e he hb
      rw [hei] at this
      rcases Nat.lt_or_ge i listed.size with h' | h'
      · simp [h'] at this hun; rw [hun] at this; cases this
      · simp [Array.getElem?_eq_none h'] at this)
  rintro a' w' ⟨v, rfl, hS, hA, hst⟩
  have hput : ∀ (j : Nat) (oj : Oper), ops[j]? = some oj → j ≠ i → ogVal ops j (a.put o.dst v) = ogVal ops j a := fun j oj hj hne => by
    unfold ogVal
    rw [hj]
    simp only [Option.bind_some]
    cases hd : oj.dst with
    | none => rfl
    | some d =>
      cases hd' : o.dst with
      | none => rfl
      | some d' =>
        have hdd : d' ≠ d := fun e => hne (hok.once j i oj o d hj ho hd (e ▸ hd'))
        simp [Act.put, Array.getElem?_setIfInBounds_ne hdd]
  refine ⟨⟨?_, ?_, ?_⟩, by rw [Array.size_setIfInBounds]; exact h.len, hS, ?_, ?_⟩
  · rw [← h.base.defers]; cases o.dst <;> rfl
  · rw [← h.base.size]; cases o.dst <;> simp [Act.put]
  · intro t ht
    rw [← h.base.other t ht]
    cases hd : o.dst with
    | none => rfl
    | some d =>
      have hdt : d ≠ t := fun e => ht i (by rw [ho, ← e]; exact hd)
      simp [Act.put, Array.getElem?_setIfInBounds_ne hdt]
  · intro j oj hoj hj e he hb
    by_cases hji : j = i
    · subst hji
      rw [ho] at hoj
      injection hoj with hoj
      subst hoj
      exact getD_set_true (hall e he hb)
    · rw [getD_set_ne false (Ne.symm hji)] at hj
      exact getD_set_true (h.closed j oj hoj hj e he hb)
  · intro j hj
    by_cases hji : j = i
    · subst hji
      have : ogVal ops j (a.put o.dst v) = ogOut o v := by
        unfold ogVal ogOut
        rw [ho]
        simp only [Option.bind_some]
        cases hd : o.dst with
        | none => rfl
        | some d =>
          have hdn := hok.dst j o d ho hd
          rw [← h.base.size] at hdn
          simp [Act.put, Array.getElem?_setIfInBounds_self_of_lt hdn]
      rw [this]
      exact hA
    · rw [getD_set_ne false (Ne.symm hji)] at hj
      have hjs : j < ops.size := by
        rcases Nat.lt_or_ge j ops.size with h' | h'
        · exact h'
        · rw [← h.len] at h'
          simp [Array.getElem?_eq_none h'] at hj
      obtain ⟨oj, hoj⟩ : ∃ oj, ops[j]? = some oj := ⟨_, Array.getElem?_eq_getElem hjs⟩
      rw [hput j oj hoj hji]
      refine hst j oj _ hoj hji (fun e he hb hei => ?_) (h.done j hj)
      have := h.closed j oj hoj hj e he hb
      rw [hei] at this
      rcases Nat.lt_or_ge i listed.size with h' | h'
      · simp [h'] at this hun; rw [hun] at this; cases this
      · simp [Array.getElem?_eq_none h'] at this

/-- How many are still to come. -/
def ogLeft (n : Nat) (listed : Array Bool) : Nat := (List.range n).countP fun i => !listed.getD i true
theorem countP_less {α : Type} {p q : α → Bool} : ∀ {l : List α} {k : α}, (∀ x, q x = true → p x = true) → k ∈ l → p k = true → q k = false → l.countP q + 1 ≤ l.countP p
  | x :: l, k, h, hk, hp, hq => by
    have hm : l.countP q ≤ l.countP p := List.countP_mono_left fun x _ => h x
    rcases List.mem_cons.1 hk with rfl | hk
    · simp [hp, hq]; omega
    · have := countP_less h hk hp hq
      rw [List.countP_cons, List.countP_cons]
      cases hqx : q x with
      | false => simp; omega
      | true => simp [h x hqx]; omega
theorem OgInv.all {listed : Array Bool} {a : Act} {w : World} (hok : OgOk ops a0.tmps.size) (h : OgInv ops a0 S A listed a w) (hr : Region.ready .any ops listed = []) : ∀ i, i < ops.size → listed.getD i false = true := by
  intro i
  induction i using Nat.strongRecOn with
  | ind i ih =>
    intro hi
    have hil : i < listed.size := by rw [h.len]; exact hi
    cases hl : listed.getD i false with
    | true => rfl
    | false =>
      exfalso
      have hm : i ∈ Region.ready .any ops listed := mem_ready.2 ⟨by simp [hil] at hl ⊢; exact hl, ops[i], Array.getElem?_eq_getElem hi, fun e he hb => by
        have := hok.before i ops[i] (Array.getElem?_eq_getElem hi) e he hb
        exact ih e.on this (by omega)⟩
      rw [hr] at hm
      cases hm
theorem og_any (hok : OgOk ops a0.tmps.size) (hs : ∀ (i : Nat) (o : Oper), ops[i]? = some o → OgStep P ops a0 S A Q i o)
    (hfin : ∀ (listed : Array Bool) (a : Act) (w : World), OgBase ops a0 a → S listed w → (∀ i, i < ops.size → listed.getD i false = true) → (∀ i, i < ops.size → A i (ogVal ops i a) w) → Q .normal a w) :
    ∀ (fuel : Nat) (listed : Array Bool) (a : Act) (w : World), ogLeft ops.size listed ≤ fuel → OgInv ops a0 S A listed a w → wpAny P .any ops Q fuel listed a w := by
  have hend : ∀ (listed : Array Bool) (a : Act) (w : World), OgInv ops a0 S A listed a w → Region.ready .any ops listed = [] → Q .normal a w := fun listed a w h hr =>
    hfin listed a w h.base h.world (h.all hok hr) fun i hi => h.done i (h.all hok hr i hi)
  intro fuel
  induction fuel with
  | zero =>
    intro listed a w hc h
    have hr : Region.ready .any ops listed = [] := by
      rw [List.eq_nil_iff_forall_not_mem]
      intro i hi
      obtain ⟨hun, o, ho, _⟩ := mem_ready.1 hi
      have hlt := (Array.getElem?_eq_some_iff.1 ho).1
      have hz : ogLeft ops.size listed = 0 := by omega
      unfold ogLeft at hz
      rw [List.countP_eq_zero] at hz
      exact hz i (List.mem_range.2 hlt) (by simpa using hun)
    exact ⟨hr, hend listed a w h hr⟩
  | succ fuel ih =>
    intro listed a w hc h
    refine ⟨hend listed a w h, fun i hi => wpOp_mono (fun a' w' h' => ih _ a' w' ?_ h') (h.step hok hs hi)⟩
    obtain ⟨hun, o, ho, _⟩ := mem_ready.1 hi
    have hlt := (Array.getElem?_eq_some_iff.1 ho).1
    have hls : i < listed.size := by rw [h.len]; exact hlt
    have := countP_less (p := fun i => !listed.getD i true) (q := fun j => !(listed.setIfInBounds i true).getD j true) (l := List.range ops.size) (k := i) (fun x hx => by
      by_cases hxi : i = x
      · subst hxi; simp [hls] at hx
      · rw [getD_set_ne true hxi] at hx; exact hx) (List.mem_range.2 hlt) (by simpa using hun) (by simp [hls])
    unfold ogLeft at hc ⊢
    omega
/-- **The rule.** -/
theorem wp_region_og {id : Nat} {n : Nat} {a : Act} {w : World} (S : Array Bool → World → Prop) (A : Nat → Value → World → Prop) (hm : P.follows .mixedOrders = true) (hn : a.tmps.size = n) (hok : ogOk ops n = true)
    (hS : S (Array.replicate ops.size false) w.drew)
    (hs : ∀ (i : Nat) (o : Oper), ops[i]? = some o → OgStep P ops a S A Q i o)
    (hfin : ∀ (listed : Array Bool) (a' : Act) (w' : World), OgBase ops a a' → S listed w' → (∀ i, i < ops.size → listed.getD i false = true) → (∀ i, i < ops.size → A i (ogVal ops i a') w') → Q .normal a' w') :
    (Code.region id ops true).wp P Q a w := by
  refine wp_region_any hm (og_any (S := S) (A := A) (OgOk.of (hn ▸ hok)) hs hfin _ _ _ _ ?_ ⟨⟨rfl, rfl, fun _ _ => rfl⟩, by simp, hS, ?_, ?_⟩)
  · unfold ogLeft
    exact Nat.le_trans List.countP_le_length (by simp)
  · intro j o _ hj
    by_cases hjs : j < ops.size
    · simp [hjs] at hj
    · simp [hjs] at hj
  · intro j hj
    by_cases hjs : j < ops.size
    · simp [hjs] at hj
    · simp [hjs] at hj
end

/-- The operations of a list, one by one. -/
def ogEach (F : Nat → Oper → Prop) : Nat → List Oper → Prop
  | _, [] => True
  | k, o :: l => F k o ∧ ogEach F (k + 1) l
theorem ogEach.at_ {F : Nat → Oper → Prop} {l : List Oper} : ∀ {k : Nat}, ogEach F k l → ∀ (i : Nat) (o : Oper), l[i]? = some o → F (k + i) o := by
  induction l with
  | nil => intro k _ i o ho; simp at ho
  | cons x l ih =>
    intro k h i o ho
    cases i with
    | zero => simp at ho; subst ho; exact h.1
    | succ i =>
      have := ih h.2 i o (by simpa using ho)
      rwa [show k + (i + 1) = k + 1 + i by omega]
theorem og_each {F : Nat → Oper → Prop} {l : List Oper} (h : ogEach F 0 l) : ∀ (i : Nat) (o : Oper), l.toArray[i]? = some o → F i o := fun i o ho => by
  have := h.at_ i o (by simpa using ho)
  rwa [Nat.zero_add] at this
end Go.Proofs.Ytjhbmikohcbkkaa
