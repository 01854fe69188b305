/- A region that draws its order: whatever the order, it comes to what the abstract run says. -/
import Derived.Test.YthlijlhfhlbehaaGreatZyDet
import Derived.Orders
set_option linter.unusedSimpArgs false
set_option linter.unusedVariables false
namespace Go.Zy

/- ## What an order keeps -/
theorem hasBit_eq (m i : Nat) : hasBit m i = m.testBit i := by
  have h1 : Nat.shiftRight m i = m >>> i := rfl
  have h2 : ∀ a b, Nat.land a b = a &&& b := fun _ _ => rfl
  unfold hasBit
  rw [h1, h2, Nat.testBit, Nat.and_comm]
  have : (1 &&& m >>> i) < 2 := by rw [Nat.and_comm, Nat.and_one_is_mod]; exact Nat.mod_lt _ (by decide)
  generalize (1 &&& m >>> i) = n at this
  match n, this with
  | 0, _ => rfl
  | 1, _ => rfl
theorem hasBit_lor (a b i : Nat) : hasBit (Nat.lor a b) i = (hasBit a i || hasBit b i) := by
  rw [hasBit_eq, hasBit_eq, hasBit_eq]
  exact Nat.testBit_or a b i
theorem hasBit_bit (i j : Nat) : hasBit (bit i) j = true → i = j := by
  rw [hasBit_eq]
  have : bit i = 2 ^ i := by unfold bit; show 1 <<< i = 2 ^ i; rw [Nat.shiftLeft_eq, Nat.one_mul]
  rw [this, Nat.testBit_two_pow]
  simp
theorem hasBit_zero (j : Nat) : hasBit 0 j = false := by rw [hasBit_eq]; exact Nat.zero_testBit j

def A (ah : List Nat) (i j : Nat) : Prop := hasBit (ah.getD i 0) j = true
theorem aheadOf_bit {ah : List Nat} {j : Nat} : ∀ {l : List Edge}, hasBit (aheadOf ah l) j = true → ∃ e ∈ l, Region.binds .any e = true ∧ (e.on = j ∨ A ah e.on j) := by
  intro l
  induction l with
  | nil => intro h; rw [aheadOf, hasBit_zero] at h; cases h
  | cons e l ih =>
    intro h
    simp only [aheadOf] at h
    cases hb : Region.binds .any e with
    | false =>
      rw [hb] at h
      obtain ⟨e', h1, h2⟩ := ih h
      exact ⟨e', List.mem_cons_of_mem _ h1, h2⟩
    | true =>
      rw [hb] at h
      simp only [cond_true, hasBit_lor, Bool.or_eq_true] at h
      rcases h with (h | h) | h
      · exact ⟨e, List.mem_cons_self .., hb, .inl (hasBit_bit _ _ h)⟩
      · exact ⟨e, List.mem_cons_self .., hb, .inr h⟩
      · obtain ⟨e', h1, h2⟩ := ih h
        exact ⟨e', List.mem_cons_of_mem _ h1, h2⟩
theorem aheadsOk_at {ah : List Nat} : ∀ {os : List Oper} {n i : Nat} {o : Oper}, aheadsOk ah os n = true → os[i]? = some o → aheadOf ah o.after.toList = ah.getD (n + i) 0 := by
  intro os
  induction os with
  | nil => intro n i o _ h; simp at h
  | cons x os ih =>
    intro n i o h hi
    simp only [aheadsOk, Bool.and_eq_true] at h
    cases i with
    | zero => simp at hi; subst hi; exact Nat.eq_of_beq_eq_true h.1
    | succ i => simp at hi; have := ih h.2 hi; rw [this]; congr 1; omega
theorem edgesDown_at : ∀ {os : List Oper} {n i : Nat} {o : Oper}, edgesDown os n = true → os[i]? = some o → ∀ e ∈ o.after.toList, Region.binds .any e = true → e.on < n + i := by
  intro os
  induction os with
  | nil => intro n i o _ h; simp at h
  | cons x os ih =>
    intro n i o h hi e he hb
    simp only [edgesDown, Bool.and_eq_true, List.all_eq_true] at h
    cases i with
    | zero => simp at hi; subst hi; have := h.1 e he; simp [hb] at this; simpa using this
    | succ i => simp at hi; have := ih h.2 hi e he hb; omega

def Closed (ah : List Nat) (N : Nat) (D : Nat → Prop) : Prop := ∀ q, q < N → D q → ∀ j, A ah q j → D j
section
variable {ops : Array Oper} {ah : List Nat}

/-- What may come next has all done that must be ahead of it. -/
theorem ready_ahead {listed : Array Bool} {i : Nat} (h1 : aheadsOk ah ops.toList 0 = true) (h2 : edgesDown ops.toList 0 = true) (hc : Closed ah ops.size (fun q => listed.getD q true = true)) (hsz : listed.size = ops.size)
    (hi : i ∈ Region.ready .any ops listed) : ∀ j, A ah i j → listed.getD j true = true := by
  obtain ⟨_, o, ho, hall⟩ := mem_ready.1 hi
  intro j hj
  have ho' : ops.toList[i]? = some o := by rw [Array.getElem?_toList]; exact ho
  have e1 := aheadsOk_at h1 ho'
  rw [Nat.zero_add] at e1
  unfold A at hj
  rw [← e1] at hj
  obtain ⟨e, he, hb, hor⟩ := aheadOf_bit hj
  have hd := hall e (by simpa using he) hb
  have hlt := edgesDown_at h2 ho' e he hb
  have hi' := (Array.getElem?_eq_some_iff.1 ho).1
  have hd' : listed.getD e.on true = true := by
    have hs : e.on < listed.size := by rw [hsz]; omega
    simp only [Array.getD_eq_getD_getElem?, Array.getElem?_eq_getElem hs, Option.getD_some] at hd ⊢
    exact hd
  rcases hor with rfl | hor
  · exact hd'
  · exact hc e.on (by omega) hd' j hor
/-- Where nothing may come next, all is done. -/
theorem ready_nil {listed : Array Bool} (h2 : edgesDown ops.toList 0 = true) (hsz : listed.size = ops.size) (hr : Region.ready .any ops listed = []) : ∀ i, listed.getD i true = true := by
  intro i
  induction i using Nat.strongRecOn with
  | ind i ih =>
    cases hd : listed.getD i true with
    | true => rfl
    | false =>
      have hi : i < ops.size := by
        rcases Nat.lt_or_ge i listed.size with h | h
        · omega
        · rw [Array.getD_eq_getD_getElem?, Array.getElem?_eq_none h] at hd; cases hd
      have ho : ops[i]? = some ops[i] := by simp [hi]
      have ho' : ops.toList[i]? = some ops[i] := by rw [Array.getElem?_toList]; exact ho
      have : i ∈ Region.ready .any ops listed := by
        refine mem_ready.2 ⟨hd, _, ho, fun e he hb => ?_⟩
        have hlt := edgesDown_at h2 ho' e (by simpa using he) hb
        have := ih e.on (by omega)
        have hs : e.on < listed.size := by omega
        simp only [Array.getD_eq_getD_getElem?, Array.getElem?_eq_getElem hs, Option.getD_some] at this ⊢
        exact this
      rw [hr] at this
      cases this
theorem listed_set {listed : Array Bool} {i : Nat} (hi : i < listed.size) (j : Nat) : (listed.setIfInBounds i true).getD j true = true ↔ (listed.getD j true = true ∨ j = i) := by
  simp only [Array.getD_eq_getD_getElem?, Array.getElem?_setIfInBounds]
  by_cases h : i = j
  · subst h; simp [hi]
  · rw [if_neg h]; have h' : ¬ j = i := fun e => h e.symm; simp [h']
def unlisted (N : Nat) (listed : Array Bool) : Nat := (List.range N).countP fun i => !listed.getD i true
theorem countP_less {l : List Nat} {p q : Nat → Bool} {i : Nat} (hi : i ∈ l) (hp : p i = true) (hq : q i = false) (h : ∀ j, q j = true → p j = true) : l.countP q < l.countP p := by
  induction l with
  | nil => cases hi
  | cons a l ih =>
    have hle : l.countP q ≤ l.countP p := List.countP_mono_left fun x _ => h x
    rcases List.mem_cons.1 hi with rfl | hi
    · simp only [List.countP_cons, hp, hq]; simp; omega
    · have := ih hi
      simp only [List.countP_cons]
      cases hqa : q a
      · simp; omega
      · simp [h a hqa]; omega
theorem unlisted_set {listed : Array Bool} {i : Nat} (hi : i < ops.size) (hsz : listed.size = ops.size) (hd : listed.getD i true = false) : unlisted ops.size (listed.setIfInBounds i true) < unlisted ops.size listed := by
  refine countP_less (i := i) (by simpa using hi) (by simp [hd]) ?_ ?_
  · have := (listed_set (listed := listed) (i := i) (by omega) i).2 (.inr rfl); simp [this]
  · intro j hj
    simp only [Bool.not_eq_true'] at hj ⊢
    cases hh : listed.getD j true with
    | false => rfl
    | true => have := (listed_set (listed := listed) (i := i) (by omega) j).2 (.inl hh); rw [this] at hj; cases hj
theorem unlisted_zero {listed : Array Bool} (hsz : listed.size = ops.size) (h : unlisted ops.size listed = 0) : ∀ i, listed.getD i true = true := by
  intro i
  rcases Nat.lt_or_ge i ops.size with hi | hi
  · unfold unlisted at h
    rw [List.countP_eq_zero] at h
    have := h i (by simpa using hi)
    simpa using this
  · rw [Array.getD_eq_getD_getElem?, Array.getElem?_eq_none (by omega)]; rfl
end

/- ## What the checks say of two operations -/
structure Pair (ah : List Nat) (c d : Rec) : Prop where
  ne : c.ix ≠ d.ix
  nback : ¬ A ah c.ix d.ix
  dst : ∀ t, c.dst = some t → d.dst ≠ some t
  reads : ∀ t, c.dst = some t → t ∈ d.rd → A ah d.ix c.ix
  after : ∀ t, d.dst = some t → t ∈ c.rd → A ah d.ix c.ix
  w : c.w = true → A ah d.ix c.ix
theorem pairOk_spec {ah : List Nat} {c d : Rec} (h : pairOk ah c d = true) : Pair ah c d := by
  unfold pairOk at h
  simp only [Bool.and_eq_true] at h
  obtain ⟨⟨⟨⟨h1, h2⟩, h3⟩, h4⟩, h5⟩ := h
  refine ⟨?_, ?_, ?_, ?_, ?_, ?_⟩
  · intro e; rw [e, Nat.beq_refl] at h1; cases h1
  · intro e; unfold A at e; rw [e] at h2; cases h2
  · intro t hc hd
    rw [hc, hd] at h3
    simp at h3
  · intro t hc ht
    rw [hc] at h3
    simp only [Bool.and_eq_true, Bool.or_eq_true, Bool.not_eq_true', List.contains_eq_mem, decide_eq_false_iff_not] at h3
    exact h3.2.resolve_left (fun q => q ht)
  · intro t hd ht
    rw [hd] at h4
    simp only [Bool.or_eq_true, Bool.not_eq_true', List.contains_eq_mem, decide_eq_false_iff_not] at h4
    exact h4.resolve_left (fun q => q ht)
  · intro hw
    rw [hw] at h5
    simpa [A] using h5
theorem pairsOk_split {ah : List Nat} : ∀ {pre : List Rec} {c : Rec} {post : List Rec}, pairsOk ah (pre ++ c :: post) = true → (∀ x ∈ pre, Pair ah x c) ∧ (∀ y ∈ post, Pair ah c y) ∧ ¬ A ah c.ix c.ix := by
  intro pre
  induction pre with
  | nil =>
    intro c post h
    simp only [List.nil_append, pairsOk, Bool.and_eq_true, List.all_eq_true] at h
    refine ⟨(fun x hx => by cases hx), (fun y hy => pairOk_spec (h.1.1 y hy)), fun e => ?_⟩
    unfold A at e
    rw [e] at h
    simp at h
  | cons a pre ih =>
    intro c post h
    simp only [List.cons_append, pairsOk, Bool.and_eq_true, List.all_eq_true] at h
    obtain ⟨g1, g2, g3⟩ := ih h.2
    refine ⟨fun x hx => ?_, g2, g3⟩
    rcases List.mem_cons.1 hx with rfl | hx
    · exact pairOk_spec (h.1.1 c (by simp))
    · exact g1 x hx
theorem allIn_spec {cs : List Rec} : ∀ {n i : Nat}, allIn cs n = true → i < n → ∃ c ∈ cs, c.ix = i := by
  intro n
  induction n with
  | zero => intro i _ h; omega
  | succ n ih =>
    intro i h hi
    simp only [allIn, Bool.and_eq_true, List.any_eq_true] at h
    by_cases e : i = n
    · subst e
      obtain ⟨c, hc, hb⟩ := h.1
      exact ⟨c, hc, Nat.eq_of_beq_eq_true hb⟩
    · exact ih h.2 (by omega)
theorem writersIn_spec {ah : List Nat} {i t : Nat} : ∀ {os : List Oper} {n j : Nat} {o : Oper}, writersIn ah i t os n = true → os[j]? = some o → o.dst = some t → A ah i (n + j) := by
  intro os
  induction os with
  | nil => intro n j o _ h; simp at h
  | cons x os ih =>
    intro n j o h hj hd
    simp only [writersIn, Bool.and_eq_true] at h
    cases j with
    | zero => simp at hj; subst hj; have := h.1; simp [hd] at this; exact this
    | succ j => simp at hj; have := ih h.2 hj hd; rw [show n + (j + 1) = n + 1 + j by omega]; exact this
end Go.Zy
