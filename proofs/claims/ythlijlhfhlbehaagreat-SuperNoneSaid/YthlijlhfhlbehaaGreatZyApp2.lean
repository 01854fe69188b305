/- append, of the abstract heap. -/
import Derived.Test.YthlijlhfhlbehaaGreatZyApp
set_option linter.unusedSimpArgs false
set_option linter.unusedVariables false
namespace Go.Zy
section
variable {P : Program} {ρ : Nm} {σ : Im} {vm lm : List Nat} {vs ls : List AVal} {a : Operand → Value} {C : CallK} {h : Heap} {w w₁ : World} {K : AVal → Heap → Prop}

/-- A living block is given up. -/
theorem Evo.kill (r : Rel P ρ σ h w) {id b o n : Nat} {old : AObj} (hg : h.get id = some old) (hρ : ρ id = some (b, o, n)) : Evo P σ ρ h w ρ (h.kill id) w := by
  have liv : ∀ i y, (h.kill id).get i = some y → h.get i = some y ∧ i ≠ id := by
    intro i y hi
    rw [Heap.get_kill] at hi
    split at hi
    · cases hi
    · exact ⟨hi, ‹_›⟩
  refine ⟨⟨?_, ?_, r.imm, ?_, ?_, ?_⟩, Sub.refl _, ?_, ?_, by rw [Heap.next_kill]; exact Nat.le_refl _, Nat.le_refl _, fun _ _ _ => rfl, (fun i b o n a c => by rw [a] at c; cases c), rfl, rfl, rfl⟩
  · exact fun i y b' o' n' hi hρ' => r.live i y b' o' n' (liv i y hi).1 hρ'
  · exact fun i j y z b' o1 n1 o2 n2 hi hj a c => r.inj i j y z b' o1 n1 o2 n2 (liv i y hi).1 (liv j z hj).1 a c
  · exact fun i y b' o1 n1 hi a => r.sep i y b' o1 n1 (liv i y hi).1 a
  · exact fun i b' o1 n1 a => by rw [Heap.next_kill]; exact r.dom i b' o1 n1 a
  · intro i hi
    rw [Heap.next_kill] at hi
    rw [Heap.get_kill]
    split
    · rfl
    · exact r.fresh i hi
  · intro i hi hn
    refine ⟨hn, ?_⟩
    rw [Heap.get_kill, if_neg (fun q => by subst q; rw [hρ] at hn; cases hn)]
  · intro i hi hn
    rw [Heap.get_kill]
    split
    · rfl
    · exact hn

/-- A living block is given up, and its memory is a new block's. -/
theorem Evo.rename (r : Rel P ρ σ h w) {id b o n o' n' : Nat} {old obj : AObj} {x : Obj} (hg : h.get id = some old) (hρ : ρ id = some (b, o, n)) (ht : Turned w w₁ b x)
    (ho : BRel P (upd ρ h.next (b, o', n')) σ obj o' n' (some x)) : Evo P σ ρ h w (upd ρ h.next (b, o', n')) ((h.kill id).new obj) w₁ := by
  have hb := (r.dom _ _ _ _ hρ).1
  have hid := (r.dom _ _ _ _ hρ).2
  have hnone : ρ h.next = none := by
    cases hq : ρ h.next with
    | none => rfl
    | some y => obtain ⟨b, o, n⟩ := y; have := (r.dom _ _ _ _ hq).2; omega
  have hsub : Sub ρ (upd ρ h.next (b, o', n')) := upd_sub hnone
  have get : ∀ b', w₁.heap[b']? = if b' = b then some x else w.heap[b']? := by
    intro b'
    rw [ht.heap, Array.getElem?_setIfInBounds]
    by_cases e : b = b'
    · subst e; simp [hb]
    · rw [if_neg e, if_neg (fun q => e q.symm)]
  have liv : ∀ i y, ((h.kill id).new obj).get i = some y → (i = h.next ∧ y = obj) ∨ (i ≠ h.next ∧ i ≠ id ∧ h.get i = some y) := by
    intro i y hi
    rw [Heap.get_new, Heap.next_kill, Heap.get_kill] at hi
    split at hi
    · rename_i e; cases hi; exact .inl ⟨e, rfl⟩
    · split at hi
      · cases hi
      · exact .inr ⟨‹_›, ‹_›, hi⟩
  have upn : ∀ i, i ≠ h.next → upd ρ h.next (b, o', n') i = ρ i := fun i hi => by unfold upd; rw [if_neg hi]
  have ups : upd ρ h.next (b, o', n') h.next = some (b, o', n') := upd_same
  have other : ∀ i y b1 o1 n1, i ≠ id → h.get i = some y → ρ i = some (b1, o1, n1) → b1 ≠ b := by
    intro i y b1 o1 n1 hi hy h1 e
    subst e
    exact hi (r.inj _ _ _ _ _ _ _ _ _ hy hg h1 hρ)
  refine ⟨⟨?_, ?_, ?_, ?_, ?_, ?_⟩, hsub, ?_, ?_, by rw [Heap.next_new, Heap.next_kill]; omega, by rw [ht.heap, Array.size_setIfInBounds]; exact Nat.le_refl _, ?_, ?_, ht.os, ht.tape, ht.output⟩
  · intro i y b1 o1 n1 hi hi'
    rcases liv i y hi with ⟨e, rfl⟩ | ⟨e1, e2, e3⟩
    · subst e; rw [ups] at hi'; cases hi'
      rw [get, if_pos rfl]; exact ho
    · rw [upn i e1] at hi'
      rw [get, if_neg (other i y _ _ _ e2 e3 hi')]
      exact (r.live i y _ _ _ e3 hi').mono hsub
  · intro i j y z b1 o1 n1 o2 n2 hi hj a c
    rcases liv i y hi with ⟨e, _⟩ | ⟨e1, e2, e3⟩ <;> rcases liv j z hj with ⟨f, _⟩ | ⟨f1, f2, f3⟩
    · exact e.trans f.symm
    · subst e; rw [ups] at a; cases a
      rw [upn j f1] at c
      exact absurd rfl (other j z _ _ _ f2 f3 c)
    · subst f; rw [ups] at c; cases c
      rw [upn i e1] at a
      exact absurd rfl (other i y _ _ _ e2 e3 a)
    · rw [upn i e1] at a; rw [upn j f1] at c
      exact r.inj i j y z b1 o1 n1 o2 n2 e3 f3 a c
  · intro b' c hc
    obtain ⟨e, f, he⟩ := r.imm b' c hc
    refine ⟨e, f, ?_⟩
    rw [get, if_neg (fun q => by subst q; rw [r.sep _ _ _ _ _ hg hρ] at hc; cases hc)]
    exact he
  · intro i y b1 o1 n1 hi a
    rcases liv i y hi with ⟨e, _⟩ | ⟨e1, e2, e3⟩
    · subst e; rw [ups] at a; cases a
      exact r.sep _ _ _ _ _ hg hρ
    · rw [upn i e1] at a
      exact r.sep i y _ _ _ e3 a
  · intro i b1 o1 n1 a
    rw [ht.heap, Array.size_setIfInBounds, Heap.next_new, Heap.next_kill]
    by_cases e : i = h.next
    · subst e; rw [ups] at a; cases a; exact ⟨hb, by omega⟩
    · rw [upn i e] at a
      have := r.dom i _ _ _ a; omega
  · intro i hi
    rw [Heap.next_new, Heap.next_kill] at hi
    rw [Heap.get_new, Heap.next_kill, if_neg (by omega), Heap.get_kill, if_neg (by omega)]
    exact r.fresh i (by omega)
  · intro i hi hn
    refine ⟨by rw [upn i (by omega)]; exact hn, ?_⟩
    rw [Heap.get_new, Heap.next_kill, if_neg (by omega), Heap.get_kill, if_neg (fun q => by subst q; rw [hρ] at hn; cases hn)]
  · intro i hi hn
    rw [Heap.get_new, Heap.next_kill, if_neg (by omega), Heap.get_kill]
    split
    · rfl
    · exact hn
  · intro b' hb' hno
    rw [get, if_neg (fun q => by subst q; exact hno ⟨_, _, _, _, hg, hρ⟩)]
  · intro i b1 o1 n1 hn hs
    by_cases e : i = h.next
    · subst e; rw [ups] at hs; cases hs; exact .inr ⟨_, _, _, _, hg, hρ⟩
    · rw [upn i e, hn] at hs; cases hs

end
end Go.Zy
