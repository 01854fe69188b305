/- Maps: writing and deleting. -/
import Derived.Test.YthlijlhfhlbehaaGreatZyClear
set_option linter.unusedSimpArgs false
set_option linter.unusedVariables false
namespace Go.Zy
section
variable {P : Program} {ρ : Nm} {σ : Im} {vm lm : List Nat} {vs ls : List AVal} {a : Operand → Value} {C : CallK} {h : Heap} {w : World} {K : AVal → Heap → Prop}

theorem setEntry_eq (k v : AVal) : ∀ (es : List (AVal × AVal × Nat)) (i : Nat) (J : List (AVal × AVal × Nat) → Prop), setEntry k v es i J = J (es.modify i fun e => (k, v, e.2.2)) := by
  intro es
  induction es with
  | nil => intro i J; cases i <;> simp [setEntry]
  | cons e es ih => intro i J; obtain ⟨x, y, b⟩ := e; cases i with
    | zero => simp [setEntry]
    | succ i => simp [setEntry, ih]
theorem pushK_eq (e : AVal × AVal × Nat) : ∀ (es : List (AVal × AVal × Nat)) (J : List (AVal × AVal × Nat) → Prop), pushK e es J = J (es ++ [e]) := by
  intro es
  induction es with
  | nil => intro J; rfl
  | cons x es ih => intro J; simp [pushK, ih]
theorem dropEntry_eq : ∀ (es : List (AVal × AVal × Nat)) (i : Nat) (J : List (AVal × AVal × Nat) → Prop), dropEntry es i J = J (es.eraseIdx i) := by
  intro es
  induction es with
  | nil => intro i J; cases i <;> simp [dropEntry]
  | cons e es ih => intro i J; cases i with
    | zero => simp [dropEntry]
    | succ i => simp [dropEntry, ih]

theorem byteArray_beq_self (s : ByteArray) : (s == s) = true := by
  show ByteArray.beq s s = true
  unfold ByteArray.beq
  simp

theorem same_bits {k k' : AVal} {x y : Value} (hx : VRel ρ σ k x) (hy : VRel ρ σ k' y) (hs : scalarEq k k' = some true) : Instr.sameBits 10000 y x = true := by
  cases k <;> cases k' <;> simp only [scalarEq] at hs <;> try cases hs
  · rename_i p q
    rw [hx.bool_inv, hy.bool_inv]
    cases p <;> cases q <;> simp_all [Instr.sameBits]
  · rename_i j p i q
    rw [hx.int_inv, hy.int_inv]
    cases hk : kEq j i with
    | false => rw [hk] at hs; cases hs
    | true =>
      rw [hk] at hs
      simp only [cond_true, Option.some.injEq] at hs
      rw [eqI_eq, beq_iff_eq] at hs
      rw [kEq_iff] at hk
      subst hk; subst hs
      simp [Instr.sameBits]
  · rename_i p q
    rw [hx.str_inv, hy.str_inv]
    simp only [Option.some.injEq, decide_eq_true_eq] at hs
    subst hs
    simp only [Instr.sameBits]
    exact byteArray_beq_self _

end
end Go.Zy
