/- append. -/
import Derived.Test.YthlijlhfhlbehaaGreatZyWrite
import Derived.Deep.AppendSrc
set_option linter.unusedSimpArgs false
set_option linter.unusedVariables false
namespace Go.Zy
section
variable {P : Program} {ρ : Nm} {σ : Im} {vm lm : List Nat} {vs ls : List AVal} {a : Operand → Value} {C : CallK} {h : Heap} {w : World} {K : AVal → Heap → Prop}

/-- What is appended: elements, or so many zeros. -/
inductive Adds (P : Program) (i : TypeInfo) (z : Value) (tx : TypeId) (x : Value) (n : Nat) (news : List Value) (w : World) : Prop
  | src (h : Src P i.size tx x n news w)
  | zeros (k k' : IntKind) (ht : P.underlying tx = some (.int k')) (hx : x = .int k (n : Int)) (hn : n ≤ 1099511627776) (hb : n * i.bytes ≤ 281474976710656) (hl : news = (List.replicate n z.cells.toList).flatten) (hz : z.cells.size = i.size)
      (ho : ∀ u ∈ news, u.oneCell' = true)

theorem zeroCells_list (z : Value) (n : Nat) : Builtin.zeroCells z.cells n = ((List.replicate n z.cells.toList).flatten).toArray := by
  have := flat_cells z.cells n
  apply Array.ext'
  rw [← this]
  rfl

theorem app_none {t tx ty e : TypeId} {i : TypeInfo} {z : Value} (ht : P.underlying t = some (.slice e)) (hi : P.info? e = some i) (base : Option Addr) (len cap : Nat) (hle : len ≤ cap) {x : Value} {news : List Value}
    (hs : Adds P i z tx x 0 news w) : (Builtin.append_ #[t, tx] ty #[.slice base len cap, x]).run P w = .ok (.slice base len cap) w := by
  cases hs with
  | src hs =>
    have : news = [] := List.eq_nil_of_length_eq_zero (by have := hs.newsLen; omega)
    subst this
    rcases hs.kind with ⟨e', hk⟩ | hk <;> cases base <;> simp [Builtin.append_, run_underlying ht, run_underlying hk, sizeOf, typeInfo, hi, hs.len, hle, hs.cells, storeCells]
  | zeros k k' hk hx hn hb hl hz ho =>
    subst hx
    have hw : IntKind.i64.wrap 0 = 0 := by decide
    cases base <;> simp [Builtin.append_, run_underlying ht, run_underlying hk, sizeOf, typeInfo, hi, hle, storeCells, asInt, asIntOf, hw]

theorem app_room {t tx ty e : TypeId} {i : TypeInfo} {z : Value} (ht : P.underlying t = some (.slice e)) (hi : P.info? e = some i) (hiz : i.zero = some z) (b off len cap n : Nat) (hle : len + n ≤ cap) {x : Value} {news : List Value}
    (hs : Adds P i z tx x n news w) {w' : World} (hst : (storeCells ⟨b, off + len * i.size, none⟩ news).run P w = .ok () w') :
    (Builtin.append_ #[t, tx] ty #[.slice (some ⟨b, off, none⟩) len cap, x]).run P w = .ok (.slice (some ⟨b, off, none⟩) (len + n) cap) w' := by
  cases hs with
  | src hs => rcases hs.kind with ⟨e', hk⟩ | hk <;> simp [Builtin.append_, run_underlying ht, run_underlying hk, sizeOf, typeInfo, hi, hs.len, hle, hs.cells, Addr.add_lit, hst]
  | zeros k k' hk hx hn hb hl hz ho =>
    subst hx
    have hw : IntKind.i64.wrap ((n : Nat) : Int) = n := wrap_nat hn
    have hb' : ¬ (281474976710656 : Int) < (n : Int) * (i.bytes : Int) := by
      have : ((n : Int) * (i.bytes : Int)) = ((n * i.bytes : Nat) : Int) := by norm_cast
      omega
    have hneg : ¬ ((n : Int) < 0) := by omega
    by_cases h0 : n * i.size = 0
    · have : news = [] := by
        apply List.eq_nil_of_length_eq_zero
        rw [hl]; simp [hz, h0]
      subst this
      rcases Nat.mul_eq_zero.1 h0 with h1 | h1
      · subst h1; have hw0 : IntKind.i64.wrap 0 = 0 := by decide
        simp [Builtin.append_, hw0, run_underlying ht, run_underlying hk, sizeOf, typeInfo, hi, hle, asInt, asIntOf, hw, Addr.add_lit, hst]
        intro hh; omega
      · simp [Builtin.append_, run_underlying ht, run_underlying hk, sizeOf, typeInfo, hi, hle, asInt, asIntOf, hw, hneg, hb', h1, Addr.add_lit, hst]
        have hst' := hst
        simp only [h1, Nat.mul_zero, Nat.add_zero] at hst'
        rw [hst']; rfl
    · have h0' : ¬ (n = 0 ∨ i.size = 0) := fun q => h0 (Nat.mul_eq_zero.2 q)
      simp [Builtin.append_, run_underlying ht, run_underlying hk, sizeOf, typeInfo, zeroValue, hi, hiz, hle, asInt, asIntOf, hw, hneg, hb', h0, h0', Addr.add_lit, zeroCells_list]
      rw [← hl, hst]
      simp

theorem app_grow {t tx ty e : TypeId} {i : TypeInfo} {z : Value} (ht : P.underlying t = some (.slice e)) (hi : P.info? e = some i) (hiz : i.zero = some z) (base : Option Addr) (len cap n : Nat) (olds : List Value)
    (hold : (Builtin.firstCells i.size len (.slice base len cap)).run P w.drew = .ok olds.toArray w.drew) {x : Value} {news : List Value} (hs : Adds P i z tx x n news w)
    (hg : cap < len + n) (h63 : len + n ≤ 1099511627776) (hfit : Builtin.nextslicecap (len + n) cap * i.bytes ≤ 281474976710656) :
    (Builtin.append_ #[t, tx] ty #[.slice base len cap, x]).run P w =
      .ok (.slice (some ⟨w.heap.size, 0, none⟩) (len + n) (grownCap w (len + n) cap e))
        (w.drew.alloc (.cells ((olds ++ news).toArray ++ Builtin.zeroCells z.cells (grownCap w (len + n) cap e - (len + n))) e)) := by
  cases hs with
  | src hs => exact run_append_grow_src w t tx ty e i z ht hi hiz base len cap olds hold x n news hs hg (by omega) hfit
  | zeros k k' hk hx hn hb hl hz ho =>
    subst hx
    have hw : IntKind.i64.wrap ((n : Nat) : Int) = n := wrap_nat hn
    have hb' : ¬ (281474976710656 : Int) < (n : Int) * (i.bytes : Int) := by
      have : ((n : Int) * (i.bytes : Int)) = ((n * i.bytes : Nat) : Int) := by norm_cast
      omega
    have hneg : ¬ ((n : Int) < 0) := by omega
    have hn' : ¬ (len + n ≤ cap) := by omega
    have h63' : ¬ (9223372036854775807 < ((len : Int) + (n : Int))) := by omega
    have h48' : ¬ (281474976710656 < Builtin.nextslicecap (len + n) cap * i.bytes) := by omega
    by_cases h0 : n * i.size = 0
    · have : news = [] := by
        apply List.eq_nil_of_length_eq_zero
        rw [hl]; simp [hz, h0]
      subst this
      have h0' : (n = 0 ∨ i.size = 0) := Nat.mul_eq_zero.1 h0
      simp [Builtin.append_, run_underlying ht, run_underlying hk, sizeOf, typeInfo, zeroValue, hi, hiz, asInt, asIntOf, hw, hneg, hb', hn', h63', h48', Question.forced, hold, newRow, grownCap, h0]
    · have h0' : ¬ (n = 0 ∨ i.size = 0) := fun q => h0 (Nat.mul_eq_zero.2 q)
      simp [Builtin.append_, run_underlying ht, run_underlying hk, sizeOf, typeInfo, zeroValue, hi, hiz, asInt, asIntOf, hw, hneg, hb', hn', h63', h48', Question.forced, hold, newRow, grownCap, h0, h0', zeroCells_list, hl]

end
end Go.Zy
