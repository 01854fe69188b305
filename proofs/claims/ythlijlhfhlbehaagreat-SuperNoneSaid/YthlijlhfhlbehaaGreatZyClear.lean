/- clear. -/
import Derived.Test.YthlijlhfhlbehaaGreatZyCopy
set_option linter.unusedSimpArgs false
set_option linter.unusedVariables false
namespace Go.Zy
section
variable {P : Program} {ρ : Nm} {σ : Im} {vm lm : List Nat} {vs ls : List AVal} {a : Operand → Value} {C : CallK} {h : Heap} {w : World} {K : AVal → Heap → Prop}

theorem run_setObj_map {b : Nat} {es : Array MapEntry} {c : Nat} {w : World} (hb : w.heap[b]? = some (.map es c)) (x : Obj) : (setObj b x).run P w = .ok () { w with heap := w.heap.setIfInBounds b x } := by
  simp [setObj, Sem.run, hb]

theorem write_clear {t k e : TypeId} {x : Operand} {x' : Opd} {c : Call} {ts : List TypeId} (he : Env ρ σ vm lm vs ls a) (r : Rel P ρ σ h w) (hc : c.callee = .builtin .clear) (ha : c.args = #[x]) (hat : c.argTypes.toList = t :: ts)
    (h1 : opdOk vm lm x x' = true) (ht : P.underlying t = some (.map k e)) (H : opK C vs ls h (.clear x') K) : Writes P σ ρ h w a (.call c) K := by
  simp only [opK, ev_eq] at H
  have r1 := he _ _ h1
  generalize opdV vs ls x' = X at H r1
  have hat0 : c.argTypes[0]? = some t := by rw [← Array.getElem?_toList, hat]; rfl
  cases X <;> simp only [mapK] at H <;> try exact H.elim
  · refine ⟨_, _, _, w, .tuple #[], H, Evo.refl r, .junk _, fun o ho => .inl ?_⟩
    simp [execOp, ho, resolve, hc, ha, hat0, invoke, builtin, Builtin.clear_, run_underlying ht, r1.nilmap_inv]
  · rename_i id
    obtain ⟨b, o, n, hρ, hx⟩ := r1.map_inv
    cases hg : h.get id with
    | none => simp only [hg] at H
    | some obj =>
      cases obj <;> simp only [hg] at H <;> try exact H.elim
      rename_i es clock
      rw [Heap.setK_eq] at H
      obtain ⟨xs, g1, g2⟩ := r.live _ _ _ _ _ hg hρ
      refine ⟨_, _, _, { w with heap := w.heap.setIfInBounds b (.map #[] clock) }, .tuple #[], H, Evo.turn r hg hρ ⟨rfl, rfl, rfl, rfl⟩ ⟨#[], rfl, rfl, fun i e x h => by simp at h⟩, .junk _, fun q hq => .inl ?_⟩
      simp [execOp, hq, resolve, hc, ha, hat0, invoke, builtin, Builtin.clear_, run_underlying ht, hx, run_getObj_map g1, run_setObj_map g1]

theorem write_clearS {sz : Nat} {z : List AVal} {t e : TypeId} {x : Operand} {x' : Opd} {c : Call} {ts : List TypeId} (he : Env ρ σ vm lm vs ls a) (r : Rel P ρ σ h w) (hc : c.callee = .builtin .clear) (ha : c.args = #[x]) (hat : c.argTypes.toList = t :: ts)
    (h1 : opdOk vm lm x x' = true) (ht : P.underlying t = some (.slice e)) (hz : zeroOk P e z = true) (H : opK C vs ls h (.clearS sz z x') K) : Writes P σ ρ h w a (.call c) K := by
  simp only [opK, ev_eq] at H
  have r1 := he _ _ h1
  generalize opdV vs ls x' = X at H r1
  have hat0 : c.argTypes[0]? = some t := by rw [← Array.getElem?_toList, hat]; rfl
  obtain ⟨zx, i0, hzx, hzl, hzo, _, _, _⟩ := zero_run (P := P) (ρ := ρ) (σ := σ) hz
  cases X <;> simp only at H <;> try exact H.elim
  · refine ⟨_, _, _, w, .tuple #[], H, Evo.refl r, .junk _, fun o ho => .inl ?_⟩
    simp [execOp, ho, resolve, hc, ha, hat0, invoke, builtin, Builtin.clear_, run_underlying ht, r1.nilslice_inv]
  · rename_i id off len cap z'
    replace H := cond_ok H
    obtain ⟨hbz, H⟩ := H
    obtain ⟨b, o, m, cc, ad, hρ, hcap, hle, had, hm, hx⟩ := r1.slice_inv
    cases hg : h.get id with
    | none => simp only [hg] at H
    | some obj =>
      cases obj <;> simp only [hg] at H <;> try exact H.elim
      rename_i cs
      rw [repK_eq, putK_iff, Heap.setK_eq] at H
      obtain ⟨hfit, H⟩ := H
      cases len with
      | zero =>
        have e1 : rep z 0 = [] := rfl
        rw [e1, put_nil] at H
        refine ⟨_, _, _, w, .tuple #[], H, evo_same r hg hρ, .junk _, fun q hq => .inl ?_⟩
        simp [execOp, hq, resolve, hc, ha, hat0, invoke, builtin, Builtin.clear_, run_underlying ht, hx]
      | succ len =>
        obtain rfl := had (by omega)
        have hl := rep_rel hzl (len + 1)
        have hok := rep_ok hzo (len + 1)
        by_cases hp : (rep z (len + 1)).length = 0
        · have e1 : rep z (len + 1) = [] := List.eq_nil_of_length_eq_zero hp
          rw [e1] at hl
          rw [e1, put_nil] at H
          have e2 := hl.nil_inv
          refine ⟨_, _, _, w, .tuple #[], H, evo_same r hg hρ, .junk _, fun q hq => .inl ?_⟩
          have hst : (storeCells ⟨b, o + off, none⟩ (List.replicate (len + 1) zx.cells.toList).flatten).run P w = .ok () w := by rw [e2]; simp [storeCells]
          simp [execOp, hq, resolve, hc, ha, hat0, invoke, builtin, Builtin.clear_, hx, run_underlying ht, hzx, zeroCells_list, hst]
        · obtain ⟨w', hst, hevo, _⟩ := write_row r hg hρ hl hok (off := off) (by omega)
          refine ⟨_, _, _, w', .tuple #[], H, hevo, .junk _, fun q hq => .inl ?_⟩
          simp [execOp, hq, resolve, hc, ha, hat0, invoke, builtin, Builtin.clear_, hx, run_underlying ht, hzx, zeroCells_list, hst]

end
end Go.Zy
