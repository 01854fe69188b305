/- append, as an operation. -/
import Derived.Test.YthlijlhfhlbehaaGreatZyApp3
set_option linter.unusedSimpArgs false
set_option linter.unusedVariables false
namespace Go.Zy
section
variable {P : Program} {ρ : Nm} {σ : Im} {vm lm : List Nat} {vs ls : List AVal} {a : Operand → Value} {C : CallK} {h : Heap} {w : World} {K : AVal → Heap → Prop}

theorem Apps.writes {t tx : TypeId} {x y : Operand} {c : Call} (hc : c.callee = .builtin .append) (ha : c.args = #[x, y]) (hat : c.argTypes = #[t, tx]) (H : ∀ ty, Apps P σ ρ h w t tx ty (a x) (a y) K) :
    ∀ o : Oper, o.op = .call c → ∃ v h' ρ' w' z, K v h' ∧ Evo P σ ρ h w ρ' h' w' ∧ VRel ρ' σ v z ∧ (execOp a o).run P w = .ok (.value z) w' := by
  intro o ho
  obtain ⟨v, h', ρ', w', u, g1, g2, g3, g4⟩ := H o.type
  refine ⟨v, h', ρ', w', u, g1, g2, g3, ?_⟩
  simp [execOp, ho, resolve, hc, ha, hat, invoke, builtin, g4]

theorem write_append {sz bytes : Nat} {t tx e : TypeId} {x y : Operand} {x' y' : Opd} {c : Call} (he : Env ρ σ vm lm vs ls a) (r : Rel P ρ σ h w) (hc : c.callee = .builtin .append) (ha : c.args = #[x, y]) (hat : c.argTypes = #[t, tx])
    (h1 : opdOk vm lm x x' = true) (h2 : opdOk vm lm y y' = true) (hsz : 0 < sz) (hby : 0 < bytes) (ht : P.underlying t = some (.slice e)) (hs : sizeIs P e sz = true) (hb : bytesIs P e bytes = true) {i : TypeInfo} {z : Value}
    (hi : P.info? e = some i) (hiz : i.zero = some z) (hz : z.cells.size = sz) (hk : (∃ e', P.underlying tx = some (.slice e')) ∨ (P.underlying tx = some .string ∧ sz = 1)) (H : opK C vs ls h (.append sz bytes x' y') K) :
    ∀ o : Oper, o.op = .call c → ∃ v h' ρ' w' z, K v h' ∧ Evo P σ ρ h w ρ' h' w' ∧ VRel ρ' σ v z ∧ (execOp a o).run P w = .ok (.value z) w' := by
  simp only [opK, ev_eq] at H
  have r1 := he _ _ h1
  have r2 := he _ _ h2
  generalize opdV vs ls x' = X at H r1
  generalize opdV vs ls y' = Y at H r2
  obtain ⟨n, H, hlen, hkn⟩ := lenOf_run (P := P) r2 H
  obtain ⟨new, news, H, hl, hcl, hrun⟩ := elems_run (P := P) r.reader r2 H (by
    rintro id off len cap z rfl
    rcases hkn with ⟨a', c', e'⟩ | ⟨s', e', _⟩
    · obtain ⟨_, _, _, _, _, _, _, _, _, _, hx⟩ := r2.slice_inv; rw [hx] at e'; cases e'; exact Nat.le_refl _
    · cases e') (by
    rintro row off len cap z rfl
    rcases hkn with ⟨a', c', e'⟩ | ⟨s', e', _⟩
    · obtain ⟨_, _, _, _, _, _, _, _, _, _, _, _, hx⟩ := r2.islice_inv; rw [hx] at e'; cases e'; exact Nat.le_refl _
    · cases e') hsz
  replace H := cond_ok H
  obtain ⟨hok, H⟩ := H
  obtain ⟨i', hi', hisz⟩ := size_info hs
  rw [hi] at hi'; cases hi'
  have hby' : i.bytes = bytes := by unfold bytesIs at hb; rw [hi] at hb; simpa using hb
  subst hisz
  subst hby'
  have hsrc : Adds P i z tx (a y) n news w := .src
    { kind := by rcases hk with hk | hk; exact .inl hk; exact .inr hk.1
      len := hlen
      cells := hrun w rfl
      cellsD := hrun w.drew rfl
      newsLen := by rw [← hl.1, hcl]
      one := hl.cellsOk hok }
  exact Apps.writes hc ha hat fun ty => append_run r ht hi hiz hz hsz hby r1 hsrc hl hok hcl H

theorem write_appendZ {sz bytes : Nat} {zs : List AVal} {t tx e : TypeId} {k : IntKind} {x y : Operand} {x' y' : Opd} {c : Call} (he : Env ρ σ vm lm vs ls a) (r : Rel P ρ σ h w) (hc : c.callee = .builtin .append) (ha : c.args = #[x, y])
    (hat : c.argTypes = #[t, tx]) (h1 : opdOk vm lm x x' = true) (h2 : opdOk vm lm y y' = true) (hsz : 0 < sz) (hby : 0 < bytes) (ht : P.underlying t = some (.slice e)) (hs : sizeIs P e sz = true) (hb : bytesIs P e bytes = true)
    (hzo : zeroOk P e zs = true) (hk : P.underlying tx = some (.int k)) (H : opK C vs ls h (.appendZ sz bytes zs x' y') K) :
    ∀ o : Oper, o.op = .call c → ∃ v h' ρ' w' z, K v h' ∧ Evo P σ ρ h w ρ' h' w' ∧ VRel ρ' σ v z ∧ (execOp a o).run P w = .ok (.value z) w' := by
  simp only [opK, ev_eq] at H
  have r1 := he _ _ h1
  have r2 := he _ _ h2
  replace H := idxK_inv H
  obtain ⟨k1, n, e1, H⟩ := H
  rw [e1] at r2
  have x2 := r2.int_inv
  rw [repK_eq] at H
  replace H := cond_ok H
  obtain ⟨hlim, H⟩ := H
  rw [Nat.ble_eq] at hlim
  simp only [limit] at hlim
  obtain ⟨zx, i, hzx, hzl, hzok, hi, hz0, hiz⟩ := zero_run (P := P) (ρ := ρ) (σ := σ) hzo
  obtain ⟨i', hi', hisz⟩ := size_info hs
  rw [hi] at hi'; cases hi'
  have hby' : i.bytes = bytes := by unfold bytesIs at hb; rw [hi] at hb; simpa using hb
  subst hisz
  subst hby'
  have hrel := rep_rel hzl n
  have hlen : (rep zs n).length = n * i.size := by rw [rep_length, hzl.1]; simp [hz0]
  have hle : n ≤ n * i.bytes := Nat.le_mul_of_pos_right _ hby
  have hsrc : Adds P i zx tx (a y) n (List.replicate n zx.cells.toList).flatten w := .zeros k1 k hk x2 (by omega) (by omega) rfl hz0 (hrel.cellsOk (rep_ok hzok n))
  exact Apps.writes hc ha hat fun ty => append_run r ht hi hiz hz0 hsz hby r1 hsrc hrel (rep_ok hzok n) hlen H

end
end Go.Zy
