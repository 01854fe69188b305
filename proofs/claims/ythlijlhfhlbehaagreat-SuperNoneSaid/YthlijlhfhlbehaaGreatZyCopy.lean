/- copy. -/
import Derived.Test.YthlijlhfhlbehaaGreatZyApp4
set_option linter.unusedSimpArgs false
set_option linter.unusedVariables false
namespace Go.Zy
section
variable {P : Program} {ρ : Nm} {σ : Im} {vm lm : List Nat} {vs ls : List AVal} {a : Operand → Value} {C : CallK} {h : Heap} {w : World} {K : AVal → Heap → Prop}

theorem minN_min (a b : Nat) : minN a b = Nat.min a b := by
  rw [minN_eq]

theorem write_copy {sz : Nat} {t e : TypeId} {x y : Operand} {x' y' : Opd} {c : Call} {ts : List TypeId} (he : Env ρ σ vm lm vs ls a) (r : Rel P ρ σ h w) (hc : c.callee = .builtin .copy) (ha : c.args = #[x, y]) (hat : c.argTypes.toList = t :: ts)
    (h1 : opdOk vm lm x x' = true) (h2 : opdOk vm lm y y' = true) (hsz : 0 < sz) (ht : P.underlying t = some (.slice e)) (hs : sizeIs P e sz = true) (H : opK C vs ls h (.copy sz x' y') K) : Writes P σ ρ h w a (.call c) K := by
  simp only [opK, ev_eq] at H
  have r1 := he _ _ h1
  have r2 := he _ _ h2
  generalize opdV vs ls x' = X at H r1
  generalize opdV vs ls y' = Y at H r2
  unfold copyK at H
  have H0 := lenOf_run (P := P) r2 H
  clear H
  obtain ⟨n, H, hlen, hkn⟩ := H0
  have hat0 : c.argTypes[0]? = some t := by rw [← Array.getElem?_toList, hat]; rfl
  have hrunx : ∀ (o : Oper) (base : Option Addr) (len cap : Nat) (cells : Array Value) (w' : World), o.op = .call c → a x = .slice base len cap → (Builtin.firstCells sz (Nat.min n len) (a y)).run P w = .ok cells w →
      (match base with | some b => (storeCells b cells.toList).run P w = .ok () w' | none => w' = w) → (execOp a o).run P w = .ok (.value (goInt (Nat.min n len))) w' := by
    intro o base len cap cells w' ho hx hf hst
    cases base with
    | none => subst hst; simp [execOp, ho, resolve, hc, ha, hat0, invoke, builtin, Builtin.copy_, run_underlying ht, hx, hlen, run_size hs, hf]
    | some b => simp only at hst; simp [execOp, ho, resolve, hc, ha, hat0, invoke, builtin, Builtin.copy_, run_underlying ht, hx, hlen, run_size hs, hf, hst]
  cases X <;> simp only at H <;> try exact H.elim
  · refine ⟨_, _, _, w, _, H, Evo.refl r, .int .i64 0, fun o ho => .inl ?_⟩
    have hf : (Builtin.firstCells sz (Nat.min n 0) (a y)).run P w = .ok #[] w := by
      have h0 : Nat.min n 0 = 0 := by show min n 0 = 0; omega
      rw [h0]
      rcases hkn with ⟨a', c', e'⟩ | ⟨s', e', _⟩
      · rw [e']; cases a' <;> simp [Builtin.firstCells, loadCells, loadCellsFrom]
      · subst e'; rw [r2.str_inv]; simp [Builtin.firstCells]
    have := hrunx o none 0 0 #[] w ho r1.nilslice_inv hf rfl
    rw [this]
    have h0 : Nat.min n 0 = 0 := by show min n 0 = 0; omega
    rw [h0]; rfl
  · rename_i id off len cap z
    replace H := cond_ok H
    obtain ⟨hbz, H⟩ := H
    obtain rfl := Nat.eq_of_beq_eq_true hbz
    rw [fN_eq, minN_min] at H
    obtain ⟨b, o, m, cc, ad, hρ, hcap, hle, had, hm, hx⟩ := r1.slice_inv
    have hmin1 : Nat.min n len ≤ n := Nat.min_le_left _ _
    have hmin2 : Nat.min n len ≤ len := Nat.min_le_right _ _
    obtain ⟨new, news, H, hl, hcl, hrun⟩ := elems_run (P := P) r.reader r2 H (by
      rintro id off len cap z rfl
      rcases hkn with ⟨a', c', e'⟩ | ⟨s', e', _⟩
      · obtain ⟨_, _, _, _, _, _, _, _, _, _, hx⟩ := r2.slice_inv; rw [hx] at e'; cases e'; exact hmin1
      · cases e') (by
      rintro row off len cap z rfl
      rcases hkn with ⟨a', c', e'⟩ | ⟨s', e', _⟩
      · obtain ⟨_, _, _, _, _, _, _, _, _, _, _, _, hx⟩ := r2.islice_inv; rw [hx] at e'; cases e'; exact hmin1
      · cases e') hsz
    replace H := cond_ok H
    obtain ⟨hok, H⟩ := H
    cases hg : h.get id with
    | none => simp only [hg] at H
    | some obj =>
      cases obj <;> simp only [hg] at H <;> try exact H.elim
      rename_i cs
      rw [putK_iff, Heap.setK_eq] at H
      obtain ⟨hfit, H⟩ := H
      by_cases h0 : Nat.min n len = 0
      · have e1 : new = [] := List.eq_nil_of_length_eq_zero (by rw [hcl, h0, Nat.zero_mul])
        subst e1
        have e2 : news = [] := List.eq_nil_of_length_eq_zero (by have := hl.1; simpa using this.symm)
        subst e2
        rw [put_nil] at H
        refine ⟨_, _, _, w, _, H, evo_same r hg hρ, .int .i64 _, fun q hq => .inl ?_⟩
        have := hrunx q (some ad) len cc #[] w hq hx (hrun w rfl) (by simp [storeCells])
        rw [this]; rfl
      · obtain rfl := had (by omega)
        have hpos : 0 < new.length := by rw [hcl]; exact Nat.mul_pos (Nat.pos_of_ne_zero h0) hsz
        obtain ⟨w', hst, hevo, _⟩ := write_row r hg hρ hl hok (off := off) (by omega)
        refine ⟨_, _, _, w', _, H, hevo, .int .i64 _, fun q hq => .inl ?_⟩
        have := hrunx q (some ⟨b, o + off, none⟩) len cc news.toArray w' hq hx (hrun w rfl) hst
        rw [this]; rfl

end
end Go.Zy
