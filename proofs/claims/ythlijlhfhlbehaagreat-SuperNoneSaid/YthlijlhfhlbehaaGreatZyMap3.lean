/- Maps: writing, as an operation. -/
import Derived.Test.YthlijlhfhlbehaaGreatZyMap2
set_option linter.unusedSimpArgs false
set_option linter.unusedVariables false
namespace Go.Zy
section
variable {P : Program} {ρ : Nm} {σ : Im} {vm lm : List Nat} {vs ls : List AVal} {a : Operand → Value} {C : CallK} {h : Heap} {w : World} {K : AVal → Heap → Prop}

theorem ERel.push {es : List (AVal × AVal × Nat)} {xs : List MapEntry} (he : ERel ρ σ es xs) {k v : AVal} {n : Nat} {x : MapEntry} (h0 : keyOk k = true) (h1 : VRel ρ σ k x.key) (h2 : VRel ρ σ v x.val) (h3 : n = x.born) :
    ERel ρ σ (es ++ [(k, v, n)]) (xs ++ [x]) := by
  refine ⟨by simp [he.1], fun i e y g1 g2 => ?_⟩
  rw [List.getElem?_append] at g1 g2
  rw [← he.1] at g2
  split at g1
  · rename_i hi; rw [if_pos hi] at g2; exact he.2 i e y g1 g2
  · rename_i hi
    rw [if_neg hi] at g2
    cases hj : i - es.length with
    | zero => rw [hj] at g1 g2; simp at g1 g2; subst g1; subst g2; exact ⟨h0, h1, h2, h3⟩
    | succ j => rw [hj] at g1; simp at g1
theorem ERel.modify {es : List (AVal × AVal × Nat)} {xs : List MapEntry} (he : ERel ρ σ es xs) {k v : AVal} {kx vx : Value} (j : Nat) (h0 : keyOk k = true) (h1 : VRel ρ σ k kx) (h2 : VRel ρ σ v vx) :
    ERel ρ σ (es.modify j fun e => (k, v, e.2.2)) (xs.modify j fun e => { e with key := kx, val := vx }) := by
  refine ⟨by simp [he.1], fun i e y g1 g2 => ?_⟩
  rw [List.getElem?_modify] at g1 g2
  cases q1 : es[i]? with
  | none => rw [q1] at g1; simp at g1
  | some e0 =>
    cases q2 : xs[i]? with
    | none => rw [q2] at g2; simp at g2
    | some x0 =>
      rw [q1] at g1; rw [q2] at g2
      have := he.2 i e0 x0 q1 q2
      by_cases hj : j = i
      · simp [hj] at g1 g2; subst g1; subst g2; exact ⟨h0, h1, h2, this.2.2.2⟩
      · simp [hj] at g1 g2; subst g1; subst g2; exact this

theorem write_mapset {kk : Nat} {t key e : TypeId} {m k v : Operand} {m' k' v' : Opd} (he : Env ρ σ vm lm vs ls a) (r : Rel P ρ σ h w) (h1 : opdOk vm lm m m' = true) (h2 : opdOk vm lm k k' = true) (h3 : opdOk vm lm v v' = true)
    (ht : P.underlying t = some (.map key e)) (hk : kindIs P key kk = true) (H : opK C vs ls h (.mapset kk m' k' v') K) :
    ∃ u h' w', K u h' ∧ Evo P σ ρ h w ρ h' w' ∧ u = .junk ∧ (Instr.mapUpdate t (a m) (a k) (a v)).run P w = .ok () w' := by
  simp only [opK, ev_eq] at H
  have hm := he _ _ h1
  have hkk := he _ _ h2
  have hvv := he _ _ h3
  generalize opdV vs ls m' = mv at H hm
  generalize opdV vs ls k' = kv at H hkk
  generalize opdV vs ls v' = vv at H hvv
  replace H := cond_ok H
  obtain ⟨hb, H⟩ := H
  simp only [Bool.and_eq_true] at hb
  obtain ⟨hb1, hb2⟩ := hb
  have hk' : kindIs P key (kindOf kv) = true := by rw [Nat.eq_of_beq_eq_true hb1]; exact hk
  obtain ⟨d, hd⟩ : ∃ d, P.underlying key = some d := by
    unfold kindIs at hk; split at hk <;> first | exact ⟨_, by assumption⟩ | cases hk
  cases mv with
  | map id =>
    obtain ⟨b, o, n, hρ, hx⟩ := hm.map_inv
    simp only [mapK] at H
    cases hg : h.get id with
    | none => simp only [hg] at H
    | some obj =>
      cases obj with
      | map es clock =>
        simp only [hg] at H
        obtain ⟨xs, g1, g2⟩ := r.live _ _ _ _ _ hg hρ
        have hcc := fun w => checkKey_run (P := P) hd hk false (a k) w
        rcases find_run (P := P) hd hk' hkk g2 H with ⟨q1, q2⟩ | ⟨j, u, y, e', q1, q2, q3, q4, q5⟩
        · have hf := findKey_run hd q2 w
          simp only [pushK_eq, Heap.setK_eq, fN_eq] at q1
          refine ⟨_, _, { w with heap := w.heap.setIfInBounds b (.map (xs.push { key := a k, val := a v, born := clock }) (clock + 1)) }, q1, Evo.turn r hg hρ ⟨rfl, rfl, rfl, rfl⟩ ⟨_, rfl, ?_⟩, rfl, ?_⟩
          · have := g2.push (x := { key := a k, val := a v, born := clock }) hb2 hkk hvv rfl
            simpa using this
          · simp [Instr.mapUpdate, run_underlying ht, hx, run_getObj_map g1, hcc, hf, run_setObj_map g1]
        · have hf := findKey_run hd q2 w
          simp only [setEntry_eq, Heap.setK_eq, Nat.zero_add] at q1 hf
          have hlt : j < xs.size := by
            have := (List.getElem?_eq_some_iff.1 q4).1
            rw [g2.1] at this; simpa using this
          have hold := g2.2 j e' xs[j] q4 (by simp [hlt])
          have hsb := same_bits hkk hold.2.1 q5
          refine ⟨_, _, { w with heap := w.heap.setIfInBounds b (.map (xs.modify j fun e => { e with key := a k, val := a v }) clock) }, q1, Evo.turn r hg hρ ⟨rfl, rfl, rfl, rfl⟩ ⟨_, rfl, ?_⟩, rfl, ?_⟩
          · have := g2.modify (kx := a k) (vx := a v) j hb2 hkk hvv
            simpa using this
          · simp [Instr.mapUpdate, run_underlying ht, hx, run_getObj_map g1, hcc, hf, run_setObj_map g1, hlt, Instr.keyThatStays, hsb]
      | _ => simp only [hg] at H
  | _ => exact H.elim

end
end Go.Zy
