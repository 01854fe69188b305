/- Maps: writing and deleting, as operations. -/
import Derived.Test.YthlijlhfhlbehaaGreatZyMap
set_option linter.unusedSimpArgs false
set_option linter.unusedVariables false
namespace Go.Zy
section
variable {P : Program} {ρ : Nm} {σ : Im} {vm lm : List Nat} {vs ls : List AVal} {a : Operand → Value} {C : CallK} {h : Heap} {w : World} {K : AVal → Heap → Prop}

theorem ERel.erase {es : List (AVal × AVal × Nat)} {xs : List MapEntry} (he : ERel ρ σ es xs) (i : Nat) : ERel ρ σ (es.eraseIdx i) (xs.eraseIdx i) := by
  refine ⟨by simp only [List.length_eraseIdx, he.1], fun j e x h1 h2 => ?_⟩
  rw [List.getElem?_eraseIdx] at h1 h2
  split at h1
  · rename_i hj; rw [if_pos hj] at h2; exact he.2 j e x h1 h2
  · rename_i hj; rw [if_neg hj] at h2; exact he.2 _ e x h1 h2

/-- A map's key, and where it is. -/
theorem write_mapdel {kk : Nat} {t key e : TypeId} {m k : Operand} {m' k' : Opd} {c : Call} {ts : List TypeId} (he : Env ρ σ vm lm vs ls a) (r : Rel P ρ σ h w) (hc : c.callee = .builtin .delete) (ha : c.args = #[m, k])
    (hat : c.argTypes.toList = t :: ts) (h1 : opdOk vm lm m m' = true) (h2 : opdOk vm lm k k' = true) (ht : P.underlying t = some (.map key e)) (hk : kindIs P key kk = true) (H : opK C vs ls h (.mapdel kk m' k') K) :
    Writes P σ ρ h w a (.call c) K := by
  simp only [opK, ev_eq] at H
  have hm := he _ _ h1
  have hkk := he _ _ h2
  generalize opdV vs ls m' = mv at H hm
  generalize opdV vs ls k' = kv at H hkk
  replace H := cond_ok H
  obtain ⟨hb, H⟩ := H
  simp only [Bool.and_eq_true] at hb
  obtain ⟨hb1, hb2⟩ := hb
  have hk' : kindIs P key (kindOf kv) = true := by rw [Nat.eq_of_beq_eq_true hb1]; exact hk
  obtain ⟨d, hd⟩ : ∃ d, P.underlying key = some d := by
    unfold kindIs at hk; split at hk <;> first | exact ⟨_, by assumption⟩ | cases hk
  have hat0 : c.argTypes[0]? = some t := by rw [← Array.getElem?_toList, hat]; rfl
  cases mv with
  | nilmap =>
    refine ⟨_, _, _, w, .tuple #[], H, Evo.refl r, .junk _, fun o ho => .inl ?_⟩
    simp [execOp, ho, resolve, hc, ha, hat0, invoke, builtin, Builtin.delete_, run_underlying ht, hm.nilmap_inv, checkKey_run hd hk]
  | map id =>
    obtain ⟨b, o, n, hρ, hx⟩ := hm.map_inv
    simp only [mapK] at H
    cases hg : h.get id with
    | none => simp only [hg] at H
    | some obj =>
      cases obj with
      | map es clock =>
        simp only [hg] at H
        obtain ⟨xs, g1, g2⟩ := r.live _ _ _ _ _ hg hρ
        have hcc := fun w => checkKey_run (P := P) hd hk xs.isEmpty (a k) w
        rcases find_run (P := P) hd hk' hkk g2 H with ⟨q1, q2⟩ | ⟨j, v, y, e', q1, q2, q3, _, _⟩
        · have hf := findKey_run hd q2 w
          refine ⟨_, _, ρ, { w with heap := w.heap.setIfInBounds b (.map xs clock) }, .tuple #[], q1, ?_, .junk _, fun q hq => .inl ?_⟩
          · rw [set_self _ _ _ g1]; exact Evo.refl r
          · simp [execOp, hq, resolve, hc, ha, hat0, invoke, builtin, Builtin.delete_, run_underlying ht, hx, run_getObj_map g1, hcc, hf, run_setObj_map g1]
        · have hf := findKey_run hd q2 w
          simp only [dropEntry_eq, Heap.setK_eq, Nat.zero_add] at q1
          refine ⟨_, _, _, { w with heap := w.heap.setIfInBounds b (.map (xs.eraseIdxIfInBounds j) clock) }, .tuple #[], q1, Evo.turn r hg hρ ⟨rfl, rfl, rfl, rfl⟩ ⟨_, rfl, ?_⟩, .junk _, fun q hq => .inl ?_⟩
          · have := g2.erase j
            simpa [Array.toList_eraseIdxIfInBounds] using this
          · simp [execOp, hq, resolve, hc, ha, hat0, invoke, builtin, Builtin.delete_, run_underlying ht, hx, run_getObj_map g1, hcc, hf, run_setObj_map g1]
      | _ => simp only [hg] at H
  | _ => exact H.elim

end
end Go.Zy
