/- Operations that write memory. -/
import Derived.Test.YthlijlhfhlbehaaGreatZyMake
set_option linter.unusedSimpArgs false
set_option linter.unusedVariables false
namespace Go.Zy

theorem set_set {α : Type} (a : Array α) (i : Nat) (x y : α) : (a.setIfInBounds i x).setIfInBounds i y = a.setIfInBounds i y := by
  apply Array.ext
  · simp
  · intro j h1 h2; simp [Array.getElem_setIfInBounds]
theorem set_self {α : Type} (a : Array α) (i : Nat) (x : α) (h : a[i]? = some x) : a.setIfInBounds i x = a := by
  apply Array.ext
  · simp
  · intro j h1 h2
    rw [Array.getElem_setIfInBounds]
    split
    · rename_i e; subst e
      have := (Array.getElem?_eq_some_iff.1 h).2
      exact this.symm
    · rfl
theorem setCell_turn (w : World) (b p : Nat) (c : Array Value) (e : TypeId) (f : Nat × Nat) (v : Value) (h : w.heap[b]? = some (.cells c e f)) :
    w.setCell ⟨b, p, none⟩ v = { w with heap := w.heap.setIfInBounds b (.cells (c.setIfInBounds p v) e f) } := by
  unfold World.setCell
  congr 1
  apply Array.ext
  · simp
  · intro j h1 h2
    rw [Array.getElem_modify, Array.getElem_setIfInBounds]
    by_cases hj : b = j
    · subst hj
      simp only [if_pos]
      have := (Array.getElem?_eq_some_iff.1 h).2
      rw [this]
      simp
    · rw [if_neg hj, if_neg hj]

section
variable {P : Program} {ρ : Nm} {σ : Im} {vm lm : List Nat} {vs ls : List AVal} {a : Operand → Value} {C : CallK} {h : Heap} {w : World} {K : AVal → Heap → Prop}

theorem store_run (b o : Nat) (e lo hi : Nat) : ∀ (ys : List Value) (i : Nat) (c : Array Value) (w : World), w.heap[b]? = some (.cells c e (lo, hi)) → (lo = hi ∨ c.size ≤ lo) → o + i + ys.length ≤ c.size → (∀ y ∈ ys, y.oneCell' = true) →
    (storeCells ⟨b, o, none⟩ ys i).run P w = .ok () { w with heap := w.heap.setIfInBounds b (.cells (c.toList.take (o + i) ++ ys ++ c.toList.drop (o + i + ys.length)).toArray e (lo, hi)) } := by
  intro ys
  induction ys with
  | nil =>
    intro i c w hb _ _ _
    simp only [storeCells, List.append_nil, List.length_nil, Nat.add_zero, List.take_append_drop, Array.toArray_toList, set_self _ _ _ hb]
    rfl
  | cons y ys ih =>
    intro i c w hb hf hl h1
    have hi' : o + i < c.size := by simp at hl; omega
    have hcell : w.cell? ⟨b, o + i, none⟩ = some c[o + i] := by simp [World.cell?, hb, hi']
    have hfro : w.frozen? ⟨b, o + i, none⟩ = false := by
      simp only [World.frozen?, hb, Bool.and_eq_false_iff, decide_eq_false_iff_not]
      omega
    have hst : (store ((⟨b, o, none⟩ : Addr).add i) y).run P w = .ok () { w with heap := w.heap.setIfInBounds b (.cells (c.setIfInBounds (o + i) y) e (lo, hi)) } := by
      rw [addr_add, run_store P w _ y _ (h1 y (by simp)), hcell]
      simp [hfro, setCell_turn w b (o + i) c e (lo, hi) y hb]
    have hlt := (Array.getElem?_eq_some_iff.1 hb).1
    have ih := ih (i + 1) (c.setIfInBounds (o + i) y) { w with heap := w.heap.setIfInBounds b (.cells (c.setIfInBounds (o + i) y) e (lo, hi)) } (by simp [hlt]) (by simpa using hf) (by simp at hl ⊢; omega) (fun x hx => h1 x (by simp [hx]))
    simp only [storeCells, Sem.run_bind, hst, Result.andThen_ok, ih, set_set]
    congr 5
    have e := list_seg_step c.toList (o + i) y ys (by simp at hl ⊢; omega)
    simpa [Array.toList_setIfInBounds, Nat.add_assoc] using e

/-- Cells written into a living row. -/
theorem write_row (r : Rel P ρ σ h w) {id b o n off : Nat} {cs new : List AVal} {ys : List Value} (hg : h.get id = some (.row cs)) (hρ : ρ id = some (b, o, n)) (hn : LRel ρ σ new ys) (hok : allOk new = true)
    (hfit : off + new.length ≤ cs.length) : ∃ w', (storeCells ⟨b, o + off, none⟩ ys).run P w = .ok () w' ∧ Evo P σ ρ h w ρ (h.set id (.row (put cs off new))) w' ∧ w'.drawn = w.drawn := by
  obtain ⟨c, e, lo, hi, h1, h2, h3, h4, h5⟩ := r.live _ _ _ _ _ hg hρ
  have hlen := hn.1
  have hs := store_run (P := P) b (o + off) e lo hi ys 0 c w h1 (by rw [h2]; exact h4) (by omega) (hn.cellsOk hok)
  simp only [Nat.add_zero] at hs
  refine ⟨_, hs, ?_, rfl⟩
  refine Evo.turn r hg hρ ⟨rfl, rfl, rfl, rfl⟩ ⟨_, e, lo, hi, rfl, ?_, ?_, h4, ?_⟩
  · simp; omega
  · rw [put_length hfit]; exact h3
  · intro i v hv
    simp only [List.getElem?_toArray]
    unfold put at hv
    rw [List.append_assoc, List.getElem?_append] at hv ⊢
    have e1 : (cs.take off).length = off := by simp; omega
    have e2 : (c.toList.take (o + off)).length = o + off := by simp; omega
    rw [e1] at hv
    rw [e2]
    by_cases c1 : i < off
    · rw [if_pos c1, List.getElem?_take, if_pos c1] at hv
      obtain ⟨y, q1, q2⟩ := h5 i v hv
      exact ⟨y, by rw [if_pos (by omega), List.getElem?_take, if_pos (by omega), Array.getElem?_toList]; exact q1, q2⟩
    · rw [if_neg c1, List.getElem?_append] at hv
      rw [if_neg (by omega), List.getElem?_append]
      by_cases c2 : i - off < new.length
      · rw [if_pos c2] at hv
        obtain ⟨y, q1, q2⟩ := hn.get hv
        exact ⟨y, by rw [if_pos (by omega), show o + i - (o + off) = i - off by omega]; exact q1, q2⟩
      · rw [if_neg c2, List.getElem?_drop] at hv
        obtain ⟨y, q1, q2⟩ := h5 _ v hv
        refine ⟨y, ?_, q2⟩
        rw [if_neg (by omega), List.getElem?_drop, Array.getElem?_toList, ← q1]
        congr 1; omega

/-- What an operation that writes comes to. -/
def Writes (P : Program) (σ : Im) (ρ : Nm) (h : Heap) (w : World) (a : Operand → Value) (op : Op) (K : AVal → Heap → Prop) : Prop :=
  ∃ v h' ρ' w' x, K v h' ∧ Evo P σ ρ h w ρ' h' w' ∧ VRel ρ' σ v x ∧ ∀ o : Oper, o.op = op → (execOp a o).run P w = .ok (.value x) w' ∨ ((execOp a o).run P w = .ok .skip w' ∧ x = undef)

theorem write_st {n : Nat} {t : TypeId} {x v : Operand} {y u : Opd} (he : Env ρ σ vm lm vs ls a) (r : Rel P ρ σ h w) (h1 : opdOk vm lm x y = true) (h2 : opdOk vm lm v u = true) (hs : sizeIs P t n = true) (hn0 : 0 < n)
    (H : opK C vs ls h (.st n y u) K) : Writes P σ ρ h w a (.store t x v) K := by
  simp only [opK, ev_eq] at H
  have hr := he _ _ h1
  obtain ⟨new, H, hnew, hlen, hok⟩ := cells_run (he _ _ h2) H
  generalize opdV vs ls y = p at H hr
  cases p with
  | ptr id off =>
    obtain ⟨b, o, m, hρ, hx⟩ := hr.ptr_inv
    simp only at H
    cases hg : h.get id with
    | none => simp only [hg] at H
    | some obj =>
      cases obj with
      | row cs =>
        simp only [hg] at H
        rw [putK_iff] at H
        obtain ⟨hle, H⟩ := H
        rw [Heap.setK_eq] at H
        · obtain ⟨w', hrun, hevo, _⟩ := write_row r hg hρ hnew hok (off := off) (by omega)
          refine ⟨_, _, _, w', undef, H, hevo, .junk _, fun q hq => .inr ⟨?_, rfl⟩⟩
          have hsz : (a v).cells.size = n := by rw [← hlen, hnew.1]; simp
          simp only [execOp, hq, hx, Instr.storeAt, Instr.sureAddr, Sem.run_bind, Sem.run_pure, Result.andThen_ok, storeVar, run_size hs]
          rw [if_neg (by simp [hsz])]
          simp only [Sem.run_bind, Sem.run_pure, Result.andThen_ok, hrun]
      | _ => simp only [hg] at H
  | _ => exact H.elim

end
end Go.Zy
