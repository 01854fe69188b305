/- The abstract heap beside the model's memory, and what a piece of a run makes of both. -/
import Derived.Test.YthlijlhfhlbehaaGreatZyOps5
import Derived.Test.YthlijlhfhlbehaaGreatZyCode
set_option linter.unusedSimpArgs false
set_option linter.unusedVariables false
namespace Go.Zy

/-- A frame's persistent slots. -/
def FRel (ρ : Nm) (σ : Im) (vm : List Nat) (vs : List AVal) (tmps : Array Value) : Prop :=
  vs.length = vm.length ∧ ∀ (i t : Nat), vm[i]? = some t → VRel ρ σ (vs.getD i .junk) (tmps.getD t undef)
theorem FRel.mono {ρ ρ' : Nm} {σ : Im} (hs : Sub ρ ρ') {vm : List Nat} {vs : List AVal} {tmps : Array Value} (h : FRel ρ σ vm vs tmps) : FRel ρ' σ vm vs tmps :=
  ⟨h.1, fun i t e => (h.2 i t e).mono hs⟩

def exitCode : EExit → Option Code
  | .normal => none
  | .exit i => some (.exit i)
  | .ret => some .ret

/-- An abstract block's content beside the block that lies in memory. -/
def BRel (P : Program) (ρ : Nm) (σ : Im) (obj : AObj) (o n : Nat) (x : Option Obj) : Prop :=
  match obj with
  | .row cs => ∃ (c : Array Value) (e lo hi : Nat), x = some (.cells c e (lo, hi)) ∧ c.size = n ∧ o + cs.length ≤ n ∧ (lo = hi ∨ n ≤ lo) ∧
      (∀ (i : Nat) v, cs[i]? = some v → ∃ y, c[o + i]? = some y ∧ VRel ρ σ v y)
  | .map es clock => ∃ xs : Array MapEntry, x = some (.map xs clock) ∧ ERel ρ σ es xs.toList
  | .dfr b => x = some (.deferred (if b then some [] else none))
  | .iter none since seen stepped => x = some (.mapIter none since seen.toArray stepped)
  | .iter (some m) since seen stepped => ∃ b o n, ρ m = some (b, o, n) ∧ x = some (.mapIter (some b) since seen.toArray stepped)
  | .loop ps vs a b st pending => ∃ (L : Loop) (vm : List Nat) (nt : Nat), x = some (.loop L) ∧ L.state = st ∧ L.params.toList.map some = ps.map (fun i => vm[i]?) ∧ L.params.toList.all (fun t => decide (t < nt)) = true ∧
      distinctN vm = true ∧ vm.all (fun t => decide (t < nt)) = true ∧ nt ≤ L.tmps.size ∧ FRel ρ σ vm vs L.tmps ∧ codeOk P nt vm L.assign a = true ∧ codeOk P nt vm L.body b = true ∧ a.plain = true ∧ b.plain = true ∧
      L.pending = pending.bind exitCode ∧ pending ≠ some .normal

theorem BRel.mono {P : Program} {ρ ρ' : Nm} {σ : Im} (hs : Sub ρ ρ') {obj : AObj} {o n : Nat} {x : Option Obj} (h : BRel P ρ σ obj o n x) : BRel P ρ' σ obj o n x := by
  cases obj with
  | row cs => obtain ⟨c, e, lo, hi, h1, h2, h3, h4, h5⟩ := h; exact ⟨c, e, lo, hi, h1, h2, h3, h4, fun i v hv => let ⟨y, a, b⟩ := h5 i v hv; ⟨y, a, b.mono hs⟩⟩
  | map es clock => obtain ⟨xs, h1, h2⟩ := h; exact ⟨xs, h1, h2.mono hs⟩
  | dfr b => exact h
  | iter m since seen stepped =>
    cases m with
    | none => exact h
    | some m => obtain ⟨b, o, n, h1, h2⟩ := h; exact ⟨b, o, n, hs _ _ h1, h2⟩
  | loop ps vs a b st pending =>
    obtain ⟨L, vm, nt, h1, h2, h3, h4, h5, h6, h7, h8, h9⟩ := h
    exact ⟨L, vm, nt, h1, h2, h3, h4, h5, h6, h7, h8.mono hs, h9⟩

structure Rel (P : Program) (ρ : Nm) (σ : Im) (h : Heap) (w : World) : Prop where
  live : ∀ id obj b o n, h.get id = some obj → ρ id = some (b, o, n) → BRel P ρ σ obj o n w.heap[b]?
  inj : ∀ i j x y b o n o' n', h.get i = some x → h.get j = some y → ρ i = some (b, o, n) → ρ j = some (b, o', n') → i = j
  imm : ∀ b c, σ b = some c → ∃ e f, w.heap[b]? = some (.cells c e f)
  sep : ∀ i x b o n, h.get i = some x → ρ i = some (b, o, n) → σ b = none
  dom : ∀ i b o n, ρ i = some (b, o, n) → b < w.heap.size ∧ i < h.next
  fresh : ∀ i, h.next ≤ i → h.get i = none

/-- Does a living abstract block lie in this block? -/
def Owned (ρ : Nm) (h : Heap) (b : Nat) : Prop := ∃ i x o n, h.get i = some x ∧ ρ i = some (b, o, n)

/-- What a piece of a run makes of the names, the abstract heap and the world. -/
structure Evo (P : Program) (σ : Im) (ρ : Nm) (h : Heap) (w : World) (ρ' : Nm) (h' : Heap) (w' : World) : Prop where
  rel : Rel P ρ' σ h' w'
  sub : Sub ρ ρ'
  still : ∀ i, i < h.next → ρ i = none → ρ' i = none ∧ h'.get i = h.get i
  dead : ∀ i, i < h.next → h.get i = none → h'.get i = none
  next : h.next ≤ h'.next
  size : w.heap.size ≤ w'.heap.size
  keep : ∀ b, b < w.heap.size → ¬ Owned ρ h b → w'.heap[b]? = w.heap[b]?
  name : ∀ i b o n, ρ i = none → ρ' i = some (b, o, n) → w.heap.size ≤ b ∨ Owned ρ h b
  os : w'.os = w.os
  tape : w'.tape = w.tape
  output : w'.output = w.output

section
variable {P : Program} {σ : Im} {ρ ρ₁ ρ₂ : Nm} {h h₁ h₂ : Heap} {w w₁ w₂ : World}

theorem Evo.refl (r : Rel P ρ σ h w) : Evo P σ ρ h w ρ h w :=
  ⟨r, Sub.refl _, fun _ _ e => ⟨e, rfl⟩, fun _ _ e => e, Nat.le_refl _, Nat.le_refl _, fun _ _ _ => rfl, (fun i b o n a c => by rw [a] at c; cases c), rfl, rfl, rfl⟩

theorem Evo.owned (r : Rel P ρ σ h w) (e : Evo P σ ρ h w ρ₁ h₁ w₁) {b : Nat} (hb : b < w.heap.size) (ho : Owned ρ₁ h₁ b) : Owned ρ h b := by
  obtain ⟨i, x, o, n, h1, h2⟩ := ho
  cases hρ : ρ i with
  | none =>
    rcases e.name i b o n hρ h2 with g | g
    · omega
    · exact g
  | some y =>
    obtain ⟨b', o', n'⟩ := y
    have := e.sub _ _ hρ
    rw [h2] at this
    cases this
    have hi := (r.dom _ _ _ _ hρ).2
    cases hg : h.get i with
    | none => have := e.dead i hi hg; rw [this] at h1; cases h1
    | some z => exact ⟨i, z, o, n, hg, hρ⟩

theorem Evo.trans (r : Rel P ρ σ h w) (e : Evo P σ ρ h w ρ₁ h₁ w₁) (f : Evo P σ ρ₁ h₁ w₁ ρ₂ h₂ w₂) : Evo P σ ρ h w ρ₂ h₂ w₂ where
  rel := f.rel
  sub := e.sub.trans f.sub
  still := fun i hi hn => by
    obtain ⟨a, b⟩ := e.still i hi hn
    obtain ⟨c, d⟩ := f.still i (Nat.lt_of_lt_of_le hi e.next) a
    exact ⟨c, d.trans b⟩
  dead := fun i hi hn => f.dead i (Nat.lt_of_lt_of_le hi e.next) (e.dead i hi hn)
  next := Nat.le_trans e.next f.next
  size := Nat.le_trans e.size f.size
  keep := fun b hb hn => (f.keep b (Nat.lt_of_lt_of_le hb e.size) fun ho => hn (e.owned r hb ho)).trans (e.keep b hb hn)
  name := fun i b o n hn hs => by
    cases hρ : ρ₁ i with
    | none =>
      rcases f.name i b o n hρ hs with g | g
      · exact .inl (Nat.le_trans e.size g)
      · rcases Nat.lt_or_ge b w.heap.size with hb | hb
        · exact .inr (e.owned r hb g)
        · exact .inl hb
    | some y =>
      have := f.sub _ _ hρ
      rw [hs] at this
      cases this
      exact e.name i b o n hn hρ
  os := f.os.trans e.os
  tape := f.tape.trans e.tape
  output := f.output.trans e.output

/-- A new abstract block that has no place in memory yet. -/
theorem Rel.reserve (r : Rel P ρ σ h w) (obj : AObj) : Rel P ρ σ (h.new obj) w where
  live := fun id x b o n hg hρ => by
    rw [Heap.get_new] at hg
    split at hg
    · rename_i e; subst e
      have := (r.dom _ _ _ _ hρ).2; omega
    · exact r.live id x b o n hg hρ
  inj := fun i j x y b o n o' n' hi hj a c => by
    have h1 := (r.dom _ _ _ _ a).2
    have h2 := (r.dom _ _ _ _ c).2
    rw [Heap.get_new, if_neg (by omega)] at hi hj
    exact r.inj i j x y b o n o' n' hi hj a c
  imm := r.imm
  sep := fun i x b o n hi a => by
    have h1 := (r.dom _ _ _ _ a).2
    rw [Heap.get_new, if_neg (by omega)] at hi
    exact r.sep i x b o n hi a
  dom := fun i b o n a => by have := r.dom i b o n a; rw [Heap.next_new]; omega
  fresh := fun i hi => by
    rw [Heap.next_new] at hi
    rw [Heap.get_new, if_neg (by omega)]
    exact r.fresh i (by omega)

theorem Evo.reserve (r : Rel P ρ σ h w) (obj : AObj) : Evo P σ ρ h w ρ (h.new obj) w where
  rel := r.reserve obj
  sub := Sub.refl _
  still := fun i hi hn => ⟨hn, by rw [Heap.get_new, if_neg (by omega)]⟩
  dead := fun i hi hn => by rw [Heap.get_new, if_neg (by omega)]; exact hn
  next := by rw [Heap.next_new]; omega
  size := Nat.le_refl _
  keep := fun _ _ _ => rfl
  name := fun i b o n a c => by rw [a] at c; cases c
  os := rfl
  tape := rfl
  output := rfl

/-- One more name. -/
def upd (ρ : Nm) (id : Nat) (x : Nat × Nat × Nat) : Nm := fun i => if i = id then some x else ρ i
theorem upd_sub {id : Nat} {x : Nat × Nat × Nat} (hn : ρ id = none) : Sub ρ (upd ρ id x) := by
  intro i y hy
  unfold upd
  split
  · rename_i e; subst e; rw [hn] at hy; cases hy
  · exact hy
theorem upd_same {id : Nat} {x : Nat × Nat × Nat} : upd ρ id x id = some x := by simp [upd]

/-- A world that is another one with one more block. -/
structure Pushed (w w' : World) (o : Obj) : Prop where
  heap : w'.heap = w.heap.push o
  os : w'.os = w.os
  tape : w'.tape = w.tape
  output : w'.output = w.output

/-- A reserved abstract block gets its place. -/
theorem Rel.place (r : Rel P ρ σ h w) {id : Nat} {obj : AObj} {o : Obj} {n : Nat} (hg : h.get id = some obj) (hn : ρ id = none) (hp : Pushed w w₁ o)
    (ho : BRel P (upd ρ id (w.heap.size, 0, n)) σ obj 0 n (some o)) : Rel P (upd ρ id (w.heap.size, 0, n)) σ h w₁ where
  live := fun i x b o' n' hi hρ => by
    unfold upd at hρ
    split at hρ
    · rename_i e; subst e
      cases hρ
      rw [hg] at hi; cases hi
      rw [hp.heap]; simpa using ho
    · have h1 := r.dom _ _ _ _ hρ
      have := r.live i x b o' n' hi hρ
      rw [hp.heap, Array.getElem?_push, if_neg (by omega)]
      exact this.mono (upd_sub hn)
  inj := fun i j x y b o1 n1 o2 n2 hi hj a c => by
    unfold upd at a c
    split at a <;> split at c
    · rename_i e1 e2; exact e1.trans e2.symm
    · cases a; have := (r.dom _ _ _ _ c).1; omega
    · cases c; have := (r.dom _ _ _ _ a).1; omega
    · exact r.inj i j x y b o1 n1 o2 n2 hi hj a c
  imm := fun b c hb => by
    obtain ⟨e, f, he⟩ := r.imm b c hb
    have hlt : b < w.heap.size := (Array.getElem?_eq_some_iff.1 he).1
    exact ⟨e, f, by rw [hp.heap, Array.getElem?_push, if_neg (by omega)]; exact he⟩
  sep := fun i x b o1 n1 hi a => by
    unfold upd at a
    split at a
    · cases a
      cases hσ : σ w.heap.size with
      | none => rfl
      | some c =>
        obtain ⟨e, f, he⟩ := r.imm _ _ hσ
        have := (Array.getElem?_eq_some_iff.1 he).1; omega
    · exact r.sep i x b o1 n1 hi a
  dom := fun i b o1 n1 a => by
    rw [hp.heap, Array.size_push]
    unfold upd at a
    split at a
    · rename_i e; subst e; cases a
      refine ⟨by omega, ?_⟩
      rcases Nat.lt_or_ge i h.next with g | g
      · exact g
      · rw [r.fresh i g] at hg; cases hg
    · have := r.dom i b o1 n1 a; omega
  fresh := r.fresh

/-- .. and what that makes of a run that began ahead of the reservation. -/
theorem Evo.place (r : Rel P ρ σ h w) (e : Evo P σ ρ h w ρ₁ h₁ w₁) {id : Nat} {obj : AObj} {o : Obj} {n : Nat} (hid : h.next ≤ id) (hg : h₁.get id = some obj) (hn : ρ₁ id = none) (hp : Pushed w₁ w₂ o)
    (ho : BRel P (upd ρ₁ id (w₁.heap.size, 0, n)) σ obj 0 n (some o)) : Evo P σ ρ h w (upd ρ₁ id (w₁.heap.size, 0, n)) h₁ w₂ where
  rel := e.rel.place hg hn hp ho
  sub := e.sub.trans (upd_sub hn)
  still := fun i hi hni => by
    obtain ⟨a, b⟩ := e.still i hi hni
    exact ⟨by unfold upd; rw [if_neg (by omega)]; exact a, b⟩
  dead := e.dead
  next := e.next
  size := by rw [hp.heap, Array.size_push]; have := e.size; omega
  keep := fun b hb hno => by
    have := e.size
    rw [hp.heap, Array.getElem?_push, if_neg (by omega)]
    exact e.keep b hb hno
  name := fun i b o1 n1 hni hs => by
    unfold upd at hs
    split at hs
    · cases hs; exact .inl e.size
    · exact e.name i b o1 n1 hni hs
  os := hp.os.trans e.os
  tape := hp.tape.trans e.tape
  output := hp.output.trans e.output

/-- A new block, abstract and real at once. -/
theorem Evo.new (r : Rel P ρ σ h w) {obj : AObj} {o : Obj} {n : Nat} (hp : Pushed w w₁ o) (ho : BRel P (upd ρ h.next (w.heap.size, 0, n)) σ obj 0 n (some o)) :
    Evo P σ ρ h w (upd ρ h.next (w.heap.size, 0, n)) (h.new obj) w₁ := by
  have hn : ρ h.next = none := by
    cases hρ : ρ h.next with
    | none => rfl
    | some y => obtain ⟨b, o, n⟩ := y; have := (r.dom _ _ _ _ hρ).2; omega
  exact Evo.place r (Evo.reserve r obj) (Nat.le_refl _) (by rw [Heap.get_new, if_pos rfl]) hn hp ho

/-- A world that is another one but for one block's content. -/
structure Turned (w w' : World) (b : Nat) (o : Obj) : Prop where
  heap : w'.heap = w.heap.setIfInBounds b o
  os : w'.os = w.os
  tape : w'.tape = w.tape
  output : w'.output = w.output

/-- A living block's content is turned. -/
theorem Evo.turn (r : Rel P ρ σ h w) {id b o n : Nat} {old obj : AObj} {x : Obj} (hg : h.get id = some old) (hρ : ρ id = some (b, o, n)) (ht : Turned w w₁ b x)
    (ho : BRel P ρ σ obj o n (some x)) : Evo P σ ρ h w ρ (h.set id obj) w₁ := by
  have hb := (r.dom _ _ _ _ hρ).1
  have hid := (r.dom _ _ _ _ hρ).2
  have get : ∀ b', w₁.heap[b']? = if b' = b then some x else w.heap[b']? := by
    intro b'
    rw [ht.heap, Array.getElem?_setIfInBounds]
    by_cases e : b = b'
    · subst e; simp [hb]
    · rw [if_neg e, if_neg (fun q => e q.symm)]
  have liv : ∀ i y, (h.set id obj).get i = some y → ∃ z, h.get i = some z := by
    intro i y hi
    rw [Heap.get_set] at hi
    split at hi
    · rename_i e; subst e; exact ⟨_, hg⟩
    · exact ⟨_, hi⟩
  refine ⟨⟨?_, ?_, ?_, ?_, ?_, ?_⟩, Sub.refl _, ?_, ?_, by rw [Heap.next_set]; exact Nat.le_refl _, by rw [ht.heap, Array.size_setIfInBounds]; exact Nat.le_refl _, ?_, ?_, ht.os, ht.tape, ht.output⟩
  · intro i y b' o' n' hi hρ'
    rw [Heap.get_set] at hi
    rw [get]
    split at hi
    · rename_i e; subst e; cases hi
      rw [hρ] at hρ'; cases hρ'
      rw [if_pos rfl]; exact ho
    · rename_i e
      rw [if_neg (fun q => by subst q; exact e (r.inj _ _ _ _ _ _ _ _ _ hi hg hρ' hρ))]
      exact r.live i y b' o' n' hi hρ'
  · intro i j y z b' o1 n1 o2 n2 hi hj a c
    obtain ⟨y', hi'⟩ := liv i y hi
    obtain ⟨z', hj'⟩ := liv j z hj
    exact r.inj i j y' z' b' o1 n1 o2 n2 hi' hj' a c
  · intro b' c hc
    obtain ⟨e, f, he⟩ := r.imm b' c hc
    refine ⟨e, f, ?_⟩
    rw [get, if_neg (fun q => by subst q; rw [r.sep _ _ _ _ _ hg hρ] at hc; cases hc)]
    exact he
  · intro i y b' o1 n1 hi a
    obtain ⟨y', hi'⟩ := liv i y hi
    exact r.sep i y' b' o1 n1 hi' a
  · intro i b' o1 n1 a
    rw [ht.heap, Array.size_setIfInBounds, Heap.next_set]
    exact r.dom i b' o1 n1 a
  · intro i hi
    rw [Heap.next_set] at hi
    rw [Heap.get_set, if_neg (by omega)]
    exact r.fresh i hi
  · intro i hi hn
    refine ⟨hn, ?_⟩
    rw [Heap.get_set, if_neg (fun q => by subst q; rw [hρ] at hn; cases hn)]
  · intro i hi hn
    rw [Heap.get_set, if_neg (fun q => by subst q; rw [hg] at hn; cases hn)]
    exact hn
  · intro b' hb' hno
    rw [get, if_neg (fun q => by subst q; exact hno ⟨_, _, _, _, hg, hρ⟩)]
  · intro i b' o1 n1 a c
    rw [a] at c; cases c

end
end Go.Zy
