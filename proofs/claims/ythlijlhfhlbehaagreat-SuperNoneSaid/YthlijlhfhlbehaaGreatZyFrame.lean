/- A call over an empty abstract heap, where there is a heap. -/
import Derived.Test.YthlijlhfhlbehaaGreatZyLaw
set_option linter.unusedSimpArgs false
set_option linter.unusedVariables false
namespace Go.Zy
section
variable {P : Program} {σ : Im}

/-- Holds no name. -/
def Shut (v : AVal) : Prop := ∀ (ρ ρ' : Nm) (σ : Im) (x : Value), VRel ρ σ v x → VRel ρ' σ v x
theorem Shut.bool (b : Bool) : Shut (.bool b) := fun _ _ _ _ h => by cases h; exact .bool b
theorem Shut.int (k : IntKind) (n : Int) : Shut (.int k n) := fun _ _ _ _ h => by cases h; exact .int k n
theorem Shut.str (l : List UInt8) : Shut (.str l) := fun _ _ _ _ h => by cases h; exact .str l
theorem Shut.func (fn : Fn) : Shut (.func fn [] []) := fun _ _ _ _ h => by
  cases h with
  | func fn hn ha hb ra rb => exact .func fn hn ha hb (fun i v x h => by simp at h) (fun i v x h => by simp at h)
theorem Shut.list {l : List AVal} (h : ∀ v ∈ l, Shut v) {ρ ρ' : Nm} {xs : List Value} (r : LRel ρ σ l xs) : LRel ρ' σ l xs :=
  ⟨r.1, fun i v x a b => h v (List.mem_of_getElem? a) _ _ _ _ (r.2 i v x a b)⟩

theorem rel_empty {ρ : Nm} {h : Heap} {w : World} (r : Rel P ρ σ h w) : Rel P noNm σ Heap.empty w where
  live := fun _ _ _ _ _ _ h => by cases h
  inj := fun _ _ _ _ _ _ _ _ _ _ _ h => by cases h
  imm := r.imm
  sep := fun _ _ _ _ _ _ h => by cases h
  dom := fun _ _ _ _ h => by cases h
  fresh := fun i _ => by cases i <;> rfl
theorem not_owned_empty {ρ : Nm} (b : Nat) : ¬ Owned ρ Heap.empty b := fun ⟨i, x, o, n, g, _⟩ => by cases i <;> cases g
theorem evo_frame {ρ ρ' : Nm} {h h' : Heap} {w w' : World} (r : Rel P ρ σ h w) (e : Evo P σ noNm Heap.empty w ρ' h' w') : Evo P σ ρ h w ρ h w' where
  rel := {
    live := fun id obj b o n a c => by
      rw [e.keep b (r.dom id b o n c).1 (not_owned_empty b)]
      exact r.live id obj b o n a c
    inj := r.inj
    imm := e.rel.imm
    sep := r.sep
    dom := fun i b o n c => ⟨Nat.lt_of_lt_of_le (r.dom i b o n c).1 e.size, (r.dom i b o n c).2⟩
    fresh := r.fresh }
  sub := Sub.refl ρ
  still := fun _ _ a => ⟨a, rfl⟩
  dead := fun _ _ a => a
  next := Nat.le_refl _
  size := e.size
  keep := fun b hb _ => e.keep b hb (not_owned_empty b)
  name := fun i b o n a c => by rw [a] at c; cases c
  os := e.os
  tape := e.tape
  output := e.output
theorem out_frame {ρ : Nm} {h : Heap} {w w' : World} {K : AVal → Prop} {y : Value} (r : Rel P ρ σ h w) (hk : ∀ v, K v → Shut v) (e : Out P σ noNm Heap.empty w (fun v _ => K v) y w') : Out P σ ρ h w (fun v h' => K v ∧ h' = h) y w' := by
  obtain ⟨v, h', ρ', k, e, q⟩ := e
  exact ⟨v, h, ρ, ⟨k, rfl⟩, evo_frame r e, hk v k _ _ _ _ q⟩
theorem CallSem.frame {f : AVal} {args : List AVal} {h : Heap} {K : AVal → Prop} (hf : Shut f) (ha : ∀ v ∈ args, Shut v) (hk : ∀ v, K v → Shut v)
    (hc : CallSem P σ f args Heap.empty (fun v _ => K v)) : CallSem P σ f args h (fun v h' => K v ∧ h' = h) :=
  fun ρ w x xs r hx hxs => (hc noNm w x xs (rel_empty r) (hf _ _ _ _ hx) (Shut.list ha hxs)).mono fun _ _ q => out_frame r hk q
theorem CallSemD.frame {f : AVal} {args : List AVal} {h : Heap} {K : AVal → Prop} (hf : Shut f) (ha : ∀ v ∈ args, Shut v) (hk : ∀ v, K v → Shut v)
    (hc : CallSemD P σ f args Heap.empty (fun v _ => K v)) : CallSemD P σ f args h (fun v h' => K v ∧ h' = h) :=
  fun ρ w x xs r hx hxs => (hc noNm w x xs (rel_empty r) (hf _ _ _ _ hx) (Shut.list ha hxs)).mono fun _ _ q => out_frame r hk q
theorem CallBoth.frame {f : AVal} {args : List AVal} {h : Heap} {K : AVal → Prop} (hf : Shut f) (ha : ∀ v ∈ args, Shut v) (hk : ∀ v, K v → Shut v)
    (hc : CallBoth P σ f args Heap.empty (fun v _ => K v)) : CallBoth P σ f args h (fun v h' => K v ∧ h' = h) :=
  ⟨CallSem.frame hf ha hk hc.1, fun i => CallSemD.frame hf ha hk (hc.2 i)⟩

/-- A function without parameters that answers 'true', known. -/
def known (n : Nat) (S : CallK → CallK → CallK) : CallK → CallK → CallK := fun C base f args h K => match f, args with
  | .func (.func m) [] [], [] => match Nat.beq m n with
    | true => K (.bool true) h
    | false => S C base f args h K
  | _, _ => S C base f args h K
theorem known_sound {n : Nat} {S : CallK → CallK → CallK} (hn : CallBoth P σ (.func (.func n) [] []) [] Heap.empty fun v _ => v = .bool true)
    (hS : ∀ C base : CallK, (∀ f args h K, C f args h K → CallBoth P σ f args h K) → (∀ f args h K, base f args h K → CallBoth P σ f args h K) → ∀ f args h K, S C base f args h K → CallBoth P σ f args h K) :
    ∀ C base : CallK, (∀ f args h K, C f args h K → CallBoth P σ f args h K) → (∀ f args h K, base f args h K → CallBoth P σ f args h K) → ∀ f args h K, known n S C base f args h K → CallBoth P σ f args h K := by
  intro C base hC hb f args h K H
  unfold known at H
  split at H
  · split at H
    · rename_i m e
      have e := Nat.eq_of_beq_eq_true e
      subst e
      have := CallBoth.frame (h := h) (Shut.func _) (fun v hv => by simp at hv) (fun v hv => by rw [hv]; exact Shut.bool _) hn
      refine ⟨this.1.mono ?_, fun i => (this.2 i).mono ?_⟩ <;> (rintro v h' ⟨rfl, rfl⟩; exact H)
    · exact hS C base hC hb _ _ _ _ H
  · exact hS C base hC hb _ _ _ _ H
end
end Go.Zy
