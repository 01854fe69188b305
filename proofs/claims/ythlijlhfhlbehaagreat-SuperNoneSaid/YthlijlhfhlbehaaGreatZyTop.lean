/- Calls of functions, and a table of functions. -/
import Derived.Test.YthlijlhfhlbehaaGreatZyFunc
set_option linter.unusedSimpArgs false
set_option linter.unusedVariables false
namespace Go.Zy
section
variable {P : Program} {σ : Im} {C : CallK}

theorem funcOk_call {fid : FuncId} {vm : List Nat} {F : EFunc} (hok : funcOk P fid vm F = true) (args : Array Value) (w : World) : (callFunc fid args).run P w = .ok (.enter fid args) w := by
  apply bodied_call
  unfold funcOk at hok
  unfold bodied
  cases hfn : P.funcs[fid]? with
  | none => rw [hfn] at hok; cases hok
  | some fn =>
    rw [hfn] at hok
    simp only [Bool.and_eq_true, decide_eq_true_eq] at hok ⊢
    obtain ⟨⟨⟨⟨⟨⟨hbody, _⟩, _⟩, _⟩, _⟩, _⟩, hname⟩ := hok
    cases hb : fn.body with
    | none => rw [hb] at hbody; cases hbody
    | some code => exact ⟨rfl, hname⟩

theorem func_invoked {ρ : Nm} {fid : FuncId} {vm : List Nat} {F : EFunc} (hok : funcOk P fid vm F = true) {a b args : List AVal} {x : Value} {xs : List Value} (hx : VRel ρ σ (.func (.func fid) a b) x) (hxs : LRel ρ σ args xs) :
    ∃ zs, LRel ρ σ (a ++ (args ++ b)) zs ∧ ∀ w, (invoked x xs.toArray).run P w = .ok (.enter fid zs.toArray) w := by
  obtain ⟨p, q, hp, hq, _, rfl⟩ := hx.func_inv
  refine ⟨p ++ (xs ++ q), hp.append (hxs.append hq), fun w => ?_⟩
  have e : p.toArray ++ xs.toArray ++ q.toArray = (p ++ (xs ++ q)).toArray := by simp
  simp only [invoked, Deferred.ofValue, Sem.run_bind, Sem.run_pure, Result.andThen_ok, invoke]
  rw [e, funcOk_call hok]

/-- **A call of a function that has an abstract text.** -/
theorem func_sound (hC : ∀ f args h K, C f args h K → CallSem P σ f args h K) (fuel : Option Nat) {fid : FuncId} {vm : List Nat} {F : EFunc} (hok : funcOk P fid vm F = true) (hD : F.body.plain = true ∨ ∀ f args h K, C f args h K → isFn f → CallSemD P σ f args h K)
    {a b args : List AVal} {h : Heap} {K : AVal → Heap → Prop} (H : enterK fuel C F (a ++ (args ++ b)) h K) : CallBoth P σ (.func (.func fid) a b) args h K := by
  refine ⟨fun ρ w x xs rel hx hxs => ?_, fun _ ρ w x xs rel hx hxs => ?_⟩
  · obtain ⟨zs, hz, hrun⟩ := func_invoked hok hx hxs
    exact .enter fid zs.toArray w (hrun w) (enter_sound hC fuel hok hD H rel hz .normal)
  · obtain ⟨zs, hz, hrun⟩ := func_invoked hok hx hxs
    exact .enter fid zs.toArray w (hrun w) (enter_sound hC fuel hok hD H rel hz .deferred)

/-- .. as a contract over the model itself. -/
theorem func_sem {fid : FuncId} {vm : List Nat} {F : EFunc} (hok : funcOk P fid vm F = true) (hD : F.body.plain = true) {args : List AVal} {h : Heap} {K : AVal → Heap → Prop} (H : enterK none (CallSem P σ) F args h K) : CallSem P σ (.func (.func fid) [] []) args h K :=
  (func_sound (fun _ _ _ _ h => h) none hok (.inl hD) (by simpa using H)).1
theorem func_sem_c {fid : FuncId} {vm : List Nat} {F : EFunc} (hok : funcOk P fid vm F = true) (hD : F.body.plain = true) {a b args : List AVal} {h : Heap} {K : AVal → Heap → Prop} (H : enterK none (CallSem P σ) F (a ++ (args ++ b)) h K) : CallSem P σ (.func (.func fid) a b) args h K :=
  (func_sound (fun _ _ _ _ h => h) none hok (.inl hD) H).1
theorem func_both {fid : FuncId} {vm : List Nat} {F : EFunc} (hok : funcOk P fid vm F = true) {a b args : List AVal} {h : Heap} {K : AVal → Heap → Prop} (H : enterK none (CallBoth P σ) F (a ++ (args ++ b)) h K) : CallBoth P σ (.func (.func fid) a b) args h K :=
  func_sound (fun _ _ _ _ h => h.1) none hok (.inr fun _ _ _ _ h => h.2) H
theorem yield_sem {id : Nat} {args : List AVal} {h : Heap} {K : AVal → Heap → Prop} (H : yieldK none (CallSem P σ) id args h K) : CallSem P σ (.yield id) args h K := yield_sound (fun _ _ _ _ h => h) none H

/- ## A table -/
def FT.list : FT → Nat → Nat → List (Nat × EFunc)
  | .leaf, _, _ => []
  | .node l v r, a, b => match v with
    | some F => (b, F) :: (FT.list l (2 * a) (a + b) ++ FT.list r (2 * a) (2 * a + b))
    | none => FT.list l (2 * a) (a + b) ++ FT.list r (2 * a) (2 * a + b)
/-- The function of number n of the tree is at a * n + b. -/
theorem FT.list_get : ∀ {t : FT} {a b n : Nat} {F : EFunc}, t.get n = some F → (a * n + b, F) ∈ t.list a b := by
  intro t
  induction t with
  | leaf => intro a b n F h; cases n <;> cases h
  | node l v r ihl ihr =>
    intro a b n F h
    have rest : ∀ x, x ∈ FT.list l (2 * a) (a + b) ++ FT.list r (2 * a) (2 * a + b) → x ∈ FT.list (.node l v r) a b := by
      intro x hx
      cases v with
      | none => exact hx
      | some G => exact List.mem_cons_of_mem _ hx
    cases n with
    | zero =>
      simp only [FT.get] at h
      subst h
      simp [FT.list]
    | succ m =>
      simp only [FT.get] at h
      have e1 : Nat.mod m 2 = m % 2 := rfl
      have e2 : Nat.div m 2 = m / 2 := rfl
      rw [e1, e2] at h
      apply rest
      cases hb : Nat.beq (m % 2) 0 with
      | true =>
        rw [hb] at h
        have := ihl (a := 2 * a) (b := a + b) h
        have hm := Nat.eq_of_beq_eq_true hb
        have e : 2 * a * (m / 2) + (a + b) = a * (m + 1) + b := by
          have : m = 2 * (m / 2) := by omega
          have h2 : a * (m + 1) = a * m + a := Nat.mul_succ a m
          have h3 : 2 * a * (m / 2) = a * m := by rw [Nat.mul_comm 2 a, Nat.mul_assoc, ← this]
          omega
        rw [e] at this
        exact List.mem_append_left _ this
      | false =>
        rw [hb] at h
        have := ihr (a := 2 * a) (b := 2 * a + b) h
        have hm : m % 2 ≠ 0 := fun e => by rw [e] at hb; cases hb
        have e : 2 * a * (m / 2) + (2 * a + b) = a * (m + 1) + b := by
          have : m = 2 * (m / 2) + 1 := by omega
          have h2 : a * (m + 1) = a * m + a := Nat.mul_succ a m
          have h3 : a * m = 2 * a * (m / 2) + a := by
            conv => lhs; rw [this]
            rw [Nat.mul_succ, Nat.mul_comm 2 a, Nat.mul_assoc]
          omega
        rw [e] at this
        exact List.mem_append_right _ this
def okL (P : Program) : List (Nat × EFunc) → Bool
  | [] => true
  | (f, F) :: l => funcOk P f F.vm F && okL P l
theorem okL_append {l m : List (Nat × EFunc)} (h : okL P l = true) (k : okL P m = true) : okL P (l ++ m) = true := by
  induction l with
  | nil => exact k
  | cons x l ih => obtain ⟨f, F⟩ := x; simp only [okL, List.cons_append, Bool.and_eq_true] at h ⊢; exact ⟨h.1, ih h.2⟩
theorem okL_mem {l : List (Nat × EFunc)} (h : okL P l = true) {f : Nat} {F : EFunc} (hm : (f, F) ∈ l) : funcOk P f F.vm F = true := by
  induction l with
  | nil => cases hm
  | cons x l ih =>
    obtain ⟨g, G⟩ := x
    simp only [okL, Bool.and_eq_true] at h
    rcases List.mem_cons.1 hm with e | hm
    · cases e; exact h.1
    · exact ih h.2 hm
theorem table_ok {t : FT} {l : List (Nat × EFunc)} (e : t.list 1 0 = l) (h : okL P l = true) : ∀ fid F, t.get fid = some F → funcOk P fid F.vm F = true := by
  intro fid F hg
  have := FT.list_get (a := 1) (b := 0) hg
  rw [e] at this
  simpa using okL_mem h this

theorem calls_sound (T : FuncId → Option EFunc) (hT : ∀ fid F, T fid = some F → funcOk P fid F.vm F = true) (S : CallK → CallK → CallK)
    (hS : ∀ C base : CallK, (∀ f args h K, C f args h K → CallBoth P σ f args h K) → (∀ f args h K, base f args h K → CallBoth P σ f args h K) → ∀ f args h K, S C base f args h K → CallBoth P σ f args h K) (fuel : Nat) :
    ∀ d f args h K, call T S fuel d f args h K → CallBoth P σ f args h K := by
  intro d
  induction d with
  | zero => intro f args h K H; exact H.elim
  | succ d ih =>
    intro f args h K H
    refine hS (call T S fuel d) _ ih ?_ f args h K H
    intro f args h K H
    split at H
    · rename_i fid a b
      cases hF : T fid with
      | none => rw [hF] at H; exact H.elim
      | some F =>
        rw [hF] at H
        simp only [catK_eq] at H
        exact func_sound (fun _ _ _ _ q => (ih _ _ _ _ q).1) (some fuel) (hT fid F hF) (.inr fun _ _ _ _ q => (ih _ _ _ _ q).2) H
    · rename_i id
      exact ⟨yield_sound (fun _ _ _ _ q => (ih _ _ _ _ q).1) (some fuel) H, fun q => q.elim⟩
    · exact H.elim
end
end Go.Zy
