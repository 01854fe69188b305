/- Code, carried out. -/
import Derived.Test.YthlijlhfhlbehaaGreatZyDraw5
import Derived.RangeFuncIn
set_option linter.unusedSimpArgs false
set_option linter.unusedVariables false
namespace Go.Zy
section
variable {P : Program} {σ : Im} {nt : Nat} {vm : List Nat} {C : CallK}

/-- Where a piece of code ends. -/
def ArrZ (P : Program) (m : Machine) (b : Frame) (k : List Item) (fs : List Frame) : EExit → Act → World → Prop
  | .normal, a, w => Steps P m (lone (b.atR a k) fs w)
  | .exit id, a, w => ∃ k1, exitTo id k1 = exitTo id k ∧ Steps P m (lone (b.atR a (.code (.exit id) :: k1)) fs w)
  | .ret, a, w => ∃ k1, Steps P m (lone (b.atR a (.code .ret :: k1)) fs w)
theorem ArrZ.of_steps {m m₁ : Machine} {b : Frame} {k : List Item} {fs : List Frame} {x : EExit} {a : Act} {w : World} (h : Steps P m m₁) (h' : ArrZ P m₁ b k fs x a w) : ArrZ P m b k fs x a w := by
  cases x with
  | normal => exact h.trans h'
  | exit id => obtain ⟨k1, e, s⟩ := h'; exact ⟨k1, e, h.trans s⟩
  | ret => obtain ⟨k1, s⟩ := h'; exact ⟨k1, h.trans s⟩
/-- .. behind an item that an exit passes by. -/
theorem ArrZ.pass {m : Machine} {b : Frame} {y : Item} {k : List Item} {fs : List Frame} {x : EExit} {a : Act} {w : World} (hy : ∀ id, exitTo id (y :: k) = exitTo id k) (hx : x ≠ .normal) (h : ArrZ P m b (y :: k) fs x a w) : ArrZ P m b k fs x a w := by
  cases x with
  | normal => exact absurd rfl hx
  | exit id => obtain ⟨k1, e, s⟩ := h; exact ⟨k1, by rw [e, hy], s⟩
  | ret => exact h

theorem stepR_scope {b : Frame} {a : Act} {k : List Item} {cs : List Frame} {w : World} {c : Code} : step P (lone (b.atR a (.code (.scope c) :: k)) cs w) = .next (lone (b.atR a (.code c :: .inScope c :: k)) cs w) :=
  step_lone_go (by simp [stepG, stepG.exec, Frame.atR])
theorem stepR_inScope {b : Frame} {a : Act} {k : List Item} {cs : List Frame} {w : World} {c : Code} : step P (lone (b.atR a (.inScope c :: k)) cs w) = .next (lone (b.atR a k) cs w) :=
  step_lone_go (by simp [stepG, stepG.exec, Frame.atR])

/-- What a piece of code leaves. -/
def Leaves1 (P : Program) (σ : Im) (nt : Nat) (vm : List Nat) (B : Nat) (ρ : Nm) (h : Heap) (w : World) (m : Machine) (b : Frame) (k : List Item) (fs : List Frame) (K : KK) : Prop :=
  ∃ x vs' ds' h' ρ' a' w', K x vs' ds' h' ∧ Evo P σ ρ h w ρ' h' w' ∧ Frm P σ nt vm B ρ' vs' ds' h' a' w' ∧ ArrZ P m b k fs x a' w'

/-- What the soundness of a code's run says. -/
def Sound1 (P : Program) (σ : Im) (nt : Nat) (vm : List Nat) (B : Nat) (b : Frame) (fs : List Frame) (c : Code) (body : List AVal → List DS → Heap → KK → Prop) : Prop :=
  ∀ vs ds h K ρ a w k, Frm P σ nt vm B ρ vs ds h a w → body vs ds h K → Leaves1 P σ nt vm B ρ h w (lone (b.atR a (.code c :: k)) fs w) b k fs K

theorem loopN_sound {B : Nat} {b : Frame} {fs : List Frame} {c : Code} {body : List AVal → List DS → Heap → KK → Prop} (hb : Sound1 P σ nt vm B b fs c body) : ∀ n vs ds h K ρ a w k, Frm P σ nt vm B ρ vs ds h a w → loopN body n vs ds h K →
    Leaves1 P σ nt vm B ρ h w (lone (b.atR a (.code c :: .inLoop c :: k)) fs w) b k fs K := by
  intro n
  induction n with
  | zero => intro vs ds h K ρ a w k _ H; exact H.elim
  | succ n ih =>
    intro vs ds h K ρ a w k F H
    obtain ⟨x, vs1, ds1, h1, ρ1, a1, w1, hK, he, F1, harr⟩ := hb vs ds h _ ρ a w (.inLoop c :: k) F H
    cases x with
    | normal =>
      obtain ⟨x2, vs2, ds2, h2, ρ2, a2, w2, hK2, he2, F2, harr2⟩ := ih vs1 ds1 h1 K ρ1 a1 w1 k F1 hK
      exact ⟨x2, vs2, ds2, h2, ρ2, a2, w2, hK2, he.trans F.rel he2, F2, .of_steps (Steps.trans harr (.one stepR_inLoop)) harr2⟩
    | exit id => exact ⟨_, vs1, ds1, h1, ρ1, a1, w1, hK, he, F1, .pass (fun _ => rfl) (by simp) harr⟩
    | ret => exact ⟨_, vs1, ds1, h1, ρ1, a1, w1, hK, he, F1, .pass (fun _ => rfl) (by simp) harr⟩
theorem loopS_sound {B : Nat} {b : Frame} {fs : List Frame} {c : Code} {body : List AVal → List DS → Heap → KK → Prop} (hb : Sound1 P σ nt vm B b fs c body) {vs : List AVal} {ds : List DS} {h : Heap} {K : KK} {ρ : Nm} {a : Act} {w : World} {k : List Item}
    (F : Frm P σ nt vm B ρ vs ds h a w) (H : loopS body vs ds h K) : Leaves1 P σ nt vm B ρ h w (lone (b.atR a (.code c :: .inLoop c :: k)) fs w) b k fs K := by
  obtain ⟨I, μ, hI, hround⟩ := H
  have key : ∀ n vs ds h ρ a w, μ ⟨vs, ds, h⟩ = n → I ⟨vs, ds, h⟩ → Frm P σ nt vm B ρ vs ds h a w → Leaves1 P σ nt vm B ρ h w (lone (b.atR a (.code c :: .inLoop c :: k)) fs w) b k fs K := by
    intro n
    induction n using Nat.strongRecOn with
    | ind n ih =>
      intro vs ds h ρ a w hn hI F
      obtain ⟨x, vs1, ds1, h1, ρ1, a1, w1, hK, he, F1, harr⟩ := hb vs ds h _ ρ a w (.inLoop c :: k) F (hround ⟨vs, ds, h⟩ hI)
      cases x with
      | normal =>
        obtain ⟨hI1, hlt⟩ := hK
        obtain ⟨x2, vs2, ds2, h2, ρ2, a2, w2, hK2, he2, F2, harr2⟩ := ih _ (by rw [← hn]; exact hlt) vs1 ds1 h1 ρ1 a1 w1 rfl hI1 F1
        exact ⟨x2, vs2, ds2, h2, ρ2, a2, w2, hK2, he.trans F.rel he2, F2, .of_steps (Steps.trans harr (.one stepR_inLoop)) harr2⟩
      | exit id => exact ⟨_, vs1, ds1, h1, ρ1, a1, w1, hK, he, F1, .pass (fun _ => rfl) (by simp) harr⟩
      | ret => exact ⟨_, vs1, ds1, h1, ρ1, a1, w1, hK, he, F1, .pass (fun _ => rfl) (by simp) harr⟩
  exact key _ vs ds h ρ a w rfl hI F

theorem frm_evo {B : Nat} {ρ ρ' : Nm} {vs : List AVal} {ds : List DS} {h h' : Heap} {a : Act} {w w' : World} (F : Frm P σ nt vm B ρ vs ds h a w) (e : Evo P σ ρ h w ρ' h' w') : Frm P σ nt vm B ρ' vs ds h' a w' :=
  ⟨e.rel, F.fr.mono e.sub, F.sz, F.ds.evo F.rel e⟩

/-- Entering a loop over a function. -/
theorem rangeFunc_step {b : Frame} {a : Act} {k : List Item} {fs : List Frame} {w w₁ : World} {g : Operand} {ps : Array Tmp} {assign body : Code} {l : Nat} {mark : List Deferred} {R : Value → World → Prop}
    (he : (Instr.enterLoop b.fn a.tmps ps assign body b.roundOf).run P w = .ok (l, mark) w₁) (h : Answers P (invoked (a.eval g) #[.func (.yield l) #[] #[]]) w₁ R) :
    ∃ x w', R x w' ∧ Steps P (lone (b.atR a (.code (.rangeFunc g ps assign body) :: k)) fs w) (lone (b.atR { a with defers := mark ++ a.defers } (.endRangeFunc l :: k)) fs w') := by
  have hev := Frame.eval_atR b { a with defers := mark ++ a.defers } (.inRangeFunc l :: k)
  have hgev : ({ a with defers := mark ++ a.defers } : Act).eval = a.eval := by funext x; cases x <;> rfl
  have happ : (stepG P true { frame := b.atR a (.code (.rangeFunc g ps assign body) :: k), callers := fs, status := .running, dying := none } w).bare =
      (stepG.apply P true (b.atR { a with defers := mark ++ a.defers } (.inRangeFunc l :: k)) fs none (invoked (a.eval g) #[.func (.yield l) #[] #[]]) w₁).bare := by
    have hs : (do let d ← resolve (b.atR { a with defers := mark ++ a.defers } (.inRangeFunc l :: k)).eval { callee := .value g, args := #[.const (.func (.yield l) #[] #[])], argTypes := #[] } 0; invoke d.target d.args : Sem Next) = invoked (a.eval g) #[.func (.yield l) #[] #[]] := by
      rw [hev, hgev]; simp [resolve, invoked, Act.eval]
    have hb : b.atR a (.code (.rangeFunc g ps assign body) :: k) = { fn := b.fn, tmps := a.tmps, todo := .code (.rangeFunc g ps assign body) :: k, defers := a.defers, mode := .run, kind := b.kind, roundOf := b.roundOf } := rfl
    rw [hb]
    simp only [stepG, stepG.exec, Sem.runT_eq, he, GStep.bare_after]
    rw [← hs]
    rfl
  have hfin : ∀ v, (b.atR { a with defers := mark ++ a.defers } (.inRangeFunc l :: k)).finish v = b.atR { a with defers := mark ++ a.defers } (.endRangeFunc l :: k) := fun v => finish_atR_inRangeFunc l v
  cases h with
  | value x w' h r =>
    refine ⟨x, w', r, .one (step_lone_go ?_)⟩
    rw [happ, ← hfin x]; simp [stepG.apply, h]
  | skip w' h r =>
    refine ⟨undef, w', r, .one (step_lone_go ?_)⟩
    rw [happ, ← hfin undef]; simp [stepG.apply, h]
  | enter f args w' h r =>
    obtain ⟨v, w'', hR, hs⟩ := r.back (b.atR { a with defers := mark ++ a.defers } (.inRangeFunc l :: k)) fs
    refine ⟨v, w'', hR, .head (m₁ := lone (Frame.enter P f args .normal) (b.atR { a with defers := mark ++ a.defers } (.inRangeFunc l :: k) :: fs) w') (step_lone_go ?_) ?_⟩
    · rw [happ]; simp [stepG.apply, h, Frame.atR]
    · rw [← hfin v]; exact hs
  | round l' f tmps assign' body' w' h r =>
    obtain ⟨v, w'', hR, hs⟩ := r (b.atR { a with defers := mark ++ a.defers } (.inRangeFunc l :: k)) fs
    refine ⟨v, w'', hR, .head (m₁ := lone (Frame.round l' f tmps assign' body' .normal) (b.atR { a with defers := mark ++ a.defers } (.inRangeFunc l :: k) :: fs) w') (step_lone_go ?_) ?_⟩
    · rw [happ]; simp [stepG.apply, h, Frame.atR]
    · rw [← hfin v]; exact hs

theorem exit_code {x : EExit} (h : x ≠ .normal) : ∃ c, exitCode x = some c ∧ ∀ {m : Machine} {b : Frame} {k : List Item} {fs : List Frame} {a : Act} {w : World}, Steps P m (lone (b.atR a (.code c :: k)) fs w) → ArrZ P m b k fs x a w := by
  cases x with
  | normal => exact absurd rfl h
  | exit id => exact ⟨_, rfl, fun s => ⟨_, rfl, s⟩⟩
  | ret => exact ⟨_, rfl, fun s => ⟨_, s⟩⟩

theorem exec_sound (hC : ∀ f args h K, C f args h K → CallSem P σ f args h K) (hdist : distinctN vm = true) (hvm : vm.all (fun t => decide (t < nt)) = true) (fuel : Option Nat) {B : Nat} {b : Frame} {fs : List Frame} :
    ∀ (c : Code) (e : ECode), codeOk P nt vm c e = true → (b.roundOf = none ∨ e.plain = true) → Sound1 P σ nt vm B b fs c (exec fuel C e) := by
  intro c
  induction c with
  | skip =>
    intro e hok _ vs ds h K ρ a w k F H
    cases e <;> first | (cases hok; done) | skip
    exact ⟨.normal, vs, ds, h, ρ, a, w, H, Evo.refl F.rel, F, .one stepR_skip⟩
  | label l =>
    intro e hok _ vs ds h K ρ a w k F H
    cases e <;> first | (cases hok; done) | skip
    exact ⟨.normal, vs, ds, h, ρ, a, w, H, Evo.refl F.rel, F, .one stepR_label⟩
  | region id ops draw =>
    intro e hok hpl vs ds h K ρ a w k F H
    cases e <;> first | (cases hok; done) | skip
    · rename_i es
      simp only [codeOk, Bool.and_eq_true, Bool.not_eq_true'] at hok
      obtain ⟨rfl, hok⟩ := hok
      simp only [exec] at H
      obtain ⟨vs', ls', ds', h', ρ', a', w', g1, g2, g3, g4⟩ := seq_sound (b := b) (k := k) (cs := fs) hC hdist ops.toList es 0 [] vs [] ds h ρ a w _ (hpl.imp (fun q => q) (fun q => by simpa [ECode.plain] using q)) rfl hok F LocRel.nil H
      refine ⟨.normal, vs', ds', h', ρ', a', w', g1, g2, g3, .head stepR_region (Steps.trans ?_ (.one (stepR_region_end (ops := ops))))⟩
      rw [List.range_eq_range']
      simpa using g4
    · rename_i seg ph
      simp only [codeOk, Bool.and_eq_true] at hok
      obtain ⟨rfl, hok⟩ := hok
      simp only [exec] at H
      obtain ⟨vs', ls', ds', h', ρ', a', w', g1, g2, g3, g4⟩ := draw_sound (b := b) (k := k) (fs := fs) (id := id) (K := fun vs _ ds h => K .normal vs ds h) hC hdist hok (hpl.imp (fun q => q) (fun q => by
        simp only [ECode.plain, Bool.and_eq_true, List.all_eq_true] at q ⊢
        exact fun p hp => (q.2 p hp).1)) F H
      exact ⟨.normal, vs', ds', h', ρ', a', w', g1, g2, g3, g4⟩
  | seq x y ihx ihy =>
    intro e hok hpl vs ds h K ρ a w k F H
    cases e <;> first | (cases hok; done) | skip
    rename_i x' y'
    simp only [codeOk, Bool.and_eq_true] at hok
    have hpl' : (b.roundOf = none ∨ x'.plain = true) ∧ (b.roundOf = none ∨ y'.plain = true) := by
      rcases hpl with q | q
      · exact ⟨.inl q, .inl q⟩
      · simp only [ECode.plain, Bool.and_eq_true] at q; exact ⟨.inr q.1, .inr q.2⟩
    simp only [exec] at H
    obtain ⟨x1, vs1, ds1, h1, ρ1, a1, w1, hK, he, F1, harr⟩ := ihx x' hok.1 hpl'.1 vs ds h _ ρ a w (.code y :: k) F H
    cases x1 with
    | normal =>
      obtain ⟨x2, vs2, ds2, h2, ρ2, a2, w2, hK2, he2, F2, harr2⟩ := ihy y' hok.2 hpl'.2 vs1 ds1 h1 K ρ1 a1 w1 k F1 hK
      exact ⟨x2, vs2, ds2, h2, ρ2, a2, w2, hK2, he.trans F.rel he2, F2, .of_steps (.head stepR_seq harr) harr2⟩
    | exit id => exact ⟨_, vs1, ds1, h1, ρ1, a1, w1, hK, he, F1, .of_steps (.one stepR_seq) (.pass (fun _ => rfl) (by simp) harr)⟩
    | ret => exact ⟨_, vs1, ds1, h1, ρ1, a1, w1, hK, he, F1, .of_steps (.one stepR_seq) (.pass (fun _ => rfl) (by simp) harr)⟩
  | cond cnd x y ihx ihy =>
    intro e hok hpl vs ds h K ρ a w k F H
    cases e <;> first | (cases hok; done) | skip
    rename_i cnd' x' y'
    simp only [codeOk, Bool.and_eq_true] at hok
    have hpl' : (b.roundOf = none ∨ x'.plain = true) ∧ (b.roundOf = none ∨ y'.plain = true) := by
      rcases hpl with q | q
      · exact ⟨.inl q, .inl q⟩
      · simp only [ECode.plain, Bool.and_eq_true] at q; exact ⟨.inr q.1, .inr q.2⟩
    simp only [exec, ev_eq] at H
    have hv := env_of F.fr (LocRel.nil (σ := σ) (vm := vm) (ρ := ρ) (tmps := a.tmps)) _ _ hok.1.1
    generalize opdV vs [] cnd' = v at H hv
    cases v with
    | bool t =>
      simp only [boolK] at H
      have hcv : a.eval cnd = .bool t := hv.bool_inv
      cases t with
      | true =>
        obtain ⟨x1, vs1, ds1, h1, ρ1, a1, w1, hK, he, F1, harr⟩ := ihx x' hok.1.2 hpl'.1 vs ds h K ρ a w k F H
        refine ⟨x1, vs1, ds1, h1, ρ1, a1, w1, hK, he, F1, .of_steps (.one (stepR_cond hcv)) ?_⟩
        simpa using harr
      | false =>
        obtain ⟨x1, vs1, ds1, h1, ρ1, a1, w1, hK, he, F1, harr⟩ := ihy y' hok.2 hpl'.2 vs ds h K ρ a w k F H
        refine ⟨x1, vs1, ds1, h1, ρ1, a1, w1, hK, he, F1, .of_steps (.one (stepR_cond hcv)) ?_⟩
        simpa using harr
    | _ => exact H.elim
  | block id x ih =>
    intro e hok hpl vs ds h K ρ a w k F H
    cases e <;> first | (cases hok; done) | skip
    rename_i id' x'
    simp only [codeOk, Bool.and_eq_true, decide_eq_true_eq] at hok
    obtain ⟨rfl, hok⟩ := hok
    simp only [exec] at H
    obtain ⟨x1, vs1, ds1, h1, ρ1, a1, w1, hK, he, F1, harr⟩ := ih x' hok (hpl.imp (fun q => q) (fun q => by simpa [ECode.plain] using q)) vs ds h _ ρ a w (.inBlock id :: k) F H
    cases x1 with
    | normal => exact ⟨_, vs1, ds1, h1, ρ1, a1, w1, hK, he, F1, .head stepR_block (Steps.trans harr (.one stepR_inBlock))⟩
    | exit i =>
      obtain ⟨k1, e1, s1⟩ := harr
      simp only at hK
      cases hb : Nat.beq i id with
      | true =>
        rw [hb] at hK
        obtain rfl := Nat.eq_of_beq_eq_true hb
        refine ⟨.normal, vs1, ds1, h1, ρ1, a1, w1, hK, he, F1, .head stepR_block (s1.trans (.one (stepR_exit ?_)))⟩
        rw [e1]; simp [exitTo]
      | false =>
        rw [hb] at hK
        have hne : (id == i) = false := by
          cases hq : (id == i) with
          | false => rfl
          | true => rw [beq_iff_eq] at hq; rw [hq, Nat.beq_refl] at hb; cases hb
        exact ⟨.exit i, vs1, ds1, h1, ρ1, a1, w1, hK, he, F1, k1, by rw [e1]; simp [exitTo, hne], .head stepR_block s1⟩
    | ret =>
      obtain ⟨k1, s1⟩ := harr
      exact ⟨.ret, vs1, ds1, h1, ρ1, a1, w1, hK, he, F1, k1, .head stepR_block s1⟩
  | loop x ih =>
    intro e hok hpl vs ds h K ρ a w k F H
    cases e <;> first | (cases hok; done) | skip
    rename_i x'
    have hb : Sound1 P σ nt vm B b fs x (exec fuel C x') := ih x' hok (hpl.imp (fun q => q) (fun q => by simpa [ECode.plain] using q))
    have hres : Leaves1 P σ nt vm B ρ h w (lone (b.atR a (.code x :: .inLoop x :: k)) fs w) b k fs K := by
      cases fuel with
      | none => exact loopS_sound hb F H
      | some n => exact loopN_sound hb n vs ds h K ρ a w k F H
    obtain ⟨x1, vs1, ds1, h1, ρ1, a1, w1, hK, he, F1, harr⟩ := hres
    exact ⟨x1, vs1, ds1, h1, ρ1, a1, w1, hK, he, F1, .of_steps (.one stepR_loop) harr⟩
  | rangeFunc g ps x y ihx ihy =>
    intro e hok hpl vs ds h K ρ a w k F H
    cases e <;> first | (cases hok; done) | skip
    rename_i f' qs x' y'
    simp only [codeOk, Bool.and_eq_true, decide_eq_true_eq] at hok
    obtain ⟨⟨⟨⟨⟨⟨o1, o2⟩, o3⟩, o4⟩, o5⟩, o6⟩, o7⟩ := hok
    have hro : b.roundOf = none := hpl.resolve_right (by simp [ECode.plain])
    simp only [exec, ev_eq, Heap.newK_eq] at H
    have hv := env_of F.fr (LocRel.nil (σ := σ) (vm := vm) (ρ := ρ) (tmps := a.tmps)) _ _ o1
    have hent := run_enterLoop_outer (P := P) (w := w) b.fn a.tmps ps x y
    rw [← hro] at hent
    -- two blocks
    have ev1 : Evo P σ ρ h w (upd ρ h.next (w.heap.size, 0, 0)) (h.new (.dfr true)) (w.alloc (.deferred (some []))) := Evo.new F.rel ⟨rfl, rfl, rfl, rfl⟩ rfl
    have hn1 : upd ρ h.next (w.heap.size, 0, 0) (h.new (.dfr true)).next = none := by
      cases hq : upd ρ h.next (w.heap.size, 0, 0) (h.new (.dfr true)).next with
      | none => rfl
      | some z => obtain ⟨q1, q2, q3⟩ := z; have := (ev1.rel.dom _ _ _ _ hq).2; omega
    let L : Loop := { state := .ready, pending := none, fn := b.fn, tmps := a.tmps, params := ps, assign := x, body := y, defers := w.heap.size }
    have ev2 := Evo.new (obj := .loop qs vs x' y' .ready none) (o := .loop L) (n := 0) (w₁ := (w.alloc (.deferred (some []))).alloc (.loop L)) ev1.rel ⟨rfl, rfl, rfl, rfl⟩
      ⟨L, vm, nt, rfl, rfl, o2, o3, hdist, hvm, F.sz, (F.fr.mono ev1.sub).mono (upd_sub hn1), o4, o5, o6, o7, rfl, by simp⟩
    have ev12 := ev1.trans F.rel ev2
    have hlsz : (w.alloc (.deferred (some []))).heap.size = w.heap.size + 1 := World.size_alloc _ _
    have hA := hC _ _ _ _ H _ _ (a.eval g) [.func (.yield (w.heap.size + 1)) #[] #[]] ev2.rel (hv.mono ev12.sub) (.cons (VRel.yield (o := 0) (n := 0) (by rw [upd_same, hlsz])) .nil)
    obtain ⟨z, w2, ⟨vz, h2, ρ2, hK2, ev3, _⟩, s1⟩ := rangeFunc_step (k := k) (fs := fs) hent hA
    have ev13 := ev12.trans F.rel ev3
    cases hg2 : h2.get (h.new (.dfr true)).next with
    | none => simp only [hg2] at hK2
    | some obj =>
      cases obj with
      | loop ps2 vs2 a2 b2 st pending =>
        simp only [hg2] at hK2
        have hρ2 : ρ2 (h.new (.dfr true)).next = some (w.heap.size + 1, 0, 0) := ev3.sub _ _ (by rw [upd_same, hlsz])
        obtain ⟨L2, vm2, nt2, q1, q2, q3, q4, q5, q6, q7, q8, q9, q10, q11, q12, q13, q14⟩ := ev3.rel.live _ _ _ _ _ hg2 hρ2
        have hst : st ≠ .busy := by intro q; subst q; exact hK2.elim
        have hend := run_endLoop (P := P) q1 (by rw [q2]; exact hst)
        have ev4 : Evo P σ ρ2 h2 w2 ρ2 (h2.set (h.new (.dfr true)).next (.loop ps2 vs2 a2 b2 .exhausted pending)) (w2.putObj (w.heap.size + 1) (.loop { L2 with state := .exhausted })) :=
          Evo.turn ev3.rel hg2 hρ2 ⟨rfl, rfl, rfl, rfl⟩ ⟨_, vm2, nt2, rfl, rfl, q3, q4, q5, q6, q7, q8, q9, q10, q11, q12, q13, q14⟩
        have evAll := ev13.trans F.rel ev4
        have FF : Frm P σ nt vm B ρ2 vs (.mark h.next :: ds) (h2.set (h.new (.dfr true)).next (.loop ps2 vs2 a2 b2 .exhausted pending)) { a with defers := [{ target := .collected w.heap.size, args := #[] }] ++ a.defers } (w2.putObj (w.heap.size + 1) (.loop { L2 with state := .exhausted })) :=
          ⟨ev4.rel, F.fr.mono evAll.sub, F.sz, .mark (ev3.sub _ _ (ev2.sub _ _ upd_same)), F.ds.evo F.rel evAll⟩
        have s2 := s1.trans (.one (stepR_endRangeFunc hend))
        cases pending with
        | none =>
          rw [show ((L2.pending.map Item.code).toList ++ k) = k by rw [q13]; rfl] at s2
          have hK3 : K .normal vs (.mark h.next :: ds) (h2.set (h.new (.dfr true)).next (.loop ps2 vs2 a2 b2 .exhausted none)) := by
            cases st <;> first | exact absurd rfl hst | (simp only [Heap.setK_eq] at hK2; exact hK2)
          exact ⟨.normal, vs, _, _, ρ2, _, _, hK3, evAll, FF, s2⟩
        | some e =>
          obtain ⟨c, hc, harr⟩ := exit_code (P := P) (x := e) (fun q => q14 (by rw [q]))
          rw [show ((L2.pending.map Item.code).toList ++ k) = .code c :: k by rw [q13]; simp [hc]] at s2
          have hK3 : K e vs (.mark h.next :: ds) (h2.set (h.new (.dfr true)).next (.loop ps2 vs2 a2 b2 .exhausted (some e))) := by
            cases st <;> first | exact absurd rfl hst | (simp only [Heap.setK_eq] at hK2; exact hK2)
          exact ⟨e, vs, _, _, ρ2, _, _, hK3, evAll, FF, harr s2⟩
      | _ => simp only [hg2] at hK2
  | exit id =>
    intro e hok _ vs ds h K ρ a w k F H
    cases e <;> first | (cases hok; done) | skip
    simp only [codeOk, decide_eq_true_eq] at hok
    subst hok
    exact ⟨_, vs, ds, h, ρ, a, w, H, Evo.refl F.rel, F, k, rfl, Steps.refl _ _⟩
  | scope x ih =>
    intro e hok hpl vs ds h K ρ a w k F H
    cases e <;> first | (cases hok; done) | skip
    rename_i x'
    obtain ⟨x1, vs1, ds1, h1, ρ1, a1, w1, hK, he, F1, harr⟩ := ih x' hok (hpl.imp (fun q => q) (fun q => by simpa [ECode.plain] using q)) vs ds h K ρ a w (.inScope x :: k) F H
    cases x1 with
    | normal => exact ⟨_, vs1, ds1, h1, ρ1, a1, w1, hK, he, F1, .head stepR_scope (Steps.trans harr (.one stepR_inScope))⟩
    | exit id => exact ⟨_, vs1, ds1, h1, ρ1, a1, w1, hK, he, F1, .of_steps (.one stepR_scope) (.pass (fun _ => rfl) (by simp) harr)⟩
    | ret => exact ⟨_, vs1, ds1, h1, ρ1, a1, w1, hK, he, F1, .of_steps (.one stepR_scope) (.pass (fun _ => rfl) (by simp) harr)⟩
  | goto l => intro e hok; cases e <;> cases hok
  | ret =>
    intro e hok _ vs ds h K ρ a w k F H
    cases e <;> first | (cases hok; done) | skip
    exact ⟨_, vs, ds, h, ρ, a, w, H, Evo.refl F.rel, F, k, Steps.refl _ _⟩
  | refuse why => intro e hok; cases e <;> cases hok
end
end Go.Zy
