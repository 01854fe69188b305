/- What a call comes to in the model, as the abstract run tells of it. -/
import Derived.Test.YthlijlhfhlbehaaGreatZyQuiet
import Derived.Defers
import Derived.RangeFuncRecord
set_option linter.unusedSimpArgs false
set_option linter.unusedVariables false
namespace Go.Zy
section
variable {P : Program} {σ : Im}

/-- A frame's way from its entry to its return, whatever stands behind it. -/
def RunsK (P : Program) (kind : CallKind) (f : FuncId) (args : Array Value) (w : World) (R : Value → World → Prop) : Prop :=
  ∀ cs, ∃ v w' fr, R v w' ∧ Steps P (lone (Frame.enter P f args kind) cs w) (lone fr cs w') ∧ fr.kind = kind ∧ fr.fn = f ∧ fr.going P w' (.returned v)
/-- A frame's way back to its caller. -/
def BackK (P : Program) (fr : Frame) (w : World) (R : Value → World → Prop) : Prop :=
  ∀ c cs, ∃ v w', R v w' ∧ Steps P (lone fr (c :: cs) w) (lone (c.finish v) cs w')

theorem RunsK.mono {kind : CallKind} {f : FuncId} {args : Array Value} {w : World} {R R' : Value → World → Prop} (h : RunsK P kind f args w R) (hr : ∀ v w', R v w' → R' v w') : RunsK P kind f args w R' :=
  fun cs => let ⟨v, w', fr, r, rest⟩ := h cs; ⟨v, w', fr, hr _ _ r, rest⟩
theorem BackK.mono {fr : Frame} {w : World} {R R' : Value → World → Prop} (h : BackK P fr w R) (hr : ∀ v w', R v w' → R' v w') : BackK P fr w R' :=
  fun c cs => let ⟨v, w', r, rest⟩ := h c cs; ⟨v, w', hr _ _ r, rest⟩
theorem RunsK.calls {f : FuncId} {args : Array Value} {w : World} {R : Value → World → Prop} (h : RunsK P .normal f args w R) : Calls P f args w fun e w' => ∃ v, e = .returned v ∧ R v w' := by
  intro cs
  obtain ⟨v, w', fr, hR, hs, hk, hf, hm, hd, fn, hfn, hres⟩ := h cs
  exact ⟨.returned v, w', fr, ⟨v, rfl, hR⟩, hs, hf, hm, hd, hk, fn, hfn, hres⟩
theorem RunsK.of_calls {f : FuncId} {args : Array Value} {w : World} {R : Value → World → Prop} (h : Calls P f args w fun e w' => ∃ v, e = .returned v ∧ R v w') : RunsK P .normal f args w R := by
  intro cs
  obtain ⟨e, w', fr, ⟨v, rfl, hR⟩, hs, hf, hm, hd, hk, fn, hfn, hres⟩ := h cs
  exact ⟨v, w', fr, hR, hs, hk, hf, hm, hd, fn, hfn, hres⟩
theorem RunsK.back {f : FuncId} {args : Array Value} {w : World} {R : Value → World → Prop} (h : RunsK P .normal f args w R) : BackK P (Frame.enter P f args .normal) w R := by
  intro c cs
  obtain ⟨v, w', fr, hR, hs, hk, hf, hm, hd, fn, hfn, hres⟩ := h (c :: cs)
  exact ⟨v, w', hR, hs.trans (.one (step_leave_returned ⟨hm, hd, hk, fn, hfn, hres⟩))⟩

/-- What an operation comes to: a value; nothing; a function's run; a round of a loop over a function. -/
inductive Answers (P : Program) (s : Sem Next) (w : World) (R : Value → World → Prop) : Prop
  | value (x : Value) (w' : World) (h : s.run P w = .ok (.value x) w') (hr : R x w')
  | skip (w' : World) (h : s.run P w = .ok .skip w') (hr : R undef w')
  | enter (f : FuncId) (args : Array Value) (w' : World) (h : s.run P w = .ok (.enter f args) w') (hr : RunsK P .normal f args w' R)
  | round (l : Nat) (f : FuncId) (tmps : Array Value) (assign body : Code) (w' : World) (h : s.run P w = .ok (.round l f tmps assign body) w') (hr : BackK P (Frame.round l f tmps assign body .normal) w' R)
/-- .. and what a deferred call comes to. -/
inductive AnswersD (P : Program) (s : Sem Next) (w : World) (R : Value → World → Prop) : Prop
  | value (x : Value) (w' : World) (h : s.run P w = .ok (.value x) w') (hr : R x w')
  | enter (f : FuncId) (args : Array Value) (w' : World) (h : s.run P w = .ok (.enter f args) w') (hr : RunsK P .deferred f args w' R)

theorem Answers.mono {s : Sem Next} {w : World} {R R' : Value → World → Prop} (h : Answers P s w R) (hr : ∀ v w', R v w' → R' v w') : Answers P s w R' := by
  cases h with
  | value x w' h r => exact .value x w' h (hr _ _ r)
  | skip w' h r => exact .skip w' h (hr _ _ r)
  | enter f args w' h r => exact .enter f args w' h (r.mono hr)
  | round l f tmps assign body w' h r => exact .round l f tmps assign body w' h (r.mono hr)
theorem AnswersD.mono {s : Sem Next} {w : World} {R R' : Value → World → Prop} (h : AnswersD P s w R) (hr : ∀ v w', R v w' → R' v w') : AnswersD P s w R' := by
  cases h with
  | value x w' h r => exact .value x w' h (hr _ _ r)
  | enter f args w' h r => exact .enter f args w' h (r.mono hr)
theorem Answers.congr {s s' : Sem Next} {w : World} {R : Value → World → Prop} (h : Answers P s w R) (hs : s'.run P w = s.run P w) : Answers P s' w R := by
  cases h with
  | value x w' h r => exact .value x w' (hs.trans h) r
  | skip w' h r => exact .skip w' (hs.trans h) r
  | enter f args w' h r => exact .enter f args w' (hs.trans h) r
  | round l f tmps assign body w' h r => exact .round l f tmps assign body w' (hs.trans h) r
theorem AnswersD.congr {s s' : Sem Next} {w : World} {R : Value → World → Prop} (h : AnswersD P s w R) (hs : s'.run P w = s.run P w) : AnswersD P s' w R := by
  cases h with
  | value x w' h r => exact .value x w' (hs.trans h) r
  | enter f args w' h r => exact .enter f args w' (hs.trans h) r

/-- What is left of an abstract run, and what became of the world. -/
def Out (P : Program) (σ : Im) (ρ : Nm) (h : Heap) (w : World) (K : AVal → Heap → Prop) : Value → World → Prop :=
  fun y w' => ∃ v h' ρ', K v h' ∧ Evo P σ ρ h w ρ' h' w' ∧ VRel ρ' σ v y

/-- A call of a function value. -/
def invoked (x : Value) (args : Array Value) : Sem Next := do let d ← Deferred.ofValue x args; invoke d.target d.args

/-- A call in the model, as an abstract call. -/
def CallSem (P : Program) (σ : Im) : CallK := fun f args h K =>
  ∀ ρ w x xs, Rel P ρ σ h w → VRel ρ σ f x → LRel ρ σ args xs → Answers P (invoked x xs.toArray) w (Out P σ ρ h w K)
def CallSemD (P : Program) (σ : Im) : CallK := fun f args h K =>
  ∀ ρ w x xs, Rel P ρ σ h w → VRel ρ σ f x → LRel ρ σ args xs → AnswersD P (invoked x xs.toArray) w (Out P σ ρ h w K)
def isFn : AVal → Prop
  | .func _ _ _ => True
  | _ => False
def CallBoth (P : Program) (σ : Im) : CallK := fun f args h K => CallSem P σ f args h K ∧ (isFn f → CallSemD P σ f args h K)

theorem CallSem.mono {f : AVal} {args : List AVal} {h : Heap} {K K' : AVal → Heap → Prop} (hc : CallSem P σ f args h K) (hk : ∀ v h, K v h → K' v h) : CallSem P σ f args h K' :=
  fun ρ w x xs r hx hxs => (hc ρ w x xs r hx hxs).mono fun _ _ ⟨v, h', ρ', k, e⟩ => ⟨v, h', ρ', hk _ _ k, e⟩
theorem CallSemD.mono {f : AVal} {args : List AVal} {h : Heap} {K K' : AVal → Heap → Prop} (hc : CallSemD P σ f args h K) (hk : ∀ v h, K v h → K' v h) : CallSemD P σ f args h K' :=
  fun ρ w x xs r hx hxs => (hc ρ w x xs r hx hxs).mono fun _ _ ⟨v, h', ρ', k, e⟩ => ⟨v, h', ρ', hk _ _ k, e⟩

/-- A number of an operation, carried out by the machine. -/
theorem Answers.step {b : Frame} {a : Act} {k : List Item} {cs : List Frame} {w : World} {ops : Array Oper} {i : Nat} {rest : List Nat} {o : Oper} {R : Value → World → Prop}
    (ho : ops[i]? = some o) (hw : Region.wanted o (yielded ops a.tmps) = true) (h : Answers P (o.semAt b.roundOf a.eval) w R) :
    ∃ x w', R x w' ∧ Steps P (lone (b.atR a (.inRegion ops (i :: rest) :: k)) cs w) (lone (b.atR (a.put o.dst x) (.inRegion ops rest :: k)) cs w') := by
  have hg := stepGR_op (P := P) (b := b) (k := k) (cs := cs) (w := w) (rest := rest) ho hw
  have hfin : ∀ v, (b.atR a (.inRegion ops (i :: rest) :: k)).finish v = b.atR (a.put o.dst v) (.inRegion ops rest :: k) := by
    intro v; rw [Frame.finish_atR, ho]; rfl
  cases h with
  | value x w' h r =>
    refine ⟨x, w', r, .one (step_lone_go ?_)⟩
    rw [hg, ← hfin]; simp [stepG.apply, h]
  | skip w' h r =>
    refine ⟨undef, w', r, .one (step_lone_go ?_)⟩
    rw [hg, ← hfin]; simp [stepG.apply, h]
  | enter f args w' h r =>
    obtain ⟨v, w'', hR, hs⟩ := r.back (b.atR a (.inRegion ops (i :: rest) :: k)) cs
    refine ⟨v, w'', hR, .head (m₁ := lone (Frame.enter P f args .normal) (b.atR a (.inRegion ops (i :: rest) :: k) :: cs) w') (step_lone_go ?_) ?_⟩
    · rw [hg]; simp [stepG.apply, h, Frame.atR]
    · rw [← hfin]; exact hs
  | round l f tmps assign body w' h r =>
    obtain ⟨v, w'', hR, hs⟩ := r (b.atR a (.inRegion ops (i :: rest) :: k)) cs
    refine ⟨v, w'', hR, .head (m₁ := lone (Frame.round l f tmps assign body .normal) (b.atR a (.inRegion ops (i :: rest) :: k) :: cs) w') (step_lone_go ?_) ?_⟩
    · rw [hg]; simp [stepG.apply, h, Frame.atR]
    · rw [← hfin]; exact hs
end
end Go.Zy
