/- A region in its own order, carried out. -/
import Derived.Test.YthlijlhfhlbehaaGreatZyLoud
set_option linter.unusedSimpArgs false
set_option linter.unusedVariables false
namespace Go.Zy
section
variable {P : Program} {σ : Im} {nt : Nat} {vm : List Nat} {C : CallK}

/-- A deferred call that waits. -/
inductive DOk (P : Program) (σ : Im) (B : Nat) (ρ : Nm) (h : Heap) (w : World) : DS → Deferred → Prop
  | call {f0 : Fn} {fa fb : List AVal} {args : List AVal} {x : Value} {xs : List Value} {d : Deferred} (h1 : VRel ρ σ (.func f0 fa fb) x) (h2 : LRel ρ σ args xs) (h3 : ∀ w, (Deferred.ofValue x xs.toArray).run P w = .ok d w) (h4 : ∃ fn cap, d.target = .fn fn cap) : DOk P σ B ρ h w (.call (.func f0 fa fb) args) d
  | mark {id r o n : Nat} (h1 : ρ id = some (r, o, n)) : DOk P σ B ρ h w (.mark id) { target := .collected r, args := #[] }
def DsOk (P : Program) (σ : Im) (B : Nat) (ρ : Nm) (h : Heap) (w : World) : List DS → List Deferred → Prop
  | [], [] => True
  | d :: ds, x :: xs => DOk P σ B ρ h w d x ∧ DsOk P σ B ρ h w ds xs
  | _, _ => False
theorem DOk.evo {B : Nat} {ρ ρ' : Nm} {h h' : Heap} {w w' : World} (r : Rel P ρ σ h w) (e : Evo P σ ρ h w ρ' h' w') {d : DS} {x : Deferred} (hd : DOk P σ B ρ h w d x) : DOk P σ B ρ' h' w' d x := by
  cases hd with
  | call h1 h2 h3 h4 => exact .call (h1.mono e.sub) (h2.mono e.sub) h3 h4
  | mark h1 => exact .mark (e.sub _ _ h1)
theorem DsOk.evo {B : Nat} {ρ ρ' : Nm} {h h' : Heap} {w w' : World} (r : Rel P ρ σ h w) (e : Evo P σ ρ h w ρ' h' w') : ∀ {ds : List DS} {xs : List Deferred}, DsOk P σ B ρ h w ds xs → DsOk P σ B ρ' h' w' ds xs := by
  intro ds
  induction ds with
  | nil => intro xs h; cases xs <;> exact h
  | cons d ds ih => intro xs h; cases xs with
    | nil => exact h
    | cons x xs => exact ⟨h.1.evo r e, ih h.2⟩

/-- A frame's state beside the abstract one. -/
structure Frm (P : Program) (σ : Im) (nt : Nat) (vm : List Nat) (B : Nat) (ρ : Nm) (vs : List AVal) (ds : List DS) (h : Heap) (a : Act) (w : World) : Prop where
  rel : Rel P ρ σ h w
  fr : FRel ρ σ vm vs a.tmps
  sz : nt ≤ a.tmps.size
  ds : DsOk P σ B ρ h w ds a.defers
def LocRel (ρ : Nm) (σ : Im) (vm lm : List Nat) (ls : List AVal) (tmps : Array Value) : Prop :=
  (∀ t ∈ lm, t ∉ vm) ∧ ∀ (i t : Nat), lm[i]? = some t → VRel ρ σ (ls.getD i .junk) (tmps.getD t undef)
theorem LocRel.mono {ρ ρ' : Nm} (hs : Sub ρ ρ') {lm : List Nat} {ls : List AVal} {tmps : Array Value} (h : LocRel ρ σ vm lm ls tmps) : LocRel ρ' σ vm lm ls tmps := ⟨h.1, fun i t e => (h.2 i t e).mono hs⟩
theorem LocRel.nil {ρ : Nm} {tmps : Array Value} : LocRel ρ σ vm [] [] tmps := ⟨fun t h => (by cases h), fun i t h => by simp at h⟩

theorem env_of {ρ : Nm} {vs ls : List AVal} {lm : List Nat} {a : Act} (hf : FRel ρ σ vm vs a.tmps) (hl : LocRel ρ σ vm lm ls a.tmps) : Env ρ σ vm lm vs ls a.eval := by
  intro x y hxy
  unfold opdOk at hxy
  split at hxy
  · simp only [decide_eq_true_eq] at hxy; exact hf.2 _ _ hxy
  · simp only [decide_eq_true_eq] at hxy; exact hl.2 _ _ hxy
  · exact litOk_rel hxy
  · simp only [decide_eq_true_eq] at hxy
    subst hxy
    exact .func _ (by intro l e; cases e) (xs := []) (ys := []) rfl rfl (by intro i v x e; simp at e) (by intro i v x e; simp at e)
  · cases hxy
theorem consts_act (a : Act) : Consts a.eval := fun _ => rfl

def landV (d : Dst) (v : AVal) (vs : List AVal) : List AVal := match d with | .var i => vs.set i v | _ => vs
def landL (d : Dst) (v : AVal) (ls : List AVal) : List AVal := match d with | .loc => v :: ls | _ => ls
theorem landK_eq (d : Dst) (v : AVal) (vs ls : List AVal) (ds : List DS) (h : Heap) (K : List AVal → List AVal → List DS → Heap → Prop) : landK d v vs ls ds h K = K (landV d v vs) (landL d v ls) ds h := by
  cases d <;> simp [landK, landV, landL, setK_eq]

theorem distinctN_inj : ∀ {l : List Nat}, distinctN l = true → ∀ {i j t : Nat}, l[i]? = some t → l[j]? = some t → i = j := by
  intro l
  induction l with
  | nil => intro _ i j t h; simp at h
  | cons a l ih =>
    intro hd i j t hi hj
    simp only [distinctN, Bool.and_eq_true, Bool.not_eq_true', List.contains_eq_mem, decide_eq_false_iff_not] at hd
    cases i with
    | zero => cases j with
      | zero => rfl
      | succ j => simp at hi hj; subst hi; exact absurd (List.mem_of_getElem? hj) hd.1
    | succ i => cases j with
      | zero => simp at hi hj; subst hj; exact absurd (List.mem_of_getElem? hi) hd.1
      | succ j => simp at hi hj; rw [ih hd.2 hi hj]

theorem getD_put {a : Act} {t u : Nat} {x : Value} : (a.put (some t) x).tmps.getD u undef = if t = u ∧ t < a.tmps.size then x else a.tmps.getD u undef := by
  simp only [Act.put, Array.getD_eq_getD_getElem?, Array.getElem?_setIfInBounds]
  by_cases h : t = u
  · subst h
    by_cases h2 : t < a.tmps.size
    · simp [h2]
    · simp [h2]
  · simp [h]
theorem put_size {a : Act} {d : Option Tmp} {x : Value} : (a.put d x).tmps.size = a.tmps.size := by cases d <;> simp [Act.put]
theorem put_defers {a : Act} {d : Option Tmp} {x : Value} : (a.put d x).defers = a.defers := by cases d <;> rfl

theorem land_fr {ρ : Nm} {vs ls : List AVal} {lm lm' : List Nat} {a : Act} {d : Option Tmp} {e : Dst} {v : AVal} {x : Value} (hdist : distinctN vm = true) (hsz : nt ≤ a.tmps.size) (hf : FRel ρ σ vm vs a.tmps) (hl : LocRel ρ σ vm lm ls a.tmps)
    (hd : dstOk nt vm lm d e = some lm') (hv : VRel ρ σ v x) : FRel ρ σ vm (landV e v vs) (a.put d x).tmps ∧ LocRel ρ σ vm lm' (landL e v ls) (a.put d x).tmps := by
  unfold dstOk at hd
  split at hd
  · rename_i t
    cases hb : (decide (t < nt) && !vm.contains t && !lm.contains t) with
    | false => rw [hb] at hd; cases hd
    | true =>
      rw [hb] at hd
      simp only [cond_true, Option.some.injEq] at hd
      subst hd
      simp only [Bool.and_eq_true, decide_eq_true_eq, Bool.not_eq_true', List.contains_eq_mem, decide_eq_false_iff_not] at hb
      obtain ⟨⟨h1, h2⟩, h3⟩ := hb
      refine ⟨⟨hf.1, fun i u hi => ?_⟩, ⟨?_, fun i u hi => ?_⟩⟩
      · rw [getD_put, if_neg (fun q : t = u ∧ _ => h2 (q.1 ▸ List.mem_of_getElem? hi))]; exact hf.2 i u hi
      · intro u hu
        rcases List.mem_cons.1 hu with rfl | hu
        · exact h2
        · exact hl.1 u hu
      · cases i with
        | zero => simp at hi; subst hi; rw [getD_put, if_pos ⟨rfl, Nat.lt_of_lt_of_le h1 hsz⟩]; exact hv
        | succ i => simp at hi; rw [getD_put, if_neg (fun q : t = u ∧ _ => h3 (q.1 ▸ List.mem_of_getElem? hi))]; exact hl.2 i u hi
  · rename_i t j
    cases hb : (decide (vm[j]? = some t) && decide (t < nt)) with
    | false => rw [hb] at hd; cases hd
    | true =>
      rw [hb] at hd
      simp only [cond_true, Option.some.injEq] at hd
      subst hd
      simp only [Bool.and_eq_true, decide_eq_true_eq] at hb
      obtain ⟨h1, h2⟩ := hb
      refine ⟨⟨by simp [landV, hf.1], fun i u hi => ?_⟩, ⟨hl.1, fun i u hi => ?_⟩⟩
      · by_cases hu : t = u
        · subst hu
          have := distinctN_inj hdist h1 hi
          subst this
          rw [getD_put, if_pos ⟨rfl, Nat.lt_of_lt_of_le h2 hsz⟩]
          have hlt : j < vs.length := by rw [hf.1]; exact (List.getElem?_eq_some_iff.1 h1).1
          simpa [landV, hlt] using hv
        · rw [getD_put, if_neg (fun q : t = u ∧ _ => hu q.1)]
          have hne : j ≠ i := fun q => by subst q; rw [h1] at hi; cases hi; exact hu rfl
          have := hf.2 i u hi
          simpa [landV, List.getD_eq_getElem?_getD, List.getElem?_set_ne hne] using this
      · rw [getD_put, if_neg (fun q : t = u ∧ _ => hl.1 u (List.mem_of_getElem? hi) (q.1 ▸ List.mem_of_getElem? h1))]; exact hl.2 i u hi
  · simp only [Option.some.injEq] at hd; subst hd; exact ⟨hf, hl⟩
  · cases hd

theorem guard_no {ρ : Nm} {vs ls : List AVal} {lm : List Nat} {a : Act} {ops : Array Oper} {o : Oper} {x : Opd} {b : Bool} (he : Env ρ σ vm lm vs ls a.eval) (hg : guardOk ops vm lm o.guard (some (x, b)) = true) {p q : Unit → Prop} (H : guardK (opdV vs ls x) b p q) :
    (Region.wanted o (yielded ops a.tmps) = true ∧ p ()) ∨ (Region.wanted o (yielded ops a.tmps) = false ∧ q ()) := by
  unfold guardOk at hg
  split at hg
  · rename_i h1 h2; cases h2
  · rename_i j b0 x' b1 h1 h2
    cases h2
    simp only [Bool.and_eq_true, decide_eq_true_eq] at hg
    obtain ⟨rfl, hg⟩ := hg
    split at hg
    · rename_i t ht
      have hv := he _ _ hg
      have hwant : Region.wanted o (yielded ops a.tmps) = (yielded ops a.tmps j == some b0) := by simp [Region.wanted, h1]
      have hy : yielded ops a.tmps j = (match a.tmps[t]? with | some (.bool b) => some b | _ => none) := by simp [yielded, ht]; rfl
      have hget : a.eval (.tmp t) = a.tmps.getD t undef := rfl
      generalize opdV vs ls x = v at H hv
      cases v with
      | bool c =>
        have := hv.bool_inv
        rw [hget, Array.getD_eq_getD_getElem?] at this
        cases hq : a.tmps[t]? with
        | none => rw [hq] at this; cases this
        | some z =>
          rw [hq] at this
          simp only [Option.getD_some] at this
          subst this
          simp only [guardK] at H
          rw [hwant, hy, hq]
          cases c <;> cases b0 <;> simp_all
      | tuple l =>
        obtain ⟨xs, _, hx⟩ := hv.tuple_inv
        rw [hget, Array.getD_eq_getD_getElem?] at hx
        right
        refine ⟨?_, H⟩
        rw [hwant, hy]
        cases hq : a.tmps[t]? with
        | none => rfl
        | some z => rw [hq] at hx; simp only [Option.getD_some] at hx; subst hx; rfl
      | _ => exact H.elim
    · cases hg
  · cases hg
theorem guard_none {ops : Array Oper} {lm : List Nat} {o : Oper} {tmps : Array Value} (hg : guardOk ops vm lm o.guard none = true) : Region.wanted o (yielded ops tmps) = true := by
  unfold guardOk at hg
  split at hg
  · rename_i h1 _; simp [Region.wanted, h1]
  · rename_i h2; cases h2
  · cases hg

/-- What stands behind a frame's work: the same frame, further on. -/
theorem defer_step {b : Frame} {a : Act} {k : List Item} {cs : List Frame} {w : World} {ops : Array Oper} {i : Nat} {rest : List Nat} {o : Oper} {c : Call} {d : Deferred} (ho : ops[i]? = some o) (hw : Region.wanted o (yielded ops a.tmps) = true)
    (hr : b.roundOf = none) (hop : o.op = .defer c) (hd : (resolve a.eval c o.type).run P w = .ok d w) :
    Steps P (lone (b.atR a (.inRegion ops (i :: rest) :: k)) cs w) (lone (b.atR (({ a with defers := d :: a.defers } : Act).put o.dst undef) (.inRegion ops rest :: k)) cs w) := by
  have hg := stepGR_op (P := P) (b := b) (k := k) (cs := cs) (w := w) (rest := rest) ho hw
  have hs : (o.semAt b.roundOf a.eval).run P w = .ok (.defer d) w := by rw [hr, Oper.semAt_none]; simp [execOp, hop, hd]
  refine .one (step_lone_go ?_)
  have : ({ b.atR a (.inRegion ops (i :: rest) :: k) with defers := d :: a.defers } : Frame).finish undef = b.atR (({ a with defers := d :: a.defers } : Act).put o.dst undef) (.inRegion ops rest :: k) := by
    have := Frame.finish_atR b { a with defers := d :: a.defers } ops i rest k undef
    rw [ho] at this; exact this
  rw [hg]; simp only [stepG.apply, Sem.runT_eq, hs, GStep.bare_after]
  exact congrArg (fun fr => GStep.go { frame := fr, callers := cs, status := .running, dying := none } w) this

theorem ofValue_run {ρ : Nm} {f : AVal} {x : Value} (hv : VRel ρ σ f x) (hf : (∃ fn a b, f = .func fn a b) ∨ f = .nilfunc ∨ ∃ id, f = .yield id) (xs : Array Value) : ∃ d, ∀ w, (Deferred.ofValue x xs).run P w = .ok d w := by
  rcases hf with ⟨fn, a, b, rfl⟩ | rfl | ⟨id, rfl⟩
  · obtain ⟨xs', ys, _, _, _, rfl⟩ := hv.func_inv; exact ⟨_, fun w => rfl⟩
  · rw [hv.nilfunc_inv]; exact ⟨_, fun w => rfl⟩
  · obtain ⟨_, _, _, _, rfl⟩ := hv.yield_inv; exact ⟨_, fun w => rfl⟩

theorem ofValue_fn {ρ : Nm} {fn : Fn} {fa fb : List AVal} {x : Value} (hv : VRel ρ σ (.func fn fa fb) x) (xs : Array Value) : ∃ d, (∀ w, (Deferred.ofValue x xs).run P w = .ok d w) ∧ ∃ fn cap, d.target = .fn fn cap := by
  obtain ⟨xs', ys, _, _, _, rfl⟩ := hv.func_inv; exact ⟨_, fun w => rfl, _, _, rfl⟩

theorem opOk_defer {op : Op} {ty : TypeId} {lm : List Nat} {f : Opd} {args : List Opd} (h : opOk P vm lm op ty (.defer f args) = true) : ∃ c g, op = .defer c ∧ c.callee = .value g ∧ opdOk vm lm g f = true ∧ opdsOk vm lm c.args.toList args = true := by
  unfold opOk at h
  dsimp only at h
  split at h
  all_goals try (exact absurd h (by decide))
  · rename_i c
    split at h
    · rename_i g hg
      simp only [Bool.and_eq_true] at h
      exact ⟨c, g, rfl, hg, h.1, h.2⟩
    · cases h
  · rename_i c
    split at h
    · cases h
    · cases h
    · rename_i b hb
      split at h
      all_goals try (exact absurd h (by decide))
      split at h
      · cases h
      · cases h
theorem opOk_not_defer {op : Op} {ty : TypeId} {lm : List Nat} {r : ROp} (h : opOk P vm lm op ty r = true) (hr : r.isDefer = false) : ∀ c, op ≠ .defer c := by
  rintro c rfl
  unfold opOk at h
  dsimp only at h
  split at h
  · cases hr
  · cases h
end
end Go.Zy
