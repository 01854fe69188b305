/- A law's row from a law's run. -/
import Derived.Test.YthlijlhfhlbehaaGreatZyArgs
import Derived.OpenShut
set_option linter.unusedSimpArgs false
set_option linter.unusedVariables false
namespace Go.Zy
open Go.RowKit Go.WideShapes Go.ChangeShapes

section
variable {H : Type}
def encV : Ty → DataW H → AVal
  | .struct fs, d => .agg (encD (.struct fs) [d])
  | ty, d => (encD ty [d]).headD .junk
def wfAll : List Ty → List (DataW H) → Prop
  | [], [] => True
  | ty :: tys, d :: ds => wfD ty [d] ∧ wfAll tys ds
  | _, _ => False
def encAll : List Ty → List (DataW H) → List AVal
  | ty :: tys, d :: ds => encV ty d :: encAll tys ds
  | _, _ => []
def tysOk (P : Program) : List Ty → List TypeId → Bool
  | [], [] => true
  | ty :: tys, t :: ts => tyOk P ty t && tysOk P tys ts
  | _, _ => false

variable {enc : TypeId × Value → H} {P : Program} {w : World}

theorem encV_rel {ty : Ty} {t : TypeId} {v : Value} {d : DataW H} {ps : List MemPlace} {base : Nat} (hw : ∃ (b : Nat) (c : Array Value) (x : TypeId) (y : Nat × Nat), w.heap[b]? = some (Obj.cells c x y))
    (ht : tyOk P ty t = true) (hval : Value.okWide P w .any base t v) (h : DataW.Trod enc P w 0 (fun _ => true) true t v d ps) :
    VRel noNm (memOf w) (encV ty d) v ∧ wfD ty [d] ∧ ∀ (w' : World) (sp : Nat → Bool), (∀ p ∈ ps, w.sameAt w' p) → (∀ p ∈ ps, sp p.block = true) → DataW.Trod enc P w' 0 sp true t v d ps := by
  obtain ⟨n, h⟩ := h
  have R := (read_any hw ty).1 n t _ d ps ht h
  refine ⟨?_, R.wf, fun w' sp h1 h2 => ⟨n, R.again w' sp h1 h2⟩⟩
  have rel := R.rel
  have one : ∀ {x : Value} {l : List AVal}, v = x → x.cells.toList = [x] → encV ty d = l.headD .junk → encD ty [d] = l → VRel noNm (memOf w) (encV ty d) v := by
    intro x l e1 e2 e3 e4
    rw [e1, e2, e4] at rel
    rw [e1, e3]
    cases l with
    | nil => have := rel.1; simp at this
    | cons y l => exact (rel.2 0 y x rfl rfl)
  cases ty with
  | bool =>
    have hu : P.underlying t = some .bool := by
      simp only [tyOk] at ht; split at ht <;> first | assumption | cases ht
    obtain ⟨b, rfl⟩ := okWide_bool hu hval
    exact one rfl rfl rfl rfl
  | int k =>
    have hu : P.underlying t = some (.int k) := by
      simp only [tyOk] at ht; split at ht
      · rename_i j e; have := of_decide_eq_true ht; subst this; exact e
      · cases ht
    obtain ⟨b, rfl⟩ := okWide_int hu hval
    exact one rfl rfl rfl rfl
  | str =>
    have hu : P.underlying t = some .string := by
      simp only [tyOk] at ht; split at ht <;> first | assumption | cases ht
    obtain ⟨b, rfl⟩ := okWide_string hu hval
    exact one rfl rfl rfl rfl
  | slice e =>
    have hu : ∃ u, P.underlying t = some (.slice u) := by
      simp only [tyOk] at ht; split at ht
      · exact ⟨_, by assumption⟩
      · cases ht
    obtain ⟨u, hu⟩ := hu
    obtain ⟨a, b, c, rfl⟩ := okWide_slice hu hval
    exact one rfl rfl rfl rfl
  | struct fs =>
    have hu : ∃ gs, P.underlying t = some (.struct gs) := by
      simp only [tyOk] at ht; split at ht
      · exact ⟨_, by assumption⟩
      · cases ht
    obtain ⟨gs, hu⟩ := hu
    obtain ⟨cs, rfl, _⟩ := okWide_struct hu hval
    show VRel _ _ (.agg (encD (.struct fs) [d])) _
    have e : cs = cs.toList.toArray := by simp
    rw [e]
    exact .agg rel.1 rel.2
  | snil => simp [tyOk] at ht
  | scons f r => simp [tyOk] at ht

theorem encAll_rel {base : Nat} (hw : ∃ (b : Nat) (c : Array Value) (x : TypeId) (y : Nat × Nat), w.heap[b]? = some (Obj.cells c x y)) :
    ∀ {tys : List Ty} {ts : List TypeId} {vs : List Value} {ds : List (DataW H)} {ps : List MemPlace}, tysOk P tys ts = true → (∀ (j : Nat) t v, ts[j]? = some t → vs[j]? = some v → Value.okWide P w .any base t v) →
      DataW.TrodAll enc P w 0 (fun _ => true) true ts vs ds ps →
      LRel noNm (memOf w) (encAll tys ds) vs ∧ wfAll tys ds ∧ ∀ (w' : World) (sp : Nat → Bool), (∀ p ∈ ps, w.sameAt w' p) → (∀ p ∈ ps, sp p.block = true) → DataW.TrodAll enc P w' 0 sp true ts vs ds ps := by
  intro tys
  induction tys with
  | nil =>
    intro ts vs ds ps ht _ h
    match ts, ht with
    | [], _ =>
      obtain ⟨rfl, rfl, rfl⟩ := trodAll_nil h
      exact ⟨.nil, trivial, fun _ _ _ _ => trodAll_mk0⟩
  | cons ty tys ih =>
    intro ts vs ds ps ht hval h
    match ts, ht with
    | t :: ts, ht =>
      simp only [tysOk, Bool.and_eq_true] at ht
      obtain ⟨v, vs', d, ds', p, q, rfl, rfl, rfl, h1, h2⟩ := trodAll_cons h
      obtain ⟨a1, a2, a3⟩ := encV_rel hw ht.1 (hval 0 t v rfl rfl) h1
      obtain ⟨b1, b2, b3⟩ := ih ht.2 (fun j t v e1 e2 => hval (j + 1) t v (by simpa using e1) (by simpa using e2)) h2
      refine ⟨.cons a1 b1, ⟨a2, b2⟩, fun w' sp g1 g2 => ?_⟩
      exact trodAll_cons_mk (a3 w' sp (fun p hp => g1 p (by simp [hp])) (fun p hp => g2 p (by simp [hp]))) (b3 w' sp (fun p hp => g1 p (by simp [hp])) (fun p hp => g2 p (by simp [hp])))

theorem post_of_below {f : Func} {s : ChangeSpec} {apart fresh handsOn again : Bool} {W W' : World} {args : Array Value} {v : Value} {ds gs : List (DataW H)} {before pa pv : List MemPlace}
    (hW : DataW.Whole enc P f.params.toList s.vars apart W args.toList ds gs before)
    (hres : ∀ (b : Nat) (sp : Nat → Bool) (hd : Bool), DataW.TrodAll enc P W' b sp hd f.resultTypes.toList (v.resultList f.resultTypes.size) (s.fn H (ds ++ gs)).results [])
    (hargs : ∀ sp : Nat → Bool, (∀ p ∈ before, sp p.block = true) → DataW.TrodAll enc P W' 0 sp true f.params.toList args.toList (s.fn H (ds ++ gs)).args pa)
    (hvars : ∀ sp : Nat → Bool, (∀ p ∈ before, sp p.block = true) → DataW.TrodVars enc P W' sp s.vars (s.fn H (ds ++ gs)).vars pv)
    (hps : before = pa ++ pv) (hb : Below W.heap.size W W')
    (hok : ∀ (j : Nat) (t : TypeId) (r : Value), f.resultTypes[j]? = some t → (v.resultList f.resultTypes.size)[j]? = some r → Value.okWide P W' .any 0 t r) :
    s.post enc P f apart fresh handsOn again W args v W' := by
  have hlt : ∀ p ∈ before, p.block < W.heap.size := fun p hp => hW.lt p hp
  have hold : ∀ p ∈ before, (fun b => decide (b < W.heap.size)) p.block = true := fun p hp => by simpa using hlt p hp
  refine ⟨ds, gs, before, [], pa, pv, hW, hres _ _ _, hargs _ hold, hvars _ hold, World.keptBut_mono (fun p hp => ⟨hp, ?_⟩) (hb.frame (· ∈ before)), fun _ => ?_⟩
  · rw [hps, List.mem_append] at hp
    exact Or.inr hp
  · obtain ⟨_, _, _, _, _, hz, hn⟩ := hW
    refine ⟨hok, _, _, ([] ++ pa) ++ pv, ⟨[] ++ pa, pv, trodAll_append (hargs _ (fun _ _ => rfl)) (hres _ _ _), hvars _ (fun _ _ => rfl), rfl, ?_, ?_⟩, ?_⟩
    · intro b off hp
      have hin : MemPlace.cell b off ∈ before := by rw [hps]; simpa using hp
      rw [hb.frozen (hlt _ hin)]
      exact hz b off hin
    · intro ha
      have := hn ha
      rw [hps] at this
      simpa using this
    · intro p hp _
      rw [hps]
      simpa using hp

/-- THE CONTRACT OF A LAW FROM ITS RUN. -/
theorem contract_of {f : FuncId} {fn : Func} {s : ChangeSpec} {apart fresh handsOn again : Bool} {tys : List Ty} {tb : TypeId}
    {vm : List Nat} {F : EFunc} (hF : funcOk P f vm F = true)
    (ht : tysOk P tys fn.params.toList = true) (hr : fn.resultTypes = #[tb]) (hb : P.underlying tb = some .bool) (hv : s.vars = [])
    (hs : ∀ ds : List (DataW H), ds.length = tys.length → s.fn H ds = { results := [.lit (.bool true)], args := ds })
    (law : ∀ (σ : Im) (ds : List (DataW H)), wfAll tys ds → CallSem P σ (.func (.func f) [] []) (encAll tys ds) Heap.empty (fun v _ => v = .bool true))
    (W : World) (base : Nat) (args : Array Value) (ds gs : List (DataW H)) (before : List MemPlace)
    (hval : ∀ (j : Nat) t v, fn.params[j]? = some t → args[j]? = some v → Value.okWide P W .any base t v)
    (hW : DataW.Whole enc P fn.params.toList s.vars apart W args.toList ds gs before)
    (hw : ∃ (b : Nat) (c : Array Value) (x : TypeId) (y : Nat × Nat), W.heap[b]? = some (Obj.cells c x y)) :
    Calls P f args W fun e W' => ∃ v, e = .returned v ∧ s.post enc P fn apart fresh handsOn again W args v W' := by
  have hW' := hW
  obtain ⟨p, q, hA0, hV, rfl, hfz, hnd⟩ := hW
  have hA : DataW.TrodAll enc P W 0 (fun _ => true) true fn.params.toList args.toList ds p := hA0
  rw [hv] at hV
  obtain ⟨rfl, rfl⟩ := trodVars_none hV
  obtain ⟨r1, r2, r3⟩ := encAll_rel hw ht (fun j t v e1 e2 => hval j t v (by simpa using e1) (by simpa using e2)) hA
  have hlen : ds.length = tys.length := by
    clear hW' r1 r3 hA hA0 hfz hnd ht law hs
    revert r2
    induction tys generalizing ds with
    | nil => intro r2; cases ds with
      | nil => rfl
      | cons => exact r2.elim
    | cons ty tys ih => intro r2; cases ds with
      | nil => exact r2.elim
      | cons d ds => simp only [List.length_cons, ih ds r2.2]
  have hx : VRel noNm (memOf W) (.func (.func f) [] []) (.func (.func f) #[] #[]) := .func (a := []) (b := []) (xs := []) (ys := []) (.func f) (fun _ h => by cases h) rfl rfl (fun i v x h => by simp at h) (fun i v x h => by simp at h)
  obtain ⟨zs, hz, hrun⟩ := func_invoked hF hx r1
  have hzs : zs.toArray = args := by
    have := hrun W
    simp only [invoked, Deferred.ofValue, Sem.run_bind, Sem.run_pure, Result.andThen_ok, invoke] at this
    rw [show (#[] : Array Value) ++ args.toList.toArray ++ #[] = args by simp, funcOk_call hF] at this
    cases this
    rfl
  have C := law (memOf W) ds r2 noNm W (.func (.func f) #[] #[]) args.toList (rel_start P W) hx r1
  have R : RunsK P .normal f args W (Out P (memOf W) noNm Heap.empty W (fun v _ => v = .bool true)) := by
    cases C with
    | value x w' h r => rw [hrun W] at h; cases h
    | skip w' h r => rw [hrun W] at h; cases h
    | enter f' args' w' h r => rw [hrun W] at h; cases h; rw [hzs] at r; exact r
    | round l f' t as b w' h r => rw [hrun W] at h; cases h
  refine R.calls.mono fun e W' ⟨v, he, v', h', ρ', hv', evo, rel⟩ => ⟨v, he, ?_⟩
  subst hv'
  cases rel
  have hbe := evo_below evo
  have hlt : ∀ x ∈ p ++ [], x.block < W.heap.size := fun x hx => hW'.lt x hx
  refine post_of_below (pa := p) (pv := []) hW' ?_ ?_ ?_ rfl hbe ?_
  · intro b sp hd
    rw [hs _ (by simpa using hlen), hr]
    exact trodAll_cons_mk (p := []) (p' := []) ⟨1, by simp [DataW.trod, Value.cells, hb]⟩ trodAll_mk0
  · intro sp hsp
    rw [hs _ (by simpa using hlen)]
    simp only [List.append_nil]
    exact r3 W' sp (fun x hx => hbe.same (hlt x (by simpa using hx))) (fun x hx => hsp x (by simpa using hx))
  · intro sp hsp
    rw [hs _ (by simpa using hlen), hv]
    rfl
  · intro j t r h1 h2
    rw [hr] at h1 h2
    cases j with
    | zero =>
      simp at h1
      have h2' : r = .bool true := by simpa [Value.resultList] using h2.symm
      subst h1; subst h2'
      simp [Value.okWide, hb, Cell.okWide, Cell.ok]
    | succ j => simp at h1
end
end Go.Zy
