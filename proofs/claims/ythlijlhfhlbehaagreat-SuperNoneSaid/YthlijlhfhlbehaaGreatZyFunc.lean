/- Functions, carried out: rounds of a loop over a function, entries, deferred calls, results. -/
import Derived.Test.YthlijlhfhlbehaaGreatZyBody
set_option linter.unusedSimpArgs false
set_option linter.unusedVariables false
namespace Go.Zy
section
variable {P : Program} {σ : Im} {C : CallK}

theorem DsOk.nil_inv {B : Nat} {ρ : Nm} {h : Heap} {w : World} {xs : List Deferred} (hd : DsOk P σ B ρ h w [] xs) : xs = [] := by cases xs with | nil => rfl | cons => exact hd.elim

theorem params_sound {ρ : Nm} {vm : List Nat} {nt : Nat} (hdist : distinctN vm = true) : ∀ (ts : List Nat) (ps : List Nat) (args : List AVal) (xs : List Value) (vs : List AVal) (tmps : Array Value) (J : List AVal → Prop), ts.map some = ps.map (fun i => vm[i]?) → (∀ t ∈ ts, t < nt) → nt ≤ tmps.size →
    LRel ρ σ args xs → FRel ρ σ vm vs tmps → paramsK ps args vs J → ∃ vs', J vs' ∧ xs.length = ts.length ∧ FRel ρ σ vm vs' ((ts.zip xs).foldl (fun tmps (t, a) => tmps.setIfInBounds t a) tmps) ∧ nt ≤ ((ts.zip xs).foldl (fun tmps (t, a) => tmps.setIfInBounds t a) tmps).size := by
  intro ts
  induction ts with
  | nil =>
    intro ps args xs vs tmps J hp _ hsz hl hf H
    cases ps with
    | nil =>
      cases args with
      | nil => rw [hl.nil_inv]; exact ⟨vs, H, rfl, hf, hsz⟩
      | cons => exact H.elim
    | cons => simp at hp
  | cons t ts ih =>
    intro ps args xs vs tmps J hp hlt hsz hl hf H
    cases ps with
    | nil => simp at hp
    | cons i ps =>
      simp only [List.map_cons, List.cons.injEq] at hp
      cases args with
      | nil => exact H.elim
      | cons v args =>
        obtain ⟨x, xs', rfl, hv, hl'⟩ := hl.cons_inv
        simp only [paramsK, setK_eq] at H
        have hf' : FRel ρ σ vm (vs.set i v) (tmps.setIfInBounds t x) := by
          refine ⟨by simp [hf.1], fun j u hj => ?_⟩
          have htsz : t < tmps.size := Nat.lt_of_lt_of_le (hlt t (List.mem_cons_self ..)) hsz
          have hget : (tmps.setIfInBounds t x).getD u undef = if t = u then x else tmps.getD u undef := by
            simp only [Array.getD_eq_getD_getElem?, Array.getElem?_setIfInBounds]
            by_cases e : t = u
            · subst e; simp [htsz]
            · simp [e]
          rw [hget]
          by_cases e : t = u
          · subst e
            have := distinctN_inj hdist hp.1.symm hj
            subst this
            rw [if_pos rfl]
            have hlt : i < vs.length := by rw [hf.1]; exact (List.getElem?_eq_some_iff.1 hp.1.symm).1
            simpa [hlt] using hv
          · rw [if_neg e]
            have hne : i ≠ j := fun q => by subst q; rw [← hp.1] at hj; cases hj; exact e rfl
            have := hf.2 j u hj
            simpa [List.getD_eq_getElem?_getD, List.getElem?_set_ne hne] using this
        obtain ⟨vs', g1, g2, g3, g4⟩ := ih ps args xs' (vs.set i v) (tmps.setIfInBounds t x) J hp.2 (fun u hu => hlt u (List.mem_cons_of_mem _ hu)) (by simpa using hsz) hl' hf' H
        exact ⟨vs', g1, by simp [g2], by simpa using g3, by simpa using g4⟩

theorem yield_sound (hC : ∀ f args h K, C f args h K → CallSem P σ f args h K) (fuel : Option Nat) {id : Nat} {args : List AVal} {h : Heap} {K : AVal → Heap → Prop} (H : yieldK fuel C id args h K) : CallSem P σ (.yield id) args h K := by
  intro ρ w x xs rel hx hxs
  obtain ⟨l, o, n, hρ, rfl⟩ := hx.yield_inv
  unfold yieldK at H
  cases hg : h.get id with
  | none => simp only [hg] at H
  | some obj =>
    cases obj with
    | loop ps vs ca cb st0 pe0 =>
      simp only [hg] at H
      obtain ⟨L, vm, nt, q1, q2, q3, q4, q5, q6, q7, q8, q9, q10, q11, q12, q13, q14⟩ := rel.live _ _ _ _ _ hg hρ
      obtain ⟨vs1, H, hlen, hf1, hsz1⟩ := params_sound q5 L.params.toList ps args xs vs L.tmps _ q3 (fun t ht => by have := List.all_eq_true.1 q4 t ht; simpa using this) q7 hxs q8 H
      have hsize : xs.toArray.size = L.params.size := by rw [List.size_toArray, hlen, Array.length_toList]
      have hrun := run_yield (P := P) (args := xs.toArray) q1 hsize
      have hfold : ((L.params.zip xs.toArray).foldl (fun tmps (t, a) => tmps.setIfInBounds t a) L.tmps) = ((L.params.toList.zip xs).foldl (fun tmps (t, a) => tmps.setIfInBounds t a) L.tmps) := by
        rw [← Array.foldl_toList, Array.toList_zip]
      rw [hfold] at hrun
      have hinv : (invoked (.func (.yield l) #[] #[]) xs.toArray).run P w = .ok (.round l L.fn ((L.params.toList.zip xs).foldl (fun tmps (t, a) => tmps.setIfInBounds t a) L.tmps) L.assign L.body) w := by
        simp only [invoked, Deferred.ofValue, Sem.run_bind, Sem.run_pure, Result.andThen_ok, invoke, Array.empty_append]
        exact hrun
      refine .round l L.fn _ L.assign L.body w hinv ?_
      intro c cs
      let b : Frame := { (default : Frame) with fn := L.fn, kind := .normal, roundOf := some l }
      have hb : Frame.round l L.fn ((L.params.toList.zip xs).foldl (fun tmps (t, a) => tmps.setIfInBounds t a) L.tmps) L.assign L.body .normal = b.atR ⟨(L.params.toList.zip xs).foldl (fun tmps (t, a) => tmps.setIfInBounds t a) L.tmps, []⟩ [.code L.assign, .beginRound, .code L.body] := rfl
      have F0 : Frm P σ nt vm 0 ρ vs1 [] h ⟨(L.params.toList.zip xs).foldl (fun tmps (t, a) => tmps.setIfInBounds t a) L.tmps, []⟩ w := ⟨rel, hf1, hsz1, trivial⟩
      obtain ⟨x1, vs2, ds2, h2, ρ2, a2, w2, K2, ev2, F2, arr2⟩ := exec_sound hC q5 q6 fuel (b := b) (fs := c :: cs) L.assign ca q9 (.inr q11) _ _ _ _ _ _ _ [.beginRound, .code L.body] F0 H
      cases x1 with
      | exit i => exact K2.elim
      | ret => exact K2.elim
      | normal =>
        cases ds2 with
        | cons => exact K2.elim
        | nil =>
          simp only at K2
          cases hg2 : h2.get id with
          | none => simp only [hg2] at K2
          | some obj2 =>
            cases obj2 with
            | loop ps' vs' ca' cb' st' pe' =>
              simp only [hg2] at K2
              cases st' with
              | ready =>
                simp only [Heap.setK_eq] at K2
                have hρ2 := ev2.sub _ _ hρ
                obtain ⟨L1, vm1, nt1, r1, r2, r3⟩ := F2.rel.live _ _ _ _ _ hg2 hρ2
                have hbeg := run_beginRound (P := P) r1 r2
                have ev3 : Evo P σ ρ2 h2 w2 ρ2 (h2.set id (.loop ps' vs' ca' cb' .busy pe')) (w2.putObj l (.loop { L1 with state := .busy })) :=
                  Evo.turn F2.rel hg2 hρ2 ⟨rfl, rfl, rfl, rfl⟩ ⟨_, vm1, nt1, rfl, rfl, r3⟩
                have s3 : Steps P (lone (b.atR a2 [.beginRound, .code L.body]) (c :: cs) w2) (lone (b.atR a2 [.code L.body]) (c :: cs) (w2.putObj l (.loop { L1 with state := .busy }))) := .one (stepR_beginRound rfl hbeg)
                have F3 := frm_evo F2 ev3
                obtain ⟨x4, vs4, ds4, h4, ρ4, a4, w4, K4, ev4, F4, arr4⟩ := exec_sound hC q5 q6 fuel (b := b) (fs := c :: cs) L.body cb q10 (.inr q12) _ _ _ _ _ _ _ [] F3 K2
                cases ds4 with
                | cons => exact K4.elim
                | nil =>
                  simp only at K4
                  cases hg4 : h4.get id with
                  | none => simp only [hg4] at K4
                  | some obj4 =>
                    cases obj4 with
                    | loop ps4 vs4' ca4 cb4 st4 pe4 =>
                      simp only [hg4] at K4
                      have hρ4 := ev4.sub _ _ hρ2
                      obtain ⟨L4, vm4, nt4, t1, t2, t3, t4, t5, t6, t7, t8, t9, t10, t11, t12, t13, t14⟩ := F4.rel.live _ _ _ _ _ hg4 hρ4
                      have sAll : Steps P (lone (b.atR ⟨(L.params.toList.zip xs).foldl (fun tmps (t, a) => tmps.setIfInBounds t a) L.tmps, []⟩ [.code L.assign, .beginRound, .code L.body]) (c :: cs) w) (lone (b.atR a2 [.code L.body]) (c :: cs) (w2.putObj l (.loop { L1 with state := .busy }))) := Steps.trans arr2 s3
                      have evS := (ev2.trans rel ev3).trans rel ev4
                      have hto : ∀ (st : LoopState) (pe : Option EExit), pe ≠ some .normal → Evo P σ ρ4 h4 w4 ρ4 (h4.set id (.loop ps4 vs4' ca4 cb4 st pe)) (w4.putObj l (.loop { L4 with state := st, pending := pe.bind exitCode })) := fun st pe hpe =>
                        Evo.turn F4.rel hg4 hρ4 ⟨rfl, rfl, rfl, rfl⟩ ⟨_, vm4, nt4, rfl, rfl, t3, t4, t5, t6, t7, t8, t9, t10, t11, t12, rfl, hpe⟩
                      cases x4 with
                      | normal =>
                        simp only [Heap.setK_eq] at K4
                        have hend := run_endRound (P := P) none t1
                        have ev5 := hto .ready none (by simp)
                        exact ⟨.bool true, _, ⟨.bool true, _, ρ4, K4, evS.trans rel ev5, .bool true⟩, sAll.trans (Steps.trans arr4 (.one (stepR_round_end rfl rfl hend)))⟩
                      | exit i =>
                        simp only [Heap.setK_eq] at K4
                        obtain ⟨k1, e1, s1⟩ := arr4
                        have hend := run_endRound (P := P) (some (.exit i)) t1
                        have ev5 := hto .done (some (.exit i)) (by simp)
                        exact ⟨.bool false, _, ⟨.bool false, _, ρ4, K4, evS.trans rel ev5, .bool false⟩, sAll.trans (s1.trans (.one (stepR_round_exit rfl rfl (by rw [e1]; rfl) hend)))⟩
                      | ret =>
                        simp only [Heap.setK_eq] at K4
                        obtain ⟨k1, s1⟩ := arr4
                        have hend := run_endRound (P := P) (some .ret) t1
                        have ev5 := hto .done (some .ret) (by simp)
                        exact ⟨.bool false, _, ⟨.bool false, _, ρ4, K4, evS.trans rel ev5, .bool false⟩, sAll.trans (s1.trans (.one (stepR_round_ret rfl rfl hend)))⟩
                    | _ => simp only [hg4] at K4
              | _ => exact K2.elim
            | _ => simp only [hg2] at K2
    | _ => simp only [hg] at H

/- ## Results -/
def resOne (tmps : Array Value) : ResultVar → Sem Value
  | .tmp t => pure (tmps.getD t undef)
  | .cell a t => do loadVar t (← asAddr (tmps.getD a undef))
theorem res_sound {ρ : Nm} {vm : List Nat} {vs : List AVal} {h : Heap} {w : World} {tmps : Array Value} (rr : RRel P ρ σ h w) (hf : FRel ρ σ vm vs tmps) : ∀ (rs : List ResultVar) (es : List ERes) (J : List AVal → Prop), resOk P vm rs es = true → resK vs h es J →
    ∃ l ys, J l ∧ LRel ρ σ l ys ∧ (rs.mapM (resOne tmps)).run P w = .ok ys w := by
  intro rs
  induction rs with
  | nil =>
    intro es J hok H
    cases es with
    | nil => exact ⟨[], [], H, .nil, by simp⟩
    | cons => cases hok
  | cons r rs ih =>
    intro es J hok H
    cases es with
    | nil => cases r <;> cases hok
    | cons e es =>
      have tail : ∀ (v : AVal) (x : Value), VRel ρ σ v x → resOk P vm rs es = true → resK vs h es (fun l => J (v :: l)) → (resOne tmps r).run P w = .ok x w →
          ∃ l ys, J l ∧ LRel ρ σ l ys ∧ ((r :: rs).mapM (resOne tmps)).run P w = .ok ys w := by
        intro v x hv hok' H' hrun
        obtain ⟨l, ys, g1, g2, g3⟩ := ih es _ hok' H'
        refine ⟨v :: l, x :: ys, g1, .cons hv g2, ?_⟩
        rw [List.mapM_cons]
        simp only [Sem.run_bind]
        rw [hrun]
        simp only [Result.andThen_ok]
        rw [g3]
        simp
      cases r with
      | tmp t =>
        cases e with
        | var i =>
          simp only [resOk, Bool.and_eq_true, decide_eq_true_eq] at hok
          simp only [resK, getK_eq] at H
          exact tail _ _ (hf.2 i t hok.1) hok.2 H (by simp [resOne])
        | cell i n => cases hok
      | cell a t =>
        cases e with
        | var i => cases hok
        | cell i n =>
          cases n with
          | none =>
            simp only [resOk, Bool.and_eq_true, decide_eq_true_eq] at hok
            obtain ⟨⟨o1, o2⟩, o3⟩ := hok
            simp only [resK, getK_eq] at H
            obtain ⟨cs, off, b, o, H, hx, hcell⟩ := row_run rr (hf.2 i a o1) H
            obtain ⟨v, hv, H⟩ := nthK_inv H
            obtain ⟨z, hz, hrel⟩ := hcell _ _ hv
            refine tail v z hrel o3 H ?_
            simp only [resOne, hx, asAddr, Sem.run_bind, Sem.run_pure, Result.andThen_ok, loadVar, run_agg o2]
            simp [hz]
          | some n =>
            simp only [resOk, Bool.and_eq_true, decide_eq_true_eq] at hok
            obtain ⟨⟨⟨o1, o2⟩, o2'⟩, o3⟩ := hok
            simp only [resK, getK_eq] at H
            obtain ⟨cs, off, b, o, H, hx, hcell⟩ := row_run rr (hf.2 i a o1) H
            obtain ⟨H, hn⟩ := cutK_inv H
            obtain ⟨xs, hl, hcs⟩ := cells_list (w := w) (b := b) ((cs.drop off).take n) (o + off) (fun i v hv => by
              rw [List.getElem?_take] at hv
              split at hv
              · rw [List.getElem?_drop] at hv
                rw [Nat.add_assoc]; exact hcell _ _ hv
              · cases hv)
            have hlen : xs.length = n := by rw [← hl.1]; simp; omega
            have hload := run_loadCells_list (P := P) w ⟨b, o + off, none⟩ xs hcs
            rw [hlen] at hload
            refine tail _ _ hl.agg o3 H ?_
            simp [resOne, hx, asAddr, loadVar, run_agg o2, run_size o2', hload]

theorem results_sound {ρ : Nm} {vm : List Nat} {vs : List AVal} {h : Heap} {w : World} {tmps : Array Value} {fn : Func} {es : List ERes} {K : AVal → Heap → Prop} (rr : RRel P ρ σ h w) (hf : FRel ρ σ vm vs tmps) (hok : resOk P vm fn.results.toList es = true)
    (H : resK vs h es fun l => match l with | [v] => K v h | l => K (.tuple l) h) : ∃ v x, K v h ∧ VRel ρ σ v x ∧ (results fn tmps).run P w = .ok x w := by
  obtain ⟨l, ys, hJ, hl, hrun⟩ := res_sound rr hf fn.results.toList es _ hok H
  have hm : (fn.results.mapM (resOne tmps)).run P w = .ok ys.toArray w := by
    rw [Array.mapM_eq_mapM_toList, Sem.run_map, hrun]; rfl
  have hr : ∀ z, (if hh : ys.toArray.size = 1 then ys.toArray[0] else .tuple ys.toArray) = z → (results fn tmps).run P w = .ok z w := by
    rintro z rfl
    have : results fn tmps = (do let vs ← fn.results.mapM (resOne tmps); pure (if hh : vs.size = 1 then vs[0] else .tuple vs)) := by
      unfold results
      congr 1
    rw [this, Sem.run_bind, hm]
    simp only [Result.andThen_ok, Sem.run_pure]
  cases l with
  | nil =>
    rw [hl.nil_inv] at hr
    exact ⟨.tuple [], .tuple #[], hJ, LRel.nil.tuple, hr _ rfl⟩
  | cons v l =>
    obtain ⟨x, xs, rfl, hv, ht⟩ := hl.cons_inv
    cases l with
    | nil =>
      rw [ht.nil_inv] at hr
      exact ⟨v, x, hJ, hv, hr _ rfl⟩
    | cons v2 l =>
      obtain ⟨x2, xs2, rfl, hv2, ht2⟩ := ht.cons_inv
      exact ⟨_, _, hJ, hl.tuple, hr _ (by simp)⟩

/- ## Deferred calls -/
theorem unwind_sound (hC : ∀ f args h K, C f args h K → isFn f → CallSemD P σ f args h K) {B : Nat} {fr : Frame} {cs : List Frame} (hm : fr.mode = .returning) : ∀ (ds : List DS) (dfs : List Deferred) (h : Heap) (ρ : Nm) (w : World) (J : Heap → Prop), Rel P ρ σ h w → DsOk P σ B ρ h w ds dfs → defersK C ds h J →
    ∃ h' ρ' w', J h' ∧ Evo P σ ρ h w ρ' h' w' ∧ Steps P (lone { fr with defers := dfs } cs w) (lone { fr with defers := [] } cs w') := by
  intro ds
  induction ds with
  | nil =>
    intro dfs h ρ w J rel hd H
    rw [hd.nil_inv]
    exact ⟨h, ρ, w, H, Evo.refl rel, Steps.refl _ _⟩
  | cons d ds ih =>
    intro dfs h ρ w J rel hd H
    cases dfs with
    | nil => exact hd.elim
    | cons x dfs =>
      obtain ⟨hd1, hd2⟩ := hd
      cases hd1 with
      | mark h1 =>
        rename_i id r o n
        simp only [defersK] at H
        cases hg : h.get id with
        | none => simp only [hg] at H
        | some obj =>
          cases obj with
          | dfr full =>
            cases full with
            | false => simp only [hg] at H
            | true =>
              simp only [hg, Heap.setK_eq] at H
              have hb := rel.live _ _ _ _ _ hg h1
              have htk := run_takeDeferred (P := P) (ds := []) (by simpa [BRel] using hb)
              have ev1 : Evo P σ ρ h w ρ (h.set id (.dfr false)) (w.putObj r (.deferred none)) := Evo.turn rel hg h1 ⟨rfl, rfl, rfl, rfl⟩ rfl
              have hs := step_collected (P := P) (fr := { fr with defers := { target := .collected r, args := #[] } :: dfs }) (cs := cs) (by simp [hm]) rfl rfl htk
              obtain ⟨h', ρ', w', g1, g2, g3⟩ := ih dfs _ ρ _ J ev1.rel (hd2.evo rel ev1) H
              exact ⟨h', ρ', w', g1, ev1.trans rel g2, .head hs g3⟩
          | _ => simp only [hg] at H
      | call h1 h2 h3 h4 =>
        rename_i f0 fa fb args xv xs
        simp only [defersK] at H
        have hA := hC _ _ _ _ H trivial ρ w xv xs rel h1 h2
        have hrun : (invoked xv xs.toArray).run P w = (invoke x.target x.args).run P w := by
          simp only [invoked, Sem.run_bind, h3, Result.andThen_ok]
        obtain ⟨fv, cap, htg⟩ := h4
        cases hA with
        | value y w1 hr hO =>
          obtain ⟨v1, h1', ρ1, hJ, ev1, hv⟩ := hO
          obtain ⟨h', ρ', w', g1, g2, g3⟩ := ih dfs _ ρ1 _ J ev1.rel (hd2.evo rel ev1) hJ
          refine ⟨h', ρ', w', g1, ev1.trans rel g2, .head (m₁ := lone { fr with defers := dfs } cs w1) (step_lone_go ?_) g3⟩
          rw [hrun] at hr
          obtain ⟨tg, ag⟩ := x
          simp only at htg hr
          subst htg
          simp [stepG, unwind, callDeferred, hm, hr]
        | enter g ga w1 hr hR =>
          rw [hrun] at hr
          have hs : step P (lone { fr with defers := x :: dfs } cs w) = .next (lone (Frame.enter P g ga .deferred) ({ fr with defers := dfs } :: cs) w1) := by
            refine step_lone_go ?_
            obtain ⟨tg, ag⟩ := x
            simp only at htg hr
            subst htg
            simp [stepG, unwind, callDeferred, hm, hr]
          obtain ⟨v, w2, fr2, hO, s2, hk2, hf2, hgo⟩ := hR ({ fr with defers := dfs } :: cs)
          obtain ⟨v1, h1', ρ1, hJ, ev1, hv⟩ := hO
          obtain ⟨h', ρ', w', g1, g2, g3⟩ := ih dfs _ ρ1 _ J ev1.rel (hd2.evo rel ev1) hJ
          have s3 := step_going_returned (c := { fr with defers := dfs }) (cs := cs) hk2 hgo
          have hset : ({ { fr with defers := dfs } with mode := settle ({ fr with defers := dfs } : Frame).mode } : Frame) = { fr with defers := dfs } := by
            simp [hm, settle]
          rw [hset] at s3
          exact ⟨h', ρ', w', g1, ev1.trans rel g2, .head hs (s2.trans (.head s3 g3))⟩

/- ## Code without deferred calls -/
theorem step_ds {e : EOp} (he : e.op.isDefer = false) (vs ls : List AVal) (ds : List DS) (h : Heap) (K : List AVal → List AVal → List DS → Heap → Prop) : stepK C e vs ls ds h K = stepK C e vs ls ds h fun vs ls _ h => K vs ls ds h := by
  have hdo : doK C e.op e.dst vs ls ds h K = doK C e.op e.dst vs ls ds h fun vs ls _ h => K vs ls ds h := by
    rw [doK_core, doK_core]
    unfold coreDo
    cases hop : e.op <;> first | rfl | (rw [hop] at he; cases he)
  unfold stepK
  cases e.guard with
  | none => exact hdo
  | some p =>
    obtain ⟨x, b⟩ := p
    simp only [ev_eq, hdo, landK_eq]
theorem ops_ds : ∀ {es : List EOp}, (es.all fun e => !e.op.isDefer) = true → ∀ (vs ls : List AVal) (ds : List DS) (h : Heap) (K : List AVal → List AVal → List DS → Heap → Prop), opsK C es vs ls ds h K = opsK C es vs ls ds h fun vs ls _ h => K vs ls ds h := by
  intro es
  induction es with
  | nil => intro _ vs ls ds h K; rfl
  | cons e es ih =>
    intro hp vs ls ds h K
    simp only [List.all_cons, Bool.and_eq_true, Bool.not_eq_true'] at hp
    simp only [opsK]
    rw [step_ds hp.1, step_ds hp.1 (K := fun vs ls ds_1 h => opsK C es vs ls ds_1 h fun vs ls _ h => K vs ls ds h)]
    congr 1
    funext vs ls _ h
    exact ih hp.2 vs ls ds h K
theorem phases_ds : ∀ {ph : List Phase}, (ph.all fun p => !p.w.op.isDefer && p.seg.all fun e => !e.op.isDefer) = true → ∀ (vs ls : List AVal) (ds : List DS) (h : Heap) (K : List AVal → List AVal → List DS → Heap → Prop), phasesK C ph vs ls ds h K = phasesK C ph vs ls ds h fun vs ls _ h => K vs ls ds h := by
  intro ph
  induction ph with
  | nil => intro _ vs ls ds h K; rfl
  | cons p ph ih =>
    intro hp vs ls ds h K
    simp only [List.all_cons, Bool.and_eq_true, Bool.not_eq_true'] at hp
    simp only [phasesK]
    rw [step_ds hp.1.1, step_ds hp.1.1 (K := fun vs ls ds_1 h => againK C vs ls h p.re fun _ => opsK C p.seg vs ls ds_1 h fun vs ls ds_1 h => phasesK C ph vs ls ds_1 h fun vs ls _ h => K vs ls ds h)]
    congr 1
    funext vs ls _ h
    congr 1
    funext _
    rw [ops_ds hp.1.2, ops_ds hp.1.2 (K := fun vs ls ds_1 h => phasesK C ph vs ls ds_1 h fun vs ls _ h => K vs ls ds h)]
    congr 1
    funext vs ls _ h
    exact ih hp.2 vs ls ds h K
theorem loopN_ds {body : List AVal → List DS → Heap → KK → Prop} (hb : ∀ vs ds h K, body vs ds h K = body vs ds h fun x vs _ h => K x vs ds h) : ∀ n vs ds h (K : KK), loopN body n vs ds h K = loopN body n vs ds h fun x vs _ h => K x vs ds h := by
  intro n
  induction n with
  | zero => intro vs ds h K; rfl
  | succ n ih =>
    intro vs ds h K
    simp only [loopN]
    refine (hb vs ds h _).trans (Eq.trans ?_ (hb vs ds h _).symm)
    congr 1
    funext e vs _ h
    cases e with
    | normal => exact ih vs ds h K
    | _ => rfl
theorem loopS_ds {body : List AVal → List DS → Heap → KK → Prop} (hb : ∀ vs ds h K, body vs ds h K = body vs ds h fun x vs _ h => K x vs ds h) (vs : List AVal) (ds : List DS) (h : Heap) (K : KK) : loopS body vs ds h K = loopS body vs ds h fun x vs _ h => K x vs ds h := by
  have key : ∀ K K' : KK, (∀ x vs h, K x vs ds h = K' x vs ds h) → loopS body vs ds h K → loopS body vs ds h K' := by
    rintro K K' hk ⟨I, μ, h1, h2⟩
    refine ⟨fun r => I r ∧ r.ds = ds, μ, ⟨h1, rfl⟩, ?_⟩
    rintro ⟨rvs, rds, rh⟩ ⟨hI, hd⟩
    simp only at hd
    subst hd
    have := h2 _ hI
    simp only at this ⊢
    rw [hb] at this ⊢
    refine Eq.mp ?_ this
    congr 1
    funext x vs _ h
    cases x with
    | normal => simp
    | exit i => exact hk (.exit i) vs h
    | ret => exact hk .ret vs h
  exact propext ⟨key _ _ fun _ _ _ => rfl, key _ _ fun _ _ _ => rfl⟩
theorem exec_ds (fuel : Option Nat) : ∀ {e : ECode}, e.plain = true → ∀ (vs : List AVal) (ds : List DS) (h : Heap) (K : KK), exec fuel C e vs ds h K = exec fuel C e vs ds h fun x vs _ h => K x vs ds h := by
  intro e
  induction e with
  | skip => intro _ vs ds h K; rfl
  | region ops => intro hp vs ds h K; simp only [exec]; exact ops_ds hp vs [] ds h _
  | dregion seg ph =>
    intro hp vs ds h K
    simp only [ECode.plain, Bool.and_eq_true] at hp
    simp only [exec]
    rw [ops_ds hp.1, ops_ds hp.1 (K := fun vs ls ds_1 h => phasesK C ph vs ls ds_1 h fun vs _ _ h => K .normal vs ds h)]
    congr 1
    funext vs ls _ h
    exact phases_ds hp.2 vs ls ds h _
  | seq a b iha ihb =>
    intro hp vs ds h K
    simp only [ECode.plain, Bool.and_eq_true] at hp
    simp only [exec]
    refine (iha hp.1 vs ds h _).trans (Eq.trans ?_ (iha hp.1 vs ds h _).symm)
    congr 1
    funext e vs _ h
    cases e with
    | normal => exact ihb hp.2 vs ds h K
    | _ => rfl
  | cond x a b iha ihb =>
    intro hp vs ds h K
    simp only [ECode.plain, Bool.and_eq_true] at hp
    simp only [exec]
    rw [iha hp.1, ihb hp.2]
  | block id b ih =>
    intro hp vs ds h K
    simp only [exec]
    refine (ih hp vs ds h _).trans (Eq.trans ?_ (ih hp vs ds h _).symm)
    congr 1
  | loop b ih =>
    intro hp vs ds h K
    simp only [exec]
    cases fuel with
    | none => exact loopS_ds (ih hp) vs ds h K
    | some n => exact loopN_ds (ih hp) n vs ds h K
  | exit id => intro _ vs ds h K; rfl
  | ret => intro _ vs ds h K; rfl
  | scope b ih => intro hp vs ds h K; simp only [exec]; exact ih hp vs ds h K
  | rangeFunc f ps a b => intro hp; cases hp
theorem plain_ds (fuel : Option Nat) {e : ECode} (hp : e.plain = true) {vs : List AVal} {ds : List DS} {h : Heap} {K : KK} (H : exec fuel C e vs ds h K) : exec fuel C e vs ds h fun x vs ds' h => ds' = ds ∧ K x vs ds' h := by
  rw [exec_ds fuel hp] at H ⊢
  simpa using H

/- ## Functions -/
theorem init_sound {ρ : Nm} {np : Nat} {args : List AVal} {xs : List Value} {tmps : Array Value} (hl : LRel ρ σ args xs) (ht : ∀ t, tmps.getD t undef = if t < xs.length then xs.getD t undef else undef) : ∀ (vm : List Nat) (init : List (Option Nat)) (J : List AVal → Prop), initOk np vm init = true → initK args init J →
    ∃ vs, J vs ∧ FRel ρ σ vm vs tmps := by
  intro vm
  induction vm with
  | nil =>
    intro init J hok H
    cases init with
    | nil => exact ⟨[], H, rfl, fun i t h => by simp at h⟩
    | cons => cases hok
  | cons t vm ih =>
    intro init J hok H
    cases init with
    | nil => cases hok
    | cons i init =>
      cases i with
      | none =>
        simp only [initOk, Bool.and_eq_true, decide_eq_true_eq] at hok
        simp only [initK] at H
        obtain ⟨vs, g1, g2⟩ := ih init _ hok.2 H
        refine ⟨.junk :: vs, g1, by simp [g2.1], fun j u hj => ?_⟩
        cases j with
        | zero => exact .junk _
        | succ j => simp at hj; simpa using g2.2 j u hj
      | some k =>
        simp only [initOk, Bool.and_eq_true, decide_eq_true_eq] at hok
        obtain ⟨⟨rfl, hk⟩, hok⟩ := hok
        simp only [initK, getK_eq] at H
        obtain ⟨vs, g1, g2⟩ := ih init _ hok H
        refine ⟨args.getD t .junk :: vs, g1, by simp [g2.1], fun j u hj => ?_⟩
        cases j with
        | zero =>
          simp at hj
          subst hj
          show VRel ρ σ (args.getD t .junk) _
          rw [ht t]
          by_cases hlt : t < xs.length
          · rw [if_pos hlt]
            have hlt' : t < args.length := by rw [hl.1]; exact hlt
            have := hl.2 t args[t] xs[t] (by simp [hlt']) (by simp [hlt])
            simpa [hlt, hlt'] using this
          · have : ¬ t < args.length := by rw [hl.1]; exact hlt
            rw [List.getD_eq_getElem?_getD, List.getElem?_eq_none (by omega)]
            exact .junk _
        | succ j => simp at hj; simpa using g2.2 j u hj

theorem stepE_end {b : Frame} {a : Act} {cs : List Frame} {w : World} (hb : b.roundOf = none) : step P (lone (b.atR a []) cs w) = .next (lone { b.atR a [] with mode := .returning } cs w) := stepR_end hb

/-- What is done behind a function's body. -/
def afterK (C : CallK) (res : List ERes) (K : AVal → Heap → Prop) : KK := fun e vs ds h => match e with
  | .exit _ => False
  | _ => defersK C ds h fun h => resK vs h res fun l => match l with
    | [v] => K v h
    | l => K (.tuple l) h

/-- **A function's run.** -/
theorem enter_sound (hC : ∀ f args h K, C f args h K → CallSem P σ f args h K) (fuel : Option Nat) {fid : FuncId} {vm : List Nat} {F : EFunc} (hok : funcOk P fid vm F = true) (hD : F.body.plain = true ∨ ∀ f args h K, C f args h K → isFn f → CallSemD P σ f args h K)
    {args : List AVal} {h : Heap} {K : AVal → Heap → Prop} (H : enterK fuel C F args h K) {ρ : Nm} {w : World} {xs : List Value} (rel : Rel P ρ σ h w) (hl : LRel ρ σ args xs) (kind : CallKind) : RunsK P kind fid xs.toArray w (Out P σ ρ h w K) := by
  unfold funcOk at hok
  cases hfn : P.funcs[fid]? with
  | none => rw [hfn] at hok; cases hok
  | some fn =>
    rw [hfn] at hok
    simp only [Bool.and_eq_true, decide_eq_true_eq] at hok
    obtain ⟨⟨⟨⟨⟨⟨hbody, hres⟩, hinit⟩, hdist⟩, hvm⟩, hnp⟩, hname⟩ := hok
    cases hb : fn.body with
    | none => rw [hb] at hbody; cases hbody
    | some code =>
      rw [hb] at hbody
      simp only at hbody
      intro cs
      let b : Frame := { (default : Frame) with fn := fid, kind := kind, roundOf := none }
      have henter : Frame.enter P fid xs.toArray kind = b.atR { tmps := xs.toArray ++ Array.replicate (fn.ntmps - xs.toArray.size) undef, defers := [] } [.code code] := by
        simp [Frame.enter, Frame.atR, hfn, hb, b]
      unfold enterK at H
      have htm : ∀ t, (xs.toArray ++ Array.replicate (fn.ntmps - xs.toArray.size) undef).getD t undef = if t < xs.length then xs.getD t undef else undef := by
        intro t
        rw [Array.getD_eq_getD_getElem?, Array.getElem?_append]
        by_cases ht : t < xs.length
        · simp [ht]
        · simp only [List.size_toArray, ht, if_false]
          rw [Array.getElem?_replicate]
          split <;> rfl
      obtain ⟨vs, H, hfr⟩ := init_sound (np := fn.params.size + fn.nfree) hl htm vm F.init _ hinit H
      have F0 : Frm P σ fn.ntmps vm 0 ρ vs [] h { tmps := xs.toArray ++ Array.replicate (fn.ntmps - xs.toArray.size) undef, defers := [] } w := ⟨rel, hfr, by simp; omega, trivial⟩
      replace H : exec fuel C F.body vs [] h (afterK C F.res K) := H
      have H' : exec fuel C F.body vs [] h fun e vs ds h => (F.body.plain = true → ds = []) ∧ afterK C F.res K e vs ds h := by
        by_cases hpl : F.body.plain = true
        · have := plain_ds fuel hpl H
          simpa [hpl] using this
        · simpa [hpl] using H
      obtain ⟨x1, vs1, ds1, h1, ρ1, a1, w1, ⟨Kp, K1⟩, ev1, F1, arr1⟩ := exec_sound hC hdist hvm fuel (b := b) (fs := cs) code F.body hbody (.inl rfl) _ _ _ _ _ _ _ [] F0 H'
      -- leaving
      have leave : ∃ todo, Steps P (lone (Frame.enter P fid xs.toArray kind) cs w) (lone { b.atR a1 todo with mode := .returning } cs w1) := by
        rw [henter]
        cases x1 with
        | normal => exact ⟨[], Steps.trans arr1 (.one (stepR_end rfl))⟩
        | exit i => exact K1.elim
        | ret => obtain ⟨k1, s1⟩ := arr1; exact ⟨_, s1.trans (.one (stepR_ret rfl))⟩
      obtain ⟨todo, s1⟩ := leave
      have K1' : defersK C ds1 h1 fun h => resK vs1 h F.res fun l => match l with | [v] => K v h | l => K (.tuple l) h := by
        cases x1 with
        | exit i => exact K1.elim
        | normal => exact K1
        | ret => exact K1
      have un : ∃ h2 ρ2 w2, (resK vs1 h2 F.res fun l => match l with | [v] => K v h2 | l => K (.tuple l) h2) ∧ Evo P σ ρ1 h1 w1 ρ2 h2 w2 ∧ Steps P (lone { b.atR a1 todo with mode := .returning } cs w1) (lone { { b.atR a1 todo with mode := .returning } with defers := [] } cs w2) := by
        rcases hD with hpl | hD
        · have := Kp hpl
          subst this
          have hdn := F1.ds.nil_inv
          refine ⟨h1, ρ1, w1, K1', Evo.refl F1.rel, ?_⟩
          have : ({ { b.atR a1 todo with mode := .returning } with defers := [] } : Frame) = { b.atR a1 todo with mode := .returning } := by simp [Frame.atR, hdn]
          rw [this]
          exact Steps.refl _ _
        · exact unwind_sound hD (fr := { b.atR a1 todo with mode := .returning }) rfl ds1 a1.defers h1 ρ1 w1 _ F1.rel F1.ds K1'
      obtain ⟨h2, ρ2, w2, K2, ev2, s2⟩ := un
      obtain ⟨v, x, hK, hv, hrun⟩ := results_sound ev2.rel.reader (F1.fr.mono ev2.sub) hres K2
      exact ⟨x, w2, _, ⟨v, h2, ρ2, hK, ev1.trans rel ev2, hv⟩, s1.trans s2, rfl, rfl, rfl, rfl, fn, hfn, hrun⟩
end
end Go.Zy
