/- Operations that only reckon: structs, texts, slices. -/
import Derived.Test.YthlijlhfhlbehaaGreatZyOps2
set_option linter.unusedSimpArgs false
set_option linter.unusedVariables false
namespace Go.Zy
section
variable {P : Program} {ρ : Nm} {σ : Im} {vm lm : List Nat} {vs ls : List AVal} {a : Operand → Value} {C : CallK} {h : Heap} {K : AVal → Heap → Prop}

theorem kindIs_agg {t : TypeId} {k : Nat} (hk : kindIs P t k = true) (w : World) : (isAgg t).run P w = .ok false w := by
  refine run_agg ?_ w
  unfold kindIs at hk
  unfold aggIs
  split at hk <;> first | (rename_i hu; rw [hu]; rfl) | cases hk

theorem scalar_run {t : TypeId} {u v : AVal} {x y : Value} {b : Bool} (hk : kindIs P t (kindOf u) = true) (hu : VRel ρ σ u x) (hv : VRel ρ σ v y) (hs : scalarEq u v = some b) (d : Nat) (w : World) :
    (Op.equalIn (d + 1) t x y).run P w = .ok b w := by
  unfold scalarEq at hs
  split at hs <;> first | (cases hs; done) | skip
  · rename_i p q
    rw [hu.bool_inv, hv.bool_inv]
    have ht : P.underlying t = some .bool := by
      unfold kindIs at hk; simp only [kindOf] at hk; split at hk <;> first | assumption | (rename_i e; cases e; done) | cases hk
    rw [run_equalIn_bool' w d t p q ht]
    simp at hs; subst hs; cases p <;> cases q <;> rfl
  · rename_i k m j n
    rw [hu.int_inv, hv.int_inv]
    cases hkj : kEq k j <;> simp only [hkj, cond_true, cond_false] at hs
    · cases hs
    obtain rfl := (kEq_iff k j).1 hkj
    obtain ⟨k', ht⟩ : ∃ k', P.underlying t = some (.int k') := by
      unfold kindIs at hk; simp only [kindOf] at hk; split at hk <;> first | exact ⟨_, by assumption⟩ | (rename_i e; cases e; done) | cases hk
    rw [run_equalIn_int w d t k k' m n ht]
    simp [eqI_eq] at hs; rw [hs]
  · rename_i p q
    rw [hu.str_inv, hv.str_inv]
    have ht : P.underlying t = some .string := by
      unfold kindIs at hk; simp only [kindOf] at hk; split at hk <;> first | assumption | (rename_i e; cases e; done) | cases hk
    rw [run_equalIn_string w d t _ _ ht, data_toList, data_toList]
    simp at hs; subst hs
    congr 1
    rw [Bool.eq_iff_iff]; simp

theorem aggEq_run {ks : List Nat} : ∀ {fs : List Field} {i : Nat} {l m : List AVal} {xs ys : List Value} {J : Bool → Prop}, flatFields P fs ks i = true → LRel ρ σ l (xs.drop i) → LRel ρ σ m (ys.drop i) → aggEqK ks l m J →
    ∃ b, J b ∧ ∀ d w, (Op.eqFields (d + 1) xs.toArray ys.toArray fs).run P w = .ok b w := by
  induction ks with
  | nil =>
    intro fs i l m xs ys J hf hl hm H
    cases fs with
    | cons => simp [flatFields] at hf
    | nil =>
      cases l <;> cases m <;> simp only [aggEqK] at H <;> try exact H.elim
      exact ⟨true, H, fun d w => by simp [Op.eqFields]⟩
  | cons k ks ih =>
    intro fs i l m xs ys J hf hl hm H
    cases fs with
    | nil => simp [flatFields] at hf
    | cons f fs =>
      simp only [flatFields, Bool.and_eq_true, decide_eq_true_eq] at hf
      obtain ⟨⟨⟨hn, ho⟩, hk⟩, hf⟩ := hf
      cases l with
      | nil => simp only [aggEqK] at H
      | cons u l =>
      cases m with
      | nil => simp only [aggEqK] at H
      | cons v m =>
        simp only [aggEqK] at H
        cases hq : Nat.beq (kindOf u) k <;> simp only [hq, cond_true, cond_false] at H
        obtain rfl := Nat.eq_of_beq_eq_true hq
        obtain ⟨x, xr, hx, hux, hl'⟩ := hl.cons_inv
        obtain ⟨y, yr, hy, hvy, hm'⟩ := hm.cons_inv
        have gx : xs[i]? = some x := by have := congrArg (·[0]?) hx; simpa using this
        have gy : ys[i]? = some y := by have := congrArg (·[0]?) hy; simpa using this
        have dx : xs.drop (i + 1) = xr := by have := congrArg (List.drop 1) hx; simpa [Nat.add_comm] using this
        have dy : ys.drop (i + 1) = yr := by have := congrArg (List.drop 1) hy; simpa [Nat.add_comm] using this
        have px : ∀ w, (part f.type xs.toArray f.offset).run P w = .ok x w := by
          intro w; simp [part, kindIs_agg hk, ho, gx]
        have py : ∀ w, (part f.type ys.toArray f.offset).run P w = .ok y w := by
          intro w; simp [part, kindIs_agg hk, ho, gy]
        cases hs : scalarEq u v with
        | none => simp only [hs] at H
        | some b =>
          have e := fun d w => scalar_run (P := P) hk hux hvy hs d w
          cases b with
          | false =>
            simp only [hs] at H
            replace H := ih hf (dx ▸ hl') (dy ▸ hm') H
            obtain ⟨_, H, _⟩ := H
            exact ⟨false, H, fun d w => by simp [Op.eqFields, hn, px, py, e]⟩
          | true =>
            simp only [hs] at H
            replace H := ih hf (dx ▸ hl') (dy ▸ hm') H
            obtain ⟨b, H, hr⟩ := H
            exact ⟨b, H, fun d w => by simp [Op.eqFields, hn, px, py, e, hr]⟩

theorem pure_eqagg {neg : Bool} {ks : List Nat} {t u : TypeId} {x y : Operand} {x' y' : Opd} (he : Env ρ σ vm lm vs ls a) (h1 : opdOk vm lm x x' = true) (h2 : opdOk vm lm y y' = true) (ht : flatStruct P t ks = true)
    (H : opK C vs ls h (.eqagg neg ks x' y') K) : ∃ v, K v h ∧ Pures P ρ σ a (.binOp (bif neg then .neq else .eql) t x y u) v := by
  simp only [opK, ev_eq, fB_eq] at H
  have hr := he _ _ h1
  have hs := he _ _ h2
  generalize opdV vs ls x' = v1 at H hr
  generalize opdV vs ls y' = v2 at H hs
  cases v1 <;> simp only at H <;> try exact H.elim
  cases v2 <;> simp only at H <;> try exact H.elim
  obtain ⟨xs, hx, ex⟩ := hr.agg_inv
  obtain ⟨ys, hy, ey⟩ := hs.agg_inv
  unfold flatStruct at ht
  split at ht <;> simp at ht
  rename_i fs hu
  obtain ⟨⟨hf, h3⟩, h4⟩ := ht
  replace H := aggEq_run (P := P) (i := 0) hf (by simpa using hx) (by simpa using hy) H
  obtain ⟨b, H, hb⟩ := H
  refine ⟨_, H, _, .bool _, ?_⟩
  intro o ho w
  have hfo : P.fieldsOf t = fs := by simp [Program.fieldsOf, hu]
  have e := run_equalIn_agg (P := P) w 9999 t xs.toArray ys.toArray (by rw [hfo]; exact hu) h3
  rw [hfo, hb 9998 w] at e
  cases neg
  · simp only [execOp, ho, cond_false, ex, ey, Sem.run_bind, run_eqGuard_agg _ _ _ _ _ _ _ h4, Result.andThen_ok, run_eql_struct, e, Sem.run_pure]
  · simp only [execOp, ho, cond_true, ex, ey, Sem.run_bind, run_eqGuard_agg _ _ _ _ _ _ _ h4, Result.andThen_ok, run_neq_struct, e, Sem.run_pure]

theorem pure_idxS {t : TypeId} {x i : Operand} {y j : Opd} (he : Env ρ σ vm lm vs ls a) (h1 : opdOk vm lm x y = true) (h2 : opdOk vm lm i j = true) (hu : P.underlying t = some .string)
    (H : opK C vs ls h (.idxS y j) K) : ∃ v, K v h ∧ Pures P ρ σ a (.index t x i) v := by
  simp only [opK, ev_eq, fN_eq] at H
  have hr := he _ _ h1
  have hs := he _ _ h2
  generalize opdV vs ls y = v at H hr
  replace H := idxK_inv H
  obtain ⟨k, n, hv, H⟩ := H
  rw [hv] at hs
  have hi := hs.int_inv
  obtain ⟨s, rfl, H⟩ : ∃ s, v = .str s ∧ (match s[n]? with | some b => K (.int .u8 (.ofNat b.toNat)) h | none => False) := by
    cases v <;> first | exact ⟨_, rfl, H⟩ | exact H.elim
  have hx := hr.str_inv
  cases hg : s[n]? with
  | none => simp only [hg] at H
  | some b =>
    simp only [hg] at H
    refine ⟨_, H, _, .int _ _, ?_⟩
    intro o ho w
    have hlt : n < s.length := by rw [List.getElem?_eq_some_iff] at hg; exact hg.1
    have e : (⟨⟨s⟩⟩ : ByteArray)[n]? = some b := by
      have hsz : n < ByteArray.size ⟨⟨s⟩⟩ := hlt
      have h3 := (List.getElem?_eq_some_iff.1 hg).2
      rw [getElem?_pos (⟨⟨s⟩⟩ : ByteArray) n hsz]
      exact congrArg some h3
    simp [execOp, ho, hx, hi, Instr.index, asIntOf, run_underlying hu, e]

theorem pure_idxV {n : Nat} {t e : TypeId} {x i : Operand} {y j : Opd} (he : Env ρ σ vm lm vs ls a) (h1 : opdOk vm lm x y = true) (h2 : opdOk vm lm i j = true)
    (hu : P.underlying t = some (.array n e)) (hsz : sizeIs P e 1 = true) (hag : aggIs P e false = true)
    (H : opK C vs ls h (.idxV n y j) K) : ∃ v, K v h ∧ Pures P ρ σ a (.index t x i) v := by
  simp only [opK, ev_eq] at H
  have hr := he _ _ h1
  have hs := he _ _ h2
  generalize opdV vs ls y = v at H hr
  replace H := idxK_inv H
  obtain ⟨k, m, hv, H⟩ := H
  rw [hv] at hs
  have hi := hs.int_inv
  cases hb : ltN m n <;> simp only [hb, cond_true, cond_false] at H
  rw [ltN_eq, decide_eq_true_eq] at hb
  cases v <;> simp only at H <;> try exact H.elim
  rename_i l
  obtain ⟨xs, hl, hx⟩ := hr.agg_inv
  have key : ∀ (l : List AVal) (i : Nat) (J : AVal → Prop), nthK l i J → ∃ v, l[i]? = some v ∧ J v := by
    intro l
    induction l with
    | nil => intro i J hJ; cases i <;> exact hJ.elim
    | cons b l ih => intro i J hJ; cases i with
      | zero => exact ⟨_, rfl, hJ⟩
      | succ i => exact ih i J hJ
  replace H := key _ _ _ H
  obtain ⟨v, hv', H⟩ := H
  obtain ⟨x', hx', hrel⟩ := hl.get hv'
  refine ⟨v, H, x', hrel, ?_⟩
  intro o ho w
  simp [execOp, ho, hx, hi, Instr.index, asIntOf, run_underlying hu, hb, part, run_agg hag, run_size hsz, hx']

theorem pure_s2ap {n : Nat} {t e : TypeId} {x : Operand} {y : Opd} (he : Env ρ σ vm lm vs ls a) (h1 : opdOk vm lm x y = true) (hu : P.underlying t = some (.array n e))
    (H : opK C vs ls h (.s2ap n y) K) : ∃ v, K v h ∧ Pures P ρ σ a (.sliceToArrayPointer t x) v := by
  simp only [opK, ev_eq] at H
  have hr := he _ _ h1
  generalize opdV vs ls y = v at H hr
  cases v <;> simp only at H <;> try exact H.elim
  · rename_i id off len cap z
    cases hb : (Nat.ble n len && ltN 0 n) <;> simp only [hb, cond_true, cond_false] at H
    simp only [Bool.and_eq_true, ltN_eq, decide_eq_true_eq, Nat.ble_eq] at hb
    obtain ⟨b, o, m, c, ad, hρ, hcap, hlen, had, hm, hx⟩ := hr.slice_inv
    refine ⟨_, H, _, .ptr hρ, ?_⟩
    intro o' ho w
    rw [had (by omega)] at hx
    simp [execOp, ho, hx, Instr.arrayAt, run_underlying hu]
    intro h'; omega
  · rename_i row off len cap z
    cases hb : (Nat.ble n len && ltN 0 n) <;> simp only [hb, cond_true, cond_false] at H
    simp only [Bool.and_eq_true, ltN_eq, decide_eq_true_eq, Nat.ble_eq] at hb
    obtain ⟨b, o, kk, c, xs, ad, hb', hcap, hlen, had, h3, h4, hx⟩ := hr.islice_inv
    refine ⟨_, H, _, .iptr xs hb' h3 h4, ?_⟩
    intro o' ho w
    rw [had (by omega)] at hx
    simp [execOp, ho, hx, Instr.arrayAt, run_underlying hu]
    intro h'; omega

theorem pure_cap {t : TypeId} {e : TypeId} {x : Operand} {y : Opd} {c : Call} (he : Env ρ σ vm lm vs ls a) (h1 : opdOk vm lm x y = true) (hc : c.callee = .builtin .cap) (ha : c.args = #[x]) (hat : c.argTypes = #[t])
    (hu : P.underlying t = some (.slice e)) (H : opK C vs ls h (.cap y) K) : ∃ v, K v h ∧ Pures P ρ σ a (.call c) v := by
  simp only [opK, ev_eq] at H
  have hr := he _ _ h1
  generalize opdV vs ls y = v at H hr
  cases v <;> (try simp only at H) <;> try exact H.elim
  · refine ⟨_, H, _, .int _ _, ?_⟩
    intro o' ho w
    simp [execOp, ho, resolve, hc, ha, hat, invoke, builtin, Builtin.cap_, run_underlying hu, goInt, hr.nilslice_inv]
  · rename_i id off len cap z
    cases cap with
    | none => exact H.elim
    | some cp =>
    obtain ⟨b, o, m, cc, ad, hρ, hcap, hlen, had, hm, hx⟩ := hr.slice_inv
    refine ⟨_, H, _, .int _ _, ?_⟩
    intro o' ho w
    simp [execOp, ho, resolve, hc, ha, hat, invoke, builtin, Builtin.cap_, run_underlying hu, goInt, hx, hcap _ rfl]
  · rename_i row off len cap z
    cases cap with
    | none => exact H.elim
    | some cp =>
    obtain ⟨b, o, kk, cc, xs, ad, hb', hcap, hlen, had, h3, h4, hx⟩ := hr.islice_inv
    refine ⟨_, H, _, .int _ _, ?_⟩
    intro o' ho w
    simp [execOp, ho, resolve, hc, ha, hat, invoke, builtin, Builtin.cap_, run_underlying hu, goInt, hx, hcap _ rfl]

theorem pure_mkiface {t : TypeId} {d : TypeDesc} {x : Operand} {y : Opd} (he : Env ρ σ vm lm vs ls a) (h1 : opdOk vm lm x y = true) (hu : P.underlying t = some d) (hd : ∀ ms, d ≠ .interface ms)
    (H : opK C vs ls h (.mkiface t y) K) : ∃ v, K v h ∧ Pures P ρ σ a (.makeInterface t x) v := by
  simp only [opK, ev_eq] at H
  refine ⟨_, H, _, .iface t (he _ _ h1), ?_⟩
  intro o ho w
  simp only [execOp, ho, Instr.makeInterface, Sem.run_bind, run_underlying hu, Result.andThen_ok]
  cases d <;> first | exact absurd rfl (hd _) | simp

theorem pure_mkfn {fn : Fn} {f c : Array Operand} {f' c' : List Opd} (he : Env ρ σ vm lm vs ls a) (hf : ∀ l, fn ≠ .yield l) (h1 : opdsOk vm lm f.toList f' = true) (h2 : opdsOk vm lm c.toList c' = true)
    (H : opK C vs ls h (.mkfn fn f' c') K) : ∃ v, K v h ∧ Pures P ρ σ a (.makeFunc fn f c) v := by
  simp only [opK, evs_eq] at H
  have r1 := he.list _ _ h1
  have r2 := he.list _ _ h2
  refine ⟨_, H, _, .func fn hf r1.1 r2.1 r1.2 r2.2, ?_⟩
  intro o ho w
  have e1 : Array.map a f = (List.map a f.toList).toArray := by cases f; simp
  have e2 : Array.map a c = (List.map a c.toList).toArray := by cases c; simp
  simp [execOp, ho, Instr.makeFunc, e1, e2]

theorem zeroV_run {t : TypeId} {z : AVal} (hz : zeroV P t z = true) : ∃ x, VRel ρ σ z x ∧ ∀ w, (zeroValue t).run P w = .ok x w := by
  unfold zeroV at hz
  split at hz
  · rename_i i hi
    split at hz
    · rename_i cs hzero
      split at hz
      · rename_i l
        refine ⟨_, (litsOk_rel hz).agg, fun w => ?_⟩
        simp [zeroValue, run_info hi, hzero]
      · cases hz
    · rename_i v _ hzero
      exact ⟨_, litOk_rel hz, fun w => by simp [zeroValue, run_info hi, hzero]⟩
    · cases hz
  · cases hz

theorem pure_assert {t s : TypeId} {ok : Bool} {z : AVal} {d : TypeDesc} {x : Operand} {y : Opd} (he : Env ρ σ vm lm vs ls a) (h1 : opdOk vm lm x y = true) (hz : zeroV P t z = true) (hu : P.underlying t = some d)
    (hd : ∀ ms, d ≠ .interface ms) (H : opK C vs ls h (.assert t ok z y) K) : ∃ v, K v h ∧ Pures P ρ σ a (.typeAssert x s t ok) v := by
  simp only [opK, ev_eq] at H
  have hr := he _ _ h1
  generalize opdV vs ls y = v at H hr
  obtain ⟨zx, hzr, hzx⟩ := zeroV_run (ρ := ρ) (σ := σ) hz
  have hT : VRel ρ σ (.tuple [z, .bool false]) (.tuple #[zx, .bool false]) := (LRel.cons hzr (.cons (.bool _) .nil)).tuple
  cases v <;> simp only at H <;> try exact H.elim
  · cases ok <;> simp only [cond_true, cond_false] at H
    refine ⟨_, H, _, hT, ?_⟩
    intro o ho w
    simp only [execOp, ho, hr.niliface_inv, Instr.typeAssert, Sem.run_bind, run_underlying hu, Result.andThen_ok]
    cases d <;> first | exact absurd rfl (hd _) | simp [hzx]
  · rename_i u v
    obtain ⟨q, hq, hx⟩ := hr.iface_inv
    cases hb : Nat.beq t u <;> simp only [hb, cond_true, cond_false] at H
    · have hne : ¬ u = t := by rintro rfl; simp at hb
      cases ok <;> simp only [cond_true, cond_false] at H
      refine ⟨_, H, _, hT, ?_⟩
      intro o ho w
      simp only [execOp, ho, hx, Instr.typeAssert, Sem.run_bind, run_underlying hu, Result.andThen_ok]
      cases d <;> first | exact absurd rfl (hd _) | simp [hzx, hne]
    · obtain rfl := Nat.eq_of_beq_eq_true hb
      cases ok <;> simp only [cond_true, cond_false] at H
      · refine ⟨_, H, _, hq, ?_⟩
        intro o ho w
        simp only [execOp, ho, hx, Instr.typeAssert, Sem.run_bind, run_underlying hu, Result.andThen_ok]
        cases d <;> first | exact absurd rfl (hd _) | simp
      · refine ⟨_, H, _, (LRel.cons hq (.cons (.bool true) .nil)).tuple, ?_⟩
        intro o ho w
        simp only [execOp, ho, hx, Instr.typeAssert, Sem.run_bind, run_underlying hu, Result.andThen_ok]
        cases d <;> first | exact absurd rfl (hd _) | simp

end
end Go.Zy
