/- Operations that only reckon, further. -/
import Derived.Test.YthlijlhfhlbehaaGreatZyOps1
import Derived.Laws.StructEq
set_option linter.unusedSimpArgs false
set_option linter.unusedVariables false
namespace Go.Zy

theorem addr_add (b o k : Nat) : (⟨b, o, none⟩ : Addr).add k = ⟨b, o + k, none⟩ := by
  unfold Addr.add; split <;> simp_all
theorem size_info {P : Program} {t : TypeId} {n : Nat} (h : sizeIs P t n = true) : ∃ i, P.info? t = some i ∧ i.size = n := by
  unfold sizeIs at h; split at h
  · exact ⟨_, ‹_›, by simpa using h⟩
  · cases h
theorem run_info {P : Program} {t : TypeId} {i : TypeInfo} (h : P.info? t = some i) (w : World) : (typeInfo t).run P w = .ok i w := by
  unfold typeInfo; simp; rw [h]; rfl
theorem run_size {P : Program} {t : TypeId} {n : Nat} (h : sizeIs P t n = true) (w : World) : (sizeOf t).run P w = .ok n w := by
  obtain ⟨i, hi, rfl⟩ := size_info h
  unfold sizeOf; simp [run_info hi]
theorem run_agg {P : Program} {t : TypeId} {b : Bool} (h : aggIs P t b = true) (w : World) : (isAgg t).run P w = .ok b w := by
  unfold aggIs at h
  unfold isAgg
  split at h
  · rename_i hu; simp [run_underlying hu, h]
  · rename_i hu; simp [run_underlying hu, h]
  · rename_i d h1 h2 hu
    simp only [Bool.not_eq_true'] at h
    subst h
    simp only [Sem.run_bind, run_underlying hu, Result.andThen_ok]
    cases d <;> first | rfl | exact absurd rfl (h1 _ · ) | exact absurd rfl (h2 _ _ · )
  · cases h
theorem sliceOf_some {P : Program} {t : TypeId} {sz : Nat} (h : sliceOf P t sz = true) : ∃ e, P.underlying t = some (.slice e) ∧ sizeIs P e sz = true := by
  unfold sliceOf at h; split at h
  · exact ⟨_, ‹_›, h⟩
  · cases h

section
variable {P : Program} {ρ : Nm} {σ : Im} {vm lm : List Nat} {vs ls : List AVal} {a : Operand → Value} {C : CallK} {h : Heap} {K : AVal → Heap → Prop}

theorem pure_eqb {neg : Bool} {t u : TypeId} {x y : Operand} {x' y' : Opd} (he : Env ρ σ vm lm vs ls a) (h1 : opdOk vm lm x x' = true) (h2 : opdOk vm lm y y' = true) (ht : P.underlying t = some .bool)
    (H : opK C vs ls h (.eqb neg x' y') K) : ∃ v, K v h ∧ Pures P ρ σ a (.binOp (bif neg then .neq else .eql) t x y u) v := by
  simp only [opK, ev_eq, fB_eq] at H
  have hr := he _ _ h1
  have hs := he _ _ h2
  generalize opdV vs ls x' = v1 at H hr
  generalize opdV vs ls y' = v2 at H hs
  cases v1 <;> simp only [boolK] at H <;> try exact H.elim
  cases v2 <;> simp only at H <;> try exact H.elim
  rename_i b1 b2
  have hx := hr.bool_inv
  have hy := hs.bool_inv
  refine ⟨_, H, _, .bool _, ?_⟩
  intro o ho w
  have e := run_equalIn_bool' (P := P) w 9999 t b1 b2 ht
  cases neg <;> simp [execOp, ho, hx, hy, eqGuard, binOp, Op.equal, Op.maxDepth, e] <;> cases b1 <;> cases b2 <;> rfl

/-- A value held against nil: what it takes. -/
structure NilEq (P : Program) (t : TypeId) (x z : Value) (b : Bool) : Prop where
  l : ∀ d w, (Op.equalIn (d + 1) t x z).run P w = .ok b w
  r : ∀ d w, (Op.equalIn (d + 1) t z x).run P w = .ok b w
  e1 : binOp .eql t x z = (do pure (.bool (← Op.equal t x z)))
  e2 : binOp .eql t z x = (do pure (.bool (← Op.equal t z x)))
  n1 : binOp .neq t x z = (do pure (.bool (!(← Op.equal t x z))))
  n2 : binOp .neq t z x = (do pure (.bool (!(← Op.equal t z x))))
  g1 : ∀ op x1 w, (eqGuard op t x1 (.const z) x z).run P w = .ok () w
  g2 : ∀ op (y1 : Operand) w, (eqGuard op t (.const z) y1 z x).run P w = .ok () w

theorem nilEq_ptr0 {t : TypeId} {e : TypeId} (hu : P.underlying t = some (.pointer e)) : NilEq P t (.pointer none) (.pointer none) true :=
  ⟨fun d w => by simp only [Op.equalIn, Sem.run_bind, run_underlying hu, Result.andThen_ok, Sem.run_pure, Option.isNone], fun d w => by simp only [Op.equalIn, Sem.run_bind, run_underlying hu, Result.andThen_ok, Sem.run_pure, Option.isNone], rfl, rfl, rfl, rfl,
    fun op x1 w => by cases op <;> simp [eqGuard], fun op x1 w => by cases op <;> simp [eqGuard]⟩
theorem nilEq_ptr1 {t : TypeId} {e : TypeId} {p : Addr} (hu : P.underlying t = some (.pointer e)) : NilEq P t (.pointer (some p)) (.pointer none) false :=
  ⟨fun d w => by simp only [Op.equalIn, Sem.run_bind, run_underlying hu, Result.andThen_ok, Sem.run_pure, Option.isNone], fun d w => by simp only [Op.equalIn, Sem.run_bind, run_underlying hu, Result.andThen_ok, Sem.run_pure, Option.isNone], rfl, rfl, rfl, rfl,
    fun op x1 w => by cases op <;> simp [eqGuard], fun op x1 w => by cases op <;> simp [eqGuard]⟩
theorem nilEq_slice0 {t : TypeId} {e : TypeId} (hu : P.underlying t = some (.slice e)) : NilEq P t (.slice none 0 0) (.slice none 0 0) true :=
  ⟨fun d w => by simp only [Op.equalIn, Sem.run_bind, run_underlying hu, Result.andThen_ok, Sem.run_pure, Option.isNone], fun d w => by simp only [Op.equalIn, Sem.run_bind, run_underlying hu, Result.andThen_ok, Sem.run_pure, Option.isNone], rfl, rfl, rfl, rfl,
    fun op x1 w => by cases op <;> simp [eqGuard], fun op x1 w => by cases op <;> simp [eqGuard]⟩
theorem nilEq_slice1 {t : TypeId} {e : TypeId} {p : Addr} {l c : Nat} (hu : P.underlying t = some (.slice e)) : NilEq P t (.slice (some p) l c) (.slice none 0 0) false :=
  ⟨fun d w => by simp only [Op.equalIn, Sem.run_bind, run_underlying hu, Result.andThen_ok, Sem.run_pure, Option.isNone], fun d w => by simp only [Op.equalIn, Sem.run_bind, run_underlying hu, Result.andThen_ok, Sem.run_pure, Option.isNone], rfl, rfl, rfl, rfl,
    fun op x1 w => by cases op <;> simp [eqGuard], fun op x1 w => by cases op <;> simp [eqGuard]⟩
theorem nilEq_map0 {t : TypeId} {k e : TypeId} (hu : P.underlying t = some (.map k e)) : NilEq P t (.map none) (.map none) true :=
  ⟨fun d w => by simp only [Op.equalIn, Sem.run_bind, run_underlying hu, Result.andThen_ok, Sem.run_pure, Option.isNone], fun d w => by simp only [Op.equalIn, Sem.run_bind, run_underlying hu, Result.andThen_ok, Sem.run_pure, Option.isNone], rfl, rfl, rfl, rfl,
    fun op x1 w => by cases op <;> simp [eqGuard], fun op x1 w => by cases op <;> simp [eqGuard]⟩
theorem nilEq_map1 {t : TypeId} {k e : TypeId} {p : Nat} (hu : P.underlying t = some (.map k e)) : NilEq P t (.map (some p)) (.map none) false :=
  ⟨fun d w => by simp only [Op.equalIn, Sem.run_bind, run_underlying hu, Result.andThen_ok, Sem.run_pure, Option.isNone], fun d w => by simp only [Op.equalIn, Sem.run_bind, run_underlying hu, Result.andThen_ok, Sem.run_pure, Option.isNone], rfl, rfl, rfl, rfl,
    fun op x1 w => by cases op <;> simp [eqGuard], fun op x1 w => by cases op <;> simp [eqGuard]⟩
theorem nilEq_func0 {t : TypeId} {k e : Array TypeId} {v : Bool} (hu : P.underlying t = some (.func k e v)) : NilEq P t (.nilFunc) (.nilFunc) true :=
  ⟨fun d w => by simp only [Op.equalIn, Sem.run_bind, run_underlying hu, Result.andThen_ok, Sem.run_pure, Option.isNone], fun d w => by simp only [Op.equalIn, Sem.run_bind, run_underlying hu, Result.andThen_ok, Sem.run_pure, Option.isNone], rfl, rfl, rfl, rfl,
    fun op x1 w => by cases op <;> simp [eqGuard], fun op x1 w => by cases op <;> simp [eqGuard]⟩
theorem nilEq_func1 {t : TypeId} {k e : Array TypeId} {v : Bool} {f : Fn} {p q : Array Value} (hu : P.underlying t = some (.func k e v)) : NilEq P t (.func f p q) (.nilFunc) false :=
  ⟨fun d w => by simp only [Op.equalIn, Sem.run_bind, run_underlying hu, Result.andThen_ok, Sem.run_pure, Option.isNone], fun d w => by simp only [Op.equalIn, Sem.run_bind, run_underlying hu, Result.andThen_ok, Sem.run_pure, Option.isNone], rfl, rfl, rfl, rfl,
    fun op x1 w => by cases op <;> simp [eqGuard], fun op x1 w => by cases op <;> simp [eqGuard]⟩
theorem nilEq_iface0 {t : TypeId} {m : Array (String × TypeId)} (hu : P.underlying t = some (.interface m)) : NilEq P t (.nilIface) (.nilIface) true :=
  ⟨fun d w => by simp only [Op.equalIn, Sem.run_bind, run_underlying hu, Result.andThen_ok, Sem.run_pure, Option.isNone], fun d w => by simp only [Op.equalIn, Sem.run_bind, run_underlying hu, Result.andThen_ok, Sem.run_pure, Option.isNone], rfl, rfl, rfl, rfl,
    fun op x1 w => by cases op <;> simp [eqGuard], fun op x1 w => by cases op <;> simp [eqGuard]⟩
theorem nilEq_iface1 {t : TypeId} {m : Array (String × TypeId)} {u : TypeId} {p : Value} (hu : P.underlying t = some (.interface m)) : NilEq P t (.iface u p) (.nilIface) false :=
  ⟨fun d w => by simp only [Op.equalIn, Sem.run_bind, run_underlying hu, Result.andThen_ok, Sem.run_pure, Option.isNone], fun d w => by simp only [Op.equalIn, Sem.run_bind, run_underlying hu, Result.andThen_ok, Sem.run_pure, Option.isNone], rfl, rfl, rfl, rfl,
    fun op x1 w => by cases op <;> simp [eqGuard], fun op x1 w => by cases op <;> simp [eqGuard]⟩
theorem isNil_run {t : TypeId} {cls : Nat} {c : Operand} {v : AVal} {x : Value} (hv : VRel ρ σ v x) (hc : clsOk P t cls c = true) {J : Bool → Prop} (H : isNilK cls v J) :
    ∃ (b : Bool) (z : Value), J b ∧ c = .const z ∧ NilEq P t x z b := by
  unfold clsOk at hc
  split at hc <;> simp only [Bool.false_eq_true] at hc
  · rename_i hu
    simp only [isNilK] at H
    cases v <;> simp only at H <;> try exact H.elim
    · rw [hv.nilptr_inv]; exact ⟨_, _, H, rfl, nilEq_ptr0 hu⟩
    · obtain ⟨b, o, n, _, rfl⟩ := hv.ptr_inv; exact ⟨_, _, H, rfl, nilEq_ptr1 hu⟩
    · obtain ⟨b, o, c, xs, _, _, _, rfl⟩ := hv.iptr_inv; exact ⟨_, _, H, rfl, nilEq_ptr1 hu⟩
  · rename_i hu
    simp only [isNilK] at H
    cases v <;> simp only at H <;> try exact H.elim
    · rw [hv.nilslice_inv]; exact ⟨_, _, H, rfl, nilEq_slice0 hu⟩
    · obtain ⟨b, o, n, c, ad, _, _, _, _, _, rfl⟩ := hv.slice_inv; exact ⟨_, _, H, rfl, nilEq_slice1 hu⟩
    · obtain ⟨b, o, k, c, xs, ad, _, _, _, _, _, _, rfl⟩ := hv.islice_inv; exact ⟨_, _, H, rfl, nilEq_slice1 hu⟩
  · rename_i hu
    simp only [isNilK] at H
    cases v <;> simp only at H <;> try exact H.elim
    · rw [hv.nilmap_inv]; exact ⟨_, _, H, rfl, nilEq_map0 hu⟩
    · obtain ⟨b, o, n, _, rfl⟩ := hv.map_inv; exact ⟨_, _, H, rfl, nilEq_map1 hu⟩
  · rename_i hu
    simp only [isNilK] at H
    cases v <;> simp only at H <;> try exact H.elim
    · rw [hv.nilfunc_inv]; exact ⟨_, _, H, rfl, nilEq_func0 hu⟩
    · obtain ⟨xs, ys, _, _, _, rfl⟩ := hv.func_inv; exact ⟨_, _, H, rfl, nilEq_func1 hu⟩
    · obtain ⟨b, o, n, _, rfl⟩ := hv.yield_inv; exact ⟨_, _, H, rfl, nilEq_func1 hu⟩
  · rename_i hu
    simp only [isNilK] at H
    cases v <;> simp only at H <;> try exact H.elim
    · rw [hv.niliface_inv]; exact ⟨_, _, H, rfl, nilEq_iface0 hu⟩
    · obtain ⟨y, _, rfl⟩ := hv.iface_inv; exact ⟨_, _, H, rfl, nilEq_iface1 hu⟩

/-- What an operand that is no slot stands for. -/
def Consts (a : Operand → Value) : Prop := ∀ v, a (.const v) = v

theorem pure_isnil {cls : Nat} {neg : Bool} {t u : TypeId} {x y : Operand} {y' : Opd} (he : Env ρ σ vm lm vs ls a) (ha : Consts a)
    (hc : (opdOk vm lm x y' = true ∧ clsOk P t cls y = true) ∨ (opdOk vm lm y y' = true ∧ clsOk P t cls x = true))
    (H : opK C vs ls h (.isnil cls neg y') K) : ∃ v, K v h ∧ Pures P ρ σ a (.binOp (bif neg then .neq else .eql) t x y u) v := by
  simp only [opK, ev_eq, fB_eq] at H
  rcases hc with ⟨h1, h2⟩ | ⟨h1, h2⟩
  · replace H := isNil_run (he _ _ h1) h2 H
    obtain ⟨b, z, H, rfl, q⟩ := H
    refine ⟨_, H, _, .bool _, ?_⟩
    intro o ho w
    have hq := q.l 9999 w
    have hz := ha z
    cases neg
    · simp only [execOp, ho, cond_false, hz, Sem.run_bind, q.g1, Result.andThen_ok, q.e1, Op.equal, Op.maxDepth, hq, Sem.run_pure]
    · simp only [execOp, ho, cond_true, hz, Sem.run_bind, q.g1, Result.andThen_ok, q.n1, Op.equal, Op.maxDepth, hq, Sem.run_pure]
  · replace H := isNil_run (he _ _ h1) h2 H
    obtain ⟨b, z, H, rfl, q⟩ := H
    refine ⟨_, H, _, .bool _, ?_⟩
    intro o ho w
    have hq := q.r 9999 w
    have hz := ha z
    cases neg
    · simp only [execOp, ho, cond_false, hz, Sem.run_bind, q.g2, Result.andThen_ok, q.e2, Op.equal, Op.maxDepth, hq, Sem.run_pure]
    · simp only [execOp, ho, cond_true, hz, Sem.run_bind, q.g2, Result.andThen_ok, q.n2, Op.equal, Op.maxDepth, hq, Sem.run_pure]

theorem pure_conv {k : IntKind} {s d : TypeId} {x : Operand} {y : Opd} (he : Env ρ σ vm lm vs ls a) (hc : opdOk vm lm x y = true)
    (hs : ∃ j, P.underlying s = some (.int j)) (hd : P.underlying d = some (.int k)) (H : opK C vs ls h (.conv k y) K) :
    ∃ v, K v h ∧ Pures P ρ σ a (.convert s d x) v := by
  simp only [opK, ev_eq, fI_eq] at H
  have hr := he _ _ hc
  generalize opdV vs ls y = v at H hr
  cases v <;> simp only [intK] at H <;> try exact H.elim
  rename_i j n
  have hx := hr.int_inv
  obtain ⟨j', hj⟩ := hs
  refine ⟨_, H, _, .int _ _, ?_⟩
  intro o ho w
  simp [execOp, ho, hx, convert, run_underlying hj, run_underlying hd, Conv.intToInt, wrapF_eq]

theorem pure_fld {off : Nat} {t : TypeId} {x : Operand} {f : Nat} {y : Opd} {fs : Array Field} {g : Field} {i : TypeInfo} (he : Env ρ σ vm lm vs ls a) (hc : opdOk vm lm x y = true)
    (ht : P.underlying t = some (.struct fs)) (hf : fs[f]? = some g) (ho : g.offset = off) (hi : P.info? g.type = some i) (hz : i.size ≠ 0)
    (H : opK C vs ls h (.fld off y) K) : ∃ v, K v h ∧ Pures P ρ σ a (.fieldAddr t x f) v := by
  simp only [opK, ev_eq, fN_eq] at H
  have hr := he _ _ hc
  generalize opdV vs ls y = v at H hr
  have hp : ∀ (b o : Nat) (w : World), (fieldPlace ⟨b, o, none⟩ g).run P w = .ok ⟨b, o + off, none⟩ w := by
    intro b o w
    simp [fieldPlace, sizeOf, run_info hi, hz, addr_add, ho]
  cases v <;> simp only at H <;> try exact H.elim
  · rename_i id o
    obtain ⟨b, o1, n, hb, hx⟩ := hr.ptr_inv
    refine ⟨_, H, _, .ptr hb, ?_⟩
    intro o ho w
    simp [execOp, ho, hx, Instr.fieldAt, run_underlying ht, hf, Instr.sureAddr, hp, Nat.add_assoc]
  · rename_i row o
    obtain ⟨b, o1, c, xs, hb, h1, h2, hx⟩ := hr.iptr_inv
    refine ⟨_, H, _, .iptr xs hb h1 h2, ?_⟩
    intro o ho w
    simp [execOp, ho, hx, Instr.fieldAt, run_underlying ht, hf, Instr.sureAddr, hp, Nat.add_assoc]

theorem idxK_inv {v : AVal} {J : Nat → Prop} (H : idxK v J) : ∃ k n, v = .int k (.ofNat n) ∧ J n := by
  cases v <;> simp only [idxK] at H <;> try exact H.elim
  rename_i k n
  cases n <;> simp only at H <;> try exact H.elim
  exact ⟨_, _, rfl, H⟩

theorem pure_idx {sz : Nat} {t : TypeId} {x i : Operand} {y j : Opd} (he : Env ρ σ vm lm vs ls a) (h1 : opdOk vm lm x y = true) (h2 : opdOk vm lm i j = true) (ht : sliceOf P t sz = true)
    (H : opK C vs ls h (.idx sz y j) K) : ∃ v, K v h ∧ Pures P ρ σ a (.indexAddr t x i) v := by
  simp only [opK, ev_eq, fN_eq] at H
  have hr := he _ _ h1
  have hs := he _ _ h2
  generalize opdV vs ls y = v at H hr
  replace H := idxK_inv H
  obtain ⟨k, n, hv, H⟩ := H
  rw [hv] at hs
  have hi := hs.int_inv
  obtain ⟨e, hu, hsz⟩ := sliceOf_some ht
  cases v <;> simp only at H <;> try exact H.elim
  · rename_i id off len cap z
    cases hb : (ltN n len && Nat.beq z sz) <;> simp only [hb, cond_true, cond_false] at H
    · simp only [Bool.and_eq_true, ltN_eq, decide_eq_true_eq] at hb
      obtain ⟨hl, hz⟩ := hb
      obtain rfl := Nat.eq_of_beq_eq_true hz
      obtain ⟨b, o, m, c, ad, hρ, hcap, hlen, had, hm, hx⟩ := hr.slice_inv
      refine ⟨_, H, _, .ptr hρ, ?_⟩
      intro o' ho w
      have : ad = ⟨b, o + off, none⟩ := had (by omega)
      subst this
      have hlt : (0 : Int) ≤ (n : Int) ∧ (n : Int) < (len : Int) := by omega
      simp [execOp, ho, hx, hi, Instr.indexAt, asIntOf, run_underlying hu, hl, run_size hsz, addr_add, Nat.add_assoc]
  · rename_i row off len cap z
    cases hb : (ltN n len && Nat.beq z sz) <;> simp only [hb, cond_true, cond_false] at H
    · simp only [Bool.and_eq_true, ltN_eq, decide_eq_true_eq] at hb
      obtain ⟨hl, hz⟩ := hb
      obtain rfl := Nat.eq_of_beq_eq_true hz
      obtain ⟨b, o, kk, c, xs, ad, hb, hcap, hlen, had, h3, h4, hx⟩ := hr.islice_inv
      refine ⟨_, H, _, .iptr xs hb h3 h4, ?_⟩
      intro o' ho w
      have : ad = ⟨b, o + off, none⟩ := had (by omega)
      subst this
      simp [execOp, ho, hx, hi, Instr.indexAt, asIntOf, run_underlying hu, hl, run_size hsz, addr_add, Nat.add_assoc]

theorem pure_idxA {n sz : Nat} {t e : TypeId} {x i : Operand} {y j : Opd} (he : Env ρ σ vm lm vs ls a) (h1 : opdOk vm lm x y = true) (h2 : opdOk vm lm i j = true)
    (hu : P.underlying t = some (.array n e)) (hsz : sizeIs P e sz = true)
    (H : opK C vs ls h (.idxA n sz y j) K) : ∃ v, K v h ∧ Pures P ρ σ a (.indexAddr t x i) v := by
  simp only [opK, ev_eq, fN_eq] at H
  have hr := he _ _ h1
  have hs := he _ _ h2
  generalize opdV vs ls y = v at H hr
  replace H := idxK_inv H
  obtain ⟨k, m, hv, H⟩ := H
  rw [hv] at hs
  have hi := hs.int_inv
  cases hb : ltN m n <;> simp only [hb, cond_true, cond_false] at H
  rw [ltN_eq, decide_eq_true_eq] at hb
  cases v <;> simp only at H <;> try exact H.elim
  · rename_i id off
    obtain ⟨b, o, q, hρ, hx⟩ := hr.ptr_inv
    refine ⟨_, H, _, .ptr hρ, ?_⟩
    intro o' ho w
    simp [execOp, ho, hx, hi, Instr.indexAt, asIntOf, run_underlying hu, hb, Instr.sureAddr, run_size hsz, addr_add, Nat.add_assoc]
  · rename_i row off
    obtain ⟨b, o, c, xs, hσ, h3, h4, hx⟩ := hr.iptr_inv
    refine ⟨_, H, _, .iptr xs hσ h3 h4, ?_⟩
    intro o' ho w
    simp [execOp, ho, hx, hi, Instr.indexAt, asIntOf, run_underlying hu, hb, Instr.sureAddr, run_size hsz, addr_add, Nat.add_assoc]

theorem pure_nilchk {x : Operand} {y : Opd} (he : Env ρ σ vm lm vs ls a) (hc : opdOk vm lm x y = true) (H : opK C vs ls h (.nilchk y) K) :
    ∃ v, K v h ∧ Pures P ρ σ a (.nilCheck x) v := by
  simp only [opK, ev_eq] at H
  have hr := he _ _ hc
  generalize opdV vs ls y = v at H hr
  cases v <;> simp only at H <;> try exact H.elim
  · obtain ⟨b, o, q, hρ, hx⟩ := hr.ptr_inv
    refine ⟨_, H, _, hr, ?_⟩
    intro o' ho w; simp [execOp, ho, hx]
  · obtain ⟨b, o, c, xs, hσ, h3, h4, hx⟩ := hr.iptr_inv
    refine ⟨_, H, _, hr, ?_⟩
    intro o' ho w; simp [execOp, ho, hx]

theorem pure_ext {i : Nat} {x : Operand} {y : Opd} (he : Env ρ σ vm lm vs ls a) (hc : opdOk vm lm x y = true) (H : opK C vs ls h (.ext i y) K) :
    ∃ v, K v h ∧ Pures P ρ σ a (.extract x i) v := by
  simp only [opK, ev_eq] at H
  have hr := he _ _ hc
  generalize opdV vs ls y = v at H hr
  cases v <;> simp only at H <;> try exact H.elim
  rename_i l
  obtain ⟨xs, hl, hx⟩ := hr.tuple_inv
  have key : ∀ (l : List AVal) (i : Nat) (J : AVal → Prop), nthK l i J → ∃ v, l[i]? = some v ∧ J v := by
    intro l
    induction l with
    | nil => intro i J hJ; cases i <;> exact hJ.elim
    | cons b l ih => intro i J hJ; cases i with
      | zero => exact ⟨_, rfl, hJ⟩
      | succ i => exact ih i J hJ
  replace H := key _ _ _ H
  obtain ⟨v, hv, H⟩ := H
  obtain ⟨x', hx', hrel⟩ := hl.get hv
  refine ⟨v, H, x', hrel, ?_⟩
  intro o ho w
  simp [execOp, ho, hx, Instr.extract, hx']

theorem pure_lenA {n : Nat} {t : TypeId} {x : Operand} (ht : (∃ e, P.underlying t = some (.array n e)) ∨ ∃ b e, P.underlying t = some (.pointer b) ∧ P.underlying b = some (.array n e))
    {c : Call} (hc : c.callee = .builtin .len) (ha : c.args = #[x]) (hat : c.argTypes = #[t]) (H : opK C vs ls h (.lenA n) K) : ∃ v, K v h ∧ Pures P ρ σ a (.call c) v := by
  simp only [opK] at H
  refine ⟨_, H, _, .int _ _, ?_⟩
  intro o ho w
  rcases ht with ⟨e, ht⟩ | ⟨b, e, ht, hb⟩
  · simp [execOp, ho, resolve, hc, ha, hat, invoke, builtin, Builtin.len_, run_underlying ht, goInt]
  · simp [execOp, ho, resolve, hc, ha, hat, invoke, builtin, Builtin.len_, run_underlying ht, run_underlying hb, goInt]

end
end Go.Zy
