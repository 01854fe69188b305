/- Operations that only reckon: cuts of texts and slices, structs under making, the least and the greatest. -/
import Derived.Test.YthlijlhfhlbehaaGreatZyOps3
set_option linter.unusedSimpArgs false
set_option linter.unusedVariables false
namespace Go.Zy

theorem cond_ok {b : Bool} {p : Prop} (h : (bif b then p else False)) : b = true ∧ p := by cases b <;> first | exact h.elim | exact ⟨rfl, h⟩
/-- An operand that may be left out. -/
def ORel (ρ : Nm) (σ : Im) (v : Option AVal) (x : Option Value) : Prop :=
  match v, x with
  | none, none => True
  | some v, some x => VRel ρ σ v x
  | _, _ => False

section
variable {P : Program} {ρ : Nm} {σ : Im} {vm lm : List Nat} {vs ls : List AVal} {a : Operand → Value} {C : CallK} {h : Heap} {K : AVal → Heap → Prop}

theorem Env.opt (he : Env ρ σ vm lm vs ls a) {x : Option Operand} {y : Option Opd} (hc : opdO vm lm x y = true) : ORel ρ σ (y.map (opdV vs ls)) (x.map a) := by
  cases x <;> cases y <;> simp [opdO] at hc
  · exact trivial
  · exact he _ _ hc

theorem bound_run {v : AVal} {x : Value} (hv : VRel ρ σ v x) {J : Nat → Prop} (H : idxK v J) : ∃ n : Nat, J n ∧ ∀ y code w, n ≤ y → (Instr.sliceBound x y code).run P w = .ok n w := by
  obtain ⟨k, n, rfl, H⟩ := idxK_inv H
  refine ⟨n, H, fun y code w hy => ?_⟩
  rw [hv.int_inv]
  have : (0 : Int) ≤ (n : Int) ∧ (n : Int) ≤ (y : Int) := by omega
  simp [Instr.sliceBound, asIntOf, hy]

theorem bounds_run {len : Nat} {cap : Option Nat} {lo hi mx : Option AVal} {lo' hi' mx' : Option Value} {J : Nat → Nat → Option Nat → Prop} (rl : ORel ρ σ lo lo') (rh : ORel ρ σ hi hi') (rm : ORel ρ σ mx mx')
    (H : boundsK len cap lo hi mx J) (cc : Nat) (hcc : ∀ k, cap = some k → cc = k) (hlen : len ≤ cc) :
    ∃ (l e m : Nat) (c : Option Nat), J l (e - l) c ∧ l ≤ e ∧ e ≤ m ∧ m ≤ cc ∧ (∀ k, c = some k → m - l = k) ∧ (mx = none → m = cc) ∧ ∀ b w, (Instr.sliceBounds b len cc lo' hi' mx').run P w = .ok (l, e, m) w := by
  have hroom : roomOf len cap ≤ cc := by
    cases cap with
    | none => exact hlen
    | some k => have := hcc k rfl; simp [roomOf]; omega
  unfold boundsK at H
  generalize roomOf len cap = room at H hroom
  -- the lower bound, whatever the upper one is
  have low : ∀ {J' : Nat → Prop}, (match lo with | none => (fun J : Nat → Prop => J 0) | some v => (fun J => idxK v J)) J' →
      ∃ l, J' l ∧ ∀ y code w, l ≤ y → ((match lo' with | some v => Instr.sliceBound v y code | none => pure 0 : Sem Nat)).run P w = .ok l w := by
    intro J' HJ
    cases lo <;> cases lo' <;> simp only [ORel] at rl
    · exact ⟨0, HJ, fun y code w _ => by simp⟩
    · replace HJ := bound_run (P := P) rl HJ
      obtain ⟨n, h1, h2⟩ := HJ
      exact ⟨n, h1, h2⟩
  cases mx with
  | none =>
    cases mx' <;> simp only [ORel] at rm
    have high : ∀ {J' : Nat → Prop}, (match hi with | none => (fun J : Nat → Prop => J len) | some v => (fun J => idxK v J)) J' →
        ∃ e, J' e ∧ (hi = none → e = len) ∧ ∀ (b : Bool) (w : World), e ≤ cc → (match hi' with | some v => Instr.sliceBound v cc (if b then .sliceAcap else .sliceAlen) | none => pure len : Sem Nat).run P w = .ok e w := by
      intro J' HJ
      cases hi <;> cases hi' <;> simp only [ORel] at rh
      · exact ⟨len, HJ, fun _ => rfl, fun b w _ => by simp⟩
      · replace HJ := bound_run (P := P) rh HJ
        obtain ⟨n, h1, h2⟩ := HJ
        exact ⟨n, h1, fun e => by simp at e, fun b w hy => h2 _ _ w hy⟩
    simp only at H
    replace H := high H
    obtain ⟨e, H, hle, hrun⟩ := H
    replace H := low H
    obtain ⟨l, H, hlrun⟩ := H
    obtain ⟨hb, H⟩ := cond_ok H
    simp only [Bool.and_eq_true, Nat.ble_eq] at hb
    have hec : e ≤ cc := by omega
    have run : ∀ b w, (Instr.sliceBounds b len cc lo' hi' none).run P w = .ok (l, e, cc) w := by
      intro b w
      have r1 := hrun b w hec
      have r2 := hlrun e .sliceB w hb.2
      cases lo' <;> cases hi' <;> simp_all [Instr.sliceBounds]
    cases cap with
    | none => simp only [fN_eq] at H; exact ⟨l, e, cc, none, H, hb.2, hec, Nat.le_refl _, (fun k hk => by cases hk), (fun _ => rfl), run⟩
    | some c => simp only [fN_eq] at H; exact ⟨l, e, cc, some (c - l), H, hb.2, hec, Nat.le_refl _, (fun k hk => by cases hk; rw [hcc c rfl]), (fun _ => rfl), run⟩
  | some mv =>
    cases mx' with
    | none => simp only [ORel] at rm
    | some mv' =>
      simp only [ORel] at rm
      simp only at H
      replace H := bound_run (P := P) rm H
      obtain ⟨m, H, hm⟩ := H
      cases hi with
      | none => exact H.elim
      | some hv =>
        cases hi' with
        | none => simp only [ORel] at rh
        | some hv' =>
          simp only [ORel] at rh
          simp only at H
          replace H := bound_run (P := P) rh H
          obtain ⟨e, H, hr⟩ := H
          replace H := low H
          obtain ⟨l, H, hlrun⟩ := H
          obtain ⟨hb, H⟩ := cond_ok H
          simp only [Bool.and_eq_true, Nat.ble_eq] at hb
          simp only [fN_eq] at H
          refine ⟨l, e, m, some (m - l), H, hb.2, hb.1.2, by omega, (fun k hk => by cases hk; rfl), (fun hk => by cases hk), ?_⟩
          intro b w
          have r0 := hm cc (if b then .slice3Acap else .slice3Alen) w (by omega)
          have r1 := hr m .slice3B w hb.1.2
          have r2 := hlrun e .slice3C w hb.2
          cases lo' <;> simp_all [Instr.sliceBounds]

theorem pure_sub {sz : Nat} {t : TypeId} {x : Operand} {lo hi mx : Option Operand} {y : Opd} {lo' hi' mx' : Option Opd} (he : Env ρ σ vm lm vs ls a) (h1 : opdOk vm lm x y = true)
    (h2 : opdO vm lm lo lo' = true) (h3 : opdO vm lm hi hi' = true) (h4 : opdO vm lm mx mx' = true) (ht : sliceOf P t sz = true)
    (H : opK C vs ls h (.sub sz y lo' hi' mx') K) : ∃ v, K v h ∧ Pures P ρ σ a (.slice t x lo hi mx) v := by
  simp only [opK, ev_eq, evO_eq] at H
  have hr := he _ _ h1
  have rl := he.opt h2
  have rh := he.opt h3
  have rm := he.opt h4
  generalize opdV vs ls y = v at H hr
  obtain ⟨e, hu, hsz⟩ := sliceOf_some ht
  cases v <;> simp only [subK] at H <;> try exact H.elim
  · replace H := bounds_run (P := P) rl rh rm H 0 (fun k hk => by cases hk; rfl) (Nat.le_refl _)
    obtain ⟨l, e', m, c, H, h5, h6, h7, h8, _, hrun⟩ := H
    obtain rfl : m = 0 := by omega
    obtain rfl : e' = 0 := by omega
    obtain rfl : l = 0 := by omega
    refine ⟨_, H, _, .nilslice, ?_⟩
    intro o ho w
    simp [execOp, ho, Instr.sliceAt, run_underlying hu, Instr.slice, hr.nilslice_inv, hrun, run_size hsz]
  · rename_i id off len cap z
    cases hb : Nat.beq z sz <;> simp only [hb, cond_true, cond_false] at H
    obtain rfl := Nat.eq_of_beq_eq_true hb
    obtain ⟨b, o, q, cc, ad, hρ, hcap, hlen, had, hm, hx⟩ := hr.slice_inv
    replace H := bounds_run (P := P) rl rh rm H cc hcap hlen
    obtain ⟨l, e', m, c, H, h5, h6, h7, h8, _, hrun⟩ := H
    simp only [fN_eq] at H
    have hmul : (l + (m - l)) * z = l * z + (m - l) * z := Nat.add_mul _ _ _
    have hmc : m * z ≤ cc * z := Nat.mul_le_mul_right _ h7
    refine ⟨_, H, .slice (some (if m = l then ad else ad.add (l * z))) (e' - l) (m - l), ?_, ?_⟩
    · refine .slice hρ h8 (by omega) ?_ ?_
      · intro hne
        rw [if_neg (by omega), had (by omega), addr_add, Nat.add_assoc]
      · have : l + (m - l) = m := by omega
        rw [this] at hmul
        omega
    · intro o' ho w
      by_cases hml : m = l
      · simp [execOp, ho, Instr.sliceAt, run_underlying hu, Instr.slice, hx, hrun, run_size hsz, hml]
      · simp [execOp, ho, Instr.sliceAt, run_underlying hu, Instr.slice, hx, hrun, run_size hsz, hml]
  · rename_i row off len cap z
    cases hb : Nat.beq z sz <;> simp only [hb, cond_true, cond_false] at H
    obtain rfl := Nat.eq_of_beq_eq_true hb
    obtain ⟨b, o, kk, cc, xs, ad, hσ, hcap, hlen, had, g3, g4, hx⟩ := hr.islice_inv
    replace H := bounds_run (P := P) rl rh rm H kk hcap hlen
    obtain ⟨l, e', m, c, H, h5, h6, h7, h8, _, hrun⟩ := H
    simp only [fN_eq] at H
    refine ⟨_, H, .slice (some (if m = l then ad else ad.add (l * z))) (e' - l) (m - l), ?_, ?_⟩
    · refine .islice xs hσ h8 (by omega) ?_ g3 g4
      intro hne
      rw [if_neg (by omega), had (by omega), addr_add, Nat.add_assoc]
    · intro o' ho w
      by_cases hml : m = l
      · simp [execOp, ho, Instr.sliceAt, run_underlying hu, Instr.slice, hx, hrun, run_size hsz, hml]
      · simp [execOp, ho, Instr.sliceAt, run_underlying hu, Instr.slice, hx, hrun, run_size hsz, hml]

end
end Go.Zy
