/- Operations that only reckon: cuts of arrays and texts, structs under making, the least and the greatest. -/
import Derived.Test.YthlijlhfhlbehaaGreatZyOps4
set_option linter.unusedSimpArgs false
set_option linter.unusedVariables false
namespace Go.Zy
section
variable {P : Program} {ρ : Nm} {σ : Im} {vm lm : List Nat} {vs ls : List AVal} {a : Operand → Value} {C : CallK} {h : Heap} {K : AVal → Heap → Prop}

theorem nilmOk_mem {name : String} : ∀ {tbl : List TypeId} {t : TypeId}, nilmOk P name tbl = true → seenIn t tbl = true →
    ∃ i m f, P.info? t = some i ∧ i.methods.find? (·.name == name) = some m ∧ m.path.isEmpty = true ∧ m.func = some (f, true) := by
  intro tbl
  induction tbl with
  | nil => intro t _ h; cases h
  | cons u l ih =>
    intro t hn hs
    simp only [nilmOk, Bool.and_eq_true] at hn
    simp only [seenIn, Bool.or_eq_true] at hs
    rcases hs with hs | hs
    · obtain rfl := Nat.eq_of_beq_eq_true hs
      obtain ⟨hn, _⟩ := hn
      split at hn
      · rename_i i hi
        split at hn
        · rename_i m hm
          simp only [Bool.and_eq_true] at hn
          obtain ⟨h1, h2⟩ := hn
          split at h2
          · rename_i f b hf; subst h2; exact ⟨i, m, f, hi, hm, h1, hf⟩
          · cases h2
        · cases hn
      · cases hn
    · exact ih hn.2 hs
theorem nilAhead_run {name : String} {t : TypeId} {i : TypeInfo} {m : Method} {f : FuncId} (hi : P.info? t = some i) (hm : i.methods.find? (·.name == name) = some m) (hp : m.path.isEmpty = true) (hf : m.func = some (f, true))
    (n : Nat) (z : Value) (w : World) : (nilAhead (n + 1) t z name).run P w = .ok (some false) w := by
  have hp' : m.path.toList = [] := by simpa using hp
  simp [nilAhead, run_info hi, hm, hp', followBlind, hf]
theorem pure_nilm {name : String} {tbl : List TypeId} {x : Operand} {y : Opd} (he : Env ρ σ vm lm vs ls a) (h1 : opdOk vm lm x y = true)
    (ht : nilmOk P name tbl = true) (H : opK C vs ls h (.nilm name tbl y) K) : ∃ v, K v h ∧ Pures P ρ σ a (.nilCheck x) v := by
  simp only [opK, ev_eq] at H
  have hr := he _ _ h1
  generalize opdV vs ls y = v at H hr
  obtain ⟨t, u, c, rfl, hb, H⟩ : ∃ t u c, v = .func (.method name) [.iface t u] c ∧ seenIn t tbl = true ∧ K v h := by
    revert H
    split
    · intro H; obtain ⟨hb, H2⟩ := cond_ok H; rw [Bool.and_eq_true, decide_eq_true_eq] at hb; clear H; obtain ⟨hn, hb⟩ := hb; subst hn; exact ⟨_, _, _, rfl, hb, H2⟩
    · intro H; exact H.elim
  refine ⟨_, H, _, hr, ?_⟩
  obtain ⟨xs, ys, hxs, hys, _, hx⟩ := hr.func_inv
  obtain ⟨p, xs', rfl, hp, hn⟩ := hxs.cons_inv
  obtain rfl := hn.nil_inv
  obtain ⟨z, hz, rfl⟩ := hp.iface_inv
  intro o ho w
  obtain ⟨i, m, f, g1, g2, g3, g4⟩ := nilmOk_mem ht hb
  simp [execOp, ho, hx, show P.types.size + Made.depth = (P.types.size + (Made.depth - 1)) + 1 from rfl, nilAhead_run g1 g2 g3 g4]

theorem extract_list (s : List UInt8) (l e : Nat) (h1 : l ≤ e) (h2 : e ≤ s.length) : (⟨⟨s⟩⟩ : ByteArray).extract l e = ⟨⟨(s.drop l).take (e - l)⟩⟩ := by
  apply ByteArray.ext
  apply Array.ext'
  rw [ByteArray.data_extract]
  simp [List.extract_eq_take_drop]

theorem pure_subS {t : TypeId} {x : Operand} {lo hi : Option Operand} {y : Opd} {lo' hi' : Option Opd} (he : Env ρ σ vm lm vs ls a) (h1 : opdOk vm lm x y = true)
    (h2 : opdO vm lm lo lo' = true) (h3 : opdO vm lm hi hi' = true) (hu : P.underlying t = some .string)
    (H : opK C vs ls h (.subS y lo' hi') K) : ∃ v, K v h ∧ Pures P ρ σ a (.slice t x lo hi none) v := by
  simp only [opK, ev_eq, evO_eq] at H
  have hr := he _ _ h1
  have rl := he.opt h2
  have rh := he.opt h3
  generalize opdV vs ls y = v at H hr
  obtain ⟨s, rfl, H⟩ : ∃ s, v = .str s ∧ subSK s (lo'.map (opdV vs ls)) (hi'.map (opdV vs ls)) (fun v => K v h) := by
    cases v <;> first | exact ⟨_, rfl, H⟩ | exact H.elim
  have hx := hr.str_inv
  -- a text's bounds are those of a slice with as much room
  obtain ⟨l, e, H, hle, hel, hrun⟩ : ∃ l e, K (.str ((s.drop l).take (e - l))) h ∧ l ≤ e ∧ e ≤ s.length ∧ ∀ w, (Instr.sliceBounds false s.length s.length (lo.map a) (hi.map a) none).run P w = .ok (l, e, s.length) w := by
    have hB : boundsK s.length (some s.length) (lo'.map (opdV vs ls)) (hi'.map (opdV vs ls)) none (fun l n _ => ∃ e, n = e - l ∧ l ≤ e ∧ K (.str ((s.drop l).take n)) h) := by
      unfold subSK at H
      simp only [boundsK]
      cases hhi : hi'.map (opdV vs ls) with
      | none =>
        simp only [hhi, fN_eq] at H ⊢
        cases hlo : lo'.map (opdV vs ls) with
        | none =>
          simp only [hlo] at H ⊢
          obtain ⟨hb, H⟩ := cond_ok H
          have hb' := hb
          simp only [Bool.and_eq_true, Nat.ble_eq] at hb'
          rw [show roomOf s.length (some s.length) = s.length from rfl, hb]
          exact ⟨s.length, rfl, hb'.2, H⟩
        | some v =>
          simp only [hlo] at H ⊢
          obtain ⟨k, n, hv, H⟩ := idxK_inv H
          rw [hv]; simp only [idxK]
          obtain ⟨hb, H⟩ := cond_ok H
          have hb' := hb
          simp only [Bool.and_eq_true, Nat.ble_eq] at hb'
          rw [show roomOf s.length (some s.length) = s.length from rfl, hb]
          exact ⟨s.length, rfl, hb'.2, H⟩
      | some u =>
        simp only [hhi, fN_eq] at H ⊢
        obtain ⟨ku, e, hu', H⟩ := idxK_inv H
        rw [hu']; simp only [idxK]
        cases hlo : lo'.map (opdV vs ls) with
        | none =>
          simp only [hlo] at H ⊢
          obtain ⟨hb, H⟩ := cond_ok H
          have hb' := hb
          simp only [Bool.and_eq_true, Nat.ble_eq] at hb'
          rw [show roomOf s.length (some s.length) = s.length from rfl, hb]
          exact ⟨e, rfl, hb'.2, H⟩
        | some v =>
          simp only [hlo] at H ⊢
          obtain ⟨k, n, hv, H⟩ := idxK_inv H
          rw [hv]; simp only [idxK]
          obtain ⟨hb, H⟩ := cond_ok H
          have hb' := hb
          simp only [Bool.and_eq_true, Nat.ble_eq] at hb'
          rw [show roomOf s.length (some s.length) = s.length from rfl, hb]
          exact ⟨e, rfl, hb'.2, H⟩
    obtain ⟨l, e, m, c, ⟨e2, he2, _, hK⟩, h5, h6, h7, h8, hm, hrun⟩ := bounds_run (P := P) rl rh (mx := none) (mx' := none) trivial hB s.length (fun k hk => by cases hk; rfl) (Nat.le_refl _)
    exact ⟨l, e, hK, h5, by omega, fun w => by have := hrun false w; rw [hm rfl] at this; exact this⟩
  refine ⟨_, H, _, .str _, ?_⟩
  intro o ho w
  have hsize : ByteArray.size ⟨⟨s⟩⟩ = s.length := rfl
  simp [execOp, ho, Instr.sliceAt, run_underlying hu, Instr.slice, hx, hsize, hrun, extract_list s l e hle hel]

theorem minK_run {mx : Bool} : ∀ {l : List AVal} {v : AVal} {x : Value} {xs : List Value} {J : AVal → Prop}, VRel ρ σ v x → LRel ρ σ l xs → minK mx v l J →
    ∃ u y, J u ∧ VRel ρ σ u y ∧ ∀ w, (xs.foldlM (if mx then Builtin.max2 else Builtin.min2) x).run P w = .ok y w := by
  intro l
  induction l with
  | nil =>
    intro v x xs J hv hl H
    rw [hl.nil_inv]
    refine ⟨v, x, ?_, hv, fun w => by simp⟩
    revert H; cases v <;> simp [minK]
  | cons u l ih =>
    intro v x xs J hv hl H
    obtain ⟨y, ys, rfl, hu, hl'⟩ := hl.cons_inv
    replace H : ∃ k m j n, v = .int k m ∧ u = .int j n ∧ (bif (bif mx then ltI m n else ltI n m) then minK mx (.int k n) l J else minK mx (.int k m) l J) := by
      cases v <;> cases u <;> first | exact ⟨_, _, _, _, rfl, rfl, H⟩ | exact H.elim
    obtain ⟨k, m, j, n, rfl, rfl, H⟩ := H
    rw [hv.int_inv, hu.int_inv]
    cases mx
    · simp only [cond_false, ltI_eq, Bool.cond_decide] at H
      by_cases hlt : n < m
      · rw [if_pos hlt] at H
        obtain ⟨u, y, h1, h2, h3⟩ := ih (.int k n) hl' H
        exact ⟨u, y, h1, h2, fun w => by have := h3 w; simp [Builtin.min2, hlt] at this ⊢; exact this⟩
      · rw [if_neg hlt] at H
        obtain ⟨u, y, h1, h2, h3⟩ := ih (.int k m) hl' H
        exact ⟨u, y, h1, h2, fun w => by have := h3 w; simp [Builtin.min2, hlt] at this ⊢; exact this⟩
    · simp only [cond_true, ltI_eq, Bool.cond_decide] at H
      by_cases hlt : m < n
      · rw [if_pos hlt] at H
        obtain ⟨u, y, h1, h2, h3⟩ := ih (.int k n) hl' H
        exact ⟨u, y, h1, h2, fun w => by have := h3 w; simp [Builtin.max2, hlt] at this ⊢; exact this⟩
      · rw [if_neg hlt] at H
        obtain ⟨u, y, h1, h2, h3⟩ := ih (.int k m) hl' H
        exact ⟨u, y, h1, h2, fun w => by have := h3 w; simp [Builtin.max2, hlt] at this ⊢; exact this⟩

theorem pure_minmax {mx : Bool} {as : List Opd} {c : Call} (he : Env ρ σ vm lm vs ls a) (h1 : opdsOk vm lm c.args.toList as = true) (hc : c.callee = .builtin (if mx then .max else .min))
    (H : opK C vs ls h (.minmax mx as) K) : ∃ v, K v h ∧ Pures P ρ σ a (.call c) v := by
  simp only [opK, evs_eq] at H
  have hr := he.list _ _ h1
  generalize as.map (opdV vs ls) = l at H hr
  cases l with
  | nil => exact H.elim
  | cons v l =>
    obtain ⟨x, xs, hx, hv, hl⟩ := hr.cons_inv
    obtain ⟨u, y, H, hu, hrun⟩ := minK_run (P := P) hv hl H
    refine ⟨_, H, _, hu, ?_⟩
    intro o ho w
    cases mx
    · have := hrun w
      simp at this
      simp [execOp, ho, resolve, hc, invoke, builtin, Builtin.min_, hx, this]
    · have := hrun w
      simp at this
      simp [execOp, ho, resolve, hc, invoke, builtin, Builtin.max_, hx, this]

theorem pure_len {str : Bool} {t : TypeId} {x : Operand} {y : Opd} {c : Call} (he : Env ρ σ vm lm vs ls a) (h1 : opdOk vm lm x y = true) (hc : c.callee = .builtin .len) (ha : c.args = #[x]) (hat : c.argTypes = #[t])
    (hu : (str = true ∧ P.underlying t = some .string) ∨ (str = false ∧ ∃ e, P.underlying t = some (.slice e))) (H : opK C vs ls h (.len str y) K) : ∃ v, K v h ∧ Pures P ρ σ a (.call c) v := by
  simp only [opK, ev_eq] at H
  have hr := he _ _ h1
  generalize opdV vs ls y = v at H hr
  replace H := cond_ok H
  obtain ⟨hb, H⟩ := H
  rcases hu with ⟨rfl, hu⟩ | ⟨rfl, e, hu⟩
  · cases v with
    | str s =>
      simp only [lenOfK, fN_eq] at H
      refine ⟨_, H, _, .int _ _, ?_⟩
      intro o ho w
      simp [execOp, ho, resolve, hc, ha, hat, invoke, builtin, Builtin.len_, run_underlying hu, hr.str_inv, goInt]
      rfl
    | _ => simp [isStr] at hb
  · cases v with
    | nilslice =>
      refine ⟨_, H, _, .int _ _, ?_⟩
      intro o ho w
      simp [execOp, ho, resolve, hc, ha, hat, invoke, builtin, Builtin.len_, run_underlying hu, hr.nilslice_inv, goInt]
    | slice id off len cap z =>
      obtain ⟨_, _, _, _, ad, _, _, _, _, _, hx⟩ := hr.slice_inv
      refine ⟨_, H, _, .int _ _, ?_⟩
      intro o ho w
      simp [execOp, ho, resolve, hc, ha, hat, invoke, builtin, Builtin.len_, run_underlying hu, hx, goInt]
    | islice row off len cap z =>
      obtain ⟨_, _, _, _, _, ad, _, _, _, _, _, _, hx⟩ := hr.islice_inv
      refine ⟨_, H, _, .int _ _, ?_⟩
      intro o ho w
      simp [execOp, ho, resolve, hc, ha, hat, invoke, builtin, Builtin.len_, run_underlying hu, hx, goInt]
    | str s => simp [isStr] at hb
    | _ => exact H.elim

end
end Go.Zy
