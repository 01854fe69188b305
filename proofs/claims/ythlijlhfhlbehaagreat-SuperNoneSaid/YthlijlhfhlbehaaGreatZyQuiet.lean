/- Quiet operations: what the check of an operation gives, all in one. -/
import Derived.Test.YthlijlhfhlbehaaGreatZyRead
import Derived.Test.YthlijlhfhlbehaaGreatZyMake2
set_option linter.unusedSimpArgs false
set_option linter.unusedVariables false
namespace Go.Zy
section
variable {P : Program} {ρ : Nm} {σ : Im} {vm lm : List Nat} {vs ls : List AVal} {a : Operand → Value} {C : CallK} {h : Heap} {w : World} {K : AVal → Heap → Prop}

theorem one_arr {α : Type} {c : Array α} {x : α} (e : c.toList = [x]) : c = #[x] := Array.toList_inj.1 (by simpa using e)
theorem two_arr {α : Type} {c : Array α} {x y : α} (e : c.toList = [x, y]) : c = #[x, y] := Array.toList_inj.1 (by simpa using e)
theorem one_of_size {α : Type} {c : Array α} (h : c.size = 1) : ∃ x, c = #[x] := by
  cases hl : c.toList with
  | nil => have : c.size = 0 := by rw [← Array.length_toList, hl]; rfl
           omega
  | cons x l => cases l with
    | nil => exact ⟨x, one_arr hl⟩
    | cons y l => have : c.size = l.length + 2 := by rw [← Array.length_toList, hl]; rfl
                  omega
theorem one_type {c : Array TypeId} (h : c.size = 1) : c = #[c.getD 0 0] := by
  apply Array.ext
  · simpa using h
  · intro i h1 h2
    have : i = 0 := by omega
    subst this
    simp [h]
theorem some_type {c : Array TypeId} (h : 1 ≤ c.size) : ∃ ts, c.toList = c.getD 0 0 :: ts := by
  cases hc : c.toList with
  | nil => have : c.size = 0 := by rw [← Array.length_toList, hc]; rfl
           omega
  | cons t ts =>
    refine ⟨ts, ?_⟩
    have : c[0]? = some t := by rw [← Array.getElem?_toList, hc]; rfl
    simp [this]
theorem sub_type {t : TypeId} {sz : Nat} (h : sliceOf P t sz = true) : ∃ e, P.underlying t = some (.slice e) ∧ sizeIs P e sz = true := sliceOf_some h

theorem convert_str {s d : TypeId} {x : ByteArray} (hs : P.underlying s = some .string) (hd : P.underlying d = some .string) (w : World) : (convert s d (.string x)).run P w = .ok (.string x) w := by
  simp [convert, run_underlying hs, run_underlying hd]

theorem quiet_pure {op : Op} {ty : TypeId} {r : ROp} (hr : r.pure = true) (hc : opOk P vm lm op ty r = true) (he : Env ρ σ vm lm vs ls a) (ha : Consts a) (H : opK C vs ls h r K) : ∃ v, K v h ∧ Pures P ρ σ a op v := by
  unfold opOk at hc
  dsimp only at hc
  split at hc
  · -- move
    split at hc
    · obtain ⟨v, h1, h2, _⟩ := pure_mv (P := P) he hc H; exact ⟨v, h1, h2⟩
    · cases hc
  · split at hc
    · obtain ⟨v, h1, _, h2⟩ := pure_mv (P := P) he hc H; exact ⟨v, h1, h2⟩
    · cases hc
  · split at hc
    · simp only [Bool.and_eq_true] at hc; exact pure_pick he hc.1.1 hc.1.2 hc.2 H
    · cases hc
  · split at hc
    · simp only [Bool.and_eq_true, decide_eq_true_eq] at hc; obtain ⟨rfl, hc⟩ := hc; exact pure_un he hc H
    · cases hc
  · -- binOp
    split at hc
    · simp only [Bool.and_eq_true, decide_eq_true_eq] at hc; obtain ⟨⟨rfl, h1⟩, h2⟩ := hc; exact pure_bin he h1 h2 H
    · simp only [Bool.and_eq_true, decide_eq_true_eq] at hc
      obtain ⟨⟨⟨rfl, h1⟩, h2⟩, h3⟩ := hc
      split at h3
      · exact pure_eqb he h1 h2 ‹_› H
      · cases h3
    · simp only [Bool.and_eq_true, Bool.or_eq_true, decide_eq_true_eq] at hc
      obtain ⟨rfl, h1⟩ := hc
      exact pure_isnil he ha h1 H
    · simp only [Bool.and_eq_true, decide_eq_true_eq] at hc
      obtain ⟨⟨⟨rfl, h1⟩, h2⟩, h3⟩ := hc
      exact pure_eqagg he h1 h2 h3 H
    · cases hc
  · -- convert
    split at hc
    · simp only [Bool.and_eq_true] at hc
      obtain ⟨h1, h2⟩ := hc
      split at h2
      · simp only [decide_eq_true_eq] at h2; subst h2; exact pure_conv he h1 ⟨_, ‹_›⟩ ‹_› H
      · cases h2
    · simp only [Bool.and_eq_true] at hc
      obtain ⟨⟨h1, h2⟩, h3⟩ := hc
      split at h2
      · rename_i hs hd
        split at h3
        · rename_i z
          obtain ⟨v, h4, h5, _⟩ := pure_mv (P := P) he h1 H
          obtain ⟨y, h6, h7⟩ := h5
          refine ⟨v, h4, y, h6, fun o ho w => ?_⟩
          have h8 := h7 { o with op := .move (.const (.string z)) } rfl w
          simp only [execOp, Sem.run_pure, Result.ok.injEq, Next.value.injEq, and_true] at h8
          rw [ha] at h8
          subst h8
          simp only [execOp, ho, Sem.run_bind]; rw [ha, convert_str hs hd]; simp only [Result.andThen_ok, Sem.run_pure]
        · cases h3
      · cases h2
    · cases hr
    · cases hr
    · cases hr
    · cases hr
    · cases hc
  · -- fieldAddr
    split at hc
    · simp only [Bool.and_eq_true] at hc
      obtain ⟨h1, h2⟩ := hc
      split at h2
      · rename_i fs hu
        split at h2
        · rename_i g hg
          simp only [Bool.and_eq_true, decide_eq_true_eq] at h2
          obtain ⟨h2, h3⟩ := h2
          split at h3
          · rename_i i hi
            exact pure_fld he h1 hu hg h2 hi (by simpa using h3) H
          · cases h3
        · cases h2
      · cases h2
    · cases hc
  · -- indexAddr
    split at hc
    · simp only [Bool.and_eq_true] at hc; exact pure_idx he hc.1.1 hc.1.2 hc.2 H
    · simp only [Bool.and_eq_true] at hc
      obtain ⟨⟨h1, h2⟩, h3⟩ := hc
      split at h3
      · simp only [Bool.and_eq_true, decide_eq_true_eq] at h3; obtain ⟨rfl, h3⟩ := h3; exact pure_idxA he h1 h2 ‹_› h3 H
      · cases h3
    · cases hc
  · split at hc <;> first | cases hr | cases hc
  · split at hc <;> first | cases hr | cases hc
  · -- nilCheck
    split at hc
    · exact pure_nilchk he hc H
    · simp only [Bool.and_eq_true] at hc; exact pure_nilm he hc.1 hc.2 H
    · cases hc
  · split at hc <;> first | cases hr | cases hc
  · split at hc <;> first | cases hr | cases hc
  · -- build
    split at hc
    · simp only [Bool.and_eq_true] at hc
      obtain ⟨h1, h2⟩ := hc
      refine pure_build he h1 ?_ H
      split at h2
      · rename_i fs hu; simp only [Bool.and_eq_true] at h2; exact .inl ⟨fs, hu, h2.1, h2.2⟩
      · rename_i n e hu
        split at h2
        · rename_i i hi; exact .inr ⟨n, e, i, hu, hi, h2⟩
        · cases h2
      · cases h2
    · cases hc
  · split at hc <;> first | cases hr | cases hc
  · -- extract
    split at hc
    · simp only [Bool.and_eq_true, decide_eq_true_eq] at hc; obtain ⟨rfl, hc⟩ := hc; exact pure_ext he hc H
    · cases hc
  · -- index
    split at hc
    · simp only [Bool.and_eq_true] at hc
      obtain ⟨⟨h1, h2⟩, h3⟩ := hc
      split at h3
      · exact pure_idxS he h1 h2 ‹_› H
      · cases h3
    · simp only [Bool.and_eq_true] at hc
      obtain ⟨⟨h1, h2⟩, h3⟩ := hc
      split at h3
      · simp only [Bool.and_eq_true, decide_eq_true_eq] at h3; obtain ⟨⟨rfl, h3⟩, h4⟩ := h3; exact pure_idxV he h1 h2 ‹_› h3 h4 H
      · cases h3
    · cases hc
  · -- slice
    split at hc
    · simp only [Bool.and_eq_true] at hc
      obtain ⟨⟨⟨⟨h1, h2⟩, h3⟩, h4⟩, h5⟩ := hc
      split at h5
      · rename_i mx _ _ _ _ _ hu
        cases mx with
        | none => exact pure_subS he h1 h2 h3 hu H
        | some _ => cases h4
      · cases h5
    · simp only [Bool.and_eq_true] at hc
      obtain ⟨⟨⟨⟨h1, h2⟩, h3⟩, h4⟩, h5⟩ := hc
      exact pure_sub he h1 h2 h3 h4 h5 H
    · cases hr
    · cases hc
  · -- sliceToArrayPointer
    split at hc
    · simp only [Bool.and_eq_true] at hc
      obtain ⟨h1, h2⟩ := hc
      split at h2
      · simp only [decide_eq_true_eq] at h2; subst h2; exact pure_s2ap he h1 ‹_› H
      · cases h2
    · cases hc
  · split at hc <;> first | cases hr | cases hc
  · split at hc <;> first | cases hr | cases hc
  · split at hc <;> first | cases hr | cases hc
  · split at hc <;> first | cases hr | cases hc
  · split at hc <;> first | cases hr | cases hc
  · -- makeInterface
    split at hc
    · simp only [Bool.and_eq_true, decide_eq_true_eq] at hc
      obtain ⟨⟨rfl, h1⟩, h2⟩ := hc
      split at h2
      · cases h2
      · rename_i d hd hu; exact pure_mkiface he h1 hu (fun ms e => hd ms e) H
      · cases h2
    · cases hc
  · -- typeAssert
    split at hc
    · simp only [Bool.and_eq_true, decide_eq_true_eq] at hc
      obtain ⟨⟨⟨⟨rfl, rfl⟩, h1⟩, h2⟩, h3⟩ := hc
      split at h3
      · cases h3
      · rename_i d hd hu; exact pure_assert he h1 h2 hu (fun ms e => hd ms e) H
      · cases h3
    · cases hc
  · -- makeFunc
    split at hc
    · simp only [Bool.and_eq_true, decide_eq_true_eq] at hc
      obtain ⟨⟨⟨rfl, h1⟩, h2⟩, h3⟩ := hc
      refine pure_mkfn he ?_ h2 h3 H
      intro l e; subst e; cases h1
    · cases hc
  · split at hc <;> first | cases hr | cases hc
  · split at hc <;> first | cases hr | cases hc
  · split at hc <;> first | cases hr | cases hc
  · split at hc <;> first | cases hr | cases hc
  · -- call
    split at hc
    · split at hc <;> first | cases hr | cases hc
    · split at hc <;> first | cases hr | cases hc
    · rename_i c _ b hb
      split at hc
      · -- len
        split at hc
        · simp only [Bool.and_eq_true, decide_eq_true_eq] at hc
          obtain ⟨⟨h1, h2⟩, h3⟩ := hc
          split at h1
          case h_2 => cases h1
          rename_i x hx
          refine pure_len he h1 hb (one_arr hx) (one_type h3) ?_ H
          split at h2
          · exact .inl ⟨h2, ‹_›⟩
          · exact .inr ⟨by simpa using h2, _, ‹_›⟩
          · cases h2
        · cases hr
        · simp only [Bool.and_eq_true, decide_eq_true_eq] at hc
          obtain ⟨⟨h1, h3⟩, h2⟩ := hc
          obtain ⟨x, hx⟩ := one_of_size h1
          refine pure_lenA ?_ hb hx (one_type h3) H
          split at h2
          · simp only [decide_eq_true_eq] at h2; subst h2; exact .inl ⟨_, ‹_›⟩
          · rename_i a' hu
            split at h2
            · simp only [decide_eq_true_eq] at h2; subst h2; exact .inr ⟨_, _, hu, ‹_›⟩
            · cases h2
          · cases h2
        · cases hc
      · -- cap
        split at hc
        · simp only [Bool.and_eq_true, decide_eq_true_eq] at hc
          obtain ⟨⟨h1, h2⟩, h3⟩ := hc
          split at h1
          case h_2 => cases h1
          rename_i x hx
          split at h2
          · exact pure_cap he h1 hb (one_arr hx) (one_type h3) ‹_› H
          · cases h2
        · cases hc
      · split at hc
        · simp only [Bool.and_eq_true, Bool.not_eq_true'] at hc
          obtain ⟨rfl, h1⟩ := hc
          exact pure_minmax (mx := false) he h1 hb H
        · cases hc
      · split at hc
        · simp only [Bool.and_eq_true] at hc
          obtain ⟨rfl, h1⟩ := hc
          exact pure_minmax (mx := true) he h1 hb H
        · cases hc
      · split at hc
        · split at hc <;> first | cases hr | cases hc
        · cases hc
      · split at hc <;> first | cases hr | cases hc
      · split at hc <;> first | cases hr | cases hc
      · split at hc <;> first | cases hr | cases hc
      · cases hc
  · cases hc

theorem quiet_reads {op : Op} {ty : TypeId} {r : ROp} (hr : r.reads = true) (hc : opOk P vm lm op ty r = true) (he : Env ρ σ vm lm vs ls a) (rr : RRel P ρ σ h w) (H : opK C vs ls h r K) :
    ∃ v z, K v h ∧ VRel ρ σ v z ∧ ∀ o : Oper, o.op = op → (execOp a o).run P w = .ok (.value z) w := by
  unfold opOk at hc
  dsimp only at hc
  split at hc
  all_goals try (split at hc <;> first | (cases hr; done) | (cases hc; done))
  · -- convert
    split at hc
    · cases hr
    · cases hr
    · simp only [Bool.and_eq_true] at hc
      obtain ⟨h1, h2⟩ := hc
      split at h2
      · rename_i hs hd
        simp only [Bool.and_eq_true] at h2
        obtain ⟨h2, h3⟩ := h2
        split at h2
        · exact read_b2s he rr h1 hs ‹_› hd H
        · cases h2
      · cases h2
    · cases hr
    · simp only [Bool.and_eq_true] at hc
      obtain ⟨h1, h2⟩ := hc
      split at h2
      · rename_i hs hd
        split at h2
        · rename_i i hi
          exact read_uptr he rr h1 hs hd hi (by simpa using h2) H
        · cases h2
      · cases h2
    · cases hr
    · cases hc
  · -- load
    split at hc
    · simp only [Bool.and_eq_true] at hc; exact read_ld he rr hc.1 hc.2 H
    · simp only [Bool.and_eq_true] at hc; exact read_ldn he rr hc.1.1 hc.1.2 hc.2 H
    · cases hc
  · -- slice
    split at hc
    · cases hr
    · cases hr
    · simp only [Bool.and_eq_true] at hc
      obtain ⟨⟨⟨⟨h1, h2⟩, h3⟩, h4⟩, h5⟩ := hc
      split at h5
      · simp only [Bool.and_eq_true, decide_eq_true_eq] at h5; obtain ⟨rfl, h5⟩ := h5; exact read_subA he rr h1 h2 h3 h4 ‹_› h5 H
      · cases h5
    · cases hc
  · -- lookup
    split at hc
    · simp only [Bool.and_eq_true, decide_eq_true_eq] at hc
      obtain ⟨⟨⟨rfl, h1⟩, h2⟩, h3⟩ := hc
      split at h3
      · simp only [Bool.and_eq_true] at h3; exact read_lookup he rr h1 h2 ‹_› h3.1 h3.2 H
      · cases h3
    · cases hc
  · -- entry
    split at hc
    · exact read_entry he rr hc H
    · cases hc
  · -- call
    split at hc
    · split at hc <;> first | cases hr | cases hc
    · split at hc <;> first | cases hr | cases hc
    · rename_i c _ b hb
      split at hc
      · split at hc
        · cases hr
        · simp only [Bool.and_eq_true, decide_eq_true_eq] at hc
          obtain ⟨⟨h1, h2⟩, h3⟩ := hc
          split at h1
          case h_2 => cases h1
          rename_i x hx
          split at h2
          · exact read_lenM he rr h1 hb (one_arr hx) (one_type h3) ‹_› H
          · cases h2
        · cases hr
        · cases hc
      · split at hc <;> first | cases hr | cases hc
      · split at hc <;> first | cases hr | cases hc
      · split at hc <;> first | cases hr | cases hc
      · split at hc
        · split at hc <;> first | cases hr | cases hc
        · cases hc
      · split at hc <;> first | cases hr | cases hc
      · split at hc <;> first | cases hr | cases hc
      · split at hc <;> first | cases hr | cases hc
      · cases hc
  · cases hc

theorem quiet_makes {op : Op} {ty : TypeId} {r : ROp} (hr : r.makes = true) (hc : opOk P vm lm op ty r = true) (he : Env ρ σ vm lm vs ls a) (H : opK C vs ls h r K) :
    ∃ obj v, K v (h.new obj) ∧ Makes P ρ σ a op h.next obj v := by
  unfold opOk at hc
  dsimp only at hc
  split at hc
  all_goals try (split at hc <;> first | (cases hr; done) | (cases hc; done))
  · -- convert
    split at hc
    · cases hr
    · cases hr
    · cases hr
    · simp only [Bool.and_eq_true] at hc
      obtain ⟨h1, h2⟩ := hc
      split at h2
      · rename_i hs hd
        split at h2
        · exact make_s2b he h1 hs hd ‹_› H
        · cases h2
      · cases h2
    · cases hr
    · cases hr
    · cases hc
  · -- alloc
    split at hc
    · exact make_alloc hc H
    · cases hc
  · split at hc
    · exact make_box he hc H
    · cases hc
  · -- buildSlice
    split at hc
    · simp only [Bool.and_eq_true, decide_eq_true_eq] at hc
      obtain ⟨⟨rfl, hlim⟩, h2⟩ := hc
      split at h2
      · rename_i e hu
        simp only [Bool.and_eq_true] at h2
        obtain ⟨⟨h3, h4⟩, h5⟩ := h2
        split at h4
        · rename_i i hi
          split at h4
          · rename_i zx hzx
            simp only [Bool.and_eq_true, decide_eq_true_eq] at h4
            exact make_buildS he hu h3 hi hzx h4.1 h4.2 hlim h5 H
          · cases h4
        · cases h4
      · cases h2
    · cases hc
  · -- makeSlice
    split at hc
    · simp only [Bool.and_eq_true] at hc
      obtain ⟨⟨h1, h2⟩, h3⟩ := hc
      split at h3
      · rename_i e hu
        simp only [Bool.and_eq_true, decide_eq_true_eq] at h3
        obtain ⟨⟨⟨h4, h5⟩, h6⟩, h7⟩ := h3
        exact make_make he h1 h2 hu h4 h5 h6 H
      · cases h3
    · cases hc
  · split at hc
    · exact make_mkmap H
    · cases hc
  · -- call
    split at hc
    · split at hc <;> first | cases hr | cases hc
    · split at hc <;> first | cases hr | cases hc
    · rename_i c _ b hb
      split at hc
      · split at hc <;> first | cases hr | cases hc
      · split at hc <;> first | cases hr | cases hc
      · split at hc <;> first | cases hr | cases hc
      · split at hc <;> first | cases hr | cases hc
      · split at hc
        · split at hc <;> first | cases hr | cases hc
        · cases hc
      · split at hc <;> first | cases hr | cases hc
      · split at hc <;> first | cases hr | cases hc
      · split at hc <;> first | cases hr | cases hc
      · cases hc
  · cases hc
end
end Go.Zy
