/- Every operation but defer: what it comes to, by its check. -/
import Derived.Test.YthlijlhfhlbehaaGreatZyNext
import Derived.Test.YthlijlhfhlbehaaGreatZyCopy
import Derived.Test.YthlijlhfhlbehaaGreatZyClear
import Derived.Test.YthlijlhfhlbehaaGreatZyApp4
set_option linter.unusedSimpArgs false
set_option linter.unusedVariables false
namespace Go.Zy
section
variable {P : Program} {ρ : Nm} {σ : Im} {vm lm : List Nat} {vs ls : List AVal} {a : Operand → Value} {C : CallK} {h : Heap} {w : World} {K : AVal → Heap → Prop}

theorem Writes.answers {op : Op} (H : Writes P σ ρ h w a op K) : ∀ o : Oper, o.op = op → Answers P (execOp a o) w (Out P σ ρ h w K) := by
  intro o ho
  obtain ⟨v, h', ρ', w', x, g1, g2, g3, g4⟩ := H
  rcases g4 o ho with g | ⟨g, rfl⟩
  · exact .value x w' g ⟨v, h', ρ', g1, g2, g3⟩
  · exact .skip w' g ⟨v, h', ρ', g1, g2, g3⟩

theorem bodied_call {f : FuncId} {args : Array Value} (hb : bodied P f = true) (w : World) : (callFunc f args).run P w = .ok (.enter f args) w := by
  unfold bodied at hb
  split at hb
  · rename_i fn hf
    simp only [Bool.and_eq_true, decide_eq_true_eq] at hb
    have hn : fn.body.isNone = false := by cases hh : fn.body <;> simp_all
    have hn' : fn.body ≠ none := by intro e; rw [e] at hn; cases hn
    simp [callFunc, hf, hb.2, hn']
  · cases hb

theorem methodsOk_mem {name : String} : ∀ {tbl : List (TypeId × FuncId)} {t : TypeId} {J : FuncId → Prop}, methodsOk P name tbl = true → tblK tbl t J → ∃ f, J f ∧ methodOk P name t f = true := by
  intro tbl
  induction tbl with
  | nil => intro t J _ h; exact h.elim
  | cons x l ih =>
    obtain ⟨u, f⟩ := x
    intro t J hm H
    simp only [methodsOk, Bool.and_eq_true] at hm
    simp only [tblK] at H
    cases hb : Nat.beq u t with
    | true => rw [hb] at H; obtain rfl := Nat.eq_of_beq_eq_true hb; exact ⟨f, H, hm.1⟩
    | false => rw [hb] at H; exact ih hm.2 H

theorem method_run {name : String} {t : TypeId} {f : FuncId} {v : Value} (hm : methodOk P name t f = true) (n : Nat) (w : World) : (method (n + 1) t v name).run P w = .ok (f, v) w ∧ bodied P f = true := by
  unfold methodOk at hm
  split at hm
  · rename_i i e hi hu
    split at hm
    · rename_i m hf
      simp only [Bool.and_eq_true, decide_eq_true_eq] at hm
      obtain ⟨⟨h1, h2⟩, h3⟩ := hm
      have hp : m.path.toList = [] := by simpa using h1
      refine ⟨?_, h3⟩
      simp [method, run_info hi, hf, hp, follow, h2, receiverAt, run_underlying hu, Place.get]
    · cases hm
  · cases hm

theorem call_sound (hC : ∀ f args h K, C f args h K → CallSem P σ f args h K) {g : Operand} {f : Opd} {xs : List Operand} {ys : List Opd} (he : Env ρ σ vm lm vs ls a) (r : Rel P ρ σ h w) (h1 : opdOk vm lm g f = true)
    (h2 : opdsOk vm lm xs ys = true) (H : opK C vs ls h (.call f ys) K) : Answers P (invoked (a g) (xs.map a).toArray) w (Out P σ ρ h w K) := by
  simp only [opK, ev_eq, evs_eq] at H
  exact hC _ _ _ _ H ρ w _ _ r (he _ _ h1) (he.list _ _ h2)

theorem op_sound (hC : ∀ f args h K, C f args h K → CallSem P σ f args h K) {op : Op} {ty : TypeId} {r : ROp} (hc : opOk P vm lm op ty r = true) (hd : ∀ c, op ≠ .defer c) (he : Env ρ σ vm lm vs ls a) (ha : Consts a) (rel : Rel P ρ σ h w)
    (H : opK C vs ls h r K) : ∀ o : Oper, o.op = op → Answers P (execOp a o) w (Out P σ ρ h w K) := by
  intro o ho
  by_cases hp : r.pure = true
  · obtain ⟨v, h1, x, h2, h3⟩ := quiet_pure hp hc he ha H
    exact .value x w (h3 o ho w) ⟨v, h, ρ, h1, Evo.refl rel, h2⟩
  by_cases hr : r.reads = true
  · obtain ⟨v, x, h1, h2, h3⟩ := quiet_reads hr hc he rel.reader H
    exact .value x w (h3 o ho) ⟨v, h, ρ, h1, Evo.refl rel, h2⟩
  by_cases hm : r.makes = true
  · obtain ⟨obj, v, h1, h2⟩ := quiet_makes hm hc he H
    obtain ⟨x, ob, n, w', g1, g2, g3⟩ := h2 w
    have hn : ρ h.next = none := by
      cases hq : ρ h.next with
      | none => rfl
      | some y => obtain ⟨b, o, n⟩ := y; have := (rel.dom _ _ _ _ hq).2; omega
    obtain ⟨g4, g5⟩ := g3 _ (upd_sub hn) upd_same
    exact .value x w' (g2 o ho) ⟨v, _, _, h1, Evo.new rel g1 g5, g4⟩
  unfold opOk at hc
  dsimp only at hc
  split at hc
  all_goals try (split at hc <;> first | (exact (hp rfl).elim) | (exact (hr rfl).elim) | (exact (hm rfl).elim) | (exact absurd hc (by decide)))
  · -- convert
    split at hc
    · exact (hp rfl).elim
    · exact (hp rfl).elim
    · exact (hr rfl).elim
    · exact (hm rfl).elim
    · exact (hr rfl).elim
    · simp only [Bool.and_eq_true, decide_eq_true_eq] at hc
      obtain ⟨⟨h1, rfl⟩, h2⟩ := hc
      split at h2
      · rename_i hu
        split at h2
        · exact (write_same he rel h1 hu ‹_› H).answers o ho
        · cases h2
      · cases h2
    · cases hc
  · -- store
    split at hc
    · simp only [Bool.and_eq_true, decide_eq_true_eq] at hc
      obtain ⟨⟨⟨h1, h2⟩, h3⟩, h4⟩ := hc
      exact (write_st he rel h1 h2 h3 h4 H).answers o ho
    · cases hc
  · -- mapUpdate
    split at hc
    · simp only [Bool.and_eq_true] at hc
      obtain ⟨⟨⟨h1, h2⟩, h3⟩, h4⟩ := hc
      split at h4
      · obtain ⟨u, h', w', g1, g2, rfl, g4⟩ := write_mapset he rel h1 h2 h3 ‹_› h4 H
        exact .skip w' (by simp [execOp, ho, g4]) ⟨_, _, _, g1, g2, .junk _⟩
      · cases h4
    · cases hc
  · -- insert
    split at hc
    · simp only [Bool.and_eq_true] at hc
      obtain ⟨⟨⟨h1, h2⟩, h3⟩, h4⟩ := hc
      split at h4
      · obtain ⟨u, h', w', g1, g2, rfl, g4⟩ := write_mapset he rel h1 h2 h3 ‹_› h4 H
        exact .skip w' (by simp [execOp, ho, g4]) ⟨_, _, _, g1, g2, .junk _⟩
      · cases h4
    · cases hc
  · -- range
    split at hc
    · simp only [Bool.and_eq_true] at hc
      obtain ⟨h1, h2⟩ := hc
      split at h2
      · exact (write_range he rel h1 ‹_› H).answers o ho
      · cases h2
    · cases hc
  · -- next
    split at hc
    · simp only [Bool.and_eq_true, Bool.not_eq_true'] at hc
      obtain ⟨h1, rfl⟩ := hc
      obtain ⟨v, h', w', z, g1, g2, g3, g4⟩ := write_next (ty := ty) he rel h1 H o ho
      exact .value z w' g4 ⟨v, h', ρ, g1, g2, g3⟩
    · cases hc
  · exact absurd rfl (hd _)
  · -- call
    split at hc
    · -- value
      rename_i c _ g hg
      split at hc
      · simp only [Bool.and_eq_true] at hc
        refine (call_sound hC he rel hc.1 hc.2 H).congr ?_
        have : (c.args.toList.map a).toArray = c.args.map a := by apply Array.toList_inj.1; simp
        simp only [execOp, ho, resolve, hg, invoked, this]
      · cases hc
    · -- invoke
      rename_i c _ x name hg
      split at hc
      · rename_i tbl y as
        simp only [Bool.and_eq_true] at hc
        obtain ⟨⟨h1, h2⟩, h3⟩ := hc
        simp only [opK, ev_eq, evs_eq] at H
        have hv := he _ _ h1
        have hl := he.list _ _ h2
        generalize opdV vs ls y = v at H hv
        cases v with
        | iface t u =>
          simp only at H
          obtain ⟨z, hz, hx⟩ := hv.iface_inv
          obtain ⟨f, H, hmo⟩ := methodsOk_mem h3 H
          obtain ⟨hrun, hbod⟩ := method_run (v := z) hmo (P.types.size + (Made.depth - 1)) w
          have := hC _ _ _ _ H ρ w (.func (.func f) #[] #[]) (z :: c.args.toList.map a) rel (.func (.func f) (by intro l e; cases e) (xs := []) (ys := []) rfl rfl (by intro i v x e; simp at e) (by intro i v x e; simp at e)) (.cons hz hl)
          refine this.congr ?_
          have e1 : (z :: c.args.toList.map a).toArray = #[z] ++ c.args.map a := by apply Array.toList_inj.1; simp
          have e2 : (P.types.size + Made.depth) = (P.types.size + (Made.depth - 1)) + 1 := rfl
          have e3 : (#[Value.iface t z] ++ Array.map a c.args)[0]? = some (.iface t z) := by rw [Array.getElem?_append_left (Nat.zero_lt_one)]; rfl
          have e4 : (#[Value.iface t z] ++ Array.map a c.args).extract 1 (#[Value.iface t z] ++ Array.map a c.args).size = Array.map a c.args := by apply Array.toList_inj.1; simp [List.extract_eq_take_drop]; rw [List.take_of_length_le (by simp)]
          have e5 : #[z] ++ Array.map a c.args = #[] ++ (z :: c.args.toList.map a).toArray ++ #[] := by rw [e1, Array.append_empty, Array.empty_append]
          simp only [execOp, ho, resolve, hg, hx, Sem.run_bind, Sem.run_pure, Result.andThen_ok, invoke, e3, callMethod, run_program, e2, hrun, e4, invoked, Deferred.ofValue, ← e5]
        | _ => exact H.elim
      · cases hc
    · -- builtin
      rename_i c _ b hb
      split at hc
      · split at hc <;> first | exact (hp rfl).elim | exact (hr rfl).elim | cases hc
      · split at hc <;> first | exact (hp rfl).elim | exact (hr rfl).elim | cases hc
      · split at hc <;> first | exact (hp rfl).elim | exact (hr rfl).elim | cases hc
      · split at hc <;> first | exact (hp rfl).elim | exact (hr rfl).elim | cases hc
      · -- append
        split at hc
        · rename_i t u hat
          have hat' : c.argTypes = #[t, u] := two_arr hat
          split at hc
          · simp only [Bool.and_eq_true, decide_eq_true_eq] at hc
            obtain ⟨⟨⟨⟨h1, h2⟩, h3⟩, h4⟩, h5⟩ := hc
            split at h1
            case h_2 => cases h1
            rename_i x y hx
            simp only [Bool.and_eq_true] at h1
            split at h4
            case h_2 => cases h4
            rename_i e hu
            simp only [Bool.and_eq_true] at h4
            obtain ⟨⟨h6, h7⟩, h8⟩ := h4
            split at h8
            case h_2 => cases h8
            rename_i i hi
            split at h8
            case h_2 => cases h8
            rename_i zx hzx
            simp only [decide_eq_true_eq] at h8
            obtain ⟨v, h', ρ', w', z, g1, g2, g3, g4⟩ := write_append he rel hb (two_arr hx) hat' h1.1 h1.2 h2 h3 hu h6 h7 hi hzx h8 (by
              split at h5
              · exact .inl ⟨_, ‹_›⟩
              · exact .inr ⟨‹_›, by simpa using h5⟩
              · cases h5) H o ho
            exact .value z w' g4 ⟨v, h', ρ', g1, g2, g3⟩
          · simp only [Bool.and_eq_true, decide_eq_true_eq] at hc
            obtain ⟨⟨⟨⟨h1, h2⟩, h3⟩, h4⟩, h5⟩ := hc
            split at h1
            case h_2 => cases h1
            rename_i x y hx
            simp only [Bool.and_eq_true] at h1
            split at h4
            case h_2 => cases h4
            rename_i e hu
            simp only [Bool.and_eq_true] at h4
            obtain ⟨⟨h6, h7⟩, h8⟩ := h4
            split at h5
            case h_2 => cases h5
            obtain ⟨v, h', ρ', w', z, g1, g2, g3, g4⟩ := write_appendZ he rel hb (two_arr hx) hat' h1.1 h1.2 h2 h3 hu h6 h7 h8 ‹_› H o ho
            exact .value z w' g4 ⟨v, h', ρ', g1, g2, g3⟩
          · cases hc
        · cases hc
      · -- copy
        split at hc
        · simp only [Bool.and_eq_true, decide_eq_true_eq] at hc
          obtain ⟨⟨⟨h1, h2⟩, h3⟩, h4⟩ := hc
          split at h1
          case h_2 => cases h1
          rename_i x y hx
          simp only [Bool.and_eq_true] at h1
          obtain ⟨e, hu, hs⟩ := sliceOf_some h3
          obtain ⟨ts, hts⟩ := some_type h4
          exact (write_copy he rel hb (two_arr hx) hts h1.1 h1.2 h2 hu hs H).answers o ho
        · cases hc
      · -- delete
        split at hc
        · simp only [Bool.and_eq_true, decide_eq_true_eq] at hc
          obtain ⟨⟨h1, h2⟩, h3⟩ := hc
          split at h1
          case h_2 => cases h1
          rename_i x y hx
          simp only [Bool.and_eq_true] at h1
          obtain ⟨ts, hts⟩ := some_type h2
          split at h3
          · exact (write_mapdel he rel hb (two_arr hx) hts h1.1 h1.2 ‹_› h3 H).answers o ho
          · cases h3
        · cases hc
      · -- clear
        split at hc
        · simp only [Bool.and_eq_true, decide_eq_true_eq] at hc
          obtain ⟨⟨h1, h2⟩, h3⟩ := hc
          split at h1
          case h_2 => cases h1
          rename_i x hx
          obtain ⟨ts, hts⟩ := some_type h2
          split at h3
          · exact (write_clear he rel hb (one_arr hx) hts h1 ‹_› H).answers o ho
          · cases h3
        · simp only [Bool.and_eq_true, decide_eq_true_eq] at hc
          obtain ⟨⟨h1, h2⟩, h3⟩ := hc
          split at h1
          case h_2 => cases h1
          rename_i x hx
          obtain ⟨ts, hts⟩ := some_type h2
          split at h3
          · simp only [Bool.and_eq_true] at h3; exact (write_clearS he rel hb (one_arr hx) hts h1 ‹_› h3.2 H).answers o ho
          · cases h3
        · cases hc
      · cases hc
  · cases hc
end
end Go.Zy
