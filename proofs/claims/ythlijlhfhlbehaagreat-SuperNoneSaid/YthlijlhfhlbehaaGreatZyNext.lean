/- Ranging over a map; a text's mark. -/
import Derived.Test.YthlijlhfhlbehaaGreatZyMap3
import Derived.Test.YthlijlhfhlbehaaGreatZySem
set_option linter.unusedSimpArgs false
set_option linter.unusedVariables false
namespace Go.Zy
section
variable {P : Program} {ρ : Nm} {σ : Im} {vm lm : List Nat} {vs ls : List AVal} {a : Operand → Value} {C : CallK} {h : Heap} {w : World} {K : AVal → Heap → Prop}

theorem write_range {t k e : TypeId} {x : Operand} {y : Opd} (he : Env ρ σ vm lm vs ls a) (r : Rel P ρ σ h w) (h1 : opdOk vm lm x y = true) (ht : P.underlying t = some (.map k e)) (H : opK C vs ls h (.range y) K) :
    Writes P σ ρ h w a (.range t x) K := by
  simp only [opK, ev_eq] at H
  have hr := he _ _ h1
  generalize opdV vs ls y = v at H hr
  have hn : ∀ i, h.next ≤ i → ρ i = none := fun i hi => by
    cases hρ : ρ i with
    | none => rfl
    | some y => obtain ⟨b, o, n⟩ := y; have := (r.dom _ _ _ _ hρ).2; omega
  cases v with
  | nilmap =>
    simp only [Heap.newK_eq] at H
    refine ⟨_, _, upd ρ h.next (w.heap.size, 0, 0), { w with heap := w.heap.push (.mapIter none 0 #[] 0) }, .pointer (some ⟨w.heap.size, 0, none⟩), H, Evo.new r (pushed_obj w _) rfl, .iter upd_same, fun o ho => .inl ?_⟩
    simp [execOp, ho, Instr.range, run_underlying ht, hr.nilmap_inv, run_newObj_alloc]
  | map m =>
    obtain ⟨b, o, n, hρ, hx⟩ := hr.map_inv
    simp only at H
    cases hg : h.get m with
    | none => simp only [hg] at H
    | some obj =>
      cases obj with
      | map es c =>
        simp only [hg, Heap.newK_eq] at H
        obtain ⟨xs, g1, g2⟩ := r.live _ _ _ _ _ hg hρ
        refine ⟨_, _, upd ρ h.next (w.heap.size, 0, 0), { w with heap := w.heap.push (.mapIter (some b) c #[] c) }, .pointer (some ⟨w.heap.size, 0, none⟩), H, Evo.new r (pushed_obj w _) ⟨b, o, n, upd_sub (hn _ (Nat.le_refl _)) _ _ hρ, rfl⟩, .iter upd_same, fun q hq => .inl ?_⟩
        simp [execOp, hq, Instr.range, run_underlying ht, hx, run_newObj_alloc, run_getObj_map g1]
      | _ => simp only [hg] at H
  | _ => exact H.elim

theorem seenIn_iff {b : Nat} {l : List Nat} : seenIn b l = true ↔ b ∈ l := by
  induction l with
  | nil => simp [seenIn]
  | cons a l ih =>
    simp only [seenIn, Bool.or_eq_true, ih, List.mem_cons]
    constructor
    · rintro (h | h)
      · exact .inl (Nat.eq_of_beq_eq_true h).symm
      · exact .inr h
    · rintro (rfl | h)
      · exact .inl (Nat.beq_refl _)
      · exact .inr h
theorem snocN_eq (b : Nat) : ∀ (l : List Nat) (J : List Nat → Prop), snocN b l J = J (l ++ [b]) := by
  intro l
  induction l with
  | nil => intro J; rfl
  | cons a l ih => intro J; simp [snocN, ih]
theorem eachK_mem {J : AVal × AVal × Nat → Prop} : ∀ {es : List (AVal × AVal × Nat)}, eachK es J → ∀ e ∈ es, J e := by
  intro es
  induction es with
  | nil => intro _ e h; cases h
  | cons x es ih =>
    intro H e he
    cases es with
    | nil => simp at he; subst he; exact H
    | cons y es =>
      obtain ⟨h1, h2⟩ := H
      rcases List.mem_cons.1 he with rfl | he
      · exact h1
      · exact ih h2 e he
theorem leftOf_eq (seen : List Nat) (es : List (AVal × AVal × Nat)) : leftOf seen es = es.filter fun e => !seenIn e.2.2 seen := by
  induction es with
  | nil => rfl
  | cons e es ih => simp only [leftOf, List.filter_cons]; cases seenIn e.2.2 seen <;> simp [ih]
theorem newer_false {since : Nat} {es : List (AVal × AVal × Nat)} (h : newer since es = false) : ∀ e ∈ es, e.2.2 < since := by
  induction es with
  | nil => intro e he; cases he
  | cons x es ih =>
    simp only [newer, Bool.or_eq_false_iff, ltN_eq] at h
    intro e he
    rcases List.mem_cons.1 he with rfl | he
    · simpa using h.1
    · exact ih h.2 e he
theorem ERel.filter {es : List (AVal × AVal × Nat)} {xs : List MapEntry} (he : ERel ρ σ es xs) (p : Nat → Bool) : ERel ρ σ (es.filter fun e => p e.2.2) (xs.filter fun e => p e.born) := by
  induction es generalizing xs with
  | nil =>
    cases xs with
    | nil => exact he
    | cons x xs => have := he.1; simp at this
  | cons e es ih =>
    cases xs with
    | nil => have := he.1; simp at this
    | cons x xs =>
      have h0 := he.2 0 e x rfl rfl
      have ht : ERel ρ σ es xs := ⟨by have := he.1; simpa using this, fun i e x g1 g2 => he.2 (i + 1) e x (by simpa using g1) (by simpa using g2)⟩
      have := ih ht
      simp only [List.filter_cons, h0.2.2.2]
      cases p x.born
      · simpa using this
      · simp only [if_true]
        refine ⟨by simp [this.1], fun i e' x' g1 g2 => ?_⟩
        cases i with
        | zero => simp at g1 g2; subst g1; subst g2; exact h0
        | succ i => exact this.2 i e' x' (by simpa using g1) (by simpa using g2)

theorem next_none {b since stepped : Nat} {seen : Array Nat} {ty : TypeId} (hb : w.heap[b]? = some (.mapIter none since seen stepped)) : (Instr.next (.pointer (some ⟨b, 0, none⟩)) false ty).run P w = .ok (.tuple #[.bool false]) w := by
  simp [Instr.next, run_getObj_iter hb]

theorem run_setObj_iter {b : Nat} {m : Option Nat} {s st : Nat} {seen : Array Nat} {w : World} (hb : w.heap[b]? = some (.mapIter m s seen st)) (x : Obj) : (setObj b x).run P w = .ok () { w with heap := w.heap.setIfInBounds b x } := by
  simp [setObj, Sem.run, hb]

theorem run_choose_next (n : Nat) (hn : 1 ≤ n) : ∃ k w', k < n ∧ w'.heap = w.heap ∧ w'.os = w.os ∧ w'.tape = w.tape ∧ w'.output = w.output ∧ (choose (.mapNext n)).run P w = .ok k w' := by
  by_cases h1 : n ≤ 1
  · exact ⟨0, w, by omega, rfl, rfl, rfl, rfl, by simp [choose, Sem.run, Question.forced, h1]⟩
  · exact ⟨w.tape w.drawn (.mapNext n) % n, { w with drawn := w.drawn + 1 }, Nat.mod_lt _ (by omega), rfl, rfl, rfl, rfl, by simp [choose, Sem.run, Question.forced, Question.cut, h1]⟩

theorem evo_still {w' : World} (r : Rel P ρ σ h w) (e1 : w'.heap = w.heap) (e2 : w'.os = w.os) (e3 : w'.tape = w.tape) (e4 : w'.output = w.output) : Evo P σ ρ h w ρ h w' where
  rel := ⟨fun id obj b o n g1 g2 => by rw [e1]; exact r.live id obj b o n g1 g2, r.inj, fun b c hb => by rw [e1]; exact r.imm b c hb, r.sep, fun i b o n g => by rw [e1]; exact r.dom i b o n g, r.fresh⟩
  sub := Sub.refl _
  still := fun i _ hn => ⟨hn, rfl⟩
  dead := fun i _ hn => hn
  next := Nat.le_refl _
  size := by rw [e1]; exact Nat.le_refl _
  keep := fun b _ _ => by rw [e1]
  name := fun i b o n a c => by rw [a] at c; cases c
  os := e2
  tape := e3
  output := e4

/-- A step of an iterator over a map without newer entries: any entry that wasn't seen. -/
theorem next_run {b mb since clock stepped : Nat} {seen : Array Nat} {xs : Array MapEntry} {ty : TypeId} (hb : w.heap[b]? = some (.mapIter (some mb) since seen stepped)) (hm : w.heap[mb]? = some (.map xs clock))
    (hnew : ∀ e ∈ xs.toList, e.born < since) (hst : since ≤ stepped) :
    (xs.toList.filter (fun e => !seen.toList.contains e.born) = [] ∧ ∃ w' : World, w'.heap = w.heap ∧ w'.os = w.os ∧ w'.tape = w.tape ∧ w'.output = w.output ∧ (Instr.next (.pointer (some ⟨b, 0, none⟩)) false ty).run P w = .ok (.tuple #[.bool false]) w') ∨
    ∃ e ∈ xs.toList.filter (fun e => !seen.toList.contains e.born), ∃ w' : World, Turned w w' b (.mapIter (some mb) since (seen.push e.born) clock) ∧
      (Instr.next (.pointer (some ⟨b, 0, none⟩)) false ty).run P w = .ok (.tuple #[.bool true, e.key, e.val]) w' := by
  have hguard : (!seen.isEmpty && !xs.isEmpty && xs.all (fun e => decide (e.born ≥ stepped))) = false := by
    cases hx : xs.toList with
    | nil => have : xs = #[] := Array.toList_inj.1 (by simpa using hx); simp [this]
    | cons e l =>
      have he := hnew e (by rw [hx]; exact List.mem_cons_self ..)
      have hall : xs.all (fun e => decide (e.born ≥ stepped)) = false := by
        rw [← Array.all_toList, hx, List.all_cons]
        have : decide (e.born ≥ stepped) = false := by simp; omega
        rw [this]; rfl
      rw [hall, Bool.and_false]
  have hold : (xs.filter fun e => !seen.contains e.born).filter (fun e => decide (e.born < since)) = xs.filter fun e => !seen.contains e.born := by
    rw [Array.filter_filter]
    apply Array.toList_inj.1
    rw [Array.toList_filter, Array.toList_filter]
    apply List.filter_congr
    intro e he
    simp [hnew e he]
  have hnw : (xs.filter fun e => !seen.contains e.born).filter (fun e => decide (e.born ≥ since)) = #[] := by
    rw [Array.filter_eq_empty_iff]
    intro e he
    have := hnew e (by have := Array.mem_of_mem_filter he; simpa using this)
    simp; omega
  have hfl : (xs.filter fun e => !seen.contains e.born).toList = xs.toList.filter (fun e => !seen.toList.contains e.born) := by
    rw [Array.toList_filter]
    congr 1
    funext e
    simp
  generalize hL : (xs.filter fun e => !seen.contains e.born) = L at *
  have hc : ∃ k w', k < ((if L.isEmpty then #[none] else #[]) ++ L.map some : Array (Option MapEntry)).size ∧ w'.heap = w.heap ∧ w'.os = w.os ∧ w'.tape = w.tape ∧ w'.output = w.output ∧
      (choose (.mapNext ((if L.isEmpty then #[none] else #[]) ++ L.map some : Array (Option MapEntry)).size)).run P w = .ok k w' := by
    apply run_choose_next
    cases hl : L.isEmpty
    · simp only [Bool.false_eq_true, if_false, Array.size_append, Array.size_map]
      have : L.size ≠ 0 := by intro e; rw [Array.isEmpty_iff_size_eq_zero.2 e] at hl; cases hl
      have : (#[] : Array (Option MapEntry)).size = 0 := rfl
      omega
    · simp
  obtain ⟨k, w1, hk, e1, e2, e3, e4, hrun⟩ := hc
  have base : (Instr.next (.pointer (some ⟨b, 0, none⟩)) false ty).run P w = (match ((if L.isEmpty then #[none] else #[]) ++ L.map some : Array (Option MapEntry))[k]? with
      | some (some e) => do
        setObj b (.mapIter (some mb) since (seen.push e.born) clock)
        pure (.tuple #[.bool true, e.key, e.val])
      | some none => pure (.tuple #[.bool false])
      | none => stuck "Next: no such candidate" : Sem Value).run P w1 := by
    simp only [Instr.next, Sem.run_bind, run_getObj_iter hb, Result.andThen_ok, run_getObj_map hm, hguard, Bool.false_eq_true, if_false, hL, hold, hnw, Array.append_empty, Sem.run_pure, hrun]
    rfl
  have hb1 : w1.heap[b]? = some (.mapIter (some mb) since seen stepped) := by rw [e1]; exact hb
  cases hl : L.isEmpty with
  | true =>
    left
    have hL0 : L = #[] := by simpa using hl
    refine ⟨by rw [← hfl, hL0], w1, e1, e2, e3, e4, ?_⟩
    rw [base]
    rw [hl] at hk ⊢
    simp only [hL0, if_true] at hk ⊢
    have : k = 0 := by simp at hk; omega
    subst this
    simp
  | false =>
    right
    rw [hl] at hk base
    simp only [Bool.false_eq_true, if_false, Array.empty_append, Array.size_map] at hk base
    have hget : (L.map some)[k]? = some (some L[k]) := by simp [hk]
    rw [hget] at base
    refine ⟨L[k], ?_, { w1 with heap := w1.heap.setIfInBounds b (.mapIter (some mb) since (seen.push L[k].born) clock) }, ⟨by simp [e1], e2, e3, e4⟩, ?_⟩
    · rw [← hfl]; simp
    · rw [base]
      simp [run_setObj_iter hb1]

theorem write_next {ty : TypeId} {x : Operand} {y : Opd} (he : Env ρ σ vm lm vs ls a) (r : Rel P ρ σ h w) (h1 : opdOk vm lm x y = true) (H : opK C vs ls h (.next y) K) :
    ∀ o : Oper, o.op = .next x false → ∃ v h' w' z, K v h' ∧ Evo P σ ρ h w ρ h' w' ∧ VRel ρ σ v z ∧ (execOp a o).run P w = .ok (.value z) w' := by
  simp only [opK, ev_eq] at H
  have hr := he _ _ h1
  generalize opdV vs ls y = v at H hr
  intro q hq
  cases v with
  | iter id =>
    obtain ⟨b, o, n, hρ, hx⟩ := hr.iter_inv
    simp only [nextK] at H
    cases hg : h.get id with
    | none => simp only [hg] at H
    | some obj =>
      cases obj with
      | iter m since seen stepped =>
        have hlive := r.live _ _ _ _ _ hg hρ
        cases m with
        | none =>
          simp only [hg] at H
          refine ⟨_, _, w, _, H, Evo.refl r, (LRel.cons (.bool false) .nil).tuple, ?_⟩
          simp [execOp, hq, hx, next_none hlive]
        | some m =>
          simp only [hg] at H
          cases hgm : h.get m with
          | none => simp only [hgm] at H
          | some om =>
            cases om with
            | map es clock =>
              simp only [hgm] at H
              obtain ⟨mb, mo, mn, hρm, hit⟩ := hlive
              obtain ⟨xs, hmap, hes⟩ := r.live _ _ _ _ _ hgm hρm
              cases hnew : newer since es with
              | true => rw [hnew] at H; exact H.elim
              | false =>
                rw [hnew, cond_false] at H
                cases hst : ltN stepped since with
                | true => rw [hst] at H; exact H.elim
                | false =>
                  rw [hst, cond_false] at H
                  rw [ltN_eq] at hst
                  have hst' : since ≤ stepped := by simpa using hst
                  have hold := newer_false hnew
                  have hnx : ∀ e ∈ xs.toList, e.born < since := by
                    intro e he'
                    obtain ⟨i, hi, hie⟩ := List.getElem_of_mem he'
                    have hi' : i < es.length := by rw [hes.1]; exact hi
                    have := hes.2 i es[i] e (by simp [hi']) (by rw [← hie]; simp [hi])
                    rw [← this.2.2.2]
                    exact hold _ (List.getElem_mem hi')
                  have hfilt := hes.filter (fun n => !seenIn n seen)
                  rw [← leftOf_eq] at hfilt
                  have hfx : xs.toList.filter (fun e => !seen.toArray.toList.contains e.born) = xs.toList.filter (fun e => !seenIn e.born seen) := by
                    congr 1; funext e
                    rw [Bool.eq_iff_iff]
                    simp [← Bool.not_eq_true, seenIn_iff]
                  rcases next_run (P := P) (ty := q.type) hit hmap hnx hst' with ⟨g1, w', g2, g3, g4, g5, g6⟩ | ⟨e, g1, w', g2, g3⟩
                  · rw [hfx] at g1
                    rw [g1] at hfilt
                    have : leftOf seen es = [] := by have := hfilt.1; exact List.eq_nil_of_length_eq_zero this
                    simp only [this] at H
                    refine ⟨_, _, w', _, H, evo_still r g2 g3 g4 g5, (LRel.cons (.bool false) .nil).tuple, ?_⟩
                    simp [execOp, hq, hx, g6]
                  · rw [hfx] at g1
                    obtain ⟨i, hi, hie⟩ := List.getElem_of_mem g1
                    have hi' : i < (leftOf seen es).length := by rw [hfilt.1]; exact hi
                    have hrel := hfilt.2 i (leftOf seen es)[i] e (by simp [hi']) (by rw [← hie]; simp [hi])
                    cases hle : leftOf seen es with
                    | nil => rw [hle] at hi'; simp at hi'
                    | cons e0 l0 =>
                      simp only [hle] at H
                      have hmem : (leftOf seen es)[i] ∈ e0 :: l0 := by rw [← hle]; exact List.getElem_mem hi'
                      have H2 := eachK_mem H _ hmem
                      generalize (leftOf seen es)[i] = ae at H2 hrel
                      rw [snocN_eq, Heap.setK_eq] at H2
                      refine ⟨_, _, w', _, H2, Evo.turn r hg hρ g2 ⟨mb, mo, mn, hρm, ?_⟩, (LRel.cons (.bool true) (LRel.cons hrel.2.1 (LRel.cons hrel.2.2.1 .nil))).tuple, ?_⟩
                      · rw [hrel.2.2.2]; simp
                      · simp [execOp, hq, hx, g3]
            | _ => simp only [hgm] at H
      | _ => simp only [hg] at H
  | _ => exact H.elim

theorem write_same {t e : TypeId} {x : Operand} {y : Opd} (he : Env ρ σ vm lm vs ls a) (r : Rel P ρ σ h w) (h1 : opdOk vm lm x y = true) (ht : P.underlying t = some (.slice e)) (hu : P.underlying e = some (.int .u8)) (H : opK C vs ls h (.same y) K) :
    Writes P σ ρ h w a (.convert t t x) K := by
  simp only [opK, ev_eq] at H
  have hr := he _ _ h1
  generalize opdV vs ls y = v at H hr
  obtain ⟨id, off, len, k, sz, cs, rfl, hg, H⟩ : ∃ id off len k sz cs, v = .slice id off len (some (k + 1)) sz ∧ h.get id = some (.row cs) ∧ K (.slice id off len (some (k + 1)) sz) (h.set id (.row cs)) := by
    revert H
    split
    · split
      · intro H; rw [Heap.setK_eq] at H; exact ⟨_, _, _, _, _, _, rfl, ‹_›, H⟩
      · intro H; exact H.elim
    · intro H; exact H.elim
  have hr' := hr
  obtain ⟨b, o, n, c, ad, hρ, hcap, hl, ha, hn, hx⟩ := hr'.slice_inv
  obtain rfl := hcap _ rfl
  obtain rfl := ha (by omega)
  obtain ⟨cc, el, lo, hi, q1, q2, q3, q4, q5⟩ := r.live _ _ _ _ _ hg hρ
  have hsh : w.shape? b = some (el, cc.size) := by simp [World.shape?, q1]
  have hfr : w.freeze ⟨b, cc.size, none⟩ 1 = { w with heap := w.heap.setIfInBounds b (.cells cc el (if lo == hi then (cc.size, cc.size + 1) else (min lo cc.size, max hi (cc.size + 1)))) } := by
    unfold World.freeze
    rw [if_neg (by decide)]
    congr 1
    apply Array.ext
    · simp
    · intro i h1 h2
      rw [Array.getElem_modify, Array.getElem_setIfInBounds (by simpa using h1)]
      by_cases hb : b = i
      · subst hb
        have : w.heap[b]? = some (.cells cc el (lo, hi)) := q1
        rw [Array.getElem?_eq_getElem (by simpa using h1)] at this
        simp at this
        simp [this]
      · rw [if_neg hb, if_neg hb]
  obtain ⟨q, hq, hfr⟩ : ∃ q : Nat × Nat, n ≤ q.1 ∧ w.freeze ⟨b, cc.size, none⟩ 1 = { w with heap := w.heap.setIfInBounds b (.cells cc el q) } := by
    refine ⟨_, ?_, hfr⟩
    by_cases hlh : lo = hi
    · simp [hlh, q2]
    · rcases q4 with q4 | q4
      · exact absurd q4 hlh
      · simp [hlh, q2]; omega
  refine ⟨_, _, ρ, { w with heap := w.heap.setIfInBounds b (.cells cc el q) }, .slice (some ⟨b, o + off, none⟩) len (k + 1), H, Evo.turn r hg hρ (x := .cells cc el q) ⟨rfl, rfl, rfl, rfl⟩ ?_, hx ▸ hr, fun q' hq' => .inl ?_⟩
  · exact ⟨cc, el, q.1, q.2, rfl, q2, q3, .inr hq, q5⟩
  · have : (convert t t (.slice (some ⟨b, o + off, none⟩) len (k + 1))).run P w = .ok (.slice (some ⟨b, o + off, none⟩) len (k + 1)) { w with heap := w.heap.setIfInBounds b (.cells cc el q) } := by
      simp [convert, run_underlying ht, run_underlying hu, markStringish, hsh, hfr]
    simp only [execOp, hq', hx, Sem.run_bind, this, Result.andThen_ok, Sem.run_pure]
end
end Go.Zy
