/- A region that draws its order: what is kept on the way. -/
import Derived.Test.YthlijlhfhlbehaaGreatZyDraw
set_option linter.unusedSimpArgs false
set_option linter.unusedVariables false
namespace Go.Zy

def gv (v : AVal) (b : Bool) : Option Bool :=
  match v with
  | .bool c => some ((c && b) || (!c && !b))
  | .tuple _ => some false
  | _ => none
theorem guardK_iff {v : AVal} {b : Bool} {p q : Unit → Prop} : guardK v b p q ↔ (gv v b = some true ∧ p ()) ∨ (gv v b = some false ∧ q ()) := by
  cases v <;> simp [guardK, gv]
  rename_i c
  cases c <;> cases b <;> simp

mutual
theorem eqV_eq : ∀ {a b : AVal}, eqV a b = true → a = b
  | .junk, b, h => by cases b <;> first | rfl | (simp [eqV] at h)
  | .nilptr, b, h => by cases b <;> first | rfl | (simp [eqV] at h)
  | .nilslice, b, h => by cases b <;> first | rfl | (simp [eqV] at h)
  | .nilmap, b, h => by cases b <;> first | rfl | (simp [eqV] at h)
  | .nilfunc, b, h => by cases b <;> first | rfl | (simp [eqV] at h)
  | .niliface, b, h => by cases b <;> first | rfl | (simp [eqV] at h)
  | .bool a, b, h => by
    cases b <;> simp only [eqV, Bool.false_eq_true] at h
    rename_i b; cases a <;> cases b <;> first | rfl | cases h
  | .int k a, b, h => by
    cases b <;> simp only [eqV, Bool.false_eq_true, Bool.and_eq_true] at h
    obtain ⟨h1, h2⟩ := h
    rw [kEq_iff] at h1
    rw [eqI_eq, beq_iff_eq] at h2
    rw [h1, h2]
  | .str a, b, h => by
    cases b <;> simp only [eqV, Bool.false_eq_true, decide_eq_true_eq] at h
    rw [h]
  | .ptr i o, b, h => by
    cases b <;> simp only [eqV, Bool.false_eq_true, Bool.and_eq_true] at h
    rw [Nat.eq_of_beq_eq_true h.1, Nat.eq_of_beq_eq_true h.2]
  | .iptr r o, b, h => by
    cases b <;> simp only [eqV, Bool.false_eq_true, Bool.and_eq_true] at h
    rw [Nat.eq_of_beq_eq_true h.1, eqVs_eq h.2]
  | .slice i o l c z, b, h => by
    cases b <;> simp only [eqV, Bool.false_eq_true, Bool.and_eq_true] at h
    obtain ⟨⟨⟨⟨h1, h2⟩, h3⟩, h4⟩, h5⟩ := h
    rename_i i' o' l' c' z'
    have : c = c' := by cases c <;> cases c' <;> simp [eqO] at h4 <;> first | rfl | rw [h4]
    rw [Nat.eq_of_beq_eq_true h1, Nat.eq_of_beq_eq_true h2, Nat.eq_of_beq_eq_true h3, this, Nat.eq_of_beq_eq_true h5]
  | .islice r o l c z, b, h => by
    cases b <;> simp only [eqV, Bool.false_eq_true, Bool.and_eq_true] at h
    obtain ⟨⟨⟨⟨h1, h2⟩, h3⟩, h4⟩, h5⟩ := h
    rename_i i' o' l' c' z'
    have : c = c' := by cases c <;> cases c' <;> simp [eqO] at h3 <;> first | rfl | rw [h3]
    rw [Nat.eq_of_beq_eq_true h1, Nat.eq_of_beq_eq_true h2, this, Nat.eq_of_beq_eq_true h4, eqVs_eq h5]
  | .map i, b, h => by
    cases b <;> simp only [eqV, Bool.false_eq_true] at h
    rw [Nat.eq_of_beq_eq_true h]
  | .iter i, b, h => by
    cases b <;> simp only [eqV, Bool.false_eq_true] at h
    rw [Nat.eq_of_beq_eq_true h]
  | .yield i, b, h => by
    cases b <;> simp only [eqV, Bool.false_eq_true] at h
    rw [Nat.eq_of_beq_eq_true h]
  | .func f a c, b, h => by
    cases b <;> simp only [eqV, Bool.false_eq_true, Bool.and_eq_true] at h
    obtain ⟨⟨h1, h2⟩, h3⟩ := h
    rename_i f' a' c'
    have : f = f' := by
      unfold eqFn at h1
      split at h1
      · rw [Nat.eq_of_beq_eq_true h1]
      · simpa using h1
    rw [this, eqVs_eq h2, eqVs_eq h3]
  | .iface t v, b, h => by
    cases b <;> simp only [eqV, Bool.false_eq_true, Bool.and_eq_true] at h
    rw [Nat.eq_of_beq_eq_true h.1, eqV_eq h.2]
  | .agg a, b, h => by
    cases b <;> simp only [eqV, Bool.false_eq_true] at h
    rw [eqVs_eq h]
  | .tuple a, b, h => by
    cases b <;> simp only [eqV, Bool.false_eq_true] at h
    rw [eqVs_eq h]
theorem eqVs_eq : ∀ {a b : List AVal}, eqVs a b = true → a = b
  | [], b, h => by cases b <;> first | rfl | (simp [eqVs] at h)
  | x :: a, b, h => by
    cases b with
    | nil => simp [eqVs] at h
    | cons y b =>
      simp only [eqVs, Bool.and_eq_true] at h
      rw [eqV_eq h.1, eqVs_eq h.2]
end

section
variable {P : Program} {σ : Im} {nt : Nat} {vm : List Nat} {C : CallK} {ops : Array Oper} {ah : List Nat}
open Classical

/-- What the checks give of all operations in the abstract run's order. -/
structure Static (ops : Array Oper) (ah : List Nat) (nt : Nat) (cs : List Rec) : Prop where
  split : ∀ pre c post, cs = pre ++ c :: post → (∀ x ∈ pre, Pair ah x c) ∧ (∀ y ∈ post, Pair ah c y) ∧ ¬ A ah c.ix c.ix
  all : ∀ i, i < ops.size → ∃ c ∈ cs, c.ix = i
  op : ∀ c ∈ cs, ∃ o, ops[c.ix]? = some o ∧ o.dst = c.dst ∧ ∀ t, o.dst = some t → t < nt

theorem Static.pair {cs : List Rec} (S : Static ops ah nt cs) {x y : Rec} (hx : x ∈ cs) (hy : y ∈ cs) : x = y ∨ Pair ah x y ∨ Pair ah y x := by
  obtain ⟨pre, post, rfl⟩ := List.append_of_mem hx
  obtain ⟨h1, h2, _⟩ := S.split _ _ _ rfl
  rcases List.mem_append.1 hy with h | h
  · exact .inr (.inr (h1 y h))
  · rcases List.mem_cons.1 h with rfl | h
    · exact .inl rfl
    · exact .inr (.inl (h2 y h))
theorem Static.same {cs : List Rec} (S : Static ops ah nt cs) {x y : Rec} (hx : x ∈ cs) (hy : y ∈ cs) (e : x.ix = y.ix) : x = y := by
  rcases S.pair hx hy with h | h | h
  · exact h
  · exact absurd e h.ne
  · exact absurd e.symm h.ne
theorem Static.dst {cs : List Rec} (S : Static ops ah nt cs) {x y : Rec} (hx : x ∈ cs) (hy : y ∈ cs) {t : Nat} (e : x.dst = some t) (f : y.dst = some t) : x = y := by
  rcases S.pair hx hy with h | h | h
  · exact h
  · exact absurd f (h.dst t e)
  · exact absurd e (h.dst t f)
theorem Static.writer {cs : List Rec} (S : Static ops ah nt cs) {q t : Nat} {o : Oper} (ho : ops[q]? = some o) (hd : o.dst = some t) : ∃ c ∈ cs, c.ix = q ∧ c.dst = some t := by
  obtain ⟨c, hc, he⟩ := S.all q (Array.getElem?_eq_some_iff.1 ho).1
  obtain ⟨o', h1, h2, _⟩ := S.op c hc
  rw [he, ho] at h1
  cases h1
  exact ⟨c, hc, he, by rw [← h2]; exact hd⟩

def News (ops : Array Oper) (ah : List Nat) (i t : Nat) : Prop := ∃ q o, ops[q]? = some o ∧ o.dst = some t ∧ A ah i q
def Wrote (bef : List Rec) (t : Nat) : Prop := ∃ c ∈ bef, c.dst = some t
def WroteD (D : Nat → Prop) (bef : List Rec) (t : Nat) : Prop := ∃ c ∈ bef, c.dst = some t ∧ D c.ix
noncomputable def src (ops : Array Oper) (ah : List Nat) (s0 val : Nat → AVal) (i t : Nat) : AVal := if News ops ah i t then val t else s0 t
noncomputable def full (s0 val : Nat → AVal) (bef : List Rec) (t : Nat) : AVal := if Wrote bef t then val t else s0 t
noncomputable def cur (s0 val : Nat → AVal) (bef : List Rec) (D : Nat → Prop) (t : Nat) : AVal := if WroteD D bef t then val t else s0 t

theorem reads_news {cs pre post : List Rec} {c : Rec} (S : Static ops ah nt cs) (e : cs = pre ++ c :: post) {t : Nat} (ht : t ∈ c.rd) : News ops ah c.ix t ↔ Wrote pre t := by
  obtain ⟨h1, h2, h3⟩ := S.split _ _ _ e
  constructor
  · rintro ⟨q, o, ho, hd, ha⟩
    obtain ⟨c', hc', hq, hdc⟩ := S.writer ho hd
    subst hq
    rw [e] at hc'
    rcases List.mem_append.1 hc' with h | h
    · exact ⟨c', h, hdc⟩
    · rcases List.mem_cons.1 h with rfl | h
      · exact absurd ha h3
      · exact absurd ha (h2 c' h).nback
  · rintro ⟨c', hc', hdc⟩
    obtain ⟨o, g1, g2, _⟩ := S.op c' (by rw [e]; simp [hc'])
    exact ⟨c'.ix, o, g1, by rw [g2]; exact hdc, (h1 c' hc').reads t hdc ht⟩
theorem reads_order {cs pre post : List Rec} {c : Rec} (S : Static ops ah nt cs) (e : cs = pre ++ c :: post) {t : Nat} (ht : t ∈ c.rd) : ∀ q o, ops[q]? = some o → o.dst = some t → A ah c.ix q ∨ q = c.ix ∨ A ah q c.ix := by
  obtain ⟨h1, h2, h3⟩ := S.split _ _ _ e
  intro q o ho hd
  obtain ⟨c', hc', hq, hdc⟩ := S.writer ho hd
  subst hq
  rw [e] at hc'
  rcases List.mem_append.1 hc' with h | h
  · exact .inl ((h1 c' h).reads t hdc ht)
  · rcases List.mem_cons.1 h with rfl | h
    · exact .inr (.inl rfl)
    · exact .inr (.inr ((h2 c' h).after t hdc ht))

/-- What a quiet operation comes to, whenever it is carried out. -/
def Body (C : CallK) (ρ : Nm) (h : Heap) (vs ls : List AVal) (r : ROp) (v : AVal) (id : Option Nat) : Prop :=
  (r.pure = true ∧ ∃ h', opK C vs ls h' r fun v' _ => v' = v) ∨
  (r.reads = true ∧ ∃ h', (∀ i x, h'.get i = some x → h.get i = some x) ∧ opK C vs ls h' r fun v' _ => v' = v) ∨
  (r.makes = true ∧ ∃ h', id = some h'.next ∧ (opK C vs ls h' r fun v' h'' => v' = v ∧ h''.get h'.next = h.get h'.next ∧ h''.get h'.next ≠ none) ∧ ρ h'.next = none ∧ h'.next < h.next)
def Prom (P : Program) (nt : Nat) (vm : List Nat) (C : CallK) (ops : Array Oper) (ah : List Nat) (s0 val : Nat → AVal) (ρ : Nm) (h : Heap) (c : Rec) (v : AVal) (id : Option Nat) : Prop :=
  ∃ (o : Oper) (lm : List Nat) (r : ROp) (g : Option (Opd × Bool)) (vs ls : List AVal), ops[c.ix]? = some o ∧ guardOk ops vm lm o.guard g = true ∧ opOk P vm lm o.op o.type r = true ∧ r.quiet = true ∧ r.reads = c.r ∧ r.makes = c.m ∧
    (∀ y ∈ opdsOf r g, knownOpd vm lm y = true ∧ ∀ t ∈ slotOf vm lm y, opdV vs ls y = src ops ah s0 val c.ix t) ∧
    (∀ y ∈ opdsOf r g, ∀ t ∈ slotOf vm lm y, ∀ q o', ops[q]? = some o' → o'.dst = some t → A ah c.ix q ∨ q = c.ix ∨ A ah q c.ix) ∧
    (match g with | none => Body C ρ h vs ls r v id | some (x, b) => guardK (opdV vs ls x) b (fun _ => Body C ρ h vs ls r v id) (fun _ => v = .tuple []))

theorem Body.mono {ρ ρ' : Nm} {h h' : Heap} {vs ls : List AVal} {r : ROp} {v : AVal} {id : Option Nat} (hb : Body C ρ h vs ls r v id) (hr : r.reads = true → ∀ i x, h.get i = some x → h'.get i = some x)
    (hm : r.makes = true → ∀ i, id = some i → ρ i = none → i < h.next → h.get i ≠ none → h'.get i = h.get i ∧ ρ' i = none ∧ i < h'.next) : Body C ρ' h' vs ls r v id := by
  rcases hb with ⟨h1, h2⟩ | ⟨h1, h2, h3, h4⟩ | ⟨h1, h2, h3, h4, h5, h6⟩
  · exact .inl ⟨h1, h2⟩
  · exact .inr (.inl ⟨h1, h2, fun i x hx => hr h1 i x (h3 i x hx), h4⟩)
  · refine .inr (.inr ⟨h1, h2, h3, ?_⟩)
    have hne : h.get h2.next ≠ none := by
      obtain ⟨v', obj, ⟨_, q2, q3⟩, _⟩ := det_makes h1 _ h4
      rw [← q2]; exact q3
    obtain ⟨g1, g2, g3⟩ := hm h1 _ h3 h5 h6 hne
    refine ⟨?_, g2, g3⟩
    obtain ⟨v', obj, q, hall⟩ := det_makes h1 _ h4
    exact hall _ (by rw [g1]; exact q)
theorem Prom.mono {s0 val val' : Nat → AVal} {ρ ρ' : Nm} {h h' : Heap} {c : Rec} {v : AVal} {id : Option Nat} (hp : Prom P nt vm C ops ah s0 val ρ h c v id) (hv : ∀ t, News ops ah c.ix t → val' t = val t)
    (hr : c.r = true → ∀ i x, h.get i = some x → h'.get i = some x) (hm : c.m = true → ∀ i, id = some i → ρ i = none → i < h.next → h.get i ≠ none → h'.get i = h.get i ∧ ρ' i = none ∧ i < h'.next) : Prom P nt vm C ops ah s0 val' ρ' h' c v id := by
  obtain ⟨o, lm, r, g, vs, ls, h1, h2, h3, hqt, h4, h5, h6, h7, h8⟩ := hp
  have hb : Body C ρ h vs ls r v id → Body C ρ' h' vs ls r v id := fun hb => hb.mono (fun q => hr (by rw [← h4]; exact q)) (fun q => hm (by rw [← h5]; exact q))
  refine ⟨o, lm, r, g, vs, ls, h1, h2, h3, hqt, h4, h5, fun y hy => ⟨(h6 y hy).1, fun t ht => ?_⟩, h7, ?_⟩
  · rw [(h6 y hy).2 t ht]
    unfold src
    split
    · rename_i hn; exact (hv t hn).symm
    · rfl
  · cases g with
    | none => exact hb h8
    | some p =>
      obtain ⟨x, b⟩ := p
      simp only [guardK_iff] at h8 ⊢
      exact h8.imp (fun q => ⟨q.1, hb q.2⟩) (fun q => q)

/-- What is kept on the way through a drawn region. -/
structure Sim (P : Program) (σ : Im) (nt : Nat) (vm : List Nat) (C : CallK) (ops : Array Oper) (ah : List Nat) (B : Nat) (s0 : Nat → AVal) (ρ0 : Nm) (h0 : Heap) (w0 : World) (bef : List Rec) (lm : List Nat) (vs ls : List AVal) (ds : List DS) (h : Heap)
    (ρ : Nm) (val : Nat → AVal) (idf : Nat → Option Nat) (D : Nat → Prop) (a : Act) (w : World) : Prop where
  e0 : Evo P σ ρ0 h0 w0 ρ h w
  sz : nt ≤ a.tmps.size
  dsr : DsOk P σ B ρ h w ds a.defers
  len : vs.length = vm.length
  absV : ∀ (i t : Nat), vm[i]? = some t → vs.getD i .junk = full s0 val bef t
  absL : ∀ (i t : Nat), lm[i]? = some t → ls.getD i .junk = full s0 val bef t
  lmv : ∀ t ∈ lm, t ∉ vm
  conc : ∀ t, VRel ρ σ (cur s0 val bef D t) (a.tmps.getD t undef)
  prom : ∀ c ∈ bef, ¬ D c.ix → c.w = false ∧ ∃ v, (∀ t, c.dst = some t → val t = v) ∧ Prom P nt vm C ops ah s0 val ρ h c v (idf c.ix)
  ids : ∀ c ∈ bef, ∀ i, idf c.ix = some i → h0.next ≤ i ∧ i < h.next
  inj : ∀ c ∈ bef, ∀ c' ∈ bef, ∀ i, idf c.ix = some i → idf c'.ix = some i → c.ix = c'.ix

theorem land_abs {F : Nat → AVal} {vs ls : List AVal} {lm lm' : List Nat} {d : Option Tmp} {e : Dst} {v : AVal} (hdist : distinctN vm = true) (len : vs.length = vm.length) (hV : ∀ (i t : Nat), vm[i]? = some t → vs.getD i .junk = F t)
    (hL : ∀ (i t : Nat), lm[i]? = some t → ls.getD i .junk = F t) (hlv : ∀ t ∈ lm, t ∉ vm) (hd : dstOk nt vm lm d e = some lm') :
    (landV e v vs).length = vm.length ∧ (∀ (i t : Nat), vm[i]? = some t → (landV e v vs).getD i .junk = if d = some t then v else F t) ∧ (∀ (i t : Nat), lm'[i]? = some t → (landL e v ls).getD i .junk = if d = some t then v else F t) ∧
      (∀ t ∈ lm', t ∉ vm) ∧ ∀ t, d = some t → t < nt := by
  unfold dstOk at hd
  split at hd
  · rename_i u
    cases hb : (decide (u < nt) && !vm.contains u && !lm.contains u) with
    | false => rw [hb] at hd; cases hd
    | true =>
      rw [hb] at hd
      simp only [cond_true, Option.some.injEq] at hd
      subst hd
      simp only [Bool.and_eq_true, decide_eq_true_eq, Bool.not_eq_true', List.contains_eq_mem, decide_eq_false_iff_not] at hb
      obtain ⟨⟨h1, h2⟩, h3⟩ := hb
      refine ⟨len, fun i t hi => ?_, fun i t hi => ?_, ?_, fun t ht => by cases ht; exact h1⟩
      · rw [if_neg (fun q => by cases q; exact h2 (List.mem_of_getElem? hi))]; exact hV i t hi
      · cases i with
        | zero => simp at hi; subst hi; rw [if_pos rfl]; rfl
        | succ i => simp at hi; rw [if_neg (fun q => by cases q; exact h3 (List.mem_of_getElem? hi))]; exact hL i t hi
      · intro t ht
        rcases List.mem_cons.1 ht with rfl | ht
        · exact h2
        · exact hlv t ht
  · rename_i u j
    cases hb : (decide (vm[j]? = some u) && decide (u < nt)) with
    | false => rw [hb] at hd; cases hd
    | true =>
      rw [hb] at hd
      simp only [cond_true, Option.some.injEq] at hd
      subst hd
      simp only [Bool.and_eq_true, decide_eq_true_eq] at hb
      obtain ⟨h1, h2⟩ := hb
      refine ⟨by simp [landV, len], fun i t hi => ?_, fun i t hi => ?_, hlv, fun t ht => by cases ht; exact h2⟩
      · by_cases hu : u = t
        · subst hu
          have := distinctN_inj hdist h1 hi
          subst this
          have hlt : j < vs.length := by rw [len]; exact (List.getElem?_eq_some_iff.1 h1).1
          rw [if_pos rfl]
          simp [landV, hlt]
        · have hne : j ≠ i := fun q => by subst q; rw [h1] at hi; cases hi; exact hu rfl
          rw [if_neg (fun q => by cases q; exact hu rfl), ← hV i t hi]
          simp [landV, List.getD_eq_getElem?_getD, List.getElem?_set_ne hne]
      · rw [if_neg (fun q => by cases q; exact hlv _ (List.mem_of_getElem? hi) (List.mem_of_getElem? h1))]; exact hL i t hi
  · simp only [Option.some.injEq] at hd
    subst hd
    exact ⟨len, fun i t hi => by rw [if_neg (by simp)]; exact hV i t hi, fun i t hi => by rw [if_neg (by simp)]; exact hL i t hi, hlv, fun t ht => by cases ht⟩
  · cases hd

theorem full_snoc {s0 val : Nat → AVal} {bef : List Rec} {c : Rec} {v : AVal} (t : Nat) : full s0 (fun t => if c.dst = some t then v else val t) (bef ++ [c]) t = if c.dst = some t then v else full s0 val bef t := by
  unfold full
  by_cases h : c.dst = some t
  · rw [if_pos ⟨c, by simp, h⟩, if_pos h]; simp only [if_pos h]
  · have : Wrote (bef ++ [c]) t ↔ Wrote bef t := by
      constructor
      · rintro ⟨c', hc, hd⟩
        rcases List.mem_append.1 hc with hc | hc
        · exact ⟨c', hc, hd⟩
        · simp at hc; subst hc; exact absurd hd h
      · rintro ⟨c', hc, hd⟩; exact ⟨c', by simp [hc], hd⟩
    simp only [this, if_neg h]

theorem opd_slot {F : Nat → AVal} {vs ls : List AVal} {lm : List Nat} (hV : ∀ (i t : Nat), vm[i]? = some t → vs.getD i .junk = F t) (hL : ∀ (i t : Nat), lm[i]? = some t → ls.getD i .junk = F t) {y : Opd} : ∀ t ∈ slotOf vm lm y, opdV vs ls y = F t := by
  intro t ht
  cases y with
  | var i =>
    simp only [slotOf] at ht
    cases h : vm[i]? with
    | none => rw [h] at ht; cases ht
    | some u => rw [h] at ht; simp at ht; subst ht; exact hV i _ h
  | loc i =>
    simp only [slotOf] at ht
    cases h : lm[i]? with
    | none => rw [h] at ht; cases ht
    | some u => rw [h] at ht; simp at ht; subst ht; exact hL i _ h
  | cst v => cases ht

theorem recOf_inv {lm lm' : List Nat} {e : EOp} {c : Rec} (h : recOf P nt ops vm lm e = some (c, lm')) : ∃ o, ops[e.ix]? = some o ∧ operOk P nt ops vm lm o e = some lm' ∧ (∀ y ∈ opdsOf e.op e.guard, knownOpd vm lm y = true) ∧ c.ix = e.ix ∧
    c.rd = (opdsOf e.op e.guard).flatMap (slotOf vm lm) ∧ c.dst = o.dst ∧ c.w = !e.op.quiet ∧ c.r = e.op.reads ∧ c.m = e.op.makes := by
  unfold recOf at h
  split at h
  · rename_i o ho
    split at h
    · rename_i lm1 hop
      cases hb : (opdsOf e.op e.guard).all (knownOpd vm lm) with
      | false => rw [hb] at h; cases h
      | true =>
        rw [hb] at h
        simp only [cond_true, Option.some.injEq, Prod.mk.injEq] at h
        obtain ⟨rfl, rfl⟩ := h
        exact ⟨o, ho, hop, by simpa [List.all_eq_true] using hb, rfl, rfl, rfl, rfl, rfl, rfl⟩
    · cases h
  · cases h

/-- A quiet operation, told: its value, and what it makes. -/
theorem quiet_core {e : EOp} {vs ls : List AVal} {ds : List DS} {h : Heap} {J : AVal → List DS → Heap → Prop} {ρ : Nm} (hq : e.op.quiet = true) (hn : ρ h.next = none) (H : coreK C e vs ls ds h J) :
    ∃ v h' id, J v ds h' ∧ ((h' = h ∧ id = none) ∨ (id = some h.next ∧ ∃ obj, h' = h.new obj)) ∧ (match e.guard with | none => Body C ρ h' vs ls e.op v id | some (x, b) => guardK (opdV vs ls x) b (fun _ => Body C ρ h' vs ls e.op v id) (fun _ => v = .tuple [])) := by
  have base : coreDo C e.op vs ls ds h J → ∃ v h' id, J v ds h' ∧ ((h' = h ∧ id = none) ∨ (id = some h.next ∧ ∃ obj, h' = h.new obj)) ∧ Body C ρ h' vs ls e.op v id := by
    intro H
    have H' : opK C vs ls h e.op fun v h => J v ds h := by
      unfold coreDo at H
      split at H
      · rename_i hdf; rw [hdf] at hq; cases hq
      · exact H
    unfold ROp.quiet at hq
    simp only [Bool.or_eq_true] at hq
    rcases hq with (hp | hr) | hm
    · obtain ⟨v, h1, h2⟩ := det_pure hp _ H'
      exact ⟨v, h, none, h1, .inl ⟨rfl, rfl⟩, .inl ⟨hp, h, h2 _ rfl⟩⟩
    · obtain ⟨v, h1, h2⟩ := det_reads hr _ H'
      exact ⟨v, h, none, h1, .inl ⟨rfl, rfl⟩, .inr (.inl ⟨hr, h, fun _ _ g => g, h2 _ rfl⟩)⟩
    · obtain ⟨v, obj, h1, h2⟩ := det_makes hm _ H'
      exact ⟨v, h.new obj, some h.next, h1, .inr ⟨rfl, obj, rfl⟩, .inr (.inr ⟨hm, h, rfl, h2 _ ⟨rfl, rfl, by rw [Heap.get_new, if_pos rfl]; simp⟩, hn, by rw [Heap.next_new]; omega⟩)⟩
  unfold coreK at H
  cases hg : e.guard with
  | none => rw [hg] at H; exact base H
  | some p =>
    obtain ⟨x, b⟩ := p
    rw [hg] at H
    simp only [guardK_iff] at H ⊢
    rcases H with ⟨h1, H⟩ | ⟨h1, H⟩
    · obtain ⟨v, h', id, g1, g2, g3⟩ := base H
      exact ⟨v, h', id, g1, g2, .inl ⟨h1, g3⟩⟩
    · exact ⟨.tuple [], h, none, H, .inl ⟨rfl, rfl⟩, .inr ⟨h1, rfl⟩⟩

theorem canon_one {cs bef post : List Rec} {c : Rec} {B : Nat} {s0 : Nat → AVal} {ρ0 : Nm} {h0 : Heap} {w0 : World} {lm lm' : List Nat} {vs ls : List AVal} {ds : List DS} {h : Heap} {ρ : Nm} {val : Nat → AVal} {idf : Nat → Option Nat} {D : Nat → Prop}
    {a : Act} {w : World} {e : EOp} {K : List AVal → List AVal → List DS → Heap → Prop} (hdist : distinctN vm = true) (S : Static ops ah nt cs) (hcs : cs = bef ++ c :: post) (r0 : Rel P ρ0 σ h0 w0)
    (M : Sim P σ nt vm C ops ah B s0 ρ0 h0 w0 bef lm vs ls ds h ρ val idf D a w) (hc : recOf P nt ops vm lm e = some (c, lm')) (hw : c.w = false) (hD : ¬ D c.ix) (H : stepK C e vs ls ds h K) :
    ∃ vs' ls' h' val' idf', K vs' ls' ds h' ∧ Sim P σ nt vm C ops ah B s0 ρ0 h0 w0 (bef ++ [c]) lm' vs' ls' ds h' ρ val' idf' D a w := by
  obtain ⟨o, ho, hop, hkn, hix, hrd, hdst, hcw, hcr, hcm⟩ := recOf_inv hc
  obtain ⟨hg, hopk, hd⟩ := operOk_inv hop
  have hq : e.op.quiet = true := by rw [hcw] at hw; simpa using hw
  have hn : ρ h.next = none := by
    cases hh : ρ h.next with
    | none => rfl
    | some y => obtain ⟨b, o, n⟩ := y; have := (M.e0.rel.dom _ _ _ _ hh).2; omega
  obtain ⟨p1, p2, p3⟩ := S.split _ _ _ hcs
  rw [stepK_core] at H
  obtain ⟨v, h', id, hK, hh', hprom⟩ := quiet_core (ρ := ρ) hq hn H
  obtain ⟨l1, l2, l3, l4, l5⟩ := land_abs (v := v) hdist M.len M.absV M.absL M.lmv hd
  have hev : Evo P σ ρ h w ρ h' w := by
    rcases hh' with ⟨rfl, _⟩ | ⟨_, obj, rfl⟩
    · exact Evo.refl M.e0.rel
    · exact Evo.reserve M.e0.rel obj
  have hsub : ∀ i x, h.get i = some x → h'.get i = some x := by
    intro i x hi
    rcases hh' with ⟨rfl, _⟩ | ⟨_, obj, rfl⟩
    · exact hi
    · rw [Heap.get_new, if_neg]
      · exact hi
      · intro q; subst q; rw [M.e0.rel.fresh _ (Nat.le_refl _)] at hi; cases hi
  have hnx : h.next ≤ h'.next := hev.next
  refine ⟨_, _, h', fun t => if c.dst = some t then v else val t, fun i => if i = c.ix then id else idf i, hK, M.e0.trans r0 hev, M.sz, M.dsr.evo M.e0.rel hev, l1, ?_, ?_, l4, ?_, ?_, ?_, ?_⟩
  · intro i t hi; rw [full_snoc, l2 i t hi, hdst]
  · intro i t hi; rw [full_snoc, l3 i t hi, hdst]
  · intro t
    have : cur s0 (fun t => if c.dst = some t then v else val t) (bef ++ [c]) D t = cur s0 val bef D t := by
      unfold cur
      have hwr : WroteD D (bef ++ [c]) t ↔ WroteD D bef t := by
        constructor
        · rintro ⟨c', hc', h1, h2⟩
          rcases List.mem_append.1 hc' with hc' | hc'
          · exact ⟨c', hc', h1, h2⟩
          · simp at hc'; subst hc'; exact absurd h2 hD
        · rintro ⟨c', hc', h1⟩; exact ⟨c', by simp [hc'], h1⟩
      simp only [hwr]
      split
      · rename_i hwd
        obtain ⟨c', hc', h1, h2⟩ := hwd
        rw [if_neg (fun q => (p1 c' hc').dst t h1 q)]
      · rfl
    rw [this]; exact M.conc t
  · intro c' hc' hDc
    rcases List.mem_append.1 hc' with hcb | hcb
    · obtain ⟨q1, v', q2, q3⟩ := M.prom c' hcb hDc
      have hne : c'.ix ≠ c.ix := (p1 c' hcb).ne
      refine ⟨q1, v', fun t ht => ?_, ?_⟩
      · show (if c.dst = some t then v else val t) = v'
        rw [if_neg (fun q => (p1 c' hcb).dst t ht q)]; exact q2 t ht
      · rw [if_neg hne]
        refine q3.mono ?_ (fun _ => hsub) ?_
        · rintro t ⟨q, o', g1, g2, g3⟩
          rw [if_neg]
          intro hct
          obtain ⟨c'', k1, k2, k3⟩ := S.writer g1 g2
          have := S.dst k1 (by rw [hcs]; simp) k3 hct
          subst this
          subst k2
          exact (p1 c' hcb).nback g3
        · intro _ i _ k1 k2 k3
          refine ⟨?_, k1, by omega⟩
          cases hgi : h.get i with
          | none => exact absurd hgi k3
          | some x => exact hsub _ _ hgi
    · simp at hcb; subst hcb
      refine ⟨hw, v, fun t ht => by show (if c'.dst = some t then v else val t) = v; rw [if_pos ht], ?_⟩
      rw [if_pos rfl]
      have hsrc : ∀ y ∈ opdsOf e.op e.guard, ∀ t ∈ slotOf vm lm y, t ∈ c'.rd := by
        intro y hy t ht; rw [hrd]; exact List.mem_flatMap.2 ⟨y, hy, ht⟩
      refine ⟨o, lm, e.op, e.guard, vs, ls, by rw [hix]; exact ho, hg, hopk, hq, hcr.symm, hcm.symm, fun y hy => ⟨hkn y hy, fun t ht => ?_⟩, fun y hy t ht => reads_order S hcs (hsrc y hy t ht), ?_⟩
      · rw [opd_slot M.absV M.absL t ht]
        unfold full src
        have hrn := reads_news S hcs (hsrc y hy t ht)
        simp only [hrn]
        split
        · rename_i hwr
          obtain ⟨c'', hc'', hdd⟩ := hwr
          rw [if_neg (fun q => (p1 c'' hc'').dst t hdd q)]
        · rfl
      · exact hprom
  · intro c' hc' i hi
    rcases List.mem_append.1 hc' with hc' | hc'
    · have hne : c'.ix ≠ c.ix := (p1 c' hc').ne
      replace hi : (if c'.ix = c.ix then id else idf c'.ix) = some i := hi
      rw [if_neg hne] at hi
      have := M.ids c' hc' i hi
      exact ⟨this.1, by omega⟩
    · simp at hc'; subst hc'
      replace hi : (if c'.ix = c'.ix then id else idf c'.ix) = some i := hi
      rw [if_pos rfl] at hi
      rcases hh' with ⟨_, e⟩ | ⟨e, obj, rfl⟩
      · rw [e] at hi; cases hi
      · rw [e] at hi; cases hi; exact ⟨M.e0.next, by rw [Heap.next_new]; omega⟩
  · intro c1 h1 c2 h2 i e1 e2
    replace e1 : (if c1.ix = c.ix then id else idf c1.ix) = some i := e1
    replace e2 : (if c2.ix = c.ix then id else idf c2.ix) = some i := e2
    have fresh : ∀ c' ∈ bef, idf c'.ix = some i → id = some i → False := by
      intro c' hc' g1 g2
      have := (M.ids c' hc' i g1).2
      rcases hh' with ⟨_, e⟩ | ⟨e, _⟩
      · rw [e] at g2; cases g2
      · rw [e] at g2; cases g2; omega
    rcases List.mem_append.1 h1 with k1 | k1 <;> rcases List.mem_append.1 h2 with k2 | k2
    · rw [if_neg (p1 c1 k1).ne] at e1
      rw [if_neg (p1 c2 k2).ne] at e2
      exact M.inj c1 k1 c2 k2 i e1 e2
    · simp at k2
      rw [if_neg (p1 c1 k1).ne] at e1
      rw [k2, if_pos rfl] at e2
      exact (fresh c1 k1 e1 e2).elim
    · simp at k1
      rw [if_neg (p1 c2 k2).ne] at e2
      rw [k1, if_pos rfl] at e1
      exact (fresh c2 k2 e2 e1).elim
    · simp at k1 k2; rw [k1, k2]
end
end Go.Zy
