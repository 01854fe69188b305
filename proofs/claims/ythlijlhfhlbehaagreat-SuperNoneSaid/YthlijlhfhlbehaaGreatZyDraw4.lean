/- A region that draws its order: what writes, and the whole. -/
import Derived.Test.YthlijlhfhlbehaaGreatZyDraw3
set_option linter.unusedSimpArgs false
set_option linter.unusedVariables false
namespace Go.Zy
section
variable {P : Program} {σ : Im} {nt : Nat} {vm : List Nat} {C : CallK} {ops : Array Oper} {ah : List Nat}
open Classical

/-- What an operation that is asked again gives. -/
def AgFact (C : CallK) (vs ls : List AVal) (h : Heap) (x : Nat × ROp × Opd × Option (Opd × Bool)) : Prop :=
  match x.2.2.2 with
  | none => opK C vs ls h x.2.1 fun v _ => v = opdV vs ls x.2.2.1
  | some (y, b) => guardK (opdV vs ls y) b (fun _ => opK C vs ls h x.2.1 fun v _ => v = opdV vs ls x.2.2.1) (fun _ => True)
theorem again_all {vs ls : List AVal} {h : Heap} : ∀ {re : List (Nat × ROp × Opd × Option (Opd × Bool))} {J : Unit → Prop}, (re.all fun x => x.2.1.reads) = true → againK C vs ls h re J → J () ∧ ∀ x ∈ re, AgFact C vs ls h x := by
  intro re
  induction re with
  | nil => intro J _ H; exact ⟨H, fun x hx => by cases hx⟩
  | cons e re ih =>
    obtain ⟨i, r, x, g⟩ := e
    intro J hr H
    simp only [List.all_cons, Bool.and_eq_true] at hr
    have one : (opK C vs ls h r fun w _ => bif eqV (opdV vs ls x) w then againK C vs ls h re J else False) → (J () ∧ ∀ x ∈ re, AgFact C vs ls h x) ∧ opK C vs ls h r fun v _ => v = opdV vs ls x := by
      intro H
      obtain ⟨v, h1, h2⟩ := det_reads hr.1 _ H
      obtain ⟨he, h1⟩ := cond_ok h1
      exact ⟨ih hr.2 h1, h2 _ (eqV_eq he).symm⟩
    simp only [againK] at H
    cases g with
    | none =>
      simp only [ev_eq] at H
      obtain ⟨⟨g1, g2⟩, g3⟩ := one H
      refine ⟨g1, fun y hy => ?_⟩
      rcases List.mem_cons.1 hy with rfl | hy
      · exact g3
      · exact g2 y hy
    | some p =>
      obtain ⟨y, b⟩ := p
      simp only [ev_eq, guardK_iff] at H
      rcases H with ⟨hv, H⟩ | ⟨hv, H⟩
      · obtain ⟨⟨g1, g2⟩, g3⟩ := one H
        refine ⟨g1, fun z hz => ?_⟩
        rcases List.mem_cons.1 hz with rfl | hz
        · simp only [AgFact, guardK_iff]; exact .inl ⟨hv, g3⟩
        · exact g2 z hz
      · obtain ⟨g1, g2⟩ := ih hr.2 H
        refine ⟨g1, fun z hz => ?_⟩
        rcases List.mem_cons.1 hz with rfl | hz
        · simp only [AgFact, guardK_iff]; exact .inr ⟨hv, trivial⟩
        · exact g2 z hz

theorem againOk1_spec {lm : List Nat} {c : Rec} : ∀ {re : List (Nat × ROp × Opd × Option (Opd × Bool))}, againOk1 ah ops vm lm P c re = true → ∃ r x g o t, (c.ix, r, x, g) ∈ re ∧ r.reads = true ∧ ops[c.ix]? = some o ∧ opOk P vm lm o.op o.type r = true ∧ guardOk ops vm lm o.guard g = true ∧
    o.dst = some t ∧ opdOk vm lm (.tmp t) x = true ∧ (∀ y ∈ opdsOf r g, knownOpd vm lm y = true) ∧ (∀ y ∈ opdsOf r g, ∀ t ∈ slotOf vm lm y, ∀ q o', ops[q]? = some o' → o'.dst = some t → A ah c.ix q) := by
  intro re
  induction re with
  | nil => intro h; cases h
  | cons e re ih =>
    obtain ⟨i, r, x, g⟩ := e
    intro h
    simp only [againOk1] at h
    cases hb : Nat.beq i c.ix with
    | false =>
      rw [hb] at h
      obtain ⟨r', x', g', o, t, h1, h2⟩ := ih h
      exact ⟨r', x', g', o, t, List.mem_cons_of_mem _ h1, h2⟩
    | true =>
      rw [hb] at h
      obtain rfl := Nat.eq_of_beq_eq_true hb
      simp only [cond_true, Bool.and_eq_true] at h
      obtain ⟨h1, h2⟩ := h
      split at h2
      · rename_i o ho
        simp only [Bool.and_eq_true, List.all_eq_true] at h2
        obtain ⟨⟨⟨⟨h3, h4⟩, h5⟩, h6⟩, h7⟩ := h2
        split at h5
        · rename_i t ht
          refine ⟨r, x, g, o, t, List.mem_cons_self .., h1, ho, h3, h4, ht, h5, h6, fun y hy t ht q o' hq hd => ?_⟩
          have := writersIn_spec (n := 0) (h7 t (List.mem_flatMap.2 ⟨y, hy, ht⟩)) (j := q) (o := o') (by rw [Array.getElem?_toList]; exact hq) hd
          rw [Nat.zero_add] at this; exact this
        · cases h5
      · cases h2

theorem slot_of_tmp {lm : List Nat} {t : Nat} {x : Opd} (h : opdOk vm lm (.tmp t) x = true) : t ∈ slotOf vm lm x := by
  cases x with
  | var i => simp [opdOk] at h; simp [slotOf, h]
  | loc i => simp [opdOk] at h; simp [slotOf, h]
  | cst v => simp [opdOk] at h

theorem guard_slot {lm : List Nat} {o : Oper} {x : Opd} {b : Bool} (h : guardOk ops vm lm o.guard (some (x, b)) = true) : ∃ j t, o.guard = some (j, b) ∧ ((ops[j]?).bind (·.dst)) = some t ∧ t ∈ slotOf vm lm x := by
  unfold guardOk at h
  split at h
  · rename_i h2; cases h2
  · rename_i j b0 x' b1 h1 h2
    cases h2
    simp only [Bool.and_eq_true, decide_eq_true_eq] at h
    obtain ⟨rfl, h⟩ := h
    split at h
    · rename_i t ht; exact ⟨j, t, h1, ht, slot_of_tmp h⟩
    · cases h
  · cases h

theorem run_write {cs bef post : List Rec} {B : Nat} {s0 : Nat → AVal} {ρ0 : Nm} {h0 : Heap} {w0 : World} {lm lm' : List Nat} {vs ls : List AVal} {ds : List DS} {h : Heap} {ρ : Nm} {val : Nat → AVal} {idf : Nat → Option Nat} {D D' : Nat → Prop} {a : Act} {w : World}
    {d : Rec} {e : EOp} {re : List (Nat × ROp × Opd × Option (Opd × Bool))} {b : Frame} {k : List Item} {fs : List Frame} {rest : List Nat} {K : List AVal → List AVal → List DS → Heap → Prop} (hC : ∀ f args h K, C f args h K → CallSem P σ f args h K) (hdist : distinctN vm = true)
    (hpl : b.roundOf = none ∨ e.op.isDefer = false) (S : Static ops ah nt cs) (hcs : cs = bef ++ d :: post) (r0 : Rel P ρ0 σ h0 w0) (M : Sim P σ nt vm C ops ah B s0 ρ0 h0 w0 bef lm vs ls ds h ρ val idf D a w) (hd : recOf P nt ops vm lm e = some (d, lm')) (hdw : d.w = true)
    (hag : againOk ah ops vm lm' P bef d re = true) (hah : ∀ j, A ah d.ix j → D j) (hcl : Closed ah ops.size D) (hDn : ∀ c ∈ d :: post, ¬ D c.ix) (hD : ∀ j, D' j ↔ D j ∨ j = d.ix)
    (H : stepK C e vs ls ds h fun vs ls ds h => againK C vs ls h re fun _ => K vs ls ds h) :
    ∃ vs' ls' ds' h' ρ' val' a' w', K vs' ls' ds' h' ∧ Sim P σ nt vm C ops ah B s0 ρ0 h0 w0 (bef ++ [d]) lm' vs' ls' ds' h' ρ' val' (fun i => if i = d.ix then none else idf i) D' a' w' ∧
      Steps P (lone (b.atR a (.inRegion ops (d.ix :: rest) :: k)) fs w) (lone (b.atR a' (.inRegion ops rest :: k)) fs w') := by
  obtain ⟨o, ho, hop, hkn, hix, hrd, hdst, hcw, hcr, hcm⟩ := recOf_inv hd
  obtain ⟨hg, hopk, hdo⟩ := operOk_inv hop
  obtain ⟨p1, p2, p3⟩ := S.split _ _ _ hcs
  have hb : ∀ c' ∈ bef, c' ∈ cs := fun c' h => by rw [hcs]; simp [h]
  have hmd : d ∈ cs := by rw [hcs]; simp
  rw [← hix] at ho
  -- the slots that it reads
  have hcur : ∀ t, t ∈ d.rd → VRel ρ σ (full s0 val bef t) (a.tmps.getD t undef) := by
    intro t ht
    have : cur s0 val bef D t = full s0 val bef t := by
      unfold cur full
      have : WroteD D bef t ↔ Wrote bef t := by
        constructor
        · rintro ⟨c', k1, k2, _⟩; exact ⟨c', k1, k2⟩
        · rintro ⟨c', k1, k2⟩; exact ⟨c', k1, k2, hah _ ((p1 c' k1).reads t k2 ht)⟩
      simp only [this]
    rw [← this]; exact M.conc t
  have henv : Env ρ σ vm lm (maskV vm (· ∈ d.rd) (full s0 val bef)) (maskV lm (· ∈ d.rd) (full s0 val bef)) a.eval := mask_env hcur
  have hsrc : ∀ y ∈ opdsOf e.op e.guard, ∀ t ∈ slotOf vm lm y, t ∈ d.rd := by
    intro y hy t ht; rw [hrd]; exact List.mem_flatMap.2 ⟨y, hy, ht⟩
  rw [stepK_core, coreK_congr (vs' := maskV vm (· ∈ d.rd) (full s0 val bef)) (ls' := maskV lm (· ∈ d.rd) (full s0 val bef)) (fun y hy => mask_opd (hkn y hy) (hsrc y hy) (fun t ht => opd_slot M.absV M.absL t ht))] at H
  obtain ⟨v, ds', h', ρ', x, w', dfs, hK, hev, hv, hds, hs⟩ := act_core (k := k) (cs := fs) (rest := rest) hC hpl ho hop M.e0.rel henv M.dsr H
  obtain ⟨l1, l2, l3, l4, l5⟩ := land_abs (v := v) hdist M.len M.absV M.absL M.lmv hdo
  obtain ⟨hre, hago⟩ : (re.all (fun x => x.2.1.reads)) = true ∧ ∀ c ∈ bef, (c.r = false ∨ A ah d.ix c.ix) ∨ againOk1 ah ops vm lm' P c re = true := by
    unfold againOk at hag
    simp only [Bool.and_eq_true, List.all_eq_true, Bool.or_eq_true, Bool.not_eq_true'] at hag
    exact ⟨by rw [List.all_eq_true]; exact hag.1, fun c hc => hag.2 c hc⟩
  obtain ⟨hK, hfacts⟩ := again_all hre hK
  have absV' : ∀ (i t : Nat), vm[i]? = some t → (landV e.dst v vs).getD i .junk = full s0 (fun t => if d.dst = some t then v else val t) (bef ++ [d]) t := by
    intro i t hi; rw [full_snoc, l2 i t hi, hdst]
  have absL' : ∀ (i t : Nat), lm'[i]? = some t → (landL e.dst v ls).getD i .junk = full s0 (fun t => if d.dst = some t then v else val t) (bef ++ [d]) t := by
    intro i t hi; rw [full_snoc, l3 i t hi, hdst]
  have hvd : ∀ c ∈ bef, ∀ t, c.dst = some t → (if d.dst = some t then v else val t) = val t := fun c hc t ht => if_neg (fun q => (p1 c hc).dst t ht q)
  have hnews : ∀ c ∈ bef, ∀ t, News ops ah c.ix t → (if d.dst = some t then v else val t) = val t := by
    rintro c hc t ⟨q, o', g1, g2, g3⟩
    rw [if_neg]
    intro hct
    obtain ⟨c'', k1, k2, k3⟩ := S.writer g1 g2
    have := S.dst k1 hmd k3 hct
    rw [← k2, this] at g3
    exact (p1 c hc).nback g3
  refine ⟨_, _, ds', h', ρ', fun t => if d.dst = some t then v else val t, _, w', hK, ⟨M.e0.trans r0 hev, by rw [put_size]; exact M.sz, by rw [put_defers]; exact hds, l1, absV', absL', l4, ?_, ?_, ?_, ?_⟩, hs⟩
  · have hsame : ∀ t, cur s0 (fun t => if d.dst = some t then v else val t) (bef ++ [d]) D t = cur s0 val bef D t := by
      intro t
      unfold cur
      have hwr : WroteD D (bef ++ [d]) t ↔ WroteD D bef t := by
        constructor
        · rintro ⟨c', hc', h1, h2⟩
          rcases List.mem_append.1 hc' with hc' | hc'
          · exact ⟨c', hc', h1, h2⟩
          · simp at hc'; subst hc'; exact absurd h2 (hDn _ (List.mem_cons_self ..))
        · rintro ⟨c', hc', h1⟩; exact ⟨c', by simp [hc'], h1⟩
      simp only [hwr]
      split
      · rename_i hwd
        obtain ⟨c', hc', h1, h2⟩ := hwd
        exact hvd c' hc' t h1
      · rfl
    refine conc_put (c := d) S (bef := bef ++ [d]) (fun c' hc' => ?_) (by simp) ho M.sz hD (fun t ht => by simp only [if_pos ht]) hv (fun t => by rw [hsame]; exact (M.conc t).mono hev.sub)
    rcases List.mem_append.1 hc' with hc' | hc'
    · exact hb c' hc'
    · simp at hc'; subst hc'; exact hmd
  · intro c hc hDc
    rcases List.mem_append.1 hc with hcb | hcb
    · have hDc0 : ¬ D c.ix := fun q => hDc ((hD _).2 (.inl q))
      obtain ⟨q1, v', q2, q3⟩ := M.prom c hcb hDc0
      have hne : c.ix ≠ d.ix := (p1 c hcb).ne
      refine ⟨q1, v', fun t ht => by rw [hvd c hcb t ht]; exact q2 t ht, ?_⟩
      rw [if_neg hne]
      have three : c.r = false ∨ A ah d.ix c.ix ∨ (c.r = true ∧ againOk1 ah ops vm lm' P c re = true) := by
        cases hr : c.r with
        | false => exact .inl rfl
        | true =>
          rcases hago c hcb with (hr0 | hA) | hag1
          · rw [hr] at hr0; cases hr0
          · exact .inr (.inl hA)
          · exact .inr (.inr ⟨rfl, hag1⟩)
      rcases three with hr0 | hA | ⟨hcr1, hag1⟩
      · refine q3.mono (hnews c hcb) (fun q => by rw [hr0] at q; cases q) (fun _ i hi k1 k2 k3 => ?_)
        have := hev.still i k2 k1
        exact ⟨this.2, this.1, Nat.lt_of_lt_of_le k2 hev.next⟩
      · exact absurd (hah _ hA) hDc0
      · obtain ⟨r, x', g, o', t', m1, m2, m3, m4, m5, m6, m7, m8, m9⟩ := againOk1_spec hag1
        have hfact := hfacts _ m1
        have hslots : ∀ y ∈ opdsOf r g, ∀ t ∈ slotOf vm lm' y, opdV (landV e.dst v vs) (landL e.dst v ls) y = src ops ah s0 (fun t => if d.dst = some t then v else val t) c.ix t := by
          intro y hy t ht
          rw [opd_slot absV' absL' t ht]
          unfold full src
          have : Wrote (bef ++ [d]) t ↔ News ops ah c.ix t := by
            constructor
            · rintro ⟨c', k1, k2⟩
              have hmem : c' ∈ cs := by
                rcases List.mem_append.1 k1 with k | k
                · exact hb c' k
                · simp at k; subst k; exact hmd
              obtain ⟨o2, z1, z2, _⟩ := S.op c' hmem
              exact ⟨c'.ix, o2, z1, by rw [z2]; exact k2, m9 y hy t ht c'.ix o2 z1 (by rw [z2]; exact k2)⟩
            · rintro ⟨q, o2, z1, z2, z3⟩
              obtain ⟨c', k1, k2, k3⟩ := S.writer z1 z2
              subst k2
              rw [hcs] at k1
              rcases List.mem_append.1 k1 with k | k
              · exact ⟨c', by simp [k], k3⟩
              · have : Pair ah c c' := by
                  rcases List.mem_cons.1 k with rfl | k
                  · exact p1 c hcb
                  · obtain ⟨pre, pst, hbe⟩ := List.append_of_mem hcb
                    have := (S.split pre c (pst ++ d :: post) (by rw [hcs, hbe]; simp)).2.1
                    exact this c' (by simp [k])
                exact absurd z3 this.nback
          simp only [this]
        have hval' : opdV (landV e.dst v vs) (landL e.dst v ls) x' = v' := by
          rw [opd_slot absV' absL' t' (slot_of_tmp m7)]
          obtain ⟨o2, z1, z2, _⟩ := S.op c (hb c hcb)
          rw [m3] at z1
          cases z1
          have hct : c.dst = some t' := by rw [← z2]; exact m6
          unfold full
          rw [if_pos ⟨c, by simp [hcb], hct⟩]
          show (if d.dst = some t' then v else val t') = v'
          rw [hvd c hcb t' hct]
          exact q2 t' hct
        obtain ⟨oo, lmo, ro, go, vso, lso, n1, n2, n3, nq, n4, n5, n6, n7, n8⟩ := q3
        rw [m3] at n1
        cases n1
        have hcm0 : r.makes = c.m := by
          have e1 : r.makes = false := by cases r <;> first | rfl | cases m2
          have e2 : ro.reads = true := by rw [n4]; exact hcr1
          have e3 : ro.makes = false := by cases ro <;> first | rfl | cases e2
          rw [e1, ← n5, e3]
        have hbody : opK C (landV e.dst v vs) (landL e.dst v ls) h' r (fun v_1 _ => v_1 = opdV (landV e.dst v vs) (landL e.dst v ls) x') → Body C ρ' h' (landV e.dst v vs) (landL e.dst v ls) r v' (idf c.ix) := by
          intro q
          rw [hval'] at q
          exact .inr (.inl ⟨m2, h', fun _ _ g => g, q⟩)
        refine ⟨o', lm', r, g, _, _, m3, m5, m4, by simp [ROp.quiet, m2], by rw [m2, hcr1], hcm0, fun y hy => ⟨m8 y hy, hslots y hy⟩, fun y hy t ht q o2 z1 z2 => .inl (m9 y hy t ht q o2 z1 z2), ?_⟩
        cases g with
        | none => exact hbody hfact
        | some p =>
          obtain ⟨y, bb⟩ := p
          simp only [AgFact, guardK_iff] at hfact
          simp only [guardK_iff]
          rcases hfact with ⟨f1, f2⟩ | ⟨f1, _⟩
          · exact .inl ⟨f1, hbody f2⟩
          · right
            refine ⟨f1, ?_⟩
            obtain ⟨j, tg, z1, z2, z3⟩ := guard_slot m5
            cases go with
            | none =>
              unfold guardOk at n2
              rw [z1] at n2
              cases n2
            | some p' =>
              obtain ⟨y', bb'⟩ := p'
              obtain ⟨j', tg', u1, u2, u3⟩ := guard_slot n2
              rw [z1] at u1
              cases u1
              rw [z2] at u2
              cases u2
              have ev1 := hslots y (by simp [opdsOf]) tg z3
              have ev2 := (n6 y' (by simp [opdsOf])).2 tg u3
              have ev3 : src ops ah s0 (fun t => if d.dst = some t then v else val t) c.ix tg = src ops ah s0 val c.ix tg := by
                unfold src
                split
                · rename_i hn; exact hnews c hcb tg hn
                · rfl
              rw [ev1, ev3, ← ev2] at f1
              simp only [guardK_iff] at n8
              rcases n8 with ⟨k1, _⟩ | ⟨_, k2⟩
              · rw [f1] at k1; cases k1
              · exact k2
    · simp at hcb; subst hcb; exact absurd ((hD _).2 (.inr rfl)) hDc
  · intro c hc i hi
    rcases List.mem_append.1 hc with hcb | hcb
    · have hne : c.ix ≠ d.ix := (p1 c hcb).ne
      rw [if_neg hne] at hi
      have := M.ids c hcb i hi
      exact ⟨this.1, Nat.lt_of_lt_of_le this.2 hev.next⟩
    · simp at hcb; subst hcb; rw [if_pos rfl] at hi; cases hi
  · intro c1 h1 c2 h2 i e1 e2
    rcases List.mem_append.1 h1 with k1 | k1 <;> rcases List.mem_append.1 h2 with k2 | k2
    · rw [if_neg (p1 c1 k1).ne] at e1
      rw [if_neg (p1 c2 k2).ne] at e2
      exact M.inj c1 k1 c2 k2 i e1 e2
    · simp at k2; rw [k2, if_pos rfl] at e2; cases e2
    · simp at k1; rw [k1, if_pos rfl] at e1; cases e1
    · simp at k1; rw [k1, if_pos rfl] at e1; cases e1
end
end Go.Zy
