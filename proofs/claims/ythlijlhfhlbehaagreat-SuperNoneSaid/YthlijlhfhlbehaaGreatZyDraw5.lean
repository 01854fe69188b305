/- A region that draws its order: the whole. -/
import Derived.Test.YthlijlhfhlbehaaGreatZyDraw4
set_option linter.unusedSimpArgs false
set_option linter.unusedVariables false
namespace Go.Zy
section
variable {P : Program} {σ : Im} {nt : Nat} {vm : List Nat} {C : CallK} {ops : Array Oper} {ah : List Nat}
open Classical

theorem phases_inv {bef cs : List Rec} {lm : List Nat} {p : Phase} {ps : List Phase} (h : phasesOk ah P nt ops vm bef lm (p :: ps) = some cs) : ∃ d lm1 l lm2, recOf P nt ops vm lm p.w = some (d, lm1) ∧ d.w = true ∧ againOk ah ops vm lm1 P bef d p.re = true ∧
    recs P nt ops vm lm1 p.seg = some (l, lm2) ∧ (l.all fun c => !c.w) = true ∧ phasesOk ah P nt ops vm (bef ++ d :: l) lm2 ps = some cs := by
  simp only [phasesOk] at h
  split at h
  · rename_i d lm1 hd
    cases hb : (d.w && againOk ah ops vm lm1 P bef d p.re) with
    | false => rw [hb] at h; cases h
    | true =>
      rw [hb] at h
      simp only [Bool.and_eq_true] at hb
      simp only [cond_true] at h
      split at h
      · rename_i l lm2 hl
        cases hq : (l.all fun c => !c.w) with
        | false => rw [hq] at h; cases h
        | true => rw [hq] at h; exact ⟨d, lm1, l, lm2, hd, hb.1, hb.2, hl, hq, h⟩
      · cases h
  · cases h
theorem phases_post : ∀ {ph : List Phase} {bef cs : List Rec} {lm : List Nat}, phasesOk ah P nt ops vm bef lm ph = some cs → ∃ post, cs = bef ++ post := by
  intro ph
  induction ph with
  | nil => intro bef cs lm h; simp only [phasesOk, Option.some.injEq] at h; exact ⟨[], by simp [h]⟩
  | cons p ps ih =>
    intro bef cs lm h
    obtain ⟨d, lm1, l, lm2, _, _, _, _, _, h2⟩ := phases_inv h
    obtain ⟨post, hp⟩ := ih h2
    exact ⟨d :: l ++ post, by rw [hp]; simp⟩

def OpFact (ops : Array Oper) (nt : Nat) (c : Rec) : Prop := ∃ o, ops[c.ix]? = some o ∧ o.dst = c.dst ∧ ∀ t, o.dst = some t → t < nt
theorem recOf_fact {lm lm' : List Nat} {e : EOp} {c : Rec} (h : recOf P nt ops vm lm e = some (c, lm')) : OpFact ops nt c := by
  obtain ⟨o, ho, hop, _, hix, _, hdst, _⟩ := recOf_inv h
  refine ⟨o, by rw [hix]; exact ho, hdst.symm, ?_⟩
  obtain ⟨_, _, hd⟩ := operOk_inv hop
  intro t ht
  rw [ht] at hd
  unfold dstOk at hd
  split at hd
  · rename_i u hu _
    cases hu
    cases hb : (decide (t < nt) && !vm.contains t && !lm.contains t) with
    | false => rw [hb] at hd; cases hd
    | true => simp only [Bool.and_eq_true, decide_eq_true_eq] at hb; exact hb.1.1
  · rename_i u j hu _
    cases hu
    cases hb : (decide (vm[j]? = some t) && decide (t < nt)) with
    | false => rw [hb] at hd; cases hd
    | true => simp only [Bool.and_eq_true, decide_eq_true_eq] at hb; exact hb.2
  · rename_i hu _; cases hu
  · cases hd
theorem recs_fact : ∀ {es : List EOp} {lm lm' : List Nat} {l : List Rec}, recs P nt ops vm lm es = some (l, lm') → ∀ c ∈ l, OpFact ops nt c := by
  intro es
  induction es with
  | nil => intro lm lm' l h c hc; simp only [recs, Option.some.injEq, Prod.mk.injEq] at h; rw [← h.1] at hc; cases hc
  | cons e es ih =>
    intro lm lm' l h c hc
    simp only [recs] at h
    split at h
    · rename_i c0 lm1 h0
      split at h
      · rename_i l1 lm2 h1
        simp only [Option.some.injEq, Prod.mk.injEq] at h
        rw [← h.1] at hc
        rcases List.mem_cons.1 hc with rfl | hc
        · exact recOf_fact h0
        · exact ih h1 c hc
      · cases h
    · cases h
theorem phases_fact : ∀ {ph : List Phase} {bef cs : List Rec} {lm : List Nat}, (∀ c ∈ bef, OpFact ops nt c) → phasesOk ah P nt ops vm bef lm ph = some cs → ∀ c ∈ cs, OpFact ops nt c := by
  intro ph
  induction ph with
  | nil => intro bef cs lm hb h; simp only [phasesOk, Option.some.injEq] at h; rw [← h]; exact hb
  | cons p ps ih =>
    intro bef cs lm hb h
    obtain ⟨d, lm1, l, lm2, h1, _, _, h2, _, h3⟩ := phases_inv h
    refine ih (fun c hc => ?_) h3
    rcases List.mem_append.1 hc with hc | hc
    · exact hb c hc
    · rcases List.mem_cons.1 hc with rfl | hc
      · exact recOf_fact h1
      · exact recs_fact h2 c hc

theorem draw_loop (hC : ∀ f args h K, C f args h K → CallSem P σ f args h K) (hdist : distinctN vm = true) {cs : List Rec} {B : Nat} {s0 : Nat → AVal} {ρ0 : Nm} {h0 : Heap} {w0 : World} {b : Frame} {k : List Item} {fs : List Frame} {K : List AVal → List AVal → List DS → Heap → Prop}
    (S : Static ops ah nt cs) (r0 : Rel P ρ0 σ h0 w0) (a1 : aheadsOk ah ops.toList 0 = true) (a2 : edgesDown ops.toList 0 = true) :
    ∀ (fuel t : Nat) (listed : Array Bool) (bef post : List Rec) (ph : List Phase) (lm : List Nat) (vs ls : List AVal) (ds : List DS) (h : Heap) (ρ : Nm) (val : Nat → AVal) (idf : Nat → Option Nat) (a : Act) (w : World), cs = bef ++ post →
      (b.roundOf = none ∨ (ph.all fun p => !p.w.op.isDefer) = true) → phasesOk ah P nt ops vm bef lm ph = some cs → Sim P σ nt vm C ops ah B s0 ρ0 h0 w0 bef lm vs ls ds h ρ val idf (fun q => listed.getD q true = true) a w → listed.size = ops.size →
      unlisted ops.size listed ≤ fuel → Closed ah ops.size (fun q => listed.getD q true = true) → (∀ c ∈ post, ¬ listed.getD c.ix true = true) → phasesK C ph vs ls ds h K →
      ∃ vs' ls' ds' h' ρ' a' w', K vs' ls' ds' h' ∧ Evo P σ ρ0 h0 w0 ρ' h' w' ∧ Frm P σ nt vm B ρ' vs' ds' h' a' w' ∧
        Steps P (lone (b.atR a (.inRegion ops (Region.linearise.go .any ops fuel t listed []) :: k)) fs w) (lone (b.atR a' (.inRegion ops [] :: k)) fs w') := by
  have theEnd : ∀ (listed : Array Bool) (bef post : List Rec) (ph : List Phase) (lm : List Nat) (vs ls : List AVal) (ds : List DS) (h : Heap) (ρ : Nm) (val : Nat → AVal) (idf : Nat → Option Nat) (a : Act) (w : World), cs = bef ++ post →
      phasesOk ah P nt ops vm bef lm ph = some cs → Sim P σ nt vm C ops ah B s0 ρ0 h0 w0 bef lm vs ls ds h ρ val idf (fun q => listed.getD q true = true) a w → (∀ i, listed.getD i true = true) → (∀ c ∈ post, ¬ listed.getD c.ix true = true) → phasesK C ph vs ls ds h K →
      K vs ls ds h ∧ Evo P σ ρ0 h0 w0 ρ h w ∧ Frm P σ nt vm B ρ vs ds h a w := by
    intro listed bef post ph lm vs ls ds h ρ val idf a w hcs hph M hall hpost H
    cases ph with
    | nil =>
      refine ⟨H, M.e0, M.e0.rel, ⟨M.len, fun i t hi => ?_⟩, M.sz, M.dsr⟩
      rw [M.absV i t hi]
      have : full s0 val bef t = cur s0 val bef (fun q => listed.getD q true = true) t := by
        unfold full cur
        have : WroteD (fun q => listed.getD q true = true) bef t ↔ Wrote bef t := ⟨fun ⟨c, h1, h2, _⟩ => ⟨c, h1, h2⟩, fun ⟨c, h1, h2⟩ => ⟨c, h1, h2, hall _⟩⟩
        simp only [this]
      rw [this]; exact M.conc t
    | cons p ps =>
      obtain ⟨d, lm1, l, lm2, _, _, _, _, _, h3⟩ := phases_inv hph
      obtain ⟨post', hp⟩ := phases_post h3
      have : post = d :: (l ++ post') := by
        have : bef ++ post = bef ++ (d :: (l ++ post')) := by rw [← hcs, hp]; simp
        exact List.append_cancel_left this
      exact absurd (hall _) (hpost d (by rw [this]; exact List.mem_cons_self ..))
  intro fuel
  induction fuel with
  | zero =>
    intro t listed bef post ph lm vs ls ds h ρ val idf a w hcs _ hph M hsz hfu hcl hpost H
    obtain ⟨g1, g2, g3⟩ := theEnd listed bef post ph lm vs ls ds h ρ val idf a w hcs hph M (unlisted_zero hsz (by omega)) hpost H
    exact ⟨vs, ls, ds, h, ρ, a, w, g1, g2, g3, by simp only [Region.linearise.go, List.reverse_nil]; exact Steps.refl _ _⟩
  | succ fuel ih =>
    intro t listed bef post ph lm vs ls ds h ρ val idf a w hcs hpl hph M hsz hfu hcl hpost H
    simp only [Region.linearise.go]
    change ∃ vs' ls' ds' h' ρ' a' w', K vs' ls' ds' h' ∧ Evo P σ ρ0 h0 w0 ρ' h' w' ∧ Frm P σ nt vm B ρ' vs' ds' h' a' w' ∧
      Steps P (lone (b.atR a (.inRegion ops (match (Region.ready .any ops listed)[t % (Region.ready .any ops listed).length]? with
        | some i => Region.linearise.go .any ops fuel (t / (Region.ready .any ops listed).length) (listed.setIfInBounds i true) [i]
        | none => [].reverse) :: k)) fs w) (lone (b.atR a' (.inRegion ops [] :: k)) fs w')
    cases hi : (Region.ready .any ops listed)[t % (Region.ready .any ops listed).length]? with
    | none =>
      have hnil : Region.ready .any ops listed = [] := by
        cases hr : Region.ready .any ops listed with
        | nil => rfl
        | cons x xs =>
          rw [hr] at hi
          have hlt : t % (x :: xs).length < (x :: xs).length := Nat.mod_lt _ (by simp)
          rw [List.getElem?_eq_getElem hlt] at hi
          cases hi
      obtain ⟨g1, g2, g3⟩ := theEnd listed bef post ph lm vs ls ds h ρ val idf a w hcs hph M (ready_nil a2 hsz hnil) hpost H
      exact ⟨vs, ls, ds, h, ρ, a, w, g1, g2, g3, Steps.refl _ _⟩
    | some i =>
      simp only []
      rw [linearise_go_acc, List.reverse_singleton, List.singleton_append]
      have hri := List.mem_of_getElem? hi
      obtain ⟨hDi, o, ho, _⟩ := mem_ready.1 hri
      have hlt := (Array.getElem?_eq_some_iff.1 ho).1
      have hah := ready_ahead a1 a2 hcl hsz hri
      have hD : ∀ j, ((listed.setIfInBounds i true).getD j true = true) ↔ (listed.getD j true = true ∨ j = i) := fun j => listed_set (by omega) j
      have hsz' : (listed.setIfInBounds i true).size = ops.size := by simpa using hsz
      have hfu' : unlisted ops.size (listed.setIfInBounds i true) ≤ fuel := by have := unlisted_set hlt hsz hDi; omega
      have hcl' : Closed ah ops.size (fun q => (listed.setIfInBounds i true).getD q true = true) := by
        intro q hq hd j hj
        rcases (hD q).1 hd with g | g
        · exact (hD j).2 (.inl (hcl q hq g j hj))
        · subst g; exact (hD j).2 (.inl (hah j hj))
      have hb : ∀ c' ∈ bef, c' ∈ cs := fun c' h => by rw [hcs]; simp [h]
      have hdb : ∀ c' ∈ cs, listed.getD c'.ix true = true → c' ∈ bef := by
        intro c' hc' hd
        rw [hcs] at hc'
        rcases List.mem_append.1 hc' with g | g
        · exact g
        · exact absurd hd (hpost c' g)
      obtain ⟨c, hc, hci⟩ := S.all i hlt
      subst hci
      have hndc : ¬ listed.getD c.ix true = true := by rw [hDi]; simp
      have hc' := hc
      rw [hcs] at hc'
      rcases List.mem_append.1 hc' with hcb | hcp
      · -- it waited
        obtain ⟨ρ1, a1', w1, M1, s1⟩ := run_pending (b := b) (k := k) (fs := fs) (rest := Region.linearise.go .any ops fuel (t / (Region.ready .any ops listed).length) (listed.setIfInBounds c.ix true) []) S hb r0 M hcb hndc hah hcl hdb hD
        obtain ⟨vs2, ls2, ds2, h2, ρ2, a2', w2, g1, g2, g3, g4⟩ := ih (t / (Region.ready .any ops listed).length) (listed.setIfInBounds c.ix true) bef post ph lm vs ls ds h ρ1 val idf a1' w1 hcs hpl hph M1 hsz' hfu' hcl' (fun x hx hd => by
          rcases (hD _).1 hd with g | g
          · exact hpost x hx g
          · have := S.same (by rw [hcs]; simp [hx]) hc g
            subst this
            -- an operation that ran isn't left
            obtain ⟨pre, pst, hpp⟩ := List.append_of_mem hx
            have := (S.split (bef ++ pre) x pst (by rw [hcs, hpp]; simp)).1 x (by simp [hcb])
            exact this.ne rfl) H
        exact ⟨vs2, ls2, ds2, h2, ρ2, a2', w2, g1, g2, g3, s1.trans g4⟩
      · -- the next one that writes
        cases ph with
        | nil =>
          simp only [phasesOk, Option.some.injEq] at hph
          have : post = [] := by
            have : bef ++ post = bef ++ [] := by rw [← hcs, hph]; simp
            exact List.append_cancel_left this
          rw [this] at hcp
          cases hcp
        | cons p ps =>
          obtain ⟨d, lm1, l, lm2, k1, k2, k3, k4, k5, k6⟩ := phases_inv hph
          obtain ⟨post', hp⟩ := phases_post k6
          have hpo : post = d :: (l ++ post') := by
            have : bef ++ post = bef ++ (d :: (l ++ post')) := by rw [← hcs, hp]; simp
            exact List.append_cancel_left this
          have hcs2 : cs = bef ++ d :: (l ++ post') := by rw [hcs, hpo]
          have hcd : c = d := by
            rw [hpo] at hcp
            rcases List.mem_cons.1 hcp with g | g
            · exact g
            · have hpr := (S.split bef d (l ++ post') hcs2).2.1 c g
              exact absurd (hah _ (hpr.w k2)) (hpost d (by rw [hpo]; exact List.mem_cons_self ..))
          subst hcd
          have hpl' : b.roundOf = none ∨ (ps.all fun p => !p.w.op.isDefer) = true := hpl.imp id (fun q => by simp only [List.all_cons, Bool.and_eq_true] at q; exact q.2)
          have hpl0 : b.roundOf = none ∨ p.w.op.isDefer = false := hpl.imp id (fun q => by simp only [List.all_cons, Bool.and_eq_true, Bool.not_eq_true'] at q; exact q.1)
          simp only [phasesK] at H
          obtain ⟨vs1, ls1, ds1, h1, ρ1, val1, a1', w1, H1, M1, s1⟩ := run_write (b := b) (k := k) (fs := fs) (rest := Region.linearise.go .any ops fuel (t / (Region.ready .any ops listed).length) (listed.setIfInBounds c.ix true) []) (K := fun vs ls ds h => opsK C p.seg vs ls ds h fun vs ls ds h => phasesK C ps vs ls ds h K) hC hdist hpl0 S hcs2 r0 M k1 k2 k3 hah hcl (by rw [← hpo]; exact hpost) hD H
          have hpost' : ∀ x ∈ l ++ post', ¬ (listed.setIfInBounds c.ix true).getD x.ix true = true := by
            intro x hx hd
            rcases (hD _).1 hd with g | g
            · exact hpost x (by rw [hpo]; exact List.mem_cons_of_mem _ hx) g
            · exact ((S.split bef c (l ++ post') hcs2).2.1 x hx).ne g.symm
          obtain ⟨vs2, ls2, h2, val2, idf2, H2, M2⟩ := canon_all hdist S r0 p.seg l (bef ++ [c]) post' lm1 lm2 vs1 ls1 h1 val1 _ _ (by rw [hcs2]; simp) M1 k4 k5 (fun x hx => hpost' x (by simp [hx])) H1
          obtain ⟨vs3, ls3, ds3, h3, ρ3, a3', w3, g1, g2, g3, g4⟩ := ih (t / (Region.ready .any ops listed).length) (listed.setIfInBounds c.ix true) (bef ++ [c] ++ l) post' ps lm2 vs2 ls2 ds1 h2 ρ1 val2 idf2 a1' w1 (by rw [hcs2]; simp) hpl' (by
            rw [show bef ++ [c] ++ l = bef ++ c :: l by simp]; exact k6) M2 hsz' hfu' hcl' (fun x hx => hpost' x (by simp [hx])) H2
          exact ⟨vs3, ls3, ds3, h3, ρ3, a3', w3, g1, g2, g3, s1.trans g4⟩

/-- **A drawn region.** -/
theorem draw_sound (hC : ∀ f args h K, C f args h K → CallSem P σ f args h K) (hdist : distinctN vm = true) {B : Nat} {b : Frame} {k : List Item} {fs : List Frame} {id : Nat} {seg : List EOp} {ph : List Phase} {vs : List AVal} {ds : List DS} {h : Heap} {ρ : Nm} {a : Act} {w : World}
    {K : List AVal → List AVal → List DS → Heap → Prop} (hok : dregionOk P nt ops vm seg ph = true) (hpl : b.roundOf = none ∨ (ph.all fun p => !p.w.op.isDefer) = true) (F : Frm P σ nt vm B ρ vs ds h a w)
    (H : opsK C seg vs [] ds h fun vs ls ds h => phasesK C ph vs ls ds h K) :
    ∃ vs' ls' ds' h' ρ' a' w', K vs' ls' ds' h' ∧ Evo P σ ρ h w ρ' h' w' ∧ Frm P σ nt vm B ρ' vs' ds' h' a' w' ∧ Steps P (lone (b.atR a (.code (.region id ops true) :: k)) fs w) (lone (b.atR a' k) fs w') := by
  unfold dregionOk at hok
  simp only [Bool.and_eq_true] at hok
  obtain ⟨⟨⟨hmix, a2⟩, a1⟩, hok⟩ := hok
  split at hok
  · rename_i l lm hrec
    simp only [Bool.and_eq_true] at hok
    obtain ⟨hl, hok⟩ := hok
    split at hok
    · rename_i cs hph
      simp only [Bool.and_eq_true] at hok
      obtain ⟨hpr, hall⟩ := hok
      have S : Static ops (aheads ops.toList []) nt cs := ⟨fun pre c post e => pairsOk_split (e ▸ hpr), fun i hi => allIn_spec hall hi, phases_fact (recs_fact hrec) hph⟩
      obtain ⟨post, hcs⟩ := phases_post hph
      have hw1 : Evo P σ ρ h w ρ h { w with drawn := w.drawn + 1 } := evo_still F.rel rfl rfl rfl rfl
      let s0 : Nat → AVal := fun t => if hx : ∃ i : Nat, vm[i]? = some t then vs.getD (Classical.choose hx) .junk else .junk
      have hs0 : ∀ (i t : Nat), vm[i]? = some t → s0 t = vs.getD i .junk := by
        intro i t hi
        have hx : ∃ i : Nat, vm[i]? = some t := ⟨i, hi⟩
        show (if hx : ∃ i : Nat, vm[i]? = some t then vs.getD (Classical.choose hx) .junk else .junk) = _
        rw [dif_pos hx, distinctN_inj hdist (Classical.choose_spec hx) hi]
      have hD : ∀ j, (Array.replicate ops.size false).getD j true = true ↔ ops.size ≤ j := by
        intro j
        rw [Array.getD_eq_getD_getElem?, Array.getElem?_replicate]
        by_cases hj : j < ops.size
        · simp [hj]
        · simp [hj]; omega
      have hnot : ∀ c ∈ cs, ¬ (Array.replicate ops.size false).getD c.ix true = true := by
        intro c hc hd
        obtain ⟨o, ho, _⟩ := S.op c hc
        have := (Array.getElem?_eq_some_iff.1 ho).1
        have := (hD _).1 hd
        omega
      have M0 : Sim P σ nt vm C ops (aheads ops.toList []) B s0 ρ h { w with drawn := w.drawn + 1 } [] [] vs [] ds h ρ (fun _ => .junk) (fun _ => none) (fun q => (Array.replicate ops.size false).getD q true = true) a { w with drawn := w.drawn + 1 } := by
        refine ⟨Evo.refl hw1.rel, F.sz, F.ds.evo F.rel hw1, F.fr.1, fun i t hi => ?_, (fun i t hi => by simp at hi), (fun t ht => by cases ht), fun t => ?_, (fun c hc => by cases hc), (fun c hc => by cases hc), (fun c hc => by cases hc)⟩
        · unfold full
          rw [if_neg (fun ⟨c, hc, _⟩ => by cases hc)]
          exact (hs0 i t hi).symm
        · unfold cur
          rw [if_neg (fun ⟨c, hc, _⟩ => by cases hc)]
          by_cases hx : ∃ i : Nat, vm[i]? = some t
          · obtain ⟨i, hi⟩ := hx
            rw [hs0 i t hi]; exact F.fr.2 i t hi
          · show VRel ρ σ (if hx : ∃ i : Nat, vm[i]? = some t then vs.getD (Classical.choose hx) .junk else .junk) _
            rw [dif_neg hx]; exact .junk _
      obtain ⟨vs1, ls1, h1, val1, idf1, H1, M1⟩ := canon_all hdist S hw1.rel seg l [] post [] lm vs [] h _ _ _ (by rw [hcs]; simp) M0 hrec hl (fun c hc => hnot c (by rw [hcs]; simp [hc])) H
      rw [List.nil_append] at M1
      have hsz : (Array.replicate ops.size false).size = ops.size := by simp
      obtain ⟨vs2, ls2, ds2, h2, ρ2, a2', w2, g1, g2, g3, g4⟩ := draw_loop (b := b) (k := k) (fs := fs) (K := K) hC hdist S hw1.rel a1 a2 ops.size (w.tape w.drawn (.order b.fn id)) (Array.replicate ops.size false) l post ph lm vs1 ls1 ds h1 ρ val1 idf1 a { w with drawn := w.drawn + 1 } hcs hpl hph M1 hsz
        (by unfold unlisted; exact Nat.le_trans List.countP_le_length (by simp)) (fun q hq hd => absurd ((hD q).1 hd) (by omega)) (fun c hc => hnot c (by rw [hcs]; simp [hc])) H1
      refine ⟨vs2, ls2, ds2, h2, ρ2, a2', w2, g1, hw1.trans F.rel g2, g3, ?_⟩
      refine .head stepR_region_draw (Steps.trans ?_ (.one (stepR_region_end (ops := ops))))
      have : Region.schedule (P.follows .mixedOrders) ops (w.tape w.drawn (.order b.fn id)) = Region.linearise.go .any ops ops.size (w.tape w.drawn (.order b.fn id)) (Array.replicate ops.size false) [] := by
        simp only [Region.schedule, hmix, Bool.true_or, if_true]; rfl
      rw [this]
      exact g4
    · cases hok
  · cases hok
end
end Go.Zy
