/- A region that draws its order: the machine's steps. -/
import Derived.Test.YthlijlhfhlbehaaGreatZyDraw2
set_option linter.unusedSimpArgs false
set_option linter.unusedVariables false
namespace Go.Zy
section
variable {P : Program} {σ : Im} {nt : Nat} {vm : List Nat} {C : CallK} {ops : Array Oper} {ah : List Nat}
open Classical

theorem canon_all {cs : List Rec} {B : Nat} {s0 : Nat → AVal} {ρ0 : Nm} {h0 : Heap} {w0 : World} {ds : List DS} {ρ : Nm} {D : Nat → Prop} {a : Act} {w : World} (hdist : distinctN vm = true) (S : Static ops ah nt cs) (r0 : Rel P ρ0 σ h0 w0) :
    ∀ (es : List EOp) (l bef post : List Rec) (lm lm' : List Nat) (vs ls : List AVal) (h : Heap) (val : Nat → AVal) (idf : Nat → Option Nat) (K : List AVal → List AVal → List DS → Heap → Prop), cs = bef ++ (l ++ post) →
      Sim P σ nt vm C ops ah B s0 ρ0 h0 w0 bef lm vs ls ds h ρ val idf D a w → recs P nt ops vm lm es = some (l, lm') → (l.all fun c => !c.w) = true → (∀ c ∈ l, ¬ D c.ix) → opsK C es vs ls ds h K →
      ∃ vs' ls' h' val' idf', K vs' ls' ds h' ∧ Sim P σ nt vm C ops ah B s0 ρ0 h0 w0 (bef ++ l) lm' vs' ls' ds h' ρ val' idf' D a w := by
  intro es
  induction es with
  | nil =>
    intro l bef post lm lm' vs ls h val idf K _ M hr _ _ H
    simp only [recs, Option.some.injEq, Prod.mk.injEq] at hr
    obtain ⟨rfl, rfl⟩ := hr
    exact ⟨vs, ls, h, val, idf, H, by rw [List.append_nil]; exact M⟩
  | cons e es ih =>
    intro l bef post lm lm' vs ls h val idf K hcs M hr hw hD H
    simp only [recs] at hr
    split at hr
    · rename_i c lm1 hc
      split at hr
      · rename_i l1 lm2 hl
        simp only [Option.some.injEq, Prod.mk.injEq] at hr
        obtain ⟨rfl, rfl⟩ := hr
        simp only [List.all_cons, Bool.and_eq_true, Bool.not_eq_true'] at hw
        simp only [opsK] at H
        obtain ⟨vs1, ls1, h1, val1, idf1, H1, M1⟩ := canon_one hdist S (post := l1 ++ post) (by rw [hcs]; rfl) r0 M hc hw.1 (hD c (List.mem_cons_self ..)) H
        obtain ⟨vs2, ls2, h2, val2, idf2, H2, M2⟩ := ih l1 (bef ++ [c]) post lm1 lm2 vs1 ls1 h1 val1 idf1 K (by rw [hcs]; simp) M1 hl hw.2 (fun x hx => hD x (List.mem_cons_of_mem _ hx)) H1
        refine ⟨vs2, ls2, h2, val2, idf2, H2, ?_⟩
        rw [show bef ++ c :: l1 = bef ++ [c] ++ l1 by simp]
        exact M2
      · cases hr
    · cases hr

theorem coreK_congr {e : EOp} {vs ls vs' ls' : List AVal} {ds : List DS} {h : Heap} {J : AVal → List DS → Heap → Prop} (H : ∀ y ∈ opdsOf e.op e.guard, opdV vs ls y = opdV vs' ls' y) : coreK C e vs ls ds h J = coreK C e vs' ls' ds h J := by
  have hdo : (∀ y ∈ e.op.opds, opdV vs ls y = opdV vs' ls' y) → coreDo C e.op vs ls ds h J = coreDo C e.op vs' ls' ds h J := by
    intro H
    unfold coreDo
    cases hop : e.op
    case defer f args =>
      rw [hop] at H
      simp only [ROp.opds] at H
      simp only
      rw [H f (by simp), map_congr fun y hy => H y (by simp [hy])]
    all_goals (rw [hop] at H; exact opK_congr H)
  unfold coreK
  cases hg : e.guard with
  | none => rw [hg] at H; exact hdo H
  | some p =>
    obtain ⟨x, b⟩ := p
    rw [hg] at H
    simp only [opdsOf] at H
    simp only
    rw [H x (by simp), hdo fun y hy => H y (by simp [hy])]

/-- The slots that an operation doesn't read, left out. -/
noncomputable def maskV (l : List Nat) (R : Nat → Prop) (F : Nat → AVal) : List AVal := l.map fun t => if R t then F t else .junk
theorem maskV_get {l : List Nat} {R : Nat → Prop} {F : Nat → AVal} {i t : Nat} (h : l[i]? = some t) : (maskV l R F).getD i .junk = if R t then F t else .junk := by
  simp [maskV, List.getD_eq_getElem?_getD, List.getElem?_map, h]
theorem mask_env {ρ : Nm} {lm : List Nat} {R : Nat → Prop} {F : Nat → AVal} {a : Act} (H : ∀ t, R t → VRel ρ σ (F t) (a.tmps.getD t undef)) : Env ρ σ vm lm (maskV vm R F) (maskV lm R F) a.eval := by
  intro x y hxy
  have key : ∀ t, VRel ρ σ (if R t then F t else .junk) (a.tmps.getD t undef) := by
    intro t
    split
    · exact H t ‹_›
    · exact .junk _
  unfold opdOk at hxy
  split at hxy
  · simp only [decide_eq_true_eq] at hxy; show VRel ρ σ ((maskV vm R F).getD _ .junk) _; rw [maskV_get hxy]; exact key _
  · simp only [decide_eq_true_eq] at hxy; show VRel ρ σ ((maskV lm R F).getD _ .junk) _; rw [maskV_get hxy]; exact key _
  · exact litOk_rel hxy
  · simp only [decide_eq_true_eq] at hxy
    subst hxy
    exact .func _ (by intro l e; cases e) (xs := []) (ys := []) rfl rfl (by intro i v x e; simp at e) (by intro i v x e; simp at e)
  · cases hxy
theorem mask_opd {lm : List Nat} {vs ls : List AVal} {R : Nat → Prop} {F : Nat → AVal} {y : Opd} (hk : knownOpd vm lm y = true) (hR : ∀ t ∈ slotOf vm lm y, R t) (hF : ∀ t ∈ slotOf vm lm y, opdV vs ls y = F t) :
    opdV vs ls y = opdV (maskV vm R F) (maskV lm R F) y := by
  cases y with
  | var i =>
    simp only [knownOpd] at hk
    obtain ⟨t, ht⟩ := Option.isSome_iff_exists.1 hk
    have hs : t ∈ slotOf vm lm (.var i) := by simp [slotOf, ht]
    rw [hF t hs]
    show F t = (maskV vm R F).getD i .junk
    rw [maskV_get ht, if_pos (hR t hs)]
  | loc i =>
    simp only [knownOpd] at hk
    obtain ⟨t, ht⟩ := Option.isSome_iff_exists.1 hk
    have hs : t ∈ slotOf vm lm (.loc i) := by simp [slotOf, ht]
    rw [hF t hs]
    show F t = (maskV lm R F).getD i .junk
    rw [maskV_get ht, if_pos (hR t hs)]
  | cst v => rfl

theorem DsOk.place {B : Nat} {ρ : Nm} {h : Heap} {w w' : World} {o : Obj} {id n : Nat} (hn : ρ id = none) (hp : Pushed w w' o) : ∀ {ds : List DS} {xs : List Deferred}, DsOk P σ B ρ h w ds xs → DsOk P σ B (upd ρ id (w.heap.size, 0, n)) h w' ds xs := by
  intro ds
  induction ds with
  | nil => intro xs h; cases xs <;> exact h
  | cons d ds ih =>
    intro xs hd
    cases xs with
    | nil => exact hd
    | cons x xs =>
      refine ⟨?_, ih hd.2⟩
      cases hd.1 with
      | call h1 h2 h3 h4 => exact .call (h1.mono (upd_sub hn)) (h2.mono (upd_sub hn)) h3 h4
      | mark h1 => exact .mark (upd_sub hn _ _ h1)

/-- Slots behind an operation's end. -/
theorem conc_put {cs bef : List Rec} {s0 val : Nat → AVal} {D D' : Nat → Prop} {ρ : Nm} {a : Act} {c : Rec} {o : Oper} {v : AVal} {x : Value} {dfs : List Deferred} (S : Static ops ah nt cs) (hb : ∀ c' ∈ bef, c' ∈ cs) (hcb : c ∈ bef) (ho : ops[c.ix]? = some o) (hsz : nt ≤ a.tmps.size)
    (hD : ∀ j, D' j ↔ D j ∨ j = c.ix) (hv : ∀ t, c.dst = some t → val t = v) (hx : VRel ρ σ v x) (hconc : ∀ t, VRel ρ σ (cur s0 val bef D t) (a.tmps.getD t undef)) :
    ∀ t, VRel ρ σ (cur s0 val bef D' t) ((({ a with defers := dfs } : Act).put o.dst x).tmps.getD t undef) := by
  obtain ⟨o', g1, g2, g3⟩ := S.op c (hb c hcb)
  rw [ho] at g1
  cases g1
  intro t
  by_cases hdt : o.dst = some t
  · have hlt : t < a.tmps.size := Nat.lt_of_lt_of_le (g3 t hdt) hsz
    rw [hdt, getD_put, if_pos ⟨rfl, hlt⟩]
    have : cur s0 val bef D' t = v := by
      unfold cur
      rw [if_pos ⟨c, hcb, by rw [← g2]; exact hdt, (hD _).2 (.inr rfl)⟩]
      exact hv t (by rw [← g2]; exact hdt)
    rw [this]; exact hx
  · have e1 : (({ a with defers := dfs } : Act).put o.dst x).tmps.getD t undef = a.tmps.getD t undef := by
      cases hd : o.dst with
      | none => rfl
      | some u => rw [getD_put, if_neg]; rintro ⟨q, _⟩; rw [hd, q] at hdt; exact hdt rfl
    have e2 : cur s0 val bef D' t = cur s0 val bef D t := by
      unfold cur
      have : WroteD D' bef t ↔ WroteD D bef t := by
        constructor
        · rintro ⟨c', k1, k2, k3⟩
          rcases (hD _).1 k3 with k3 | k3
          · exact ⟨c', k1, k2, k3⟩
          · have := S.same (hb c' k1) (hb c hcb) k3
            subst this
            exact absurd (by rw [g2]; exact k2) hdt
        · rintro ⟨c', k1, k2, k3⟩; exact ⟨c', k1, k2, (hD _).2 (.inl k3)⟩
      simp only [this]
    rw [e1, e2]; exact hconc t

theorem run_pending {cs bef : List Rec} {B : Nat} {s0 : Nat → AVal} {ρ0 : Nm} {h0 : Heap} {w0 : World} {lm : List Nat} {vs ls : List AVal} {ds : List DS} {h : Heap} {ρ : Nm} {val : Nat → AVal} {idf : Nat → Option Nat} {D D' : Nat → Prop} {a : Act} {w : World}
    {c : Rec} {b : Frame} {k : List Item} {fs : List Frame} {rest : List Nat} (S : Static ops ah nt cs) (hb : ∀ c' ∈ bef, c' ∈ cs) (r0 : Rel P ρ0 σ h0 w0) (M : Sim P σ nt vm C ops ah B s0 ρ0 h0 w0 bef lm vs ls ds h ρ val idf D a w)
    (hc : c ∈ bef) (hDc : ¬ D c.ix) (hah : ∀ j, A ah c.ix j → D j) (hcl : Closed ah ops.size D) (hdb : ∀ c' ∈ cs, D c'.ix → c' ∈ bef) (hD : ∀ j, D' j ↔ D j ∨ j = c.ix) :
    ∃ ρ' a' w', Sim P σ nt vm C ops ah B s0 ρ0 h0 w0 bef lm vs ls ds h ρ' val idf D' a' w' ∧ Steps P (lone (b.atR a (.inRegion ops (c.ix :: rest) :: k)) fs w) (lone (b.atR a' (.inRegion ops rest :: k)) fs w') := by
  obtain ⟨hcw, v, hval, o, lm', r, g, vs', ls', ho, hg, hop, hqt, hcr, hcm, hp1, hp3, hbody⟩ := M.prom c hc hDc
  let R : Nat → Prop := fun t => ∃ y ∈ opdsOf r g, t ∈ slotOf vm lm' y
  have hcur : ∀ t, R t → VRel ρ σ (src ops ah s0 val c.ix t) (a.tmps.getD t undef) := by
    rintro t ⟨y, hy, ht⟩
    have : cur s0 val bef D t = src ops ah s0 val c.ix t := by
      unfold cur src
      have : WroteD D bef t ↔ News ops ah c.ix t := by
        constructor
        · rintro ⟨c', k1, k2, k3⟩
          obtain ⟨o', q1, q2, _⟩ := S.op c' (hb c' k1)
          rcases hp3 y hy t ht c'.ix o' q1 (by rw [q2]; exact k2) with k | k | k
          · exact ⟨c'.ix, o', q1, by rw [q2]; exact k2, k⟩
          · rw [k] at k3; exact absurd k3 hDc
          · exact absurd (hcl c'.ix (Array.getElem?_eq_some_iff.1 q1).1 k3 _ k) hDc
        · rintro ⟨q, o', q1, q2, q3⟩
          obtain ⟨c', k1, k2, k3⟩ := S.writer q1 q2
          subst k2
          exact ⟨c', hdb c' k1 (hah _ q3), k3, hah _ q3⟩
      simp only [this]
    rw [← this]; exact M.conc t
  have henv : Env ρ σ vm lm' (maskV vm R (src ops ah s0 val c.ix)) (maskV lm' R (src ops ah s0 val c.ix)) a.eval := mask_env hcur
  have hmask : ∀ y ∈ opdsOf r g, opdV vs' ls' y = opdV (maskV vm R (src ops ah s0 val c.ix)) (maskV lm' R (src ops ah s0 val c.ix)) y := fun y hy =>
    mask_opd (hp1 y hy).1 (fun t ht => ⟨y, hy, ht⟩) (hp1 y hy).2
  have hmask' : ∀ y ∈ r.opds, opdV vs' ls' y = opdV (maskV vm R (src ops ah s0 val c.ix)) (maskV lm' R (src ops ah s0 val c.ix)) y := fun y hy => hmask y (by
    unfold opdsOf; split <;> simp [hy])
  have hnd : ∀ cc, o.op ≠ .defer cc := opOk_not_defer hop (by
    cases r with
    | defer f args => cases hqt
    | _ => rfl)
  have finish : ∀ (ρ' : Nm) (x : Value) (w' : World), Evo P σ ρ0 h0 w0 ρ' h w' → Sub ρ ρ' → VRel ρ' σ v x → DsOk P σ B ρ' h w' ds a.defers → (∀ c' ∈ bef, c'.ix ≠ c.ix → ∀ i, idf c'.ix = some i → ρ i = none → ρ' i = none) →
      Sim P σ nt vm C ops ah B s0 ρ0 h0 w0 bef lm vs ls ds h ρ' val idf D' (a.put o.dst x) w' := by
    intro ρ' x w' he hsub hx hds hid
    refine ⟨he, by rw [put_size]; exact M.sz, by rw [put_defers]; exact hds, M.len, M.absV, M.absL, M.lmv, ?_, ?_, M.ids, M.inj⟩
    · exact conc_put (dfs := a.defers) S hb hc ho M.sz hD hval hx (fun t => (M.conc t).mono hsub)
    · intro c' hc' hD'
      have hne : c'.ix ≠ c.ix := fun q => hD' ((hD _).2 (.inr q))
      obtain ⟨q1, v', q2, q3⟩ := M.prom c' hc' (fun q => hD' ((hD _).2 (.inl q)))
      exact ⟨q1, v', q2, q3.mono (fun _ _ => rfl) (fun _ _ _ g => g) (fun _ i hi k1 k2 k3 => ⟨rfl, hid c' hc' hne i hi k1, k2⟩)⟩
  have value : ∀ (x : Value) (ρ' : Nm) (w' : World), Region.wanted o (yielded ops a.tmps) = true → (execOp a.eval o).run P w = .ok (.value x) w' → Evo P σ ρ0 h0 w0 ρ' h w' → Sub ρ ρ' → VRel ρ' σ v x → DsOk P σ B ρ' h w' ds a.defers →
      (∀ c' ∈ bef, c'.ix ≠ c.ix → ∀ i, idf c'.ix = some i → ρ i = none → ρ' i = none) →
      ∃ ρ' a' w', Sim P σ nt vm C ops ah B s0 ρ0 h0 w0 bef lm vs ls ds h ρ' val idf D' a' w' ∧ Steps P (lone (b.atR a (.inRegion ops (c.ix :: rest) :: k)) fs w) (lone (b.atR a' (.inRegion ops rest :: k)) fs w') := by
    intro x ρ' w' hw hrun he hsub hx hds hid
    have hA : Answers P (o.semAt b.roundOf a.eval) w (fun y w2 => y = x ∧ w2 = w') := by
      rw [Oper.semAt_eq b.roundOf a.eval o hnd]
      exact .value x w' hrun ⟨rfl, rfl⟩
    obtain ⟨y, w2, ⟨rfl, rfl⟩, hs⟩ := hA.step (k := k) (cs := fs) (rest := rest) ho hw
    exact ⟨ρ', _, _, finish ρ' _ _ he hsub hx hds hid, hs⟩
  have doit : Region.wanted o (yielded ops a.tmps) = true → Body C ρ h vs' ls' r v (idf c.ix) →
      ∃ ρ' a' w', Sim P σ nt vm C ops ah B s0 ρ0 h0 w0 bef lm vs ls ds h ρ' val idf D' a' w' ∧ Steps P (lone (b.atR a (.inRegion ops (c.ix :: rest) :: k)) fs w) (lone (b.atR a' (.inRegion ops rest :: k)) fs w') := by
    intro hw hbd
    rcases hbd with ⟨hp, h1, H⟩ | ⟨hr, h1, hs1, H⟩ | ⟨hm, h1, hid, H, hn1, hlt1⟩
    · rw [opK_congr hmask'] at H
      obtain ⟨v', rfl, x, hx, hrun⟩ := quiet_pure hp hop henv (consts_act a) H
      exact value x ρ w hw (hrun o rfl w) M.e0 (Sub.refl _) hx M.dsr (fun _ _ _ _ _ q => q)
    · rw [opK_congr hmask'] at H
      obtain ⟨v', x, rfl, hx, hrun⟩ := quiet_reads hr hop henv (M.e0.rel.reader.less hs1) H
      exact value x ρ w hw (hrun o rfl) M.e0 (Sub.refl _) hx M.dsr (fun _ _ _ _ _ q => q)
    · rw [opK_congr hmask'] at H
      obtain ⟨obj, v', ⟨rfl, q2, q3⟩, hmk⟩ := quiet_makes hm hop henv H
      rw [Heap.get_new, if_pos rfl] at q2
      obtain ⟨x, ob, n, w', hpu, hrun, hall⟩ := hmk w
      obtain ⟨hx, hbr⟩ := hall _ (upd_sub hn1) upd_same
      refine value x (upd ρ h1.next (w.heap.size, 0, n)) w' hw (hrun o rfl) ?_ (upd_sub hn1) hx (M.dsr.place hn1 hpu) ?_
      · exact Evo.place r0 M.e0 (M.ids c hc _ hid).1 q2.symm hn1 hpu hbr
      · intro c' hc' hne i hi hρ
        unfold upd
        rw [if_neg (fun e => hne (M.inj c' hc' c hc i hi (by rw [e]; exact hid)))]
        exact hρ
  cases g with
  | none => exact doit (guard_none hg) hbody
  | some p =>
    obtain ⟨x, bb⟩ := p
    simp only at hbody
    rw [hmask x (by simp [opdsOf])] at hbody
    rcases guard_no henv hg hbody with ⟨hw, hbd⟩ | ⟨hw, hvt⟩
    · exact doit hw hbd
    · subst hvt
      exact ⟨ρ, _, w, finish ρ undef w M.e0 (Sub.refl _) LRel.nil.tuple M.dsr (fun _ _ _ _ _ q => q), skip_step ho hw⟩
end
end Go.Zy
