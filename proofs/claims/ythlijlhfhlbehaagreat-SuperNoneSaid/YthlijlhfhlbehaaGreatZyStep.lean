/- An operation of a region, carried out; a region in its own order. -/
import Derived.Test.YthlijlhfhlbehaaGreatZyWalk
set_option linter.unusedSimpArgs false
set_option linter.unusedVariables false
namespace Go.Zy
section
variable {P : Program} {σ : Im} {nt : Nat} {vm : List Nat} {C : CallK}

theorem operOk_inv {ops : Array Oper} {lm lm' : List Nat} {o : Oper} {e : EOp} (h : operOk P nt ops vm lm o e = some lm') :
    guardOk ops vm lm o.guard e.guard = true ∧ opOk P vm lm o.op o.type e.op = true ∧ dstOk nt vm lm o.dst e.dst = some lm' := by
  unfold operOk at h
  cases hb : (guardOk ops vm lm o.guard e.guard && opOk P vm lm o.op o.type e.op) with
  | false => rw [hb] at h; cases h
  | true =>
    rw [hb] at h
    simp only [Bool.and_eq_true] at hb
    exact ⟨hb.1, hb.2, h⟩

theorem skip_step {b : Frame} {a : Act} {k : List Item} {cs : List Frame} {w : World} {ops : Array Oper} {i : Nat} {rest : List Nat} {o : Oper} (ho : ops[i]? = some o) (hw : Region.wanted o (yielded ops a.tmps) = false) :
    Steps P (lone (b.atR a (.inRegion ops (i :: rest) :: k)) cs w) (lone (b.atR (a.put o.dst undef) (.inRegion ops rest :: k)) cs w) := by
  have := stepR_op_skip (P := P) (b := b) (a := a) (k := k) (cs := cs) (w := w) (ops := ops) (i := i) (rest := rest) (by simp [ho, hw])
  rw [ho] at this
  exact .one this

/- An operation, told without the places where its value goes. -/
def coreDo (C : CallK) (o : ROp) (vs ls : List AVal) (ds : List DS) (h : Heap) (J : AVal → List DS → Heap → Prop) : Prop :=
  match o with
  | .defer f args => match opdV vs ls f with
    | .func fn a b => J .junk (.call (.func fn a b) (args.map (opdV vs ls)) :: ds) h
    | _ => False
  | o => opK C vs ls h o fun v h => J v ds h
def coreK (C : CallK) (e : EOp) (vs ls : List AVal) (ds : List DS) (h : Heap) (J : AVal → List DS → Heap → Prop) : Prop :=
  match e.guard with
  | none => coreDo C e.op vs ls ds h J
  | some (x, b) => guardK (opdV vs ls x) b (fun _ => coreDo C e.op vs ls ds h J) (fun _ => J (.tuple []) ds h)
theorem doK_core (C : CallK) (o : ROp) (d : Dst) (vs ls : List AVal) (ds : List DS) (h : Heap) (K : List AVal → List AVal → List DS → Heap → Prop) :
    doK C o d vs ls ds h K = coreDo C o vs ls ds h fun v ds h => K (landV d v vs) (landL d v ls) ds h := by
  unfold doK coreDo
  cases o <;> simp only [landK_eq, ev_eq, evs_eq]
  cases opdV vs ls _ <;> rfl
theorem stepK_core (C : CallK) (e : EOp) (vs ls : List AVal) (ds : List DS) (h : Heap) (K : List AVal → List AVal → List DS → Heap → Prop) :
    stepK C e vs ls ds h K = coreK C e vs ls ds h fun v ds h => K (landV e.dst v vs) (landL e.dst v ls) ds h := by
  unfold stepK coreK
  cases e.guard with
  | none => simp only [doK_core]
  | some g => obtain ⟨x, b⟩ := g; simp only [ev_eq, doK_core, landK_eq]

/-- One operation: what it leaves. -/
theorem act_core (hC : ∀ f args h K, C f args h K → CallSem P σ f args h K) {B : Nat} {ρ : Nm} {vs ls : List AVal} {ds : List DS} {h : Heap} {lm lm' : List Nat} {a : Act} {w : World} {b : Frame} {k : List Item} {cs : List Frame} {ops : Array Oper}
    {i : Nat} {rest : List Nat} {o : Oper} {e : EOp} {J : AVal → List DS → Heap → Prop} (hpl : b.roundOf = none ∨ e.op.isDefer = false) (ho : ops[i]? = some o) (hc : operOk P nt ops vm lm o e = some lm')
    (rel : Rel P ρ σ h w) (he : Env ρ σ vm lm vs ls a.eval) (hds : DsOk P σ B ρ h w ds a.defers) (H : coreK C e vs ls ds h J) :
    ∃ v ds' h' ρ' x w' dfs, J v ds' h' ∧ Evo P σ ρ h w ρ' h' w' ∧ VRel ρ' σ v x ∧ DsOk P σ B ρ' h' w' ds' dfs ∧
      Steps P (lone (b.atR a (.inRegion ops (i :: rest) :: k)) cs w) (lone (b.atR (({ a with defers := dfs } : Act).put o.dst x) (.inRegion ops rest :: k)) cs w') := by
  obtain ⟨hg, hop, hd⟩ := operOk_inv hc
  have doit : Region.wanted o (yielded ops a.tmps) = true → coreDo C e.op vs ls ds h J → ∃ v ds' h' ρ' x w' dfs, J v ds' h' ∧ Evo P σ ρ h w ρ' h' w' ∧ VRel ρ' σ v x ∧ DsOk P σ B ρ' h' w' ds' dfs ∧
      Steps P (lone (b.atR a (.inRegion ops (i :: rest) :: k)) cs w) (lone (b.atR (({ a with defers := dfs } : Act).put o.dst x) (.inRegion ops rest :: k)) cs w') := by
    intro hw H
    cases hdf : e.op.isDefer with
    | false =>
      have H' : opK C vs ls h e.op fun v h => J v ds h := by
        unfold coreDo at H
        split at H
        · rename_i hq; rw [hq] at hdf; cases hdf
        · exact H
      have hnd := opOk_not_defer hop hdf
      have hA := op_sound hC hop hnd he (consts_act a) rel H' o rfl
      rw [← Oper.semAt_eq b.roundOf a.eval o hnd] at hA
      obtain ⟨x, w', ⟨v, h', ρ', hK, hev, hv⟩, hs⟩ := hA.step (k := k) (cs := cs) (rest := rest) ho hw
      exact ⟨v, ds, h', ρ', x, w', a.defers, hK, hev, hv, hds.evo rel hev, hs⟩
    | true =>
      have hro : b.roundOf = none := hpl.resolve_right (by rw [hdf]; simp)
      cases hq : e.op with
      | defer f args =>
        rw [hq] at H hop
        obtain ⟨c, g, h1, h2, h3, h4⟩ := opOk_defer hop
        simp only [coreDo] at H
        have hv := he _ _ h3
        have hl := he.list _ _ h4
        generalize opdV vs ls f = fv at H hv
        cases fv with
        | func fn fa fb =>
          obtain ⟨d, hdv, hdt⟩ := ofValue_fn (P := P) hv ((c.args.toList.map a.eval).toArray)
          have hres : (resolve a.eval c o.type).run P w = .ok d w := by
            have := hdv w
            have e1 : (c.args.toList.map a.eval).toArray = c.args.map a.eval := by apply Array.toList_inj.1; simp
            simp only [resolve, h2]
            rw [← e1]; exact this
          refine ⟨.junk, _, h, ρ, undef, w, d :: a.defers, H, Evo.refl rel, .junk _, ⟨.call hv hl hdv hdt, hds⟩, defer_step ho hw hro h1 hres⟩
        | _ => exact H.elim
      | _ => rw [hq] at hdf; cases hdf
  unfold coreK at H
  split at H
  · rename_i hgn
    rw [hgn] at hg
    exact doit (guard_none hg) H
  · rename_i x bb hgs
    rw [hgs] at hg
    rcases guard_no he hg H with ⟨hw, H⟩ | ⟨hw, H⟩
    · exact doit hw H
    · exact ⟨.tuple [], ds, h, ρ, undef, w, a.defers, H, Evo.refl rel, LRel.nil.tuple, hds, skip_step ho hw⟩
theorem act_sound (hC : ∀ f args h K, C f args h K → CallSem P σ f args h K) {B : Nat} {ρ : Nm} {vs ls : List AVal} {ds : List DS} {h : Heap} {lm lm' : List Nat} {a : Act} {w : World} {b : Frame} {k : List Item} {cs : List Frame} {ops : Array Oper}
    {i : Nat} {rest : List Nat} {o : Oper} {e : EOp} {K : List AVal → List AVal → List DS → Heap → Prop} (hpl : b.roundOf = none ∨ e.op.isDefer = false) (ho : ops[i]? = some o) (hc : operOk P nt ops vm lm o e = some lm')
    (rel : Rel P ρ σ h w) (he : Env ρ σ vm lm vs ls a.eval) (hds : DsOk P σ B ρ h w ds a.defers) (H : stepK C e vs ls ds h K) :
    ∃ v ds' h' ρ' x w' dfs, K (landV e.dst v vs) (landL e.dst v ls) ds' h' ∧ Evo P σ ρ h w ρ' h' w' ∧ VRel ρ' σ v x ∧ DsOk P σ B ρ' h' w' ds' dfs ∧
      Steps P (lone (b.atR a (.inRegion ops (i :: rest) :: k)) cs w) (lone (b.atR (({ a with defers := dfs } : Act).put o.dst x) (.inRegion ops rest :: k)) cs w') :=
  act_core hC hpl ho hc rel he hds (stepK_core C e vs ls ds h K ▸ H)

theorem frm_put {B : Nat} {ρ ρ' : Nm} {vs ls : List AVal} {ds ds' : List DS} {h h' : Heap} {lm lm' : List Nat} {a : Act} {w w' : World} {o : Oper} {e : EOp} {v : AVal} {x : Value} {dfs : List Deferred} (hdist : distinctN vm = true)
    (F : Frm P σ nt vm B ρ vs ds h a w) (L : LocRel ρ σ vm lm ls a.tmps) (hd : dstOk nt vm lm o.dst e.dst = some lm') (hev : Evo P σ ρ h w ρ' h' w') (hv : VRel ρ' σ v x) (hds : DsOk P σ B ρ' h' w' ds' dfs) :
    Frm P σ nt vm B ρ' (landV e.dst v vs) ds' h' (({ a with defers := dfs } : Act).put o.dst x) w' ∧ LocRel ρ' σ vm lm' (landL e.dst v ls) (({ a with defers := dfs } : Act).put o.dst x).tmps := by
  have := land_fr (nt := nt) (a := { a with defers := dfs }) (x := x) hdist F.sz (F.fr.mono hev.sub) (L.mono hev.sub) hd hv
  exact ⟨⟨hev.rel, this.1, by rw [put_size]; exact F.sz, by rw [put_defers]; exact hds⟩, this.2⟩

/-- Operations in their own order. -/
theorem seq_sound (hC : ∀ f args h K, C f args h K → CallSem P σ f args h K) (hdist : distinctN vm = true) {B : Nat} {b : Frame} {k : List Item} {cs : List Frame} {ops : Array Oper} :
    ∀ (os : List Oper) (es : List EOp) (n : Nat) (lm : List Nat) (vs ls : List AVal) (ds : List DS) (h : Heap) (ρ : Nm) (a : Act) (w : World) (K : List AVal → List AVal → List DS → Heap → Prop), (b.roundOf = none ∨ (es.all fun e => !e.op.isDefer) = true) →
      ops.toList.drop n = os → seqOk P nt ops vm lm os es = true → Frm P σ nt vm B ρ vs ds h a w → LocRel ρ σ vm lm ls a.tmps → opsK C es vs ls ds h K →
      ∃ vs' ls' ds' h' ρ' a' w', K vs' ls' ds' h' ∧ Evo P σ ρ h w ρ' h' w' ∧ Frm P σ nt vm B ρ' vs' ds' h' a' w' ∧
        Steps P (lone (b.atR a (.inRegion ops (List.range' n os.length) :: k)) cs w) (lone (b.atR a' (.inRegion ops [] :: k)) cs w') := by
  intro os
  induction os with
  | nil =>
    intro es n lm vs ls ds h ρ a w K hpl hdr hok F L H
    cases es with
    | nil => exact ⟨vs, ls, ds, h, ρ, a, w, H, Evo.refl F.rel, F, Steps.refl _ _⟩
    | cons e es => cases hok
  | cons o os ih =>
    intro es n lm vs ls ds h ρ a w K hpl hdr hok F L H
    cases es with
    | nil => cases hok
    | cons e es =>
      simp only [seqOk] at hok
      split at hok
      · rename_i lm' hop
        have ho : ops[n]? = some o := by
          rw [← Array.getElem?_toList]
          have : (ops.toList.drop n)[0]? = some o := by rw [hdr]; rfl
          simpa [List.getElem?_drop] using this
        have hdr' : ops.toList.drop (n + 1) = os := by
          have : (ops.toList.drop n).drop 1 = os := by rw [hdr]; rfl
          simpa [List.drop_drop] using this
        simp only [opsK] at H
        have hpl' : b.roundOf = none ∨ (es.all fun e => !e.op.isDefer) = true := hpl.imp id (fun q => by simp only [List.all_cons, Bool.and_eq_true] at q; exact q.2)
        have hpl0 : b.roundOf = none ∨ e.op.isDefer = false := hpl.imp id (fun q => by simp only [List.all_cons, Bool.and_eq_true, Bool.not_eq_true'] at q; exact q.1)
        obtain ⟨v, ds', h', ρ', x, w', dfs, hK, hev, hv, hds, hs⟩ := act_sound (k := k) (cs := cs) (rest := List.range' (n + 1) os.length) hC hpl0 ho hop F.rel (env_of F.fr L) F.ds H
        obtain ⟨F', L'⟩ := frm_put (o := o) (e := e) hdist F L (operOk_inv hop).2.2 hev hv hds
        obtain ⟨vs2, ls2, ds2, h2, ρ2, a2, w2, g1, g2, g3, g4⟩ := ih es (n + 1) lm' _ _ _ _ _ _ _ _ hpl' hdr' hok F' L' hK
        refine ⟨vs2, ls2, ds2, h2, ρ2, a2, w2, g1, hev.trans F.rel g2, g3, ?_⟩
        rw [show List.range' n (o :: os).length = n :: List.range' (n + 1) os.length by simp [List.range'_succ]]
        exact hs.trans g4
      · cases hok
end
end Go.Zy
