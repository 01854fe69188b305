/- append: what it comes to. -/
import Derived.Test.YthlijlhfhlbehaaGreatZyApp2
set_option linter.unusedSimpArgs false
set_option linter.unusedVariables false
namespace Go.Zy
section
variable {P : Program} {ρ : Nm} {σ : Im} {vm lm : List Nat} {vs ls : List AVal} {a : Operand → Value} {C : CallK} {h : Heap} {w : World} {K : AVal → Heap → Prop}

theorem put_nil (cs : List AVal) (o : Nat) : put cs o [] = cs := by simp [put]
theorem evo_same (r : Rel P ρ σ h w) {id b o n : Nat} {x : AObj} (hg : h.get id = some x) (hρ : ρ id = some (b, o, n)) : Evo P σ ρ h w ρ (h.set id x) w := by
  have hb := (r.dom _ _ _ _ hρ).1
  refine Evo.turn r hg hρ (x := w.heap[b]) ⟨?_, rfl, rfl, rfl⟩ ?_
  · rw [set_self]; simp [hb]
  · have := r.live _ _ _ _ _ hg hρ
    simpa [hb] using this

/-- What an append comes to. -/
def Apps (P : Program) (σ : Im) (ρ : Nm) (h : Heap) (w : World) (t tx ty : TypeId) (x y : Value) (K : AVal → Heap → Prop) : Prop :=
  ∃ v h' ρ' w' u, K v h' ∧ Evo P σ ρ h w ρ' h' w' ∧ VRel ρ' σ v u ∧ (Builtin.append_ #[t, tx] ty #[x, y]).run P w = .ok u w'

theorem grown_run (r : Rel P ρ σ h w) {t tx ty e : TypeId} {i : TypeInfo} {z : Value} (ht : P.underlying t = some (.slice e)) (hi : P.info? e = some i) (hiz : i.zero = some z) (hz : z.cells.size = i.size) {base : Option Addr} {len cap n : Nat}
    {olds news : List Value} {old new : List AVal} (hold : (Builtin.firstCells i.size len (.slice base len cap)).run P w.drew = .ok olds.toArray w.drew) {y : Value} (hs : Adds P i z tx y n news w) (hg : cap < len + n) (hb0 : 0 < i.bytes)
    (h1 : LRel ρ σ old olds) (h2 : LRel ρ σ new news) (l1 : old.length = len * i.size) (l2 : new.length = n * i.size) (H : grownK h (len + n) i.size i.bytes old new K) :
    Apps P σ ρ h w t tx ty (.slice base len cap) y K := by
  unfold grownK at H
  obtain ⟨hb, H⟩ := cond_ok H
  rw [catK_eq, Heap.newK_eq] at H
  rw [Nat.ble_eq] at hb
  simp only [limit] at hb
  have hle : len + n ≤ (len + n) * i.bytes := Nat.le_mul_of_pos_right _ hb0
  have hrun := app_grow (ty := ty) ht hi hiz base len cap n olds hold hs hg (by omega) (growslice_fits hg (by omega))
  have hge := grownCap_ge w (len + n) cap e
  generalize grownCap w (len + n) cap e = gc at hrun hge
  have hsz : ((olds ++ news).toArray ++ Builtin.zeroCells z.cells (gc - (len + n))).size = gc * i.size := by
    have e1 := h1.1
    have e2 := h2.1
    rw [zeroCells_list]
    simp only [List.append_toArray, List.size_toArray, List.length_append, List.length_flatten, List.map_replicate, List.sum_replicate_nat, Array.length_toList]
    rw [← e1, ← e2, l1, l2, hz, ← Nat.add_mul, ← Nat.add_mul]
    congr 1; omega
  refine ⟨_, _, _, _, _, H, Evo.new r (w₁ := w.drew.alloc (.cells ((olds ++ news).toArray ++ Builtin.zeroCells z.cells (gc - (len + n))) e)) (o := .cells ((olds ++ news).toArray ++ Builtin.zeroCells z.cells (gc - (len + n))) e) (n := gc * i.size) ⟨rfl, rfl, rfl, rfl⟩ ?_, ?_, hrun⟩
  · have hl := (h1.append h2).mono (upd_sub (ρ := ρ) (id := h.next) (x := (w.heap.size, 0, gc * i.size)) (by
      cases hq : ρ h.next with
      | none => rfl
      | some y => obtain ⟨b, o, n⟩ := y; have := (r.dom _ _ _ _ hq).2; omega))
    refine ⟨_, e, 0, 0, rfl, hsz, ?_, .inl rfl, ?_⟩
    · simp only [List.length_append, l1, l2, Nat.zero_add, ← Nat.add_mul]
      exact Nat.mul_le_mul_right _ hge
    · intro k v hv
      obtain ⟨x, g1, g2⟩ := hl.get hv
      refine ⟨x, ?_, g2⟩
      have hk := (List.getElem?_eq_some_iff.1 g1).1
      rw [Nat.zero_add, Array.getElem?_append]
      simp only [List.size_toArray]
      rw [if_pos hk, List.getElem?_toArray, g1]
  · exact VRel.slice (n := gc * i.size) (o := 0) upd_same (fun k hk => by cases hk) hge (fun _ => by simp) (by simp)

theorem append_run (r : Rel P ρ σ h w) {t tx ty e : TypeId} {i : TypeInfo} {z : Value} (ht : P.underlying t = some (.slice e)) (hi : P.info? e = some i) (hiz : i.zero = some z) (hz : z.cells.size = i.size) (hsz : 0 < i.size) (hb0 : 0 < i.bytes)
    {x : AVal} {vx y : Value} {n : Nat} {new : List AVal} {news : List Value} (hv : VRel ρ σ x vx) (hs : Adds P i z tx y n news w) (h2 : LRel ρ σ new news) (hok : allOk new = true) (l2 : new.length = n * i.size)
    (H : appendK h i.size i.bytes x n new K) : Apps P σ ρ h w t tx ty vx y K := by
  have hnil : n = 0 → new = [] ∧ news = [] := by
    rintro rfl
    have e1 : new = [] := List.eq_nil_of_length_eq_zero (by omega)
    subst e1
    exact ⟨rfl, List.eq_nil_of_length_eq_zero (by have := h2.1; simpa using this.symm)⟩
  cases x <;> simp only [appendK] at H <;> try exact H.elim
  · -- nil
    rw [hv.nilslice_inv]
    cases n with
    | zero =>
      exact ⟨_, _, _, _, _, H, Evo.refl r, .nilslice, app_none ht hi none 0 0 (Nat.le_refl _) hs⟩
    | succ n =>
      have H' : grownK h (0 + (n + 1)) i.size i.bytes [] new K := by rw [Nat.zero_add]; exact H
      exact grown_run r ht hi hiz hz (olds := []) (run_firstCells_none w.drew _ _ _ _) hs (by omega) hb0 .nil h2 (by simp) l2 H'
  · rename_i id off len cap z'
    replace H := cond_ok H
    obtain ⟨hbz, H⟩ := H
    obtain rfl := Nat.eq_of_beq_eq_true hbz
    have hv' := hv
    obtain ⟨b, o, m, c, ad, hρ, hcap, hlen, had, hm, rfl⟩ := hv.slice_inv
    cases hg : h.get id with
    | none => simp only [hg] at H
    | some obj =>
      cases obj <;> simp only [hg] at H <;> try exact H.elim
      rename_i cs
      rw [fN_eq] at H
      have hel : ∀ {J : List AVal → Prop}, (fN (len * i.size) fun m => cutK cs off m J) → elemsK h i.size (.slice id off len cap i.size) len J := by
        intro J HJ
        simp only [elemsK, Nat.beq_refl, cond_true, hg]
        exact HJ
      by_cases hn0 : n = 0
      · obtain ⟨rfl, rfl⟩ := hnil hn0
        subst hn0
        have hrun := app_none (ty := ty) ht hi (some ad) len c hlen hs
        cases cap with
        | none => exact ⟨_, _, _, _, _, H, Evo.refl r, hv', hrun⟩
        | some cc =>
          have := hcap cc rfl
          subst this
          simp only [Nat.add_zero] at H
          have hb : Nat.ble len c = true := Nat.ble_eq_true_of_le hlen
          rw [hb] at H
          simp only [cond_true, fN_eq] at H
          rw [putK_iff, put_nil, Heap.setK_eq] at H
          exact ⟨_, _, _, _, _, H.2, evo_same r hg hρ, hv', hrun⟩
      · cases cap with
        | some cc =>
          have := hcap cc rfl
          subst this
          simp only at H
          cases hb : Nat.ble (len + n) c with
          | true =>
            rw [hb] at H
            simp only [cond_true, fN_eq] at H
            rw [putK_iff, Heap.setK_eq] at H
            rw [Nat.ble_eq] at hb
            obtain rfl := had (by omega)
            obtain ⟨hfit, H⟩ := H
            have hpos : 0 < new.length := by rw [l2]; exact Nat.mul_pos (Nat.pos_of_ne_zero hn0) hsz
            obtain ⟨w', hrun, hevo, _⟩ := write_row r hg hρ h2 hok (off := off + len * i.size) (by omega)
            rw [← Nat.add_assoc] at hrun
            exact ⟨_, _, _, _, _, H, hevo, .slice hρ (fun k hk => by cases hk; rfl) hb (fun _ => rfl) hm, app_room ht hi hiz b (o + off) len c n hb hs hrun⟩
          | false =>
            rw [hb] at H
            simp only [cond_false] at H
            have hlt : c < len + n := by
              rcases Nat.lt_or_ge c (len + n) with q | q
              · exact q
              · rw [Nat.ble_eq_true_of_le q] at hb; cases hb
            obtain ⟨old, olds, HJ, hl, hcl, hrun⟩ := elems_run (P := P) r.reader hv' (hel H) (fun _ _ _ _ _ q => by cases q; exact Nat.le_refl _) (fun _ _ _ _ _ q => by cases q) hsz
            exact grown_run r ht hi hiz hz (hrun w.drew rfl) hs hlt hb0 hl h2 hcl l2 HJ
        | none =>
          cases n with
          | zero => exact absurd rfl hn0
          | succ n =>
            simp only at H
            have H' : elemsK h i.size (.slice id off len none i.size) len (fun old => old = (cs.drop off).take (len * i.size) ∧ h.killK id fun h => grownK h (len + (n + 1)) i.size i.bytes old new K) := by
              apply hel
              rw [fN_eq, cutK_iff] at H ⊢
              exact ⟨H.1, rfl, H.2⟩
            obtain ⟨old, olds, ⟨hold, HJ⟩, hl, hcl, hrun⟩ := elems_run (P := P) r.reader hv' H' (fun _ _ _ _ _ q => by cases q; exact Nat.le_refl _) (fun _ _ _ _ _ q => by cases q) hsz
            rw [Heap.killK_eq] at HJ
            rcases Nat.lt_or_ge c (len + (n + 1)) with hlt | hge
            · have hk := Evo.kill r hg hρ
              obtain ⟨v, h', ρ', w', u, g1, g2, g3, g4⟩ := grown_run hk.rel ht hi hiz hz (hrun w.drew rfl) hs hlt hb0 hl h2 hcl l2 HJ (ty := ty)
              exact ⟨v, h', ρ', w', u, g1, Evo.trans r hk g2, g3, g4⟩
            · obtain rfl := had (by omega)
              unfold grownK at HJ
              obtain ⟨_, HJ⟩ := cond_ok HJ
              rw [catK_eq, Heap.newK_eq] at HJ
              obtain ⟨cc, e', lo, hi', q1, q2, q3, q4, q5⟩ := r.live _ _ _ _ _ hg hρ
              have hl1 := hl.1
              have hl2 := h2.1
              have hmul : (len + (n + 1)) * i.size ≤ c * i.size := Nat.mul_le_mul_right _ hge
              rw [Nat.add_mul] at hmul
              have hst := store_run (P := P) b (o + off + len * i.size) e' lo hi' news 0 cc w q1 (by rw [q2]; exact q4) (by omega) (h2.cellsOk hok)
              simp only [Nat.add_zero] at hst
              have hfc := hrun w rfl
              refine ⟨_, _, _, _, _, HJ, Evo.rename r (w₁ := { w with heap := w.heap.setIfInBounds b (.cells (cc.toList.take (o + off + len * i.size) ++ news ++ cc.toList.drop (o + off + len * i.size + news.length)).toArray e' (lo, hi')) }) (o' := o + off) (n' := m) hg hρ (x := .cells (cc.toList.take (o + off + len * i.size) ++ news ++ cc.toList.drop (o + off + len * i.size + news.length)).toArray e' (lo, hi')) ⟨rfl, rfl, rfl, rfl⟩ ?_, ?_,
                app_room ht hi hiz b (o + off) len c (n + 1) hge hs hst⟩
              · refine ⟨_, e', lo, hi', rfl, ?_, ?_, q4, ?_⟩
                · simp; omega
                · simp only [List.length_append, hcl, l2]; omega
                · have hsub : Sub ρ (upd ρ h.next (b, o + off, m)) := upd_sub (by
                    cases hq : ρ h.next with
                    | none => rfl
                    | some y => obtain ⟨b, o, n⟩ := y; have := (r.dom _ _ _ _ hq).2; omega)
                  intro j v hj
                  simp only [List.getElem?_toArray]
                  rw [List.append_assoc, List.getElem?_append]
                  have e2 : (cc.toList.take (o + off + len * i.size)).length = o + off + len * i.size := by simp; omega
                  rw [e2]
                  rw [List.getElem?_append, hcl] at hj
                  by_cases c1 : j < len * i.size
                  · rw [if_pos c1, hold, List.getElem?_take, if_pos c1, List.getElem?_drop] at hj
                    obtain ⟨y, p1, p2⟩ := q5 _ v hj
                    exact ⟨y, by rw [if_pos (by omega), List.getElem?_take, if_pos (by omega), Array.getElem?_toList, ← p1]; congr 1; omega, p2.mono hsub⟩
                  · rw [if_neg c1] at hj
                    obtain ⟨y, p1, p2⟩ := h2.get hj
                    have hlt := (List.getElem?_eq_some_iff.1 p1).1
                    exact ⟨y, by rw [if_neg (by omega), List.getElem?_append, if_pos (by omega), ← p1]; congr 1; omega, p2.mono hsub⟩
              · exact VRel.slice (n := m) (o := o + off) upd_same (fun k hk => by cases hk) hge (fun _ => by simp) (by omega)
  · rename_i row off len cap z'
    replace H := cond_ok H
    obtain ⟨hbz, H⟩ := H
    obtain rfl := Nat.eq_of_beq_eq_true hbz
    have hv' := hv
    obtain ⟨b, o, k, c, xs, ad, hσ, hcap, hlen, had, g3, g4, rfl⟩ := hv.islice_inv
    cases n with
    | zero => exact ⟨_, _, _, _, _, H, Evo.refl r, hv', app_none ht hi (some ad) len k hlen hs⟩
    | succ n =>
      cases cap with
      | none => exact H.elim
      | some cc =>
        have := hcap cc rfl
        subst this
        simp only [fN_eq] at H
        cases hb : Nat.ble (len + (n + 1)) k with
        | true => rw [hb] at H; exact H.elim
        | false =>
          rw [hb] at H
          simp only [cond_false] at H
          have hlt : k < len + (n + 1) := by
            rcases Nat.lt_or_ge k (len + (n + 1)) with q | q
            · exact q
            · rw [Nat.ble_eq_true_of_le q] at hb; cases hb
          have hel : elemsK h i.size (.islice row off len (some k) i.size) len (fun old => grownK h (len + (n + 1)) i.size i.bytes old new K) := by
            simp only [elemsK, Nat.beq_refl, cond_true, fN_eq]
            exact H
          obtain ⟨old, olds, HJ, hl, hcl, hrun⟩ := elems_run (P := P) r.reader hv' hel (fun _ _ _ _ _ q => by cases q) (fun _ _ _ _ _ q => by cases q; exact Nat.le_refl _) hsz
          exact grown_run r ht hi hiz hz (hrun w.drew rfl) hs hlt hb0 hl h2 hcl l2 HJ

end
end Go.Zy
