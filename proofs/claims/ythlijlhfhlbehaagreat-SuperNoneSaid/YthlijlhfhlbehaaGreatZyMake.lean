/- Operations that make memory; structs under making. -/
import Derived.Test.YthlijlhfhlbehaaGreatZyRead
import Derived.Laws.MakeOwn
set_option linter.unusedSimpArgs false
set_option linter.unusedVariables false
namespace Go.Zy
section
variable {P : Program} {ρ : Nm} {σ : Im} {vm lm : List Nat} {vs ls : List AVal} {a : Operand → Value} {C : CallK} {h : Heap} {w : World} {K : AVal → Heap → Prop}

theorem one_cell {v : AVal} {x : Value} (hv : VRel ρ σ v x) (h : v.cellOk = true) : x.oneCell' = true := by
  cases hv <;> first | rfl | (simp [AVal.cellOk] at h)
theorem allOk_iff {l : List AVal} : allOk l = true ↔ ∀ v ∈ l, v.cellOk = true := by
  induction l with
  | nil => simp [allOk]
  | cons a l ih => simp [allOk, ih]
theorem LRel.cellsOk {l : List AVal} {xs : List Value} (hl : LRel ρ σ l xs) (ho : allOk l = true) : ∀ x ∈ xs, x.oneCell' = true := by
  intro x hx
  obtain ⟨i, hi, he⟩ := List.getElem_of_mem hx
  have hi' : i < l.length := by rw [hl.1]; exact hi
  have := hl.2 i l[i] x (by simp [hi']) (by rw [← he]; simp [hi])
  exact one_cell this (allOk_iff.1 ho _ (List.getElem_mem hi'))

/-- A value's cells. -/
theorem cells_run {v : AVal} {x : Value} {n : Nat} (hv : VRel ρ σ v x) {J : List AVal → Prop} (H : cellsK v n J) :
    ∃ cs, J cs ∧ LRel ρ σ cs x.cells.toList ∧ cs.length = n ∧ allOk cs = true := by
  by_cases hag : ∃ cs, v = .agg cs
  · obtain ⟨cs, rfl⟩ := hag
    simp only [cellsK] at H
    obtain ⟨hb, H⟩ := cond_ok H
    simp only [Bool.and_eq_true] at hb
    obtain ⟨xs, hl, rfl⟩ := hv.agg_inv
    exact ⟨cs, H, by simpa [Value.cells] using hl, Nat.eq_of_beq_eq_true hb.2, hb.1⟩
  · have H' : (bif Nat.beq n 1 then J [v] else False) ∧ v.cellOk = true := by
      cases v <;> first | exact ⟨H, rfl⟩ | exact H.elim | exact absurd ⟨_, rfl⟩ hag
    obtain ⟨hb, H1⟩ := cond_ok H'.1
    have hx := one_cell hv H'.2
    have : x.cells = #[x] := by cases x <;> first | rfl | (simp [Value.oneCell'] at hx)
    exact ⟨[v], H1, by rw [this]; exact .cons hv .nil, (Nat.eq_of_beq_eq_true hb).symm, by simp [allOk, H'.2]⟩

theorem put_length {l : List AVal} {o : Nat} {vs : List AVal} (h : o + vs.length ≤ l.length) : (put l o vs).length = l.length := by
  simp [put]; omega
theorem put_rel {l : List AVal} {xs : List Value} {o : Nat} {vs : List AVal} {ys : List Value} (hl : LRel ρ σ l xs) (hv : LRel ρ σ vs ys) :
    LRel ρ σ (put l o vs) (xs.take o ++ ys ++ xs.drop (o + ys.length)) := by
  unfold put
  rw [hv.1]
  exact ((hl.take o).append hv).append (hl.drop _)
theorem put_ok {l : List AVal} {o : Nat} {vs : List AVal} (hl : allOk l = true) (hv : allOk vs = true) : allOk (put l o vs) = true := by
  rw [allOk_iff] at *
  intro x hx
  unfold put at hx
  rw [List.mem_append, List.mem_append] at hx
  rcases hx with (hx | hx) | hx
  · exact hl _ (List.mem_of_mem_take hx)
  · exact hv _ hx
  · exact hl _ (List.mem_of_mem_drop hx)

/-- Cells laid over others, one by one. -/
theorem fold_cells (ys : List Value) : ∀ (o j : Nat) (cs : Array Value), o + j + ys.length ≤ cs.size →
    ((ys.zipIdx j).foldl (fun cs (p : Value × Nat) => cs.setIfInBounds (o + p.2) p.1) cs).toList = cs.toList.take (o + j) ++ ys ++ cs.toList.drop (o + j + ys.length) := by
  induction ys with
  | nil => intro o j cs h; simp
  | cons y ys ih =>
    intro o j cs h
    simp only [List.length_cons] at h
    simp only [List.zipIdx_cons, List.foldl_cons]
    rw [ih o (j + 1) _ (by simp; omega)]
    have e := list_seg_step cs.toList (o + j) y ys (by simp; omega)
    simpa [Array.toList_setIfInBounds, Nat.add_assoc] using e

/-- Parts laid into a value under making. -/
theorem parts_run {place : Nat → Option (Nat × Nat)} (he : Env ρ σ vm lm vs ls a) : ∀ {ps : List (Nat × Operand)} {qs : List (Nat × Nat × Opd)} {l : List AVal} {cs : Array Value} {J : List AVal → Prop},
    partsOk vm lm place ps qs = true → LRel ρ σ l cs.toList → allOk l = true → partsK vs ls qs l J →
    ∃ l' cs', J l' ∧ LRel ρ σ l' cs'.toList ∧ allOk l' = true ∧ l'.length = l.length ∧ Instr.fill place cs (ps.map fun (i, x) => (i, a x)) = some cs' := by
  intro ps
  induction ps with
  | nil =>
    intro qs l cs J hp hl ho H
    cases qs with
    | nil => exact ⟨l, cs, H, hl, ho, rfl, rfl⟩
    | cons => simp [partsOk] at hp
  | cons p ps ih =>
    intro qs l cs J hp hl ho H
    obtain ⟨i, x⟩ := p
    cases qs with
    | nil => simp [partsOk] at hp
    | cons q qs =>
      obtain ⟨off, n, y⟩ := q
      simp only [partsOk, Bool.and_eq_true, decide_eq_true_eq] at hp
      obtain ⟨⟨⟨hpl, hn⟩, hxy⟩, hps⟩ := hp
      simp only [partsK, ev_eq] at H
      obtain ⟨new, H, hnew, hlen, hok⟩ := cells_run (he _ _ hxy) H
      rw [putK_iff] at H
      obtain ⟨hle, H⟩ := H
      have hsz : cs.size = l.length := by rw [hl.1]; simp
      have hnl : (a x).cells.size = new.length := by rw [hnew.1]; simp
      have hfit : off + new.length ≤ l.length := by omega
      let cs' := ((a x).cells.toList.zipIdx 0).foldl (fun cs (p : Value × Nat) => cs.setIfInBounds (off + p.2) p.1) cs
      have hcs' : cs'.toList = cs.toList.take off ++ (a x).cells.toList ++ cs.toList.drop (off + (a x).cells.toList.length) := by
        have := fold_cells (a x).cells.toList off 0 cs (by simp; omega)
        simpa using this
      have hrel : LRel ρ σ (put l off new) cs'.toList := by rw [hcs']; exact put_rel hl hnew
      have hplen : (put l off new).length = l.length := put_length hfit
      obtain ⟨l', cs2, g1, g2, g3, g4, g5⟩ := ih hps hrel (put_ok ho hok) H
      refine ⟨l', cs2, g1, g2, g3, g4.trans hplen, ?_⟩
      simp only [List.map_cons, Instr.fill, hpl]
      have hcond : ((a x).cells.size ≠ n || off + (a x).cells.size > cs.size) = false := by
        simp [hnl, hlen]; omega
      rw [hcond]
      simp only [Bool.false_eq_true, if_false]
      have hz : (a x).cells.zipIdx.foldl (fun cs (c, j) => cs.setIfInBounds (off + j) c) cs = cs' := by
        rw [← Array.foldl_toList, Array.toList_zipIdx]
      rw [hz]
      exact g5

theorem zero_run {t : TypeId} {z : List AVal} (hz : zeroOk P t z = true) : ∃ x i, (∀ w, (zeroValue t).run P w = .ok x w) ∧ LRel ρ σ z x.cells.toList ∧ allOk z = true ∧ P.info? t = some i ∧ x.cells.size = i.size ∧ i.zero = some x := by
  unfold zeroOk at hz
  split at hz
  · rename_i i hi
    split at hz
    · rename_i v hv
      simp only [Bool.and_eq_true, decide_eq_true_eq] at hz
      exact ⟨v, i, fun w => by simp [zeroValue, run_info hi, hv], litsOk_rel hz.1, litsOk_one hz.1, hi, hz.2, hv⟩
    · cases hz
  · cases hz

theorem mapM_places {fs : List Field} : ∀ (_ : fs.all (fun f => (P.info? f.type).isSome) = true) (w : World),
    (fs.mapM (fun f => do pure (f.offset, ← sizeOf f.type) : Field → Sem (Nat × Nat))).run P w = .ok (fs.map fun f => (f.offset, ((P.info? f.type).map (·.size)).getD 0)) w := by
  induction fs with
  | nil => intro _ w; simp
  | cons f fs ih =>
    intro h w
    simp only [List.all_cons, Bool.and_eq_true] at h
    obtain ⟨i, hi⟩ := Option.isSome_iff_exists.1 h.1
    have := ih h.2 w
    simp [List.mapM_cons, sizeOf, run_info hi, hi, this]
    simp [sizeOf] at this
    rw [this]
    simp

theorem pure_build {t : TypeId} {ps : Array (Nat × Operand)} {z : List AVal} {qs : List (Nat × Nat × Opd)} (he : Env ρ σ vm lm vs ls a) (hz : zeroOk P t z = true)
    (hp : (∃ fs, P.underlying t = some (.struct fs) ∧ fs.toList.all (fun f => (P.info? f.type).isSome) = true ∧ partsOk vm lm (fieldPlaceOf P fs) ps.toList qs = true) ∨
      ∃ n e i, P.underlying t = some (.array n e) ∧ P.info? e = some i ∧ partsOk vm lm (fun k => some (k * i.size, i.size)) ps.toList qs = true)
    (H : opK C vs ls h (.build z qs) K) : ∃ v, K v h ∧ Pures P ρ σ a (.build t ps) v := by
  simp only [opK] at H
  obtain ⟨zx, i0, hzx, hzl, hzo, _, _, _⟩ := zero_run (P := P) (ρ := ρ) (σ := σ) hz
  rcases hp with ⟨fs, hu, hall, hps⟩ | ⟨n, e, i, hu, hi, hps⟩
  · obtain ⟨l', cs', H, hl, ho, hlen, hfill⟩ := parts_run he hps hzl hzo H
    refine ⟨_, H, .agg cs', by have := hl.agg; simpa using this, ?_⟩
    intro o ho' w
    have hm := mapM_places (P := P) hall w
    have hplace : (fun k => ((fs.toList.map fun f => (f.offset, ((P.info? f.type).map (·.size)).getD 0)).toArray)[k]?) = fieldPlaceOf P fs := by
      funext k
      unfold fieldPlaceOf
      simp only [List.getElem?_toArray, List.getElem?_map]
      rw [Array.getElem?_toList]
      cases hk : fs[k]? with
      | none => simp
      | some f =>
        have hf := List.all_eq_true.1 hall f (by rw [Array.mem_toList_iff]; exact Array.mem_of_getElem? hk)
        obtain ⟨j, hj⟩ := Option.isSome_iff_exists.1 hf
        simp [hj]
    have hmm : (fs.mapM (fun f => do pure (f.offset, ← sizeOf f.type) : Field → Sem (Nat × Nat))).run P w = .ok ((fs.toList.map fun f => (f.offset, ((P.info? f.type).map (·.size)).getD 0)).toArray) w := by
      rw [Array.mapM_eq_mapM_toList, Sem.run_map, hm]; rfl
    simp only [execOp, ho', Instr.build, Sem.run_bind, hzx, Result.andThen_ok, run_underlying hu, hmm, hplace]
    have hfill' : Instr.fill (fieldPlaceOf P fs) zx.cells (Array.map (fun (i, x) => (i, a x)) ps).toList = some cs' := by
      rw [Array.toList_map]; exact hfill
    rw [hfill']
    simp
  · obtain ⟨l', cs', H, hl, ho, hlen, hfill⟩ := parts_run he hps hzl hzo H
    refine ⟨_, H, .agg cs', by have := hl.agg; simpa using this, ?_⟩
    intro o ho' w
    have hfill' : Instr.fill (fun k => some (k * i.size, i.size)) zx.cells (Array.map (fun (i, x) => (i, a x)) ps).toList = some cs' := by
      rw [Array.toList_map]; exact hfill
    simp only [execOp, ho', Instr.build, Sem.run_bind, hzx, Result.andThen_ok, run_underlying hu, sizeOf, run_info hi, Sem.run_pure]
    rw [hfill']
    simp

/-- What an operation that makes memory comes to. -/
def Makes (P : Program) (ρ : Nm) (σ : Im) (a : Operand → Value) (op : Op) (id : Nat) (obj : AObj) (v : AVal) : Prop :=
  ∀ w, ∃ (x : Value) (o : Obj) (n : Nat) (w' : World), Pushed w w' o ∧ (∀ r : Oper, r.op = op → (execOp a r).run P w = .ok (.value x) w') ∧
    ∀ ρ', Sub ρ ρ' → ρ' id = some (w.heap.size, 0, n) → VRel ρ' σ v x ∧ BRel P ρ' σ obj 0 n (some o)

theorem row_made {cs : List AVal} {c : Array Value} {e : TypeId} (hl : LRel ρ σ cs c.toList) : BRel P ρ σ (.row cs) 0 c.size (some (.cells c e)) :=
  ⟨c, e, 0, 0, rfl, rfl, by rw [hl.1]; simp, .inl rfl, fun i v hv => by
    obtain ⟨x, hx, hr⟩ := hl.get hv
    exact ⟨x, by rw [Nat.zero_add, ← Array.getElem?_toList]; exact hx, hr⟩⟩
theorem pushed_obj (w : World) (o : Obj) : Pushed w { w with heap := w.heap.push o } o := ⟨rfl, rfl, rfl, rfl⟩

theorem make_alloc {t : TypeId} {z : List AVal} (hz : zeroOk P t z = true) (H : opK C vs ls h (.alloc z) K) : ∃ obj v, K v (h.new obj) ∧ Makes P ρ σ a (.alloc t) h.next obj v := by
  simp only [opK, Heap.newK_eq] at H
  refine ⟨_, _, H, fun w => ?_⟩
  obtain ⟨zx, i0, hzx, hzl, hzo, _, _, _⟩ := zero_run (P := P) (ρ := ρ) (σ := σ) hz
  refine ⟨.pointer (some ⟨w.heap.size, 0, none⟩), _, zx.cells.size, _, pushed_obj w (.cells zx.cells t), ?_, ?_⟩
  · intro r hr
    simp [execOp, hr, Instr.alloc, hzx, newVar, newRow]
  · intro ρ' hs hρ
    have := VRel.ptr (ρ := ρ') (σ := σ) (id := h.next) (off := 0) hρ
    exact ⟨by simpa using this, row_made (hzl.mono hs)⟩

theorem make_box {n : Nat} {t : TypeId} {x : Operand} {y : Opd} (he : Env ρ σ vm lm vs ls a) (hc : opdOk vm lm x y = true) (H : opK C vs ls h (.box n y) K) :
    ∃ obj v, K v (h.new obj) ∧ Makes P ρ σ a (.box t x) h.next obj v := by
  simp only [opK, ev_eq] at H
  obtain ⟨cs, H, hl, _, _⟩ := cells_run (he _ _ hc) H
  rw [Heap.newK_eq] at H
  refine ⟨_, _, H, fun w => ?_⟩
  refine ⟨.pointer (some ⟨w.heap.size, 0, none⟩), _, (a x).cells.size, _, pushed_obj w (.cells (a x).cells t), ?_, ?_⟩
  · intro r hr
    simp [execOp, hr, Instr.box, newVar, newRow]
  · intro ρ' hs hρ
    have := VRel.ptr (ρ := ρ') (σ := σ) (id := h.next) (off := 0) hρ
    exact ⟨by simpa using this, row_made (hl.mono hs)⟩

theorem make_mkmap {t : TypeId} (H : opK C vs ls h .mkmap K) : ∃ obj v, K v (h.new obj) ∧ Makes P ρ σ a (.makeMap t none) h.next obj v := by
  simp only [opK, Heap.newK_eq] at H
  refine ⟨_, _, H, fun w => ?_⟩
  refine ⟨.map (some w.heap.size), _, 0, _, pushed_obj w (.map #[] 0), ?_, ?_⟩
  · intro r hr
    simp [execOp, hr, Instr.makeMap]
  · intro ρ' hs hρ
    exact ⟨.map hρ, #[], rfl, rfl, fun i e x h => by simp at h⟩

theorem rep_length (z : List AVal) (n : Nat) : (rep z n).length = n * z.length := by
  simp [rep]
theorem flat_get {α : Type} (z : List α) (n : Nat) : ∀ (i : Nat), ((List.replicate n z).flatten)[i]? = if i < n * z.length then z[i % z.length]? else none := by
  induction n with
  | zero => intro i; simp
  | succ n ih =>
    intro i
    rw [List.replicate_succ, List.flatten_cons, List.getElem?_append]
    have e : (n + 1) * z.length = n * z.length + z.length := Nat.succ_mul _ _
    by_cases hi : i < z.length
    · rw [if_pos hi, if_pos (by omega), Nat.mod_eq_of_lt hi]
    · rw [if_neg hi, ih]
      by_cases hj : i - z.length < n * z.length
      · rw [if_pos hj, if_pos (by omega), ← Nat.mod_eq_sub_mod (by omega)]
      · rw [if_neg hj, if_neg (by omega)]
theorem flat_cells (zs : Array Value) (n : Nat) : ((Array.range (n * zs.size)).map (fun i => zs[i % zs.size]!)).toList = (List.replicate n zs.toList).flatten := by
  apply List.ext_getElem?
  intro i
  rw [flat_get]
  simp only [Array.length_toList, Array.toList_map, Array.toList_range, List.getElem?_map]
  by_cases hi : i < n * zs.size
  · have hz : 0 < zs.size := by rcases Nat.eq_zero_or_pos zs.size with h | h; simp [h] at hi; exact h
    have hm : i % zs.size < zs.size := Nat.mod_lt _ hz
    rw [if_pos hi]
    simp [hi, hm]
  · rw [if_neg hi]; simp [hi]
theorem rep_rel {z : List AVal} {xs : List Value} (hl : LRel ρ σ z xs) (n : Nat) : LRel ρ σ (rep z n) (List.replicate n xs).flatten := by
  induction n with
  | zero => exact .nil
  | succ n ih =>
    have := hl.append ih
    simpa [rep, List.replicate_succ] using this
theorem rep_ok {z : List AVal} (h : allOk z = true) (n : Nat) : allOk (rep z n) = true := by
  rw [allOk_iff] at *
  intro v hv
  simp only [rep, List.mem_flatten, List.mem_replicate] at hv
  obtain ⟨l, ⟨_, rfl⟩, hv⟩ := hv
  exact h v hv
theorem wrap_nat {n : Nat} (h : n ≤ 1099511627776) : IntKind.i64.wrap (n : Int) = n := wrap_small .i64 n (by simp [kH]; omega)

theorem make_make {sz bytes : Nat} {z : List AVal} {t e : TypeId} {l c : Operand} {l' c' : Opd} (he : Env ρ σ vm lm vs ls a) (h1 : opdOk vm lm l l' = true) (h2 : opdOk vm lm c c' = true)
    (hu : P.underlying t = some (.slice e)) (hs : sizeIs P e sz = true) (hb : bytesIs P e bytes = true) (hz : zeroOk P e z = true)
    (H : opK C vs ls h (.make sz bytes z l' c') K) : ∃ obj v, K v (h.new obj) ∧ Makes P ρ σ a (.makeSlice t l c) h.next obj v := by
  simp only [opK, ev_eq] at H
  have r1 := he _ _ h1
  have r2 := he _ _ h2
  replace H := idxK_inv H
  obtain ⟨k1, n1, e1, H⟩ := H
  replace H := idxK_inv H
  obtain ⟨k2, n2, e2, H⟩ := H
  replace H := cond_ok H
  obtain ⟨hc, H⟩ := H
  rw [repK_eq, Heap.newK_eq] at H
  rw [e1] at r1
  rw [e2] at r2
  have x1 := r1.int_inv
  have x2 := r2.int_inv
  simp only [Bool.and_eq_true, Nat.ble_eq, limit] at hc
  obtain ⟨⟨g1, g2⟩, g3⟩ := hc
  obtain ⟨zx, i0, hzx, hzl, hzo, hi0, hz0, hiz⟩ := zero_run (P := P) (ρ := ρ) (σ := σ) hz
  obtain ⟨i, hi, hisz⟩ := size_info hs
  rw [hi0] at hi; cases hi
  have hby : i0.bytes = bytes := by unfold bytesIs at hb; rw [hi0] at hb; simpa using hb
  refine ⟨_, _, H, fun w => ?_⟩
  have hcells : (madeCells zx.cells (n2 * sz)).toList = (List.replicate n2 zx.cells.toList).flatten := by
    have := flat_cells zx.cells n2
    rw [show zx.cells.size = sz by omega] at this
    rw [← this]
    unfold madeCells
    rw [show zx.cells.size = sz by omega]
  refine ⟨.slice (some ⟨w.heap.size, 0, none⟩) n1 n2, _, n2 * sz, _, pushed_obj w (.cells (madeCells zx.cells (n2 * sz)) e), ?_, ?_⟩
  · intro r hr
    have hbn : (i0.bytes : Int) * (n2 : Int) = ((bytes * n2 : Nat) : Int) := by rw [hby]; norm_cast
    have := run_make (P := P) w t e i0 zx hu hi0 hiz k1 k2 (n1 : Int) (n2 : Int) (by omega) (by omega) (by rw [hbn]; omega) (by omega)
    simp only [Int.toNat_natCast, hisz] at this
    simp only [execOp, hr, x1, x2, Int.ofNat_eq_natCast, Sem.run_bind, this, Result.andThen_ok, Sem.run_pure]
    rfl
  · intro ρ' hs' hρ
    have := VRel.slice (ρ := ρ') (σ := σ) (id := h.next) (off := 0) (len := n1) (c := n2) (sz := sz) (cap := some n2) (a := ⟨w.heap.size, 0, none⟩) hρ (fun k hk => by cases hk; rfl) g1 (fun _ => by simp) (by simp)
    refine ⟨this, ?_⟩
    have hr := row_made (P := P) (e := e) (show LRel ρ' σ (rep z n2) (madeCells zx.cells (n2 * sz)).toList by rw [hcells]; exact rep_rel (hzl.mono hs') n2)
    rw [size_madeCells] at hr
    exact hr

theorem make_buildS {len sz : Nat} {t e : TypeId} {ps : Array (Nat × Operand)} {z : List AVal} {qs : List (Nat × Nat × Opd)} {i : TypeInfo} {zx : Value} (he : Env ρ σ vm lm vs ls a)
    (hu : P.underlying t = some (.slice e)) (hs : sizeIs P e sz = true) (hi : P.info? e = some i) (hz : i.zero = some zx) (hl : litsOk ((List.replicate len zx.cells.toList).flatten) z = true) (hzs : zx.cells.size = sz)
    (hlim : len * sz ≤ 16777216) (hp : partsOk vm lm (fun k => some (k * sz, sz)) ps.toList qs = true) (H : opK C vs ls h (.buildS len sz z qs) K) :
    ∃ obj v, K v (h.new obj) ∧ Makes P ρ σ a (.buildSlice t len ps) h.next obj v := by
  simp only [opK] at H
  let c0 : Array Value := (Array.range (len * sz)).map (fun i => (if len * sz = 0 then #[] else zx.cells)[i % (if len * sz = 0 then #[] else zx.cells : Array Value).size]!)
  have hc0 : c0.toList = (List.replicate len zx.cells.toList).flatten := by
    by_cases h0 : len * sz = 0
    · have h1 : c0.toList.length = 0 := by simp [c0, h0]
      have h2 : ((List.replicate len zx.cells.toList).flatten).length = 0 := by simp [hzs, h0]
      rw [List.eq_nil_of_length_eq_zero h1, List.eq_nil_of_length_eq_zero h2]
    · have := flat_cells zx.cells len
      rw [hzs] at this
      simp only [c0, if_neg h0]
      rw [← this, hzs]
  obtain ⟨l', cs', H, hl', ho', hlen', hfill⟩ := parts_run (cs := c0) he hp (by rw [hc0]; exact litsOk_rel hl) (litsOk_one hl) H
  rw [Heap.newK_eq] at H
  have hzlen : z.length = len * sz := by
    have := (litsOk_rel (ρ := ρ) (σ := σ) hl).1
    rw [this]; simp [hzs]
  have hcs : cs'.size = len * sz := by
    have := hl'.1
    rw [hlen', hzlen] at this
    simpa using this.symm
  refine ⟨_, _, H, fun w => ?_⟩
  refine ⟨.slice (some ⟨w.heap.size, 0, none⟩) len len, _, len * sz, _, pushed_obj w (.cells cs' e), ?_, ?_⟩
  · intro r hr
    have hfill' : Instr.fill (fun k => some (k * sz, sz)) c0 (Array.map (fun (i, x) => (i, a x)) ps).toList = some cs' := by rw [Array.toList_map]; exact hfill
    simp only [execOp, hr, Instr.buildSlice, Sem.run_bind, run_underlying hu, Result.andThen_ok, run_size hs]
    rw [if_neg (show ¬ len * sz > 2 ^ 24 by omega)]
    by_cases h0 : len * sz = 0
    · have hcc : c0 = (Array.range (len * sz)).map (fun i => (#[] : Array Value)[i % (#[] : Array Value).size]!) := by simp only [c0, if_pos h0]
      rw [hcc] at hfill'
      simp only [if_pos h0, Sem.run_bind, Sem.run_pure, Result.andThen_ok]
      rw [hfill']
      simp [newRow]
    · have hcc : c0 = (Array.range (len * sz)).map (fun i => zx.cells[i % zx.cells.size]!) := by simp only [c0, if_neg h0]
      rw [hcc] at hfill'
      have hzr : (zeroValue e).run P w = .ok zx w := by simp [zeroValue, run_info hi, hz]
      simp only [if_neg h0, Sem.run_bind, Sem.run_pure, Result.andThen_ok, hzr]
      rw [hfill']
      simp [newRow]
  · intro ρ' hs' hρ
    have := VRel.slice (ρ := ρ') (σ := σ) (id := h.next) (off := 0) (len := len) (c := len) (sz := sz) (cap := some len) (a := ⟨w.heap.size, 0, none⟩) hρ (fun k hk => by cases hk; rfl) (Nat.le_refl _) (fun _ => by simp) (by simp)
    refine ⟨this, ?_⟩
    have hr := row_made (P := P) (e := e) (hl'.mono hs')
    rw [hcs] at hr
    exact hr

end
end Go.Zy
