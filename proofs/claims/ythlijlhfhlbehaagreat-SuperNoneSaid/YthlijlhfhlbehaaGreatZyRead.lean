/- Operations that read memory. -/
import Derived.Test.YthlijlhfhlbehaaGreatZyMem
import Derived.Laws.BytesArg
import Derived.Laws.LoneSync
set_option linter.unusedSimpArgs false
set_option linter.unusedVariables false
namespace Go.Zy

/-- What a reader needs of the memory. -/
structure RRel (P : Program) (ρ : Nm) (σ : Im) (h : Heap) (w : World) : Prop where
  live : ∀ id obj b o n, h.get id = some obj → ρ id = some (b, o, n) → BRel P ρ σ obj o n w.heap[b]?
  imm : ∀ b c, σ b = some c → ∃ e f, w.heap[b]? = some (.cells c e f)
theorem Rel.reader {P : Program} {ρ : Nm} {σ : Im} {h : Heap} {w : World} (r : Rel P ρ σ h w) : RRel P ρ σ h w := ⟨r.live, r.imm⟩
theorem RRel.less {P : Program} {ρ : Nm} {σ : Im} {h h' : Heap} {w : World} (r : RRel P ρ σ h' w) (hs : ∀ i x, h.get i = some x → h'.get i = some x) : RRel P ρ σ h w :=
  ⟨fun id obj b o n hg hr => r.live id obj b o n (hs _ _ hg) hr, r.imm⟩

section
variable {P : Program} {ρ : Nm} {σ : Im} {vm lm : List Nat} {vs ls : List AVal} {a : Operand → Value} {C : CallK} {h : Heap} {w : World} {K : AVal → Heap → Prop}

theorem nthK_inv : ∀ {l : List AVal} {i : Nat} {J : AVal → Prop}, nthK l i J → ∃ v, l[i]? = some v ∧ J v := by
  intro l
  induction l with
  | nil => intro i J hJ; cases i <;> exact hJ.elim
  | cons b l ih => intro i J hJ; cases i with
    | zero => exact ⟨_, rfl, hJ⟩
    | succ i => exact ih hJ

theorem cell_cells {b : Nat} {c : Array Value} {e : TypeId} {f : Nat × Nat} (hb : w.heap[b]? = some (.cells c e f)) (i : Nat) : w.cell? ⟨b, i, none⟩ = c[i]? := by
  simp [World.cell?, hb]

/-- Where a pointer leads. -/
theorem row_run (r : RRel P ρ σ h w) {v : AVal} {x : Value} (hv : VRel ρ σ v x) {J : List AVal → Nat → Prop} (H : rowK h v J) :
    ∃ cs off b o, J cs off ∧ x = .pointer (some ⟨b, o + off, none⟩) ∧ ∀ (i : Nat) u, cs[i]? = some u → ∃ y, w.cell? ⟨b, o + i, none⟩ = some y ∧ VRel ρ σ u y := by
  cases v <;> simp only [rowK] at H <;> try exact H.elim
  · rename_i id off
    obtain ⟨b, o, n, hρ, hx⟩ := hv.ptr_inv
    cases hg : h.get id with
    | none => simp only [hg] at H
    | some obj =>
      cases obj <;> simp only [hg] at H <;> try exact H.elim
      rename_i cs
      obtain ⟨c, e, lo, hi, h1, h2, h3, h4, h5⟩ := r.live _ _ _ _ _ hg hρ
      exact ⟨cs, off, b, o, H, hx, fun i u hu => let ⟨y, e1, e2⟩ := h5 i u hu; ⟨y, by rw [cell_cells h1]; exact e1, e2⟩⟩
  · rename_i row off
    obtain ⟨b, o, c, xs, hσ, g3, g4, hx⟩ := hv.iptr_inv
    obtain ⟨e, f, he⟩ := r.imm b c hσ
    exact ⟨row, off, b, o, H, hx, fun i u hu => ⟨xs i, by rw [cell_cells he]; exact g3 i u hu, g4 i u hu⟩⟩

theorem cells_list {b : Nat} : ∀ (l : List AVal) (p : Nat), (∀ (i : Nat) v, l[i]? = some v → ∃ y, w.cell? ⟨b, p + i, none⟩ = some y ∧ VRel ρ σ v y) →
    ∃ xs, LRel ρ σ l xs ∧ ∀ (j : Nat) x, xs[j]? = some x → w.cell? ((⟨b, p, none⟩ : Addr).add j) = some x := by
  intro l
  induction l with
  | nil => intro p _; exact ⟨[], .nil, fun j x hx => by simp at hx⟩
  | cons v l ih =>
    intro p hc
    obtain ⟨y, hy, hv⟩ := hc 0 v rfl
    obtain ⟨xs, h1, h2⟩ := ih (p + 1) (fun i u hu => by have := hc (i + 1) u (by simpa using hu); rwa [show p + (i + 1) = p + 1 + i by omega] at this)
    refine ⟨y :: xs, .cons hv h1, fun j x hx => ?_⟩
    rw [addr_add]
    cases j with
    | zero => simp at hx; subst hx; exact hy
    | succ j =>
      have := h2 j x (by simpa using hx)
      rw [addr_add] at this
      rwa [show p + (j + 1) = p + 1 + j by omega]

theorem read_ld {t : TypeId} {x : Operand} {y : Opd} (he : Env ρ σ vm lm vs ls a) (r : RRel P ρ σ h w) (hc : opdOk vm lm x y = true) (ht : aggIs P t false = true) (H : opK C vs ls h (.ld y) K) :
    ∃ v z, K v h ∧ VRel ρ σ v z ∧ ∀ o : Oper, o.op = .load t x → (execOp a o).run P w = .ok (.value z) w := by
  simp only [opK, ev_eq] at H
  obtain ⟨cs, off, b, o, H, hx, hcell⟩ := row_run r (he _ _ hc) H
  obtain ⟨v, hv, H⟩ := nthK_inv H
  obtain ⟨z, hz, hrel⟩ := hcell _ _ hv
  refine ⟨v, z, H, hrel, ?_⟩
  intro o' ho
  simp [execOp, ho, hx, Instr.loadAt, Instr.sureAddr, loadVar, run_agg ht, hz]

theorem cutK_inv {l : List AVal} {o n : Nat} {J : List AVal → Prop} (H : cutK l o n J) : J ((l.drop o).take n) ∧ n ≤ l.length - o := by
  rw [cutK_iff] at H; exact ⟨H.2, H.1⟩

theorem read_ldn {n : Nat} {t : TypeId} {x : Operand} {y : Opd} (he : Env ρ σ vm lm vs ls a) (r : RRel P ρ σ h w) (hc : opdOk vm lm x y = true) (ht : aggIs P t true = true) (hs : sizeIs P t n = true)
    (H : opK C vs ls h (.ldn n y) K) : ∃ v z, K v h ∧ VRel ρ σ v z ∧ ∀ o : Oper, o.op = .load t x → (execOp a o).run P w = .ok (.value z) w := by
  simp only [opK, ev_eq] at H
  obtain ⟨cs, off, b, o, H, hx, hcell⟩ := row_run r (he _ _ hc) H
  obtain ⟨H, hn⟩ := cutK_inv H
  obtain ⟨xs, hl, hcs⟩ := cells_list (w := w) (b := b) ((cs.drop off).take n) (o + off) (fun i v hv => by
    rw [List.getElem?_take] at hv
    split at hv
    · rw [List.getElem?_drop] at hv
      rw [Nat.add_assoc]; exact hcell _ _ hv
    · cases hv)
  have hlen : xs.length = n := by rw [← hl.1]; simp; omega
  have hload := run_loadCells_list (P := P) w ⟨b, o + off, none⟩ xs hcs
  rw [hlen] at hload
  refine ⟨_, _, H, hl.agg, ?_⟩
  intro o' ho
  simp [execOp, ho, hx, Instr.loadAt, Instr.sureAddr, loadVar, run_agg ht, run_size hs, hload]

theorem read_subA {n sz : Nat} {t e : TypeId} {x : Operand} {lo hi mx : Option Operand} {y : Opd} {lo' hi' mx' : Option Opd} (he : Env ρ σ vm lm vs ls a) (r : RRel P ρ σ h w) (h1 : opdOk vm lm x y = true)
    (h2 : opdO vm lm lo lo' = true) (h3 : opdO vm lm hi hi' = true) (h4 : opdO vm lm mx mx' = true) (hu : P.underlying t = some (.array n e)) (hsz : sizeIs P e sz = true)
    (H : opK C vs ls h (.subA n sz y lo' hi' mx') K) : ∃ v z, K v h ∧ VRel ρ σ v z ∧ ∀ o : Oper, o.op = .slice t x lo hi mx → (execOp a o).run P w = .ok (.value z) w := by
  simp only [opK, ev_eq, evO_eq] at H
  have hr := he _ _ h1
  have rl := he.opt h2
  have rh := he.opt h3
  have rm := he.opt h4
  generalize opdV vs ls y = v at H hr
  cases v <;> simp only [subAK] at H <;> try exact H.elim
  · rename_i id off
    obtain ⟨b, o, q, hρ, hx⟩ := hr.ptr_inv
    obtain ⟨cs, hg, H⟩ : ∃ cs, h.get id = some (.row cs) ∧ (bif Nat.ble (off + n * sz) cs.length then (boundsK n (some n) (lo'.map (opdV vs ls)) (hi'.map (opdV vs ls)) (mx'.map (opdV vs ls)) fun l m c => fN (off + l * sz) fun o => K (.slice id o m c sz) h) else False) := by
      cases hg : h.get id with
      | none => simp only [hg] at H
      | some obj => cases obj with
        | row cs => simp only [hg] at H; exact ⟨cs, rfl, H⟩
        | _ => simp only [hg] at H
    replace H := cond_ok H
    obtain ⟨hfit, H⟩ := H
    rw [Nat.ble_eq] at hfit
    obtain ⟨c0, e0, lo0, hi0, q1, q2, q3, q4, q5⟩ := r.live _ _ _ _ _ hg hρ
    replace H := bounds_run (P := P) rl rh rm H n (fun k hk => by cases hk; rfl) (Nat.le_refl _)
    obtain ⟨l, e', m, c, H, h5, h6, h7, h8, _, hrun⟩ := H
    simp only [fN_eq] at H
    have hmul : (l + (m - l)) * sz = l * sz + (m - l) * sz := Nat.add_mul _ _ _
    have hmc : m * sz ≤ n * sz := Nat.mul_le_mul_right _ h7
    refine ⟨_, .slice (some (if m = l then ⟨b, o + off, none⟩ else (⟨b, o + off, none⟩ : Addr).add (l * sz))) (e' - l) (m - l), H, ?_, ?_⟩
    · refine .slice hρ h8 (by omega) ?_ ?_
      · intro hne
        rw [if_neg (by omega), addr_add, Nat.add_assoc]
      · have : l + (m - l) = m := by omega
        rw [this] at hmul
        omega
    · intro o' ho
      by_cases hml : m = l
      · simp [execOp, ho, Instr.sliceAt, run_underlying hu, Instr.sureAddr, hx, hrun, run_size hsz, hml]
      · simp [execOp, ho, Instr.sliceAt, run_underlying hu, Instr.sureAddr, hx, hrun, run_size hsz, hml]
  · rename_i row off
    obtain ⟨b, o, c, xs, hσ, g3, g4, hx⟩ := hr.iptr_inv
    replace H := bounds_run (P := P) rl rh rm H n (fun k hk => by cases hk; rfl) (Nat.le_refl _)
    obtain ⟨l, e', m, c, H, h5, h6, h7, h8, _, hrun⟩ := H
    simp only [fN_eq] at H
    refine ⟨_, .slice (some (if m = l then ⟨b, o + off, none⟩ else (⟨b, o + off, none⟩ : Addr).add (l * sz))) (e' - l) (m - l), H, ?_, ?_⟩
    · refine .islice xs hσ h8 (by omega) ?_ g3 g4
      intro hne
      rw [if_neg (by omega), addr_add, Nat.add_assoc]
    · intro o' ho
      by_cases hml : m = l
      · simp [execOp, ho, Instr.sliceAt, run_underlying hu, Instr.sureAddr, hx, hrun, run_size hsz, hml]
      · simp [execOp, ho, Instr.sliceAt, run_underlying hu, Instr.sureAddr, hx, hrun, run_size hsz, hml]

/-- How many elements a slice, a text has. -/
theorem lenOf_run {v : AVal} {x : Value} (hv : VRel ρ σ v x) {J : Nat → Prop} (H : lenOfK v J) :
    ∃ n, J n ∧ (∀ w, (Builtin.lenOf x).run P w = .ok n w) ∧ ((∃ a c, x = .slice a n c) ∨ ∃ s : List UInt8, v = .str s ∧ s.length = n) := by
  cases v <;> simp only [lenOfK] at H <;> try exact H.elim
  · rename_i s
    rw [fN_eq] at H
    rw [hv.str_inv]
    exact ⟨_, H, fun w => by simp [Builtin.lenOf]; rfl, .inr ⟨_, rfl, rfl⟩⟩
  · rw [hv.nilslice_inv]; exact ⟨_, H, fun w => by simp [Builtin.lenOf], .inl ⟨_, _, rfl⟩⟩
  · obtain ⟨b, o, n, c, ad, _, _, _, _, _, rfl⟩ := hv.slice_inv
    exact ⟨_, H, fun w => by simp [Builtin.lenOf], .inl ⟨_, _, rfl⟩⟩
  · obtain ⟨b, o, k, c, xs, ad, _, _, _, _, _, _, rfl⟩ := hv.islice_inv
    exact ⟨_, H, fun w => by simp [Builtin.lenOf], .inl ⟨_, _, rfl⟩⟩

theorem bytesK_inv : ∀ {s : List UInt8} {J : List AVal → Prop}, bytesK s J → J (s.map fun b => .int .u8 (b.toNat : Int)) := by
  intro s
  induction s with
  | nil => intro J H; exact H
  | cons b s ih => intro J H; simp only [bytesK, fN_eq] at H; exact ih H

theorem cell_heap {w w' : World} (hh : w'.heap = w.heap) (a : Addr) : w'.cell? a = w.cell? a := by unfold World.cell?; rw [hh]
/-- The cells of the first n elements. -/
theorem elems_run (r : RRel P ρ σ h w) {sz n : Nat} {v : AVal} {x : Value} (hv : VRel ρ σ v x) {J : List AVal → Prop} (H : elemsK h sz v n J) (hn : ∀ id off len cap z, v = .slice id off len cap z → n ≤ len)
    (hn' : ∀ row off len cap z, v = .islice row off len cap z → n ≤ len) (hz : 0 < sz) :
    ∃ cs xs, J cs ∧ LRel ρ σ cs xs ∧ cs.length = n * sz ∧ ∀ w' : World, w'.heap = w.heap → (Builtin.firstCells sz n x).run P w' = .ok xs.toArray w' := by
  have key : ∀ (cs : List AVal) (b o off : Nat), (∀ (i : Nat) u, cs[i]? = some u → ∃ y, w.cell? ⟨b, o + i, none⟩ = some y ∧ VRel ρ σ u y) → cutK cs off (n * sz) J →
      ∃ cs' xs, J cs' ∧ LRel ρ σ cs' xs ∧ cs'.length = n * sz ∧ ∀ w' : World, w'.heap = w.heap → (loadCells ⟨b, o + off, none⟩ (n * sz)).run P w' = .ok xs.toArray w' := by
    intro cs b o off hcell H
    obtain ⟨H, hle⟩ := cutK_inv H
    obtain ⟨xs, hl, hcs⟩ := cells_list (w := w) (b := b) ((cs.drop off).take (n * sz)) (o + off) (fun i v hv => by
      rw [List.getElem?_take] at hv
      split at hv
      · rw [List.getElem?_drop] at hv
        rw [Nat.add_assoc]; exact hcell _ _ hv
      · cases hv)
    have hlen : ((cs.drop off).take (n * sz)).length = n * sz := by simp; omega
    refine ⟨_, xs, H, hl, hlen, fun w' hw' => ?_⟩
    have hload := run_loadCells_list (P := P) w' ⟨b, o + off, none⟩ xs (fun j u hu => by rw [cell_heap hw']; exact hcs j u hu)
    rw [← hl.1, hlen] at hload
    exact hload
  cases v <;> simp only [elemsK] at H <;> try exact H.elim
  · rename_i s
    obtain ⟨hb, H⟩ := cond_ok H
    obtain rfl := Nat.eq_of_beq_eq_true hb
    replace H := bytesK_inv H
    rw [takeK_iff] at H
    obtain ⟨hle, H⟩ := H
    simp only [List.length_map] at hle
    have hx := hv.str_inv
    refine ⟨_, ((s.take n).map fun b => Value.int .u8 (b.toNat : Int)), H, ?_, by simp; omega, ?_⟩
    · rw [← List.map_take]
      generalize s.take n = s'
      induction s' with
      | nil => exact .nil
      | cons b s' ih => exact .cons (.int _ _) ih
    · intro w' _
      rw [hx]
      simp only [Builtin.firstCells]
      rw [extract_list s 0 n (Nat.zero_le _) hle]
      simp
  · obtain ⟨hb, H⟩ := cond_ok H
    obtain rfl := Nat.eq_of_beq_eq_true hb
    rw [hv.nilslice_inv]
    exact ⟨[], [], H, .nil, by simp, fun w' _ => by simp [Builtin.firstCells]⟩
  · rename_i id off len cap z
    obtain ⟨hb, H⟩ := cond_ok H
    obtain rfl := Nat.eq_of_beq_eq_true hb
    obtain ⟨b, o, q, c, ad, hρ, hcap, hlen, had, hm, hx⟩ := hv.slice_inv
    have hnl := hn _ _ _ _ _ rfl
    cases hg : h.get id with
    | none => simp only [hg] at H
    | some obj =>
      cases obj <;> simp only [hg] at H <;> try exact H.elim
      rename_i cs
      rw [fN_eq] at H
      obtain ⟨c', e, lo, hi, h1, h2, h3, h4, h5⟩ := r.live _ _ _ _ _ hg hρ
      obtain ⟨cs', xs, HJ, hl, hcl, hrun⟩ := key cs b o off (fun i u hu => let ⟨y, e1, e2⟩ := h5 i u hu; ⟨y, by rw [cell_cells h1]; exact e1, e2⟩) H
      by_cases hc0 : c = 0
      · have hn0 : n = 0 := by omega
        subst hn0
        refine ⟨cs', xs, HJ, hl, hcl, fun w' _ => ?_⟩
        have : xs = [] := by
          have := hl.1; rw [hcl] at this; simp at this; exact List.eq_nil_of_length_eq_zero this.symm
        subst this
        rw [hx]; simp [Builtin.firstCells, loadCells, loadCellsFrom]
      · rw [had hc0] at hx
        exact ⟨cs', xs, HJ, hl, hcl, fun w' hw' => by rw [hx]; simp only [Builtin.firstCells]; exact hrun w' hw'⟩
  · rename_i row off len cap z
    obtain ⟨hb, H⟩ := cond_ok H
    obtain rfl := Nat.eq_of_beq_eq_true hb
    obtain ⟨b, o, k, c, ys, ad, hσ, hcap, hlen, had, g3, g4, hx⟩ := hv.islice_inv
    have hnl := hn' _ _ _ _ _ rfl
    obtain ⟨e, f, he⟩ := r.imm b c hσ
    rw [fN_eq] at H
    obtain ⟨cs', xs, HJ, hl, hcl, hrun⟩ := key row b o off (fun i u hu => ⟨ys i, by rw [cell_cells he]; exact g3 i u hu, g4 i u hu⟩) H
    by_cases hc0 : k = 0
    · have hn0 : n = 0 := by omega
      subst hn0
      refine ⟨cs', xs, HJ, hl, hcl, fun w' _ => ?_⟩
      have : xs = [] := by
        have := hl.1; rw [hcl] at this; simp at this; exact List.eq_nil_of_length_eq_zero this.symm
      subst this
      rw [hx]; simp [Builtin.firstCells, loadCells, loadCellsFrom]
    · rw [had hc0] at hx
      exact ⟨cs', xs, HJ, hl, hcl, fun w' hw' => by rw [hx]; simp only [Builtin.firstCells]; exact hrun w' hw'⟩

theorem textK_inv : ∀ {cs : List AVal} {J : List UInt8 → Prop}, textK cs J → ∃ ns : List Int, cs = ns.map (AVal.int .u8) ∧ J (ns.map fun n => UInt8.ofNat n.toNat) := by
  intro cs
  induction cs with
  | nil => intro J H; exact ⟨[], rfl, H⟩
  | cons c cs ih =>
    intro J H
    unfold textK at H
    split at H
    · rename_i heq; cases heq
    · rename_i n l heq
      cases heq
      obtain ⟨ns, h1, h2⟩ := ih H
      exact ⟨(n : Int) :: ns, by rw [h1]; rfl, h2⟩
    · exact H.elim

theorem ints_rel {ns : List Int} {k : IntKind} : ∀ {xs : List Value}, LRel ρ σ (ns.map (AVal.int k)) xs → xs = ns.map (Value.int k) := by
  induction ns with
  | nil => intro xs h; exact h.nil_inv
  | cons n ns ih => intro xs h; obtain ⟨x, xs', rfl, hx, ht⟩ := h.cons_inv; rw [hx.int_inv, ih ht]; rfl

theorem read_b2s {s d e : TypeId} {x : Operand} {y : Opd} (he : Env ρ σ vm lm vs ls a) (r : RRel P ρ σ h w) (hc : opdOk vm lm x y = true)
    (hs : P.underlying s = some (.slice e)) (hu : P.underlying e = some (.int .u8)) (hd : P.underlying d = some .string) (H : opK C vs ls h (.b2s y) K) :
    ∃ v z, K v h ∧ VRel ρ σ v z ∧ ∀ o : Oper, o.op = .convert s d x → (execOp a o).run P w = .ok (.value z) w := by
  simp only [opK, ev_eq] at H
  have hr := he _ _ hc
  generalize opdV vs ls y = v at H hr
  by_cases hnil : v = .nilslice
  · subst hnil
    refine ⟨_, _, H, .str [], ?_⟩
    intro o ho
    simp [execOp, ho, hr.nilslice_inv, run_convert_bytes_string w s d e _ _ _ hs hu hd, Conv.bytesToString]
    rfl
  · have H' : isSlice v = true ∧ lenOfK v fun n => elemsK h 1 v n fun cs => textK cs fun s => K (.str s) h := by
      revert H; cases v <;> first | exact fun H => cond_ok H | exact absurd rfl hnil
    clear H
    obtain ⟨hsl, H'⟩ := H'
    obtain ⟨n, H1, hlen, hk⟩ := lenOf_run (P := P) hr H'
    obtain ⟨cs, xs, H2, hl, hcl, hrun⟩ := elems_run (P := P) r hr H1 (by
        rintro id off len cap z rfl
        rcases hk with ⟨a', c', e'⟩ | ⟨s', e', _⟩
        · obtain ⟨_, _, _, _, _, _, _, _, _, _, hx⟩ := hr.slice_inv; rw [hx] at e'; cases e'; exact Nat.le_refl _
        · cases e') (by
        rintro row off len cap z rfl
        rcases hk with ⟨a', c', e'⟩ | ⟨s', e', _⟩
        · obtain ⟨_, _, _, _, _, _, _, _, _, _, _, _, hx⟩ := hr.islice_inv; rw [hx] at e'; cases e'; exact Nat.le_refl _
        · cases e') (by decide)
    obtain ⟨ns, rfl, H3⟩ := textK_inv H2
    obtain rfl := ints_rel hl
    obtain ⟨ad, c', e'⟩ : ∃ ad c', a x = .slice (some ad) n c' := by
      cases v with
      | slice id off len cap z =>
        obtain ⟨_, _, _, _, ad, _, _, _, _, _, hx⟩ := hr.slice_inv
        rcases hk with ⟨a', c', e'⟩ | ⟨s', e', _⟩
        · rw [hx] at e'; cases e'; exact ⟨_, _, hx⟩
        · cases e'
      | islice row off len cap z =>
        obtain ⟨_, _, _, _, _, ad, _, _, _, _, _, _, hx⟩ := hr.islice_inv
        rcases hk with ⟨a', c', e'⟩ | ⟨s', e', _⟩
        · rw [hx] at e'; cases e'; exact ⟨_, _, hx⟩
        · cases e'
      | _ => cases hsl
    refine ⟨_, _, H3, .str _, ?_⟩
    intro o ho
    replace hrun := hrun w rfl
    rw [e'] at hrun
    simp only [Builtin.firstCells, Nat.mul_one] at hrun
    have := run_bytesToString (P := P) w ad n c' ns hrun
    rw [foldl_push_bytes] at this
    simp only [execOp, ho, e', Sem.run_bind, run_convert_bytes_string w s d e _ _ _ hs hu hd, this, Result.andThen_ok, Sem.run_pure]
    congr 3
    simp [ByteArray.empty, ByteArray.emptyWithCapacity]
    rfl

theorem sameNow_run {t : TypeId} {d : TypeDesc} {k k' : AVal} {x y : Value} {b : Bool} (hd : P.underlying t = some d) (hk : kindIs P t (kindOf k) = true) (hx : VRel ρ σ k x) (hy : VRel ρ σ k' y) (hs : scalarEq k k' = some b) :
    Instr.sameNow d x y = some b := by
  unfold scalarEq at hs
  split at hs <;> first | (cases hs; done) | skip
  · rename_i p q
    rw [hx.bool_inv, hy.bool_inv]
    have ht : d = .bool := by
      unfold kindIs at hk; simp only [kindOf, hd] at hk; split at hk <;> first | (rename_i e _; cases e; rfl) | (rename_i e; cases e; done) | cases hk
    subst ht
    simp at hs; subst hs; cases p <;> cases q <;> rfl
  · rename_i k m j n
    rw [hx.int_inv, hy.int_inv]
    cases hkj : kEq k j <;> simp only [hkj, cond_true, cond_false] at hs
    · cases hs
    obtain rfl := (kEq_iff k j).1 hkj
    obtain ⟨k', ht⟩ : ∃ k', d = .int k' := by
      unfold kindIs at hk; simp only [kindOf, hd] at hk; split at hk <;> first | (rename_i e _; cases e; exact ⟨_, rfl⟩) | (rename_i e; cases e; done) | cases hk
    subst ht
    simp [eqI_eq] at hs; simp [Instr.sameNow, hs]
  · rename_i p q
    rw [hx.str_inv, hy.str_inv]
    have ht : d = .string := by
      unfold kindIs at hk; simp only [kindOf, hd] at hk; split at hk <;> first | (rename_i e _; cases e; rfl) | (rename_i e; cases e; done) | cases hk
    subst ht
    simp at hs; subst hs
    simp only [Instr.sameNow]
    congr 1
    rw [beq_toListBytes, data_toList, data_toList, Bool.eq_iff_iff]; simp

/-- A key's place among a map's entries. -/
theorem find_run {t : TypeId} {d : TypeDesc} {k : AVal} {x : Value} (hd : P.underlying t = some d) (hk : kindIs P t (kindOf k) = true) (hx : VRel ρ σ k x) :
    ∀ {es : List (AVal × AVal × Nat)} {xs : List MapEntry} {i : Nat} {J : Option (Nat × AVal) → Prop}, ERel ρ σ es xs → findK k es i J →
    (J none ∧ Instr.findNow d x xs i = some none) ∨
    ∃ j v y e, J (some (i + j, v)) ∧ Instr.findNow d x xs i = some (some (i + j, y)) ∧ VRel ρ σ v y ∧ es[j]? = some e ∧ scalarEq k e.1 = some true := by
  intro es
  induction es with
  | nil =>
    intro xs i J hE H
    have : xs = [] := List.eq_nil_of_length_eq_zero (by have := hE.1; simpa using this.symm)
    subst this
    exact .inl ⟨H, rfl⟩
  | cons e es ih =>
    intro xs i J hE H
    cases xs with
    | nil => have := hE.1; simp at this
    | cons z xs =>
      obtain ⟨k', v, b⟩ := e
      obtain ⟨h1, h2, h3, h4⟩ := hE.2 0 _ z rfl rfl
      have hE' : ERel ρ σ es xs := ⟨by have := hE.1; simpa using this, fun i e x a b => hE.2 (i + 1) e x (by simpa using a) (by simpa using b)⟩
      simp only [findK] at H
      cases hs : scalarEq k k' with
      | none => simp only [hs] at H
      | some b =>
        have hn := sameNow_run (P := P) hd hk hx h2 hs
        cases b with
        | true =>
          simp only [hs] at H
          exact .inr ⟨0, v, z.val, _, H, by simp [Instr.findNow, hn], h3, rfl, hs⟩
        | false =>
          simp only [hs] at H
          rcases ih hE' H with ⟨g1, g2⟩ | ⟨j, v', y, e, g1, g2, g3, g4, g5⟩
          · exact .inl ⟨g1, by simp [Instr.findNow, hn, g2]⟩
          · exact .inr ⟨j + 1, v', y, e, by rwa [show i + (j + 1) = i + 1 + j by omega], by simp only [Instr.findNow, hn]; rw [g2, show i + (j + 1) = i + 1 + j by omega], g3, by simpa using g4, g5⟩

theorem checkKey_run {t : TypeId} {d : TypeDesc} {k : Nat} (hd : P.underlying t = some d) (hk : kindIs P t k = true) (b : Bool) (x : Value) (w : World) : (Instr.checkKey b 10000 t x).run P w = .ok () w := by
  have key : ∀ n, (Instr.checkKey b (n + 1) t x).run P w = .ok () w := by
    intro n
    unfold kindIs at hk
    simp only [hd] at hk
    simp only [Instr.checkKey, Sem.run_bind, run_underlying hd, Result.andThen_ok]
    split at hk <;> first | (rename_i e _; cases e; cases x <;> rfl) | (rename_i e; cases e; cases x <;> rfl) | cases hk
  exact key 9999

theorem findKey_run {t : TypeId} {d : TypeDesc} {x : Value} {xs : List MapEntry} {r : Option (Nat × Value)} (hd : P.underlying t = some d) (hf : Instr.findNow d x xs 0 = some r) (w : World) :
    (Instr.findKey t x xs).run P w = .ok r w := by
  simp [Instr.findKey, run_underlying hd, hf]

theorem run_getObj_map {b : Nat} {xs : Array MapEntry} {c : Nat} (hb : w.heap[b]? = some (.map xs c)) : (getObj b).run P w = .ok (.map xs c) w := by
  simp [getObj, Sem.run, hb]

/-- What a look-up comes to. -/
def lookedUp (ok : Bool) (z : Value) (r : Option (Nat × Value)) : Value :=
  match r with
  | some (_, v) => if ok then .tuple #[v, .bool true] else v
  | none => if ok then .tuple #[z, .bool false] else z
theorem lookup_run {ok : Bool} {kk : Nat} {t key e : TypeId} {d : TypeDesc} {zx x m : Value} {xs : Array MapEntry} {r : Option (Nat × Value)} (ht : P.underlying t = some (.map key e)) (hk : kindIs P key kk = true)
    (hd : P.underlying key = some d) (hz : ∀ w, (zeroValue e).run P w = .ok zx w) (hm : (m = .map none ∧ xs = #[]) ∨ ∃ b c, m = .map (some b) ∧ w.heap[b]? = some (.map xs c))
    (hf : Instr.findNow d x xs.toList 0 = some r) : (Instr.lookup t m x ok).run P w = .ok (lookedUp ok zx r) w := by
  have hf' := findKey_run hd hf w
  have hc := checkKey_run hd hk xs.isEmpty x w
  rcases hm with ⟨rfl, rfl⟩ | ⟨b, c, rfl, hb⟩
  · simp only [Instr.lookup, Sem.run_bind, run_underlying ht, Result.andThen_ok, Sem.run_pure, hc, hf']
    cases r with
    | none => cases ok <;> simp [lookedUp, hz]
    | some p => cases ok <;> simp [lookedUp]
  · simp only [Instr.lookup, Sem.run_bind, run_underlying ht, Result.andThen_ok, Sem.run_pure, run_getObj_map hb, hc, hf']
    cases r with
    | none => cases ok <;> simp [lookedUp, hz]
    | some p => cases ok <;> simp [lookedUp]

theorem read_lookup {ok : Bool} {kk : Nat} {z : AVal} {t key e : TypeId} {m k : Operand} {m' k' : Opd} (he : Env ρ σ vm lm vs ls a) (r : RRel P ρ σ h w) (h1 : opdOk vm lm m m' = true) (h2 : opdOk vm lm k k' = true)
    (ht : P.underlying t = some (.map key e)) (hk : kindIs P key kk = true) (hz : zeroV P e z = true) (H : opK C vs ls h (.lookup ok kk z m' k') K) :
    ∃ v y, K v h ∧ VRel ρ σ v y ∧ ∀ o : Oper, o.op = .lookup t m k ok → (execOp a o).run P w = .ok (.value y) w := by
  simp only [opK, ev_eq] at H
  have hm := he _ _ h1
  have hkk := he _ _ h2
  generalize opdV vs ls m' = mv at H hm
  generalize opdV vs ls k' = kv at H hkk
  replace H := cond_ok H
  obtain ⟨hb, H⟩ := H
  simp only [Bool.and_eq_true] at hb
  obtain ⟨hb1, hb2⟩ := hb
  have hk' : kindIs P key (kindOf kv) = true := by rw [Nat.eq_of_beq_eq_true hb1]; exact hk
  obtain ⟨d, hd⟩ : ∃ d, P.underlying key = some d := by
    unfold kindIs at hk; split at hk <;> first | exact ⟨_, by assumption⟩ | cases hk
  obtain ⟨zx, hzr, hzx⟩ := zeroV_run (P := P) (ρ := ρ) (σ := σ) hz
  have ent : ∃ (es : List (AVal × AVal × Nat)) (xs : Array MapEntry), findK kv es 0 (fun r => match r with | some (_, v) => K (bif ok then .tuple [v, .bool true] else v) h | none => K (bif ok then .tuple [z, .bool false] else z) h) ∧
      ERel ρ σ es xs.toList ∧ ((a m = .map none ∧ xs = #[]) ∨ ∃ b c, a m = .map (some b) ∧ w.heap[b]? = some (.map xs c)) := by
    cases mv with
    | nilmap => exact ⟨[], #[], H, ⟨rfl, fun i e x h => by simp at h⟩, .inl ⟨hm.nilmap_inv, rfl⟩⟩
    | map id =>
      obtain ⟨b, o, n, hρ, hx⟩ := hm.map_inv
      simp only [entriesK] at H
      cases hg : h.get id with
      | none => simp only [hg] at H
      | some obj =>
        cases obj with
        | map es c =>
          simp only [hg] at H
          obtain ⟨xs, g1, g2⟩ := r.live _ _ _ _ _ hg hρ
          exact ⟨es, xs, H, g2, .inr ⟨b, c, hx, g1⟩⟩
        | _ => simp only [hg] at H
    | _ => exact H.elim
  obtain ⟨es, xs, H, hE, hm'⟩ := ent
  have fin : ∀ {r' : Option (Nat × Value)} (_ : Instr.findNow d (a k) xs.toList 0 = some r') (o : Oper) (_ : o.op = .lookup t m k ok), (execOp a o).run P w = .ok (.value (lookedUp ok zx r')) w := by
    intro r' hf o ho
    simp only [execOp, ho, Sem.run_bind, lookup_run ht hk hd hzx hm' hf, Result.andThen_ok, Sem.run_pure]
  rcases find_run (P := P) hd hk' hkk hE H with ⟨g1, g2⟩ | ⟨j, v, y, e', g1, g2, g3, _, _⟩
  · cases ok
    · exact ⟨_, _, g1, hzr, fin g2⟩
    · exact ⟨_, _, g1, (LRel.cons hzr (.cons (.bool false) .nil)).tuple, fin g2⟩
  · cases ok
    · exact ⟨_, _, g1, g3, fin g2⟩
    · exact ⟨_, _, g1, (LRel.cons g3 (.cons (.bool true) .nil)).tuple, fin g2⟩

theorem read_lenM {t k e : TypeId} {x : Operand} {y : Opd} {c : Call} (he : Env ρ σ vm lm vs ls a) (r : RRel P ρ σ h w) (h1 : opdOk vm lm x y = true) (hc : c.callee = .builtin .len) (ha : c.args = #[x]) (hat : c.argTypes = #[t])
    (hu : P.underlying t = some (.map k e)) (H : opK C vs ls h (.lenM y) K) : ∃ v z, K v h ∧ VRel ρ σ v z ∧ ∀ o : Oper, o.op = .call c → (execOp a o).run P w = .ok (.value z) w := by
  simp only [opK, ev_eq] at H
  have hr := he _ _ h1
  generalize opdV vs ls y = v at H hr
  cases v with
  | nilmap =>
    refine ⟨_, _, H, .int _ _, ?_⟩
    intro o ho
    simp [execOp, ho, resolve, hc, ha, hat, invoke, builtin, Builtin.len_, run_underlying hu, hr.nilmap_inv, goInt]
  | map id =>
    obtain ⟨b, o, n, hρ, hx⟩ := hr.map_inv
    cases hg : h.get id with
    | none => simp only [hg] at H
    | some obj =>
      cases obj with
      | map es cl =>
        simp only [hg, fN_eq] at H
        obtain ⟨xs, g1, g2⟩ := r.live _ _ _ _ _ hg hρ
        refine ⟨_, _, H, .int _ _, ?_⟩
        intro o ho
        have hl := g2.1
        simp [execOp, ho, resolve, hc, ha, hat, invoke, builtin, Builtin.len_, run_underlying hu, hx, goInt, run_getObj_map g1, hl]
      | _ => simp only [hg] at H
  | _ => exact H.elim

theorem lastN_eq (l : List Nat) : lastN l = l.getLast? := by
  induction l with
  | nil => rfl
  | cons a l ih => cases l with
    | nil => rfl
    | cons b l => simp [lastN, ih]
theorem bornK_run {b : Nat} : ∀ {es : List (AVal × AVal × Nat)} {xs : List MapEntry} {J : AVal → AVal → Prop}, ERel ρ σ es xs → bornK b es J →
    ∃ k v e, J k v ∧ xs.find? (·.born == b) = some e ∧ VRel ρ σ k e.key ∧ VRel ρ σ v e.val := by
  intro es
  induction es with
  | nil => intro xs J hE H; exact H.elim
  | cons e es ih =>
    intro xs J hE H
    cases xs with
    | nil => have := hE.1; simp at this
    | cons z xs =>
      obtain ⟨k', v, c⟩ := e
      obtain ⟨h1, h2, h3, h4⟩ := hE.2 0 _ z rfl rfl
      have hE' : ERel ρ σ es xs := ⟨by have := hE.1; simpa using this, fun i e x a b => hE.2 (i + 1) e x (by simpa using a) (by simpa using b)⟩
      simp only [bornK] at H
      simp only at h4
      cases hb : Nat.beq c b with
      | true =>
        simp only [hb, cond_true] at H
        have := Nat.eq_of_beq_eq_true hb
        exact ⟨k', v, z, H, by simp [← h4, this], h2, h3⟩
      | false =>
        simp only [hb, cond_false] at H
        obtain ⟨k, v', e, g1, g2, g3, g4⟩ := ih hE' H
        have hne : ¬ z.born = b := by rw [← h4]; intro q; rw [q] at hb; simp at hb
        exact ⟨k, v', e, g1, by simp [hne, g2], g3, g4⟩

theorem run_getObj_iter {b : Nat} {m : Option Nat} {s st : Nat} {seen : Array Nat} (hb : w.heap[b]? = some (.mapIter m s seen st)) : (getObj b).run P w = .ok (.mapIter m s seen st) w := by
  simp [getObj, Sem.run, hb]

theorem read_uptr {s d t : TypeId} {x : Operand} {y : Opd} {i : TypeInfo} (he : Env ρ σ vm lm vs ls a) (r : RRel P ρ σ h w) (hc : opdOk vm lm x y = true) (hs : P.underlying s = some (.pointer t)) (hd : P.underlying d = some .unsafePointer) (hi : P.info? t = some i) (hz : i.size ≠ 0)
    (H : opK C vs ls h (.uptr y) K) : ∃ v z, K v h ∧ VRel ρ σ v z ∧ ∀ o : Oper, o.op = .convert s d x → (execOp a o).run P w = .ok (.value z) w := by
  simp only [opK, ev_eq] at H
  have hr := he _ _ hc
  obtain ⟨cs, off, b, o, H, hx, hcell⟩ := row_run r hr H
  obtain ⟨v, hv, H⟩ := nthK_inv H
  obtain ⟨z, hz', _⟩ := hcell _ _ hv
  refine ⟨_, _, H, hr, ?_⟩
  intro o' ho
  have := run_convert_to_unsafe (P := P) hs hd (by simp [hi, hz]) hz'
  simp only [execOp, ho, Sem.run_bind]
  rw [hx, this]
  rfl

theorem read_entry {x : Operand} {y : Opd} (he : Env ρ σ vm lm vs ls a) (r : RRel P ρ σ h w) (h1 : opdOk vm lm x y = true) (H : opK C vs ls h (.entry y) K) :
    ∃ v z, K v h ∧ VRel ρ σ v z ∧ ∀ o : Oper, o.op = .entry x → (execOp a o).run P w = .ok (.value z) w := by
  simp only [opK, ev_eq] at H
  have hr := he _ _ h1
  generalize opdV vs ls y = v at H hr
  cases v with
  | iter id =>
    obtain ⟨b, o, n, hρ, hx⟩ := hr.iter_inv
    simp only [entryK] at H
    cases hg : h.get id with
    | none => simp only [hg] at H
    | some obj =>
      cases obj with
      | iter m since seen stepped =>
        cases m with
        | none => simp only [hg] at H
        | some m =>
          simp only [hg] at H
          obtain ⟨bm, om, nm, g1, g2⟩ := r.live _ _ _ _ _ hg hρ
          cases hl : lastN seen with
          | none => simp only [hl] at H
          | some st =>
            simp only [hl] at H
            cases hgm : h.get m with
            | none => simp only [hgm] at H
            | some obj =>
              cases obj with
              | map es clock =>
                simp only [hgm] at H
                replace H := cond_ok H
                obtain ⟨hb, H⟩ := H
                have hcl := Nat.eq_of_beq_eq_true hb
                obtain ⟨xs, e1, e2⟩ := r.live _ _ _ _ _ hgm g1
                obtain ⟨k, v, e, q1, q2, q3, q4⟩ := bornK_run e2 H
                refine ⟨_, _, q1, (LRel.cons q3 (.cons q4 .nil)).tuple, ?_⟩
                intro o ho
                have hback : seen.toArray.back? = some st := by rw [List.back?_toArray, ← lastN_eq]; exact hl
                have hfind : xs.find? (·.born == st) = some e := by rw [← Array.find?_toList]; exact q2
                simp [execOp, ho, hx, Instr.entry, run_getObj_iter g2, run_getObj_map e1, hback, hcl, hfind]
              | _ => simp only [hgm] at H
      | _ => simp only [hg] at H
  | _ => exact H.elim

end
end Go.Zy
