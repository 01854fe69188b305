/- Calls of functions without a text: the library's atomic cells, and its marks. -/
import Derived.Test.YthlijlhfhlbehaaGreatZyTop
import Derived.Laws.LoneSync
set_option linter.unusedSimpArgs false
set_option linter.unusedVariables false
namespace Go.Zy

inductive Ext where
  | load (k : IntKind)
  | store
  | cas (k : IntKind)
  | add (k : IntKind)
  | mark0
  | marked

def extK (x : Ext) (args : List AVal) (h : Heap) (K : AVal → Heap → Prop) : Prop :=
  match x with
  | .mark0 => match args with | [] => K (.tuple []) h | _ => False
  | .marked => match args with | [.ptr _ _] => K (.tuple []) h | _ => False
  | .load k => match args with
    | [p] => rowK h p fun cs off => nthK cs off fun v => match v with
      | .int j n => bif kEq k j then K (.int k n) h else False
      | _ => False
    | _ => False
  | .store => match args with
    | [.ptr id off, .int k n] => match h.get id with
      | some (.row cs) => nthK cs off fun _ => putK cs off [.int k n] fun cs => h.setK id (.row cs) fun h => K (.tuple []) h
      | _ => False
    | _ => False
  | .cas k => match args with
    | [.ptr id off, .int k1 x, .int k2 y] => bif (kEq k1 k && kEq k2 k) then (match h.get id with
      | some (.row cs) => nthK cs off fun v => match v with
        | .int j z => bif kEq j k then (bif eqI z x then (putK cs off [.int k y] fun cs => h.setK id (.row cs) fun h => K (.bool true) h) else K (.bool false) h) else False
        | _ => False
      | _ => False) else False
    | _ => False
  | .add k => match args with
    | [.ptr id off, .int k1 y] => bif kEq k1 k then (match h.get id with
      | some (.row cs) => nthK cs off fun v => match v with
        | .int j z => bif kEq j k then (fI (wrapF k (Int.add z y)) fun s => putK cs off [.int k s] fun cs => h.setK id (.row cs) fun h => K (.int k s) h) else False
        | _ => False
      | _ => False) else False
    | _ => False

/-- What a function without a text is, in the model. -/
structure ExtFact (P : Program) (f : FuncId) (x : Ext) : Prop where
  fn : ∃ fn, P.funcs[f]? = some fn ∧ (fn.name == "runtime.NumGoroutine") = false ∧ fn.body.isNone = true ∧ Extern.findNext fn = none ∧
    (match x with
     | .load k => Extern.find fn = some (Extern.Atomic.loadT (.int k))
     | .store => Extern.find fn = some Extern.Atomic.storeT
     | .cas k => Extern.find fn = some (Extern.Atomic.casT (.int k))
     | .add k => Extern.find fn = some (Extern.Atomic.update (Op.intArith .add) k true)
     | .mark0 => ∃ m : Mark, Extern.find fn = some (fun _ => do mark m; pure Extern.Race.none_)
     | .marked => ∃ m : Addr → Mark, Extern.find fn = some (Extern.Race.marked m))

section
variable {P : Program} {σ : Im}

theorem row_cell {ρ : Nm} {h : Heap} {w : World} (r : Rel P ρ σ h w) {id b o n off : Nat} {cs : List AVal} {v : AVal} (hg : h.get id = some (.row cs)) (hρ : ρ id = some (b, o, n)) (hv : cs[off]? = some v) :
    ∃ y, w.cell? ⟨b, o + off, none⟩ = some y ∧ VRel ρ σ v y ∧ w.frozen? ⟨b, o + off, none⟩ = false := by
  obtain ⟨c, e, lo, hi, h1, h2, h3, h4, h5⟩ := r.live _ _ _ _ _ hg hρ
  obtain ⟨y, hy, hr⟩ := h5 off v hv
  refine ⟨y, by rw [cell_cells h1]; exact hy, hr, ?_⟩
  have hlt := (Array.getElem?_eq_some_iff.1 hy).1
  unfold World.frozen?
  rw [h1]
  simp only [Bool.and_eq_false_iff, decide_eq_false_iff_not]
  rcases h4 with h4 | h4 <;> omega

theorem row_set {ρ : Nm} {h : Heap} {w : World} (r : Rel P ρ σ h w) {id b o n off : Nat} {cs : List AVal} {k : IntKind} {y : Int} (hg : h.get id = some (.row cs)) (hρ : ρ id = some (b, o, n)) (hlt : off < cs.length) :
    Evo P σ ρ h w ρ (h.set id (.row (put cs off [.int k y]))) (w.setCell ⟨b, o + off, none⟩ (.int k y)) := by
  obtain ⟨c, e, lo, hi, h1, h2, h3, h4, h5⟩ := r.live _ _ _ _ _ hg hρ
  rw [setCell_turn w b (o + off) c e (lo, hi) _ h1]
  refine Evo.turn r hg hρ (x := .cells (c.setIfInBounds (o + off) (.int k y)) e (lo, hi)) ⟨rfl, rfl, rfl, rfl⟩ ⟨_, e, lo, hi, rfl, by simpa using h2, ?_, h4, ?_⟩
  · rw [put_length (by simp only [List.length_singleton]; omega)]; exact h3
  · intro i v hi
    have hpl : (put cs off [.int k y]).length = cs.length := put_length (by simp only [List.length_singleton]; omega)
    have hil : i < cs.length := by rw [← hpl]; exact (List.getElem?_eq_some_iff.1 hi).1
    have hsz : o + i < c.size := by omega
    have hp : put cs off [.int k y] = cs.set off (.int k y) := by
      unfold put
      rw [List.set_eq_take_append_cons_drop, if_pos hlt]
      simp
    rw [hp] at hi
    rw [Array.getElem?_setIfInBounds]
    by_cases e1 : off = i
    · subst e1
      simp [hil] at hi
      subst hi
      exact ⟨_, by simp [hsz], .int _ _⟩
    · rw [List.getElem?_set_ne e1] at hi
      rw [if_neg (by omega)]
      exact h5 i v hi

theorem ext_sound {f : FuncId} {x : Ext} (hf : ExtFact P f x) {args : List AVal} {h : Heap} {K : AVal → Heap → Prop} (H : extK x args h K) : CallBoth P σ (.func (.func f) [] []) args h K := by
  have key : ∀ ρ w x' xs, Rel P ρ σ h w → VRel ρ σ (.func (.func f) [] []) x' → LRel ρ σ args xs → ∃ y w', (invoked x' xs.toArray).run P w = .ok (.value y) w' ∧ Out P σ ρ h w K y w' := by
    intro ρ w x' xs rel hx hxs
    obtain ⟨p, q, hp, hq, _, rfl⟩ := hx.func_inv
    rw [hp.nil_inv, hq.nil_inv]
    have hinv : (invoked (.func (.func f) #[] #[]) xs.toArray).run P w = (callFunc f xs.toArray).run P w := by
      simp only [invoked, Deferred.ofValue, Sem.run_bind, Sem.run_pure, Result.andThen_ok, invoke, Array.empty_append, Array.append_empty]
    rw [hinv]
    obtain ⟨⟨fn, g1, g2, g3, g4, g5⟩⟩ := hf
    cases x with
    | mark0 =>
      obtain ⟨m, g5⟩ := g5
      cases args with
      | nil => rw [hxs.nil_inv]; exact ⟨_, w, run_call_mark0 g1 g2 g3 g4 m g5 w, _, h, ρ, H, Evo.refl rel, LRel.nil.tuple⟩
      | cons => exact H.elim
    | marked =>
      obtain ⟨m, g5⟩ := g5
      cases args with
      | nil => exact H.elim
      | cons v l =>
        cases l with
        | cons => cases v <;> exact H.elim
        | nil =>
          obtain ⟨y, ys, rfl, hy, hn⟩ := hxs.cons_inv
          rw [hn.nil_inv]
          cases v with
          | ptr id off =>
            obtain ⟨b, o, n, hρ, rfl⟩ := hy.ptr_inv
            exact ⟨_, w, run_call_marked g1 g2 g3 g4 m g5 _ w, _, h, ρ, H, Evo.refl rel, LRel.nil.tuple⟩
          | _ => exact H.elim
    | load k =>
      cases args with
      | nil => exact H.elim
      | cons v l =>
        cases l with
        | cons => exact H.elim
        | nil =>
          obtain ⟨y, ys, rfl, hy, hn⟩ := hxs.cons_inv
          rw [hn.nil_inv]
          simp only [extK] at H
          obtain ⟨cs, off, b, o, H, rfl, hcell⟩ := row_run rel.reader hy H
          obtain ⟨u, hu, H⟩ := nthK_inv H
          obtain ⟨z, hz, hrel⟩ := hcell _ _ hu
          cases u with
          | int j n =>
            simp only at H
            obtain ⟨hk, H'⟩ := cond_ok H
            clear H
            obtain rfl := (kEq_iff _ _).1 hk
            rw [hrel.int_inv] at hz
            exact ⟨_, w, run_call_load g1 g2 g3 g4 k g5 hz, _, h, ρ, H', Evo.refl rel, .int _ _⟩
          | _ => exact H.elim
    | store =>
      simp only [extK] at H
      split at H
      · rename_i id off k n
        obtain ⟨y1, ys, rfl, hy1, hn⟩ := hxs.cons_inv
        obtain ⟨y2, ys2, rfl, hy2, hn2⟩ := hn.cons_inv
        rw [hn2.nil_inv]
        obtain ⟨b, o, n', hρ, rfl⟩ := hy1.ptr_inv
        obtain rfl := hy2.int_inv
        split at H
        · rename_i cs hg
          obtain ⟨u, hu, H⟩ := nthK_inv H
          rw [putK_iff, Heap.setK_eq] at H
          obtain ⟨z, hz, _, hfz⟩ := row_cell rel hg hρ hu
          exact ⟨_, _, run_call_store g1 g2 g3 g4 g5 hz hfz, _, _, ρ, H.2, row_set rel hg hρ (List.getElem?_eq_some_iff.1 hu).1, LRel.nil.tuple⟩
        · exact H.elim
      · exact H.elim
    | cas k =>
      simp only [extK] at H
      split at H
      · rename_i id off k1 x k2 y
        obtain ⟨y1, ys, rfl, hy1, hn⟩ := hxs.cons_inv
        obtain ⟨y2, ys2, rfl, hy2, hn2⟩ := hn.cons_inv
        obtain ⟨y3, ys3, rfl, hy3, hn3⟩ := hn2.cons_inv
        rw [hn3.nil_inv]
        obtain ⟨b, o, n', hρ, rfl⟩ := hy1.ptr_inv
        obtain rfl := hy2.int_inv
        obtain rfl := hy3.int_inv
        obtain ⟨hk, H⟩ := cond_ok H
        rw [Bool.and_eq_true, kEq_iff, kEq_iff] at hk
        obtain ⟨rfl, rfl⟩ := hk
        split at H
        · rename_i cs hg
          obtain ⟨u, hu, H⟩ := nthK_inv H
          obtain ⟨z, hz, hrel, hfz⟩ := row_cell rel hg hρ hu
          cases u with
          | int j zz =>
            simp only at H
            obtain ⟨hk, H⟩ := cond_ok H
            obtain rfl := (kEq_iff _ _).1 hk
            rw [hrel.int_inv] at hz
            rw [eqI_eq] at H
            by_cases e : zz = x
            · subst e
              simp only [beq_self_eq_true, cond_true] at H
              rw [putK_iff, Heap.setK_eq] at H
              exact ⟨_, _, run_call_cas_hit g1 g2 g3 g4 _ g5 hz hfz, _, _, ρ, H.2, row_set rel hg hρ (List.getElem?_eq_some_iff.1 hu).1, .bool _⟩
            · rw [beq_false_of_ne e] at H
              exact ⟨_, w, run_call_cas_miss g1 g2 g3 g4 _ g5 hz hfz e, _, h, ρ, H, Evo.refl rel, .bool _⟩
          | _ => exact H.elim
        · exact H.elim
      · exact H.elim
    | add k =>
      simp only [extK] at H
      split at H
      · rename_i id off k1 y
        obtain ⟨y1, ys, rfl, hy1, hn⟩ := hxs.cons_inv
        obtain ⟨y2, ys2, rfl, hy2, hn2⟩ := hn.cons_inv
        rw [hn2.nil_inv]
        obtain ⟨b, o, n', hρ, rfl⟩ := hy1.ptr_inv
        obtain rfl := hy2.int_inv
        obtain ⟨hk, H⟩ := cond_ok H
        rw [kEq_iff] at hk
        subst hk
        split at H
        · rename_i cs hg
          obtain ⟨u, hu, H⟩ := nthK_inv H
          obtain ⟨z, hz, hrel, hfz⟩ := row_cell rel hg hρ hu
          cases u with
          | int j zz =>
            simp only at H
            obtain ⟨hk, H⟩ := cond_ok H
            obtain rfl := (kEq_iff _ _).1 hk
            rw [hrel.int_inv] at hz
            rw [fI_eq, putK_iff, Heap.setK_eq, wrapF_eq] at H
            exact ⟨_, _, run_call_add g1 g2 g3 g4 _ g5 hz hfz (s := IntKind.wrap _ (zz + y)) (by simp [Op.intArith]), _, _, ρ, H.2, row_set rel hg hρ (List.getElem?_eq_some_iff.1 hu).1, .int _ _⟩
          | _ => exact H.elim
        · exact H.elim
      · exact H.elim
  refine ⟨fun ρ w x' xs rel hx hxs => ?_, fun _ ρ w x' xs rel hx hxs => ?_⟩
  · obtain ⟨y, w', h1, h2⟩ := key ρ w x' xs rel hx hxs
    exact .value y w' h1 h2
  · obtain ⟨y, w', h1, h2⟩ := key ρ w x' xs rel hx hxs
    exact .value y w' h1 h2

/-- Calls with a table of functions without texts. -/
def withExt (X : FuncId → Option Ext) (_C base : CallK) : CallK := fun f args h K => match f with
  | .func (.func fid) [] [] => match X fid with
    | some x => extK x args h K
    | none => base f args h K
  | _ => base f args h K
theorem withExt_sound {X : FuncId → Option Ext} (hX : ∀ f x, X f = some x → ExtFact P f x) : ∀ C base : CallK, (∀ f args h K, C f args h K → CallBoth P σ f args h K) → (∀ f args h K, base f args h K → CallBoth P σ f args h K) → ∀ f args h K, withExt X C base f args h K → CallBoth P σ f args h K := by
  intro C base _ hb f args h K H
  unfold withExt at H
  split at H
  · split at H
    · rename_i fid x hx; exact ext_sound (hX _ _ hx) H
    · exact hb _ _ _ _ H
  · exact hb _ _ _ _ H
end
end Go.Zy
