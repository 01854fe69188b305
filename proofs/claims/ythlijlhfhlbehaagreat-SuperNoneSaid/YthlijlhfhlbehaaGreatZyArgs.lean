/- Arguments of a call: what was there in memory, as abstract values. -/
import Derived.Test.YthlijlhfhlbehaaGreatZyExt
import Derived.Below
import Derived.ChangeSame
import Derived.ChangeArms
import Derived.ChangeShapes
set_option linter.unusedSimpArgs false
set_option linter.unusedVariables false
namespace Go.Zy
open Go.RowKit Go.WideShapes Go.ChangeShapes

/-- Shapes of plain data. -/
inductive Ty where
  | bool
  | int (k : IntKind)
  | str
  | slice (e : Ty)
  | struct (fs : Ty)
  | snil
  | scons (f r : Ty)

def Ty.size : Ty → Nat
  | .struct fs => fs.size
  | .snil => 0
  | .scons f r => f.size + r.size
  | _ => 1
mutual
def tyOk (P : Program) : Ty → TypeId → Bool
  | .bool, t => match P.underlying t with | some .bool => true | _ => false
  | .int k, t => match P.underlying t with | some (.int j) => decide (j = k) | _ => false
  | .str, t => match P.underlying t with | some .string => true | _ => false
  | .slice e, t => match P.underlying t with | some (.slice u) => tyOk P e u && Nat.beq (P.cellsOf u) e.size && Nat.ble 1 e.size | _ => false
  | .struct fs, t => match P.underlying t with | some (.struct gs) => flOk P fs gs.toList 0 && Nat.beq (P.cellsOf t) fs.size | _ => false
  | _, _ => false
def flOk (P : Program) : Ty → List Field → Nat → Bool
  | .snil, [], _ => true
  | .scons f r, g :: gs, off => tyOk P f g.type && Nat.beq g.offset off && Nat.beq (P.cellsOf g.type) f.size && flOk P r gs (off + f.size)
  | _, _, _ => false
end

section
variable {H : Type}
/-- Plain data as abstract cells. -/
def encD : Ty → List (DataW H) → List AVal
  | .bool, [.lit (.bool b)] => [.bool b]
  | .int k, [.lit (.int _ n)] => [.int k n]
  | .str, [.lit (.string l)] => [.str l]
  | .slice _, [.nil] => [.nilslice]
  | .slice e, [.slice elems _] => [.islice (elems.flatMap fun d => encD e [d]) 0 elems.length none e.size]
  | .struct fs, [.agg parts] => encD fs parts
  | .scons f r, d :: ds => encD f [d] ++ encD r ds
  | _, _ => []
/-- Is it of its shape? -/
def wfD : Ty → List (DataW H) → Prop
  | .bool, [.lit (.bool _)] => True
  | .int k, [.lit (.int j n)] => j = k ∧ (Lit.int k n).wf = true
  | .str, [.lit (.string l)] => l.length ≤ maxLen
  | .slice _, [.nil] => True
  | .slice e, [.slice elems _] => elems.length ≤ maxLen ∧ ∀ d ∈ elems, wfD e [d]
  | .struct fs, [.agg parts] => wfD fs parts
  | .snil, [] => True
  | .scons f r, d :: ds => wfD f [d] ∧ wfD r ds
  | _, _ => False

def noNm : Nm := fun _ => none
/-- The memory of a world, to be read alone. -/
def memOf (w : World) : Im := fun b => match w.heap[b]? with | some (.cells c _ _) => some c | _ => none
theorem rel_start (P : Program) (w : World) : Rel P noNm (memOf w) Heap.empty w where
  live := fun _ _ _ _ _ _ h => by cases h
  inj := fun _ _ _ _ _ _ _ _ _ _ _ h => by cases h
  imm := fun b c h => by
    unfold memOf at h
    split at h
    · rename_i c' e f hb; cases h; exact ⟨e, f, hb⟩
    · cases h
  sep := fun _ _ _ _ _ _ h => by cases h
  dom := fun _ _ _ _ h => by cases h
  fresh := fun i _ => by cases i <;> rfl
theorem evo_below {P : Program} {w w' : World} {ρ' : Nm} {h' : Heap} (e : Evo P (memOf w) noNm Heap.empty w ρ' h' w') : Below w.heap.size w w' :=
  ⟨e.os, e.tape, e.output, e.size, fun b hb => e.keep b hb (fun ⟨i, x, o, n, g, _⟩ => by cases i <;> cases g)⟩

variable {enc : TypeId × Value → H} {P : Program} {w : World}

theorem encD_len : ∀ (ty : Ty) (ds : List (DataW H)), wfD ty ds → (encD ty ds).length = ty.size := by
  intro ty
  induction ty with
  | bool =>
    intro ds h
    match ds, h with
    | [.lit (.bool b)], _ => rfl
  | int k =>
    intro ds h
    match ds, h with
    | [.lit (.int j n)], _ => rfl
  | str =>
    intro ds h
    match ds, h with
    | [.lit (.string l)], _ => rfl
  | slice e ih =>
    intro ds h
    match ds, h with
    | [.nil], _ => rfl
    | [.slice l m], _ => rfl
  | struct fs ih =>
    intro ds h
    match ds, h with
    | [.agg ps], h => exact ih ps h
  | snil =>
    intro ds h
    match ds, h with
    | [], _ => rfl
  | scons f r ihf ihr =>
    intro ds h
    match ds, h with
    | d :: ds, h => simp only [encD, List.length_append, Ty.size, ihf _ h.1, ihr _ h.2]

/-- What a reading gives: the abstract cells; that it is of its shape; and that it is read again later. -/
structure Read1 (enc : TypeId × Value → H) (P : Program) (w : World) (ty : Ty) (n : Nat) (t : TypeId) (cs : List Value) (d : DataW H) (ps : List MemPlace) : Prop where
  rel : LRel noNm (memOf w) (encD ty [d]) cs
  wf : wfD ty [d]
  again : ∀ (w' : World) (sp : Nat → Bool), (∀ p ∈ ps, w.sameAt w' p) → (∀ p ∈ ps, sp p.block = true) → DataW.trod enc P w' 0 sp true n t cs = some (d, ps)


theorem add_get {a : Addr} {r : Nat} {v : Value} (h : w.cell? (a.add r) = some v) : ∃ c e f, w.heap[a.block]? = some (.cells c e f) ∧ c[a.off + r]? = some v ∧ (r = 0 → a.spot = none) := by
  have hb : (a.add r).block = a.block := by unfold Addr.add; split <;> rfl
  have ho : (a.add r).off = a.off + r := by unfold Addr.add; split <;> simp_all
  unfold World.cell? at h
  rw [hb] at h
  split at h
  · rename_i c e f hc
    by_cases hs : (a.add r).spot.isSome = true
    · rw [if_pos hs] at h; cases h
    · rw [if_neg hs, ho] at h
      refine ⟨c, e, f, hc, h, fun e => ?_⟩
      subst e
      have : (a.add 0).spot = a.spot := by simp [Addr.add]
      rw [this] at hs
      simpa using hs
  · cases h

theorem cells_get {a : Addr} {n : Nat} {cs : List Value} (h : w.cells? 0 a n = some cs) : cs.length = n ∧ ∀ i, i < n → ∃ v, cs[i]? = some v ∧ w.cell? (a.add i) = some v := by
  unfold World.cells? at h
  rw [if_pos (Nat.zero_le _)] at h
  have hlen : cs.length = n := by simpa using mapM_some_length h
  refine ⟨hlen, fun i hi => ?_⟩
  have := mapM_some_get h i i (by simp [hi])
  have hi' : i < cs.length := by rw [hlen]; exact hi
  exact ⟨cs[i], by simp [hi'], by rw [this]; simp [hi']⟩

theorem flatMap_get {α β : Type} {f : α → List β} {s : Nat} : ∀ {l : List α} {j : Nat} {v : β}, (∀ x ∈ l, (f x).length = s) → (l.flatMap f)[j]? = some v → ∃ i r x, l[i]? = some x ∧ r < s ∧ (f x)[r]? = some v ∧ j = i * s + r := by
  intro l
  induction l with
  | nil => intro j v _ h; simp at h
  | cons y l ih =>
    intro j v hl h
    rw [List.flatMap_cons] at h
    have hy : (f y).length = s := hl y (by simp)
    by_cases hj : j < s
    · rw [List.getElem?_append_left (by rw [hy]; exact hj)] at h
      exact ⟨0, j, y, rfl, hj, h, by simp⟩
    · rw [List.getElem?_append_right (by rw [hy]; omega), hy] at h
      obtain ⟨i, r, x, h1, h2, h3, h4⟩ := ih (fun x hx => hl x (by simp [hx])) h
      exact ⟨i + 1, r, x, by simpa using h1, h2, h3, by rw [Nat.succ_mul]; omega⟩

theorem mapM_range_mk {β : Type} {f : Nat → Option β} : ∀ {n k : Nat} {r : List β}, r.length = n → (∀ i, i < n → f (k + i) = r[i]?) → (List.range' k n).mapM f = some r := by
  intro n
  induction n with
  | zero => intro k r hr _; simp at hr; subst hr; rfl
  | succ n ih =>
    intro k r hr h
    cases r with
    | nil => simp at hr
    | cons y r =>
      have h0 := h 0 (by omega)
      simp at h0
      rw [List.range'_succ, List.mapM_cons, h0, ih (r := r) (by simpa using hr) (fun i hi => by have := h (i + 1) (by omega); rw [show k + (i + 1) = k + 1 + i by omega] at this; simpa using this)]
      rfl
theorem mapM_range_mk0 {β : Type} {f : Nat → Option β} {n : Nat} {r : List β} (hr : r.length = n) (h : ∀ i, i < n → f i = r[i]?) : (List.range n).mapM f = some r := by
  rw [List.range_eq_range']
  exact mapM_range_mk hr (fun i hi => by simpa using h i hi)

theorem mapM_eq_of_get {α β : Type} {f : α → Option β} : ∀ {l : List α} {r : List β}, r.length = l.length → (∀ (i : Nat) x, l[i]? = some x → f x = r[i]?) → l.mapM f = some r := by
  intro l
  induction l with
  | nil => intro r hr _; simp at hr; subst hr; rfl
  | cons x l ih =>
    intro r hr h
    cases r with
    | nil => simp at hr
    | cons y r =>
      have h0 := h 0 x rfl
      simp at h0
      rw [List.mapM_cons, h0, ih (r := r) (by simpa using hr) (fun i x hx => by simpa using h (i + 1) x (by simpa using hx))]
      rfl
/-- One of the shapes. -/
def Read (enc : TypeId × Value → H) (P : Program) (w : World) (ty : Ty) : Prop :=
  ∀ n t cs d ps, tyOk P ty t = true → DataW.trod enc P w 0 (fun _ => true) true n t cs = some (d, ps) → Read1 enc P w ty n t cs d ps
/-- Fields. -/
def ReadF (enc : TypeId × Value → H) (P : Program) (w : World) (fs : Ty) : Prop :=
  ∀ n (gs : List Field) off (cs : List Value) (xs : List (DataW H × List MemPlace)), flOk P fs gs off = true → xs.length = gs.length → cs.length = off + fs.size →
    (∀ (i : Nat) g, gs[i]? = some g → DataW.trod enc P w 0 (fun _ => true) true n g.type ((cs.drop g.offset).take (P.cellsOf g.type)) = xs[i]?) →
    LRel noNm (memOf w) (encD fs (xs.map (·.1))) (cs.drop off) ∧ wfD fs (xs.map (·.1)) ∧
    ∀ (w' : World) (sp : Nat → Bool), (∀ p ∈ xs.flatMap (·.2), w.sameAt w' p) → (∀ p ∈ xs.flatMap (·.2), sp p.block = true) →
      ∀ (i : Nat) g, gs[i]? = some g → DataW.trod enc P w' 0 sp true n g.type ((cs.drop g.offset).take (P.cellsOf g.type)) = xs[i]?

theorem readF_nil : ReadF enc P w .snil := by
  intro n gs off cs xs hf hl hc h
  match gs, hf with
  | [], _ =>
    have : xs = [] := by simpa using hl
    subst this
    refine ⟨?_, trivial, fun w' sp _ _ i g hg => by simp at hg⟩
    have : cs.drop off = [] := by simp [hc, Ty.size]
    rw [this]; exact .nil
theorem readF_cons {f r : Ty} (hf : Read enc P w f) (hr : ReadF enc P w r) : ReadF enc P w (.scons f r) := by
  intro n gs off cs xs hk hl hc h
  match gs, hk with
  | g :: gs, hk =>
    simp only [flOk, Bool.and_eq_true] at hk
    obtain ⟨⟨⟨k1, k2⟩, k3⟩, k4⟩ := hk
    have k2 := Nat.eq_of_beq_eq_true k2
    have k3 := Nat.eq_of_beq_eq_true k3
    cases xs with
    | nil => simp at hl
    | cons x xs =>
      obtain ⟨d, ps⟩ := x
      have h0 := h 0 g rfl
      simp at h0
      have a := hf n g.type _ d ps k1 h0
      simp only [Ty.size] at hc
      have b := hr n gs (off + f.size) cs xs k4 (by simpa using hl) (by omega) (fun i g hg => by simpa using h (i + 1) g (by simpa using hg))
      refine ⟨?_, ⟨a.wf, b.2.1⟩, ?_⟩
      · have e : cs.drop off = (cs.drop g.offset).take (P.cellsOf g.type) ++ cs.drop (off + f.size) := by
          rw [k2, k3, ← List.drop_drop, List.take_append_drop]
        rw [e]
        exact .append a.rel b.1
      · intro w' sp h1 h2 i g' hg
        cases i with
        | zero =>
          simp at hg; subst hg
          simp
          exact a.again w' sp (fun p hp => h1 p (by simp [hp])) (fun p hp => h2 p (by simp [hp]))
        | succ i =>
          simpa using b.2.2 w' sp (fun p hp => h1 p (by rw [List.flatMap_cons]; exact List.mem_append_right _ hp)) (fun p hp => h2 p (by rw [List.flatMap_cons]; exact List.mem_append_right _ hp)) i g' (by simpa using hg)

theorem read_bool : Read enc P w .bool := by
  intro n t cs d ps ht h
  have hu : P.underlying t = some .bool := by
    simp only [tyOk] at ht; split at ht <;> first | assumption | cases ht
  obtain ⟨b, rfl, e⟩ := DataW.trod_bool hu h
  cases e
  refine ⟨.cons (.bool b) .nil, trivial, fun w' sp _ _ => ?_⟩
  cases n with
  | zero => simp [DataW.trod] at h
  | succ n => unfold DataW.trod; rw [hu]
theorem read_int {k : IntKind} : Read enc P w (.int k) := by
  intro n t cs d ps ht h
  have hu : P.underlying t = some (.int k) := by
    simp only [tyOk] at ht; split at ht
    · rename_i j e; have := of_decide_eq_true ht; subst this; exact e
    · cases ht
  obtain ⟨m, rfl, e, hw⟩ := DataW.trod_int hu h
  cases e
  refine ⟨.cons (.int k m) .nil, ⟨rfl, hw⟩, fun w' sp _ _ => ?_⟩
  cases n with
  | zero => simp [DataW.trod] at h
  | succ n => unfold DataW.trod; rw [hu]; simp [hw]
theorem read_str : Read enc P w .str := by
  intro n t cs d ps ht h
  have hu : P.underlying t = some .string := by
    simp only [tyOk] at ht; split at ht <;> first | assumption | cases ht
  obtain ⟨s, rfl, e, hw⟩ := DataW.trod_string hu h
  cases e
  refine ⟨.cons (.str s.data.toList) .nil, ?_, fun w' sp _ _ => ?_⟩
  · show s.data.toList.length ≤ maxLen
    simpa using hw
  cases n with
  | zero => simp [DataW.trod] at h
  | succ n => unfold DataW.trod; rw [hu]; simp [hw]
theorem read_struct {fs : Ty} (hf : ReadF enc P w fs) : Read enc P w (.struct fs) := by
  intro n t cs d ps ht h
  simp only [tyOk] at ht
  split at ht
  · rename_i gs hu
    simp only [Bool.and_eq_true] at ht
    obtain ⟨xs, m, rfl, e, hc, hl, hx⟩ := DataW.trod_struct hu h
    cases e
    have hsz := Nat.eq_of_beq_eq_true ht.2
    have a := hf m gs.toList 0 cs xs ht.1 (by simpa using hl) (by omega) (fun i g hg => hx i g (by simpa using hg))
    refine ⟨by have := a.1; rw [List.drop_zero] at this; exact this, a.2.1, fun w' sp h1 h2 => ?_⟩
    have hm : (gs.toList.mapM fun f => DataW.trod enc P w' 0 sp true m f.type ((cs.drop f.offset).take (P.cellsOf f.type))) = some xs := by
      have hall := a.2.2 w' sp h1 h2
      refine mapM_eq_of_get (by simpa using hl) (fun i g hg => ?_)
      exact hall i g hg
    unfold DataW.trod
    rw [hu]
    simp only [hc, if_true, hm]
    rfl
  · cases ht

theorem read_slice {e : Ty} (hw : ∃ (b : Nat) (c : Array Value) (x : TypeId) (y : Nat × Nat), w.heap[b]? = some (Obj.cells c x y)) (he : Read enc P w e) : Read enc P w (.slice e) := by
  intro n t cs d ps ht h
  simp only [tyOk] at ht
  split at ht
  · rename_i u hu
    simp only [Bool.and_eq_true] at ht
    obtain ⟨⟨k1, k2⟩, k3⟩ := ht
    have k2 := Nat.eq_of_beq_eq_true k2
    have k3 := Nat.le_of_ble_eq_true k3
    rcases DataW.trod_slice hu h with ⟨rfl, e'⟩ | ⟨a, len, cap, elems, rest, m, rfl, rfl, e', hb, hl, hm, hlen, hel, hsp, _⟩
    · cases e'
      refine ⟨.cons .nilslice .nil, trivial, fun w' sp _ _ => ?_⟩
      cases n with
      | zero => simp [DataW.trod] at h
      | succ n => unfold DataW.trod; rw [hu]; rfl
    · cases e'
      obtain ⟨hrl, hre⟩ := hsp rfl
      rw [k2] at hel hre
      have each : ∀ i, i < len → ∃ ci dp, elems[i]? = some dp ∧ w.cells? 0 (a.add (i * e.size)) e.size = some ci ∧ DataW.trod enc P w 0 (fun _ => true) true m u ci = some dp := by
        intro i hi
        have := hel i hi
        have hi' : i < elems.length := by omega
        rw [List.getElem?_eq_getElem hi', Option.bind_eq_some_iff] at this
        obtain ⟨ci, h1, h2⟩ := this
        exact ⟨ci, elems[i], by simp [hi'], h1, h2⟩
      have eachR : ∀ j, j < cap - len → ∃ ci dp, rest[j]? = some dp ∧ w.cells? 0 (a.add ((len + j) * e.size)) e.size = some ci ∧ DataW.trod enc P w 0 (fun _ => true) true m u ci = some dp := by
        intro i hi
        have := hre i hi
        have hi' : i < rest.length := by omega
        rw [List.getElem?_eq_getElem hi', Option.bind_eq_some_iff] at this
        obtain ⟨ci, h1, h2⟩ := this
        exact ⟨ci, rest[i], by simp [hi'], h1, h2⟩
      have hwf : ∀ d ∈ elems.map (·.1), wfD e [d] := by
        intro d hd
        obtain ⟨i, hi⟩ := List.mem_iff_getElem?.1 hd
        have hi' : i < len := by have := (List.getElem?_eq_some_iff.1 hi).1; simp at this; omega
        obtain ⟨ci, dp, h1, h2, h3⟩ := each i hi'
        simp [h1] at hi
        subst hi
        exact (he m u ci dp.1 dp.2 k1 h3).wf
      have hadd : ∀ i r, r < e.size → ((a.add (i * e.size)).add r).block = a.block ∧ ((a.add (i * e.size)).add r).off = a.off + (i * e.size + r) := by
        intro i r _
        unfold Addr.add
        constructor <;> (repeat' split) <;> simp_all <;> omega
      refine ⟨?_, ⟨?_, hwf⟩, ?_⟩
      · -- the cells
        by_cases hcap : cap = 0
        · obtain ⟨b, c, x, y, hbb⟩ := hw
          have h0 : elems = [] := List.length_eq_zero_iff.1 (by omega)
          subst h0
          simp at hlen
          subst hlen
          refine .cons ?_ .nil
          refine .islice (b := b) (o := 0) (c := c) (fun _ => undef) (by unfold memOf; rw [hbb]) (fun _ h => by cases h) (Nat.zero_le _) (fun h => (h hcap).elim) (fun i v h => by simp at h) (fun i v h => by simp at h)
        · have first : ∃ c x y, w.heap[a.block]? = some (.cells c x y) ∧ a.spot = none := by
            by_cases h0 : 0 < len
            · obtain ⟨ci, dp, h1, h2, h3⟩ := each 0 h0
              obtain ⟨v, h4, h5⟩ := (cells_get h2).2 0 k3
              rw [Nat.zero_mul] at h5
              have ea : (a.add 0) = a := by simp [Addr.add]
              rw [ea] at h5
              obtain ⟨c, x, y, h6, _, h7⟩ := add_get h5
              exact ⟨c, x, y, h6, h7 rfl⟩
            · obtain ⟨ci, dp, h1, h2, h3⟩ := eachR 0 (by omega)
              obtain ⟨v, h4, h5⟩ := (cells_get h2).2 0 k3
              have e0 : len = 0 := by omega
              subst e0
              rw [show (0 + 0) * e.size = 0 by simp] at h5
              have ea : (a.add 0) = a := by simp [Addr.add]
              rw [ea] at h5
              obtain ⟨c, x, y, h6, _, h7⟩ := add_get h5
              exact ⟨c, x, y, h6, h7 rfl⟩
          obtain ⟨c, x, y, hc, hs⟩ := first
          have get : ∀ i r, i < len → r < e.size → ∃ ci dp v, elems[i]? = some dp ∧ LRel noNm (memOf w) (encD e [dp.1]) ci ∧ ci[r]? = some v ∧ c[a.off + (i * e.size + r)]? = some v := by
            intro i r hi hr
            obtain ⟨ci, dp, h1, h2, h3⟩ := each i hi
            obtain ⟨v, h4, h5⟩ := (cells_get h2).2 r hr
            obtain ⟨c', x', y', h6, h7, _⟩ := add_get h5
            have hbl : (a.add (i * e.size)).block = a.block := by unfold Addr.add; split <;> rfl
            have hof : (a.add (i * e.size)).off = a.off + i * e.size := by unfold Addr.add; split <;> simp_all
            rw [hbl, hc] at h6
            cases h6
            rw [hof] at h7
            exact ⟨ci, dp, v, h1, (he m u ci dp.1 dp.2 k1 h3).rel, h4, by rw [← Nat.add_assoc]; exact h7⟩
          have row : ∀ (j : Nat) v, ((elems.map (·.1)).flatMap fun d => encD e [d])[j]? = some v → ∃ x, c[a.off + j]? = some x ∧ VRel noNm (memOf w) v x := by
            intro j v hj
            obtain ⟨i, r, d, h1, h2, h3, rfl⟩ := flatMap_get (s := e.size) (fun d hd => encD_len e [d] (hwf d hd)) hj
            have hi' : i < len := by have := (List.getElem?_eq_some_iff.1 h1).1; simp at this; omega
            obtain ⟨ci, dp, x, g1, g2, g3, g4⟩ := get i r hi' h2
            simp [g1] at h1
            subst h1
            exact ⟨x, g4, g2.2 r v x h3 g3⟩
          refine .cons ?_ .nil
          have ha : a = ⟨a.block, a.off + 0, none⟩ := by cases a; simp at hs; subst hs; rfl
          show VRel noNm (memOf w) (.islice _ 0 (elems.map (·.1)).length none e.size) _
          rw [show (elems.map (·.1)).length = len by simpa using hlen]
          refine .islice (b := a.block) (o := a.off) (c := c) (fun i => (c[a.off + i]?).getD undef) (by unfold memOf; rw [hc]) (fun _ h => by cases h) hl (fun _ => ha) (fun i v h => ?_) (fun i v h => ?_)
          · obtain ⟨x, g, _⟩ := row i v h; rw [g]; rfl
          · obtain ⟨x, g, r⟩ := row i v h; rw [g]; exact r
      · show (elems.map (·.1)).length ≤ maxLen
        rw [List.length_map]; omega
      · -- again
        intro w' sp h1 h2
        have hcell : ∀ i, i < cap → ∀ p ∈ MemPlace.row (a.add (i * e.size)) e.size, p ∈ MemPlace.row a ((elems.length + rest.length) * P.cellsOf u) := by
          intro i hi p hp
          obtain ⟨r, hr, rfl⟩ := MemPlace.mem_row.1 hp
          have hbl : (a.add (i * e.size)).block = a.block := by unfold Addr.add; split <;> rfl
          have hof : (a.add (i * e.size)).off = a.off + i * e.size := by unfold Addr.add; split <;> simp_all
          refine MemPlace.mem_row.2 ⟨i * e.size + r, ?_, by rw [hbl, hof, Nat.add_assoc]⟩
          rw [k2, show elems.length + rest.length = cap by omega]
          calc i * e.size + r < i * e.size + e.size := by omega
            _ = (i + 1) * e.size := by rw [Nat.succ_mul]
            _ ≤ cap * e.size := Nat.mul_le_mul_right _ hi
        have hE : ∀ i, i < len → (w'.cells? 0 (a.add (i * P.cellsOf u)) (P.cellsOf u)).bind (DataW.trod enc P w' 0 sp true m u) = elems[i]? := by
          intro i hi
          obtain ⟨ci, dp, g1, g2, g3⟩ := each i hi
          have hmem : dp ∈ elems ++ rest := List.mem_append_left _ (List.mem_of_getElem? g1)
          rw [k2, World.cells?_carry g2 (fun p hp => h1 p (List.mem_append_left _ (hcell i (by omega) p hp))), Option.bind_some, g1]
          exact (he m u ci dp.1 dp.2 k1 g3).again w' sp (fun p hp => h1 p (List.mem_append_right _ (List.mem_flatMap.2 ⟨dp, hmem, hp⟩))) (fun p hp => h2 p (List.mem_append_right _ (List.mem_flatMap.2 ⟨dp, hmem, hp⟩)))
        have hR : ∀ j, j < cap - len → (w'.cells? 0 (a.add ((len + j) * P.cellsOf u)) (P.cellsOf u)).bind (DataW.trod enc P w' 0 sp true m u) = rest[j]? := by
          intro i hi
          obtain ⟨ci, dp, g1, g2, g3⟩ := eachR i hi
          have hmem : dp ∈ elems ++ rest := List.mem_append_right _ (List.mem_of_getElem? g1)
          rw [k2, World.cells?_carry g2 (fun p hp => h1 p (List.mem_append_left _ (hcell (len + i) (by omega) p hp))), Option.bind_some, g1]
          exact (he m u ci dp.1 dp.2 k1 g3).again w' sp (fun p hp => h1 p (List.mem_append_right _ (List.mem_flatMap.2 ⟨dp, hmem, hp⟩))) (fun p hp => h2 p (List.mem_append_right _ (List.mem_flatMap.2 ⟨dp, hmem, hp⟩)))
        have mE := mapM_range_mk0 hlen hE
        have mR : (if sp a.block = true then (List.range (cap - len)).mapM (fun j => (w'.cells? 0 (a.add ((len + j) * P.cellsOf u)) (P.cellsOf u)).bind (DataW.trod enc P w' 0 sp true m u)) else some []) = some rest := by
          by_cases hcap : cap = 0
          · have h0 : rest = [] := List.length_eq_zero_iff.1 (by omega)
            subst h0
            rw [show cap - len = 0 by omega]
            split <;> rfl
          · have hsb : sp a.block = true := h2 (.cell a.block (a.off + 0)) (List.mem_append_left _ (MemPlace.mem_row.2 ⟨0, by rw [k2, show elems.length + rest.length = cap by omega]; exact Nat.mul_pos (by omega) k3, rfl⟩))
            rw [if_pos hsb]
            exact mapM_range_mk0 hrl hR
        unfold DataW.trod
        rw [hu]
        simp only [Nat.zero_le, true_and, hl, hm, and_self, if_true, mE, Option.bind_some, mR, Option.map_some]
  · cases ht

theorem read_any (hw : ∃ (b : Nat) (c : Array Value) (x : TypeId) (y : Nat × Nat), w.heap[b]? = some (Obj.cells c x y)) : ∀ ty : Ty, Read enc P w ty ∧ ReadF enc P w ty := by
  intro ty
  have noF : ∀ ty, (∀ gs off, flOk P ty gs off = false) → ReadF enc P w ty := fun ty h n gs off cs xs k => by rw [h gs off] at k; cases k
  induction ty with
  | bool => exact ⟨read_bool, noF _ fun gs off => by cases gs <;> rfl⟩
  | int k => exact ⟨read_int, noF _ fun gs off => by cases gs <;> rfl⟩
  | str => exact ⟨read_str, noF _ fun gs off => by cases gs <;> rfl⟩
  | slice e ih => exact ⟨read_slice hw ih.1, noF _ fun gs off => by cases gs <;> rfl⟩
  | struct fs ih => exact ⟨read_struct ih.2, noF _ fun gs off => by cases gs <;> rfl⟩
  | snil => exact ⟨fun n t cs d ps k => by simp [tyOk] at k, readF_nil⟩
  | scons f r ihf ihr => exact ⟨fun n t cs d ps k => by simp [tyOk] at k, readF_cons ihf.1 ihr.2⟩
end
end Go.Zy
