/- How the abstract state stands to the model's world. -/
import Derived.Test.YthlijlhfhlbehaaGreatZyRun
import Derived.Laws.CopyRow
set_option linter.unusedSimpArgs false
set_option linter.unusedVariables false
namespace Go.Zy

/-- Where an abstract block lies: the block, the place of its first cell, how many cells the block has. -/
abbrev Nm := Nat → Option (Nat × Nat × Nat)
/-- The memory that is only read: blocks of cells. -/
abbrev Im := Nat → Option (Array Value)

inductive VRel (ρ : Nm) (σ : Im) : AVal → Value → Prop
  | junk (x : Value) : VRel ρ σ .junk x
  | bool (b : Bool) : VRel ρ σ (.bool b) (.bool b)
  | int (k : IntKind) (n : Int) : VRel ρ σ (.int k n) (.int k n)
  | str (l : List UInt8) : VRel ρ σ (.str l) (.string ⟨⟨l⟩⟩)
  | nilptr : VRel ρ σ .nilptr (.pointer none)
  | nilslice : VRel ρ σ .nilslice (.slice none 0 0)
  | nilmap : VRel ρ σ .nilmap (.map none)
  | nilfunc : VRel ρ σ .nilfunc .nilFunc
  | niliface : VRel ρ σ .niliface .nilIface
  | ptr {id off b o n : Nat} (h : ρ id = some (b, o, n)) : VRel ρ σ (.ptr id off) (.pointer (some ⟨b, o + off, none⟩))
  | iptr {row : List AVal} {off b o : Nat} {c : Array Value} (xs : Nat → Value) (hb : σ b = some c)
      (hc : ∀ (i : Nat) v, row[i]? = some v → c[o + i]? = some (xs i)) (hr : ∀ (i : Nat) v, row[i]? = some v → VRel ρ σ v (xs i)) :
      VRel ρ σ (.iptr row off) (.pointer (some ⟨b, o + off, none⟩))
  | slice {id off len b o n c sz : Nat} {cap : Option Nat} {a : Addr} (h : ρ id = some (b, o, n)) (hc : ∀ k, cap = some k → c = k) (hl : len ≤ c)
      (ha : c ≠ 0 → a = ⟨b, o + off, none⟩) (hn : o + off + c * sz ≤ n) : VRel ρ σ (.slice id off len cap sz) (.slice (some a) len c)
  | islice {row : List AVal} {off len b o k sz : Nat} {cap : Option Nat} {c : Array Value} {a : Addr} (xs : Nat → Value) (hb : σ b = some c)
      (hc : ∀ j, cap = some j → k = j) (hl : len ≤ k) (ha : k ≠ 0 → a = ⟨b, o + off, none⟩)
      (hcc : ∀ (i : Nat) v, row[i]? = some v → c[o + i]? = some (xs i)) (hr : ∀ (i : Nat) v, row[i]? = some v → VRel ρ σ v (xs i)) :
      VRel ρ σ (.islice row off len cap sz) (.slice (some a) len k)
  | map {id b o n : Nat} (h : ρ id = some (b, o, n)) : VRel ρ σ (.map id) (.map (some b))
  | iter {id b o n : Nat} (h : ρ id = some (b, o, n)) : VRel ρ σ (.iter id) (.pointer (some ⟨b, 0, none⟩))
  | func (fn : Fn) {a b : List AVal} {xs ys : List Value} (hn : ∀ l, fn ≠ .yield l) (ha : a.length = xs.length) (hb : b.length = ys.length)
      (ra : ∀ (i : Nat) v x, a[i]? = some v → xs[i]? = some x → VRel ρ σ v x) (rb : ∀ (i : Nat) v x, b[i]? = some v → ys[i]? = some x → VRel ρ σ v x) :
      VRel ρ σ (.func fn a b) (.func fn xs.toArray ys.toArray)
  | yield {id b o n : Nat} (h : ρ id = some (b, o, n)) : VRel ρ σ (.yield id) (.func (.yield b) #[] #[])
  | iface (t : TypeId) {v : AVal} {x : Value} (h : VRel ρ σ v x) : VRel ρ σ (.iface t v) (.iface t x)
  | agg {l : List AVal} {xs : List Value} (hl : l.length = xs.length) (h : ∀ (i : Nat) v x, l[i]? = some v → xs[i]? = some x → VRel ρ σ v x) : VRel ρ σ (.agg l) (.agg xs.toArray)
  | tuple {l : List AVal} {xs : List Value} (hl : l.length = xs.length) (h : ∀ (i : Nat) v x, l[i]? = some v → xs[i]? = some x → VRel ρ σ v x) : VRel ρ σ (.tuple l) (.tuple xs.toArray)

theorem VRel.bool_inv {ρ : Nm} {σ : Im} {b : Bool} {x : Value} (h : VRel ρ σ (.bool b) x) : x = .bool b := by cases h; rfl
theorem VRel.int_inv {ρ : Nm} {σ : Im} {k : IntKind} {n : Int} {x : Value} (h : VRel ρ σ (.int k n) x) : x = .int k n := by cases h; rfl
theorem VRel.str_inv {ρ : Nm} {σ : Im} {l : List UInt8} {x : Value} (h : VRel ρ σ (.str l) x) : x = .string ⟨⟨l⟩⟩ := by cases h; rfl
theorem VRel.nilptr_inv {ρ : Nm} {σ : Im} {x : Value} (h : VRel ρ σ .nilptr x) : x = .pointer none := by cases h; rfl
theorem VRel.nilslice_inv {ρ : Nm} {σ : Im} {x : Value} (h : VRel ρ σ .nilslice x) : x = .slice none 0 0 := by cases h; rfl
theorem VRel.nilmap_inv {ρ : Nm} {σ : Im} {x : Value} (h : VRel ρ σ .nilmap x) : x = .map none := by cases h; rfl
theorem VRel.nilfunc_inv {ρ : Nm} {σ : Im} {x : Value} (h : VRel ρ σ .nilfunc x) : x = .nilFunc := by cases h; rfl
theorem VRel.niliface_inv {ρ : Nm} {σ : Im} {x : Value} (h : VRel ρ σ .niliface x) : x = .nilIface := by cases h; rfl
theorem VRel.ptr_inv {ρ : Nm} {σ : Im} {id off : Nat} {x : Value} (h : VRel ρ σ (.ptr id off) x) : ∃ b o n, ρ id = some (b, o, n) ∧ x = .pointer (some ⟨b, o + off, none⟩) := by cases h; exact ⟨_, _, _, ‹_›, rfl⟩
theorem VRel.iptr_inv {ρ : Nm} {σ : Im} {row : List AVal} {off : Nat} {x : Value} (h : VRel ρ σ (.iptr row off) x) :
    ∃ (b o : Nat) (c : Array Value) (xs : Nat → Value), σ b = some c ∧ (∀ (i : Nat) v, row[i]? = some v → c[o + i]? = some (xs i)) ∧ (∀ (i : Nat) v, row[i]? = some v → VRel ρ σ v (xs i)) ∧
      x = .pointer (some ⟨b, o + off, none⟩) := by cases h; exact ⟨_, _, _, _, ‹_›, ‹_›, ‹_›, rfl⟩
theorem VRel.slice_inv {ρ : Nm} {σ : Im} {id off len sz : Nat} {cap : Option Nat} {x : Value} (h : VRel ρ σ (.slice id off len cap sz) x) :
    ∃ b o n c a, ρ id = some (b, o, n) ∧ (∀ k, cap = some k → c = k) ∧ len ≤ c ∧ (c ≠ 0 → a = ⟨b, o + off, none⟩) ∧ o + off + c * sz ≤ n ∧ x = .slice (some a) len c := by
  cases h; exact ⟨_, _, _, _, _, ‹_›, ‹_›, ‹_›, ‹_›, ‹_›, rfl⟩
theorem VRel.islice_inv {ρ : Nm} {σ : Im} {row : List AVal} {off len sz : Nat} {cap : Option Nat} {x : Value} (h : VRel ρ σ (.islice row off len cap sz) x) :
    ∃ (b o k : Nat) (c : Array Value) (xs : Nat → Value) (a : Addr), σ b = some c ∧ (∀ j, cap = some j → k = j) ∧ len ≤ k ∧ (k ≠ 0 → a = ⟨b, o + off, none⟩) ∧
      (∀ (i : Nat) v, row[i]? = some v → c[o + i]? = some (xs i)) ∧ (∀ (i : Nat) v, row[i]? = some v → VRel ρ σ v (xs i)) ∧ x = .slice (some a) len k := by
  cases h; exact ⟨_, _, _, _, _, _, ‹_›, ‹_›, ‹_›, ‹_›, ‹_›, ‹_›, rfl⟩
theorem VRel.map_inv {ρ : Nm} {σ : Im} {id : Nat} {x : Value} (h : VRel ρ σ (.map id) x) : ∃ b o n, ρ id = some (b, o, n) ∧ x = .map (some b) := by cases h; exact ⟨_, _, _, ‹_›, rfl⟩
theorem VRel.iter_inv {ρ : Nm} {σ : Im} {id : Nat} {x : Value} (h : VRel ρ σ (.iter id) x) : ∃ b o n, ρ id = some (b, o, n) ∧ x = .pointer (some ⟨b, 0, none⟩) := by cases h; exact ⟨_, _, _, ‹_›, rfl⟩
theorem VRel.yield_inv {ρ : Nm} {σ : Im} {id : Nat} {x : Value} (h : VRel ρ σ (.yield id) x) : ∃ b o n, ρ id = some (b, o, n) ∧ x = .func (.yield b) #[] #[] := by cases h; exact ⟨_, _, _, ‹_›, rfl⟩
theorem VRel.iface_inv {ρ : Nm} {σ : Im} {t : TypeId} {v : AVal} {x : Value} (h : VRel ρ σ (.iface t v) x) : ∃ y, VRel ρ σ v y ∧ x = .iface t y := by cases h; exact ⟨_, ‹_›, rfl⟩

def Sub (ρ ρ' : Nm) : Prop := ∀ i x, ρ i = some x → ρ' i = some x
theorem Sub.refl (ρ : Nm) : Sub ρ ρ := fun _ _ h => h
theorem Sub.trans {a b c : Nm} (h : Sub a b) (k : Sub b c) : Sub a c := fun i x e => k i x (h i x e)

theorem VRel.mono {ρ ρ' : Nm} {σ : Im} (hs : Sub ρ ρ') {v : AVal} {x : Value} (h : VRel ρ σ v x) : VRel ρ' σ v x := by
  induction h with
  | junk x => exact .junk x
  | bool b => exact .bool b
  | int k n => exact .int k n
  | str l => exact .str l
  | nilptr => exact .nilptr
  | nilslice => exact .nilslice
  | nilmap => exact .nilmap
  | nilfunc => exact .nilfunc
  | niliface => exact .niliface
  | ptr h => exact .ptr (hs _ _ h)
  | iptr xs hb hc _ ih => exact .iptr xs hb hc ih
  | slice h hc hl ha hn => exact .slice (hs _ _ h) hc hl ha hn
  | islice xs hb hc hl ha hcc _ ih => exact .islice xs hb hc hl ha hcc ih
  | map h => exact .map (hs _ _ h)
  | iter h => exact .iter (hs _ _ h)
  | func fn hn ha hb _ _ ia ib => exact .func fn hn ha hb ia ib
  | yield h => exact .yield (hs _ _ h)
  | iface t _ ih => exact .iface t ih
  | agg hl _ ih => exact .agg hl ih
  | tuple hl _ ih => exact .tuple hl ih

/-- Lists of values, one by one. -/
def LRel (ρ : Nm) (σ : Im) (l : List AVal) (xs : List Value) : Prop := l.length = xs.length ∧ ∀ (i : Nat) v x, l[i]? = some v → xs[i]? = some x → VRel ρ σ v x
theorem LRel.mono {ρ ρ' : Nm} {σ : Im} (hs : Sub ρ ρ') {l : List AVal} {xs : List Value} (h : LRel ρ σ l xs) : LRel ρ' σ l xs :=
  ⟨h.1, fun i v x a b => (h.2 i v x a b).mono hs⟩
theorem LRel.nil {ρ : Nm} {σ : Im} : LRel ρ σ [] [] := ⟨rfl, fun i v x h => by simp at h⟩
theorem LRel.cons {ρ : Nm} {σ : Im} {v : AVal} {x : Value} {l : List AVal} {xs : List Value} (h : VRel ρ σ v x) (t : LRel ρ σ l xs) : LRel ρ σ (v :: l) (x :: xs) := by
  refine ⟨by simp [t.1], fun i => ?_⟩
  cases i with
  | zero => intro a b ha hb; simp at ha hb; subst ha hb; exact h
  | succ i => intro a b ha hb; exact t.2 i a b (by simpa using ha) (by simpa using hb)
theorem LRel.cons_inv {ρ : Nm} {σ : Im} {v : AVal} {l : List AVal} {ys : List Value} (h : LRel ρ σ (v :: l) ys) : ∃ x xs, ys = x :: xs ∧ VRel ρ σ v x ∧ LRel ρ σ l xs := by
  obtain ⟨hl, h⟩ := h
  cases ys with
  | nil => simp at hl
  | cons x xs => exact ⟨x, xs, rfl, h 0 v x rfl rfl, by simpa using hl, fun i a b ha hb => h (i + 1) a b (by simpa using ha) (by simpa using hb)⟩
theorem LRel.nil_inv {ρ : Nm} {σ : Im} {ys : List Value} (h : LRel ρ σ [] ys) : ys = [] := by
  have := h.1; cases ys with
  | nil => rfl
  | cons => simp at this
theorem LRel.append {ρ : Nm} {σ : Im} {l m : List AVal} {xs ys : List Value} (h : LRel ρ σ l xs) (k : LRel ρ σ m ys) : LRel ρ σ (l ++ m) (xs ++ ys) := by
  induction l generalizing xs with
  | nil => rw [h.nil_inv]; exact k
  | cons v l ih => obtain ⟨x, xs', rfl, hv, ht⟩ := h.cons_inv; exact .cons hv (ih ht)
theorem LRel.get {ρ : Nm} {σ : Im} {l : List AVal} {xs : List Value} (h : LRel ρ σ l xs) {i : Nat} {v : AVal} (hv : l[i]? = some v) : ∃ x, xs[i]? = some x ∧ VRel ρ σ v x := by
  have hi : i < l.length := by rw [List.getElem?_eq_some_iff] at hv; exact hv.1
  have hi' : i < xs.length := by rw [← h.1]; exact hi
  exact ⟨xs[i], by simp [hi'], h.2 i v _ hv (by simp [hi'])⟩
theorem LRel.take {ρ : Nm} {σ : Im} {l : List AVal} {xs : List Value} (h : LRel ρ σ l xs) (n : Nat) : LRel ρ σ (l.take n) (xs.take n) := by
  refine ⟨by simp [h.1], fun i v x a b => ?_⟩
  rw [List.getElem?_take] at a b
  split at a
  · rename_i hi; rw [if_pos hi] at b; exact h.2 i v x a b
  · cases a
theorem LRel.drop {ρ : Nm} {σ : Im} {l : List AVal} {xs : List Value} (h : LRel ρ σ l xs) (n : Nat) : LRel ρ σ (l.drop n) (xs.drop n) := by
  refine ⟨by simp [h.1], fun i v x a b => ?_⟩
  rw [List.getElem?_drop] at a b
  exact h.2 _ v x a b

theorem VRel.agg_inv {ρ : Nm} {σ : Im} {l : List AVal} {x : Value} (h : VRel ρ σ (.agg l) x) : ∃ xs, LRel ρ σ l xs ∧ x = .agg xs.toArray := by cases h; exact ⟨_, ⟨‹_›, ‹_›⟩, rfl⟩
theorem VRel.tuple_inv {ρ : Nm} {σ : Im} {l : List AVal} {x : Value} (h : VRel ρ σ (.tuple l) x) : ∃ xs, LRel ρ σ l xs ∧ x = .tuple xs.toArray := by cases h; exact ⟨_, ⟨‹_›, ‹_›⟩, rfl⟩
theorem VRel.func_inv {ρ : Nm} {σ : Im} {fn : Fn} {a b : List AVal} {x : Value} (h : VRel ρ σ (.func fn a b) x) :
    ∃ xs ys, LRel ρ σ a xs ∧ LRel ρ σ b ys ∧ (∀ l, fn ≠ .yield l) ∧ x = .func fn xs.toArray ys.toArray := by cases h; exact ⟨_, _, ⟨‹_›, ‹_›⟩, ⟨‹_›, ‹_›⟩, ‹_›, rfl⟩
theorem LRel.agg {ρ : Nm} {σ : Im} {l : List AVal} {xs : List Value} (h : LRel ρ σ l xs) : VRel ρ σ (.agg l) (.agg xs.toArray) := .agg h.1 h.2
theorem LRel.tuple {ρ : Nm} {σ : Im} {l : List AVal} {xs : List Value} (h : LRel ρ σ l xs) : VRel ρ σ (.tuple l) (.tuple xs.toArray) := .tuple h.1 h.2

/-- A map's entries. -/
def ERel (ρ : Nm) (σ : Im) (es : List (AVal × AVal × Nat)) (xs : List MapEntry) : Prop :=
  es.length = xs.length ∧ ∀ (i : Nat) e x, es[i]? = some e → xs[i]? = some x → keyOk e.1 = true ∧ VRel ρ σ e.1 x.key ∧ VRel ρ σ e.2.1 x.val ∧ e.2.2 = x.born
theorem ERel.mono {ρ ρ' : Nm} {σ : Im} (hs : Sub ρ ρ') {l : List (AVal × AVal × Nat)} {xs : List MapEntry} (h : ERel ρ σ l xs) : ERel ρ' σ l xs :=
  ⟨h.1, fun i v x a b => let ⟨k, p, q, r⟩ := h.2 i v x a b; ⟨k, p.mono hs, q.mono hs, r⟩⟩

end Go.Zy
