/- The abstract interpreter: its values, its heap, its code. A function's run is told by a predicate in continuation-passing style. -/
import Derived.Calls
set_option linter.unusedSimpArgs false
set_option linter.unusedVariables false
namespace Go.Zy

inductive AVal where
  | junk
  | bool (b : Bool)
  | int (k : IntKind) (n : Int)
  | str (s : List UInt8)
  | nilptr | nilslice | nilmap | nilfunc | niliface
  | ptr (id off : Nat)
  | iptr (row : List AVal) (off : Nat)
  | slice (id off len : Nat) (cap : Option Nat) (sz : Nat)
  | islice (row : List AVal) (off len : Nat) (cap : Option Nat) (sz : Nat)
  | map (id : Nat)
  | iter (id : Nat)
  | func (fn : Fn) (first captured : List AVal)
  | yield (id : Nat)
  | iface (t : TypeId) (v : AVal)
  | agg (cs : List AVal)
  | tuple (vs : List AVal)
  deriving Inhabited

/-- A cell's value: what may stand in memory. -/
def AVal.cellOk : AVal → Bool
  | .junk | .agg _ | .tuple _ => false
  | _ => true

inductive Opd where
  | var (i : Nat)
  | loc (i : Nat)
  | cst (v : AVal)

inductive ROp where
  | mv (x : Opd)
  | pick (c a b : Opd)
  | un (op : UnOp) (x : Opd)
  | bin (op : BinOp) (x y : Opd)
  | eqb (neg : Bool) (x y : Opd)
  | isnil (cls : Nat) (neg : Bool) (x : Opd)
  | eqagg (neg : Bool) (ks : List Nat) (x y : Opd)
  | conv (k : IntKind) (x : Opd)
  | b2s (x : Opd)
  | s2b (x : Opd)
  | same (x : Opd)
  | uptr (x : Opd)
  | fld (off : Nat) (x : Opd)
  | idx (sz : Nat) (x i : Opd)
  | idxA (n sz : Nat) (x i : Opd)
  | ld (x : Opd)
  | ldn (n : Nat) (x : Opd)
  | st (n : Nat) (x v : Opd)
  | nilchk (x : Opd)
  | alloc (z : List AVal)
  | box (n : Nat) (x : Opd)
  | build (z : List AVal) (ps : List (Nat × Nat × Opd))
  | buildS (len sz : Nat) (z : List AVal) (ps : List (Nat × Nat × Opd))
  | ext (i : Nat) (x : Opd)
  | idxS (x i : Opd)
  | idxV (len : Nat) (x i : Opd)
  | subS (x : Opd) (lo hi : Option Opd)
  | sub (sz : Nat) (x : Opd) (lo hi mx : Option Opd)
  | subA (n sz : Nat) (x : Opd) (lo hi mx : Option Opd)
  | s2ap (n : Nat) (x : Opd)
  | make (sz bytes : Nat) (z : List AVal) (l c : Opd)
  | mkmap
  | lookup (ok : Bool) (kk : Nat) (z : AVal) (m k : Opd)
  | mapset (kk : Nat) (m k v : Opd)
  | mapdel (kk : Nat) (m k : Opd)
  | clear (m : Opd)
  | len (str : Bool) (x : Opd)
  | lenM (x : Opd)
  | lenA (n : Nat)
  | cap (x : Opd)
  | minmax (isMax : Bool) (args : List Opd)
  | append (sz bytes : Nat) (x y : Opd)
  | appendZ (sz bytes : Nat) (z : List AVal) (x n : Opd)
  | copy (sz : Nat) (d s : Opd)
  | mkiface (t : TypeId) (x : Opd)
  | assert (t : TypeId) (ok : Bool) (z : AVal) (x : Opd)
  | mkfn (fn : Fn) (first captured : List Opd)
  | nilm (name : String) (tbl : List TypeId) (x : Opd)
  | clearS (sz : Nat) (z : List AVal) (x : Opd)
  | range (x : Opd)
  | next (x : Opd)
  | entry (x : Opd)
  | call (f : Opd) (args : List Opd)
  | invoke (tbl : List (TypeId × FuncId)) (x : Opd) (args : List Opd)
  | defer (f : Opd) (args : List Opd)

inductive Dst where
  | loc
  | var (i : Nat)
  | drop

structure EOp where
  dst : Dst
  op : ROp
  guard : Option (Opd × Bool) := none
  ix : Nat := 0

/-- A drawn region: what runs ahead of the first writing operation, then each writing operation with what is asked again behind it and what can run only now. -/
structure Phase where
  w : EOp
  re : List (Nat × ROp × Opd × Option (Opd × Bool))
  seg : List EOp

inductive ECode where
  | skip
  | region (ops : List EOp)
  | dregion (seg : List EOp) (ph : List Phase)
  | seq (a b : ECode)
  | cond (x : Opd) (a b : ECode)
  | block (id : Nat) (b : ECode)
  | loop (b : ECode)
  | exit (id : Nat)
  | ret
  | scope (b : ECode)
  | rangeFunc (f : Opd) (params : List Nat) (a b : ECode)

inductive EExit where
  | normal
  | exit (id : Nat)
  | ret

inductive AObj where
  | row (cs : List AVal)
  | map (es : List (AVal × AVal × Nat)) (clock : Nat)
  | dfr (full : Bool)
  | iter (m : Option Nat) (since : Nat) (seen : List Nat) (stepped : Nat)
  | loop (params : List Nat) (vars : List AVal) (a b : ECode) (state : LoopState) (pending : Option EExit)

inductive HT where
  | leaf
  | node (l : HT) (v : Option AObj) (r : HT)

def HT.get : HT → Nat → Option AObj
  | .leaf, _ => none
  | .node l v r, n =>
    match n with
    | 0 => v
    | m + 1 => bif Nat.beq (Nat.mod m 2) 0 then HT.get l (Nat.div m 2) else HT.get r (Nat.div m 2)

/-- The tree with a value laid at a place (handed on). -/
def HT.setK (K0 : Nat) : Nat → HT → Nat → Option AObj → (HT → Prop) → Prop
  | 0, _, _, _, _ => False
  | f + 1, t, n, x, K =>
    match n with
    | 0 => match t with
      | .leaf => K (.node .leaf x .leaf)
      | .node l _ r => K (.node l x r)
    | m + 1 => match t with
      | .leaf => bif Nat.beq (Nat.mod m 2) 0 then HT.setK K0 f .leaf (Nat.div m 2) x fun l => K (.node l none .leaf) else HT.setK K0 f .leaf (Nat.div m 2) x fun r => K (.node .leaf none r)
      | .node l v r => bif Nat.beq (Nat.mod m 2) 0 then HT.setK K0 f l (Nat.div m 2) x fun l => K (.node l v r) else HT.setK K0 f r (Nat.div m 2) x fun r => K (.node l v r)

def HT.set : Nat → HT → Nat → Option AObj → HT
  | 0, t, _, _ => t
  | f + 1, t, n, x =>
    match n with
    | 0 => match t with
      | .leaf => .node .leaf x .leaf
      | .node l _ r => .node l x r
    | m + 1 => match t with
      | .leaf => bif Nat.beq (Nat.mod m 2) 0 then .node (HT.set f .leaf (Nat.div m 2) x) none .leaf else .node .leaf none (HT.set f .leaf (Nat.div m 2) x)
      | .node l v r => bif Nat.beq (Nat.mod m 2) 0 then .node (HT.set f l (Nat.div m 2) x) v r else .node l v (HT.set f r (Nat.div m 2) x)

theorem HT.setK_eq (K0 : Nat) (f : Nat) : ∀ (t : HT) (n : Nat) (x : Option AObj) (K : HT → Prop), n < f → HT.setK K0 f t n x K = K (HT.set f t n x) := by
  induction f with
  | zero => intro t n x K h; omega
  | succ f ih =>
    intro t n x K h
    cases n with
    | zero => cases t <;> rfl
    | succ m =>
      have hm : m / 2 < f := by omega
      have hm' : Nat.div m 2 < f := hm
      cases t <;> (simp only [HT.setK, HT.set]; cases hb : Nat.beq (Nat.mod m 2) 0 <;> simp only [cond_true, cond_false] <;> rw [ih _ _ _ _ hm'])

theorem HT.get_leaf (n : Nat) : HT.get .leaf n = none := by cases n <;> rfl

theorem HT.get_set (f : Nat) : ∀ (t : HT) (n m : Nat) (x : Option AObj), n < f → (HT.set f t n x).get m = if m = n then x else t.get m := by
  induction f with
  | zero => intro t n m x h; omega
  | succ f ih =>
    intro t n m x h
    cases n with
    | zero =>
      cases m with
      | zero => cases t <;> rfl
      | succ m => cases t <;> simp [HT.set, HT.get, HT.get_leaf]
    | succ n =>
      have hn : Nat.div n 2 < f := by have : n / 2 < f := by omega
                                      exact this
      cases m with
      | zero => cases t <;> (simp only [HT.set]; cases Nat.beq (Nat.mod n 2) 0 <;> simp [HT.get])
      | succ m =>
        have key : (m = n) ↔ (Nat.beq (Nat.mod m 2) 0 = Nat.beq (Nat.mod n 2) 0 ∧ Nat.div m 2 = Nat.div n 2) := by
          have e1 : Nat.mod m 2 = m % 2 := rfl
          have e2 : Nat.mod n 2 = n % 2 := rfl
          have e3 : Nat.div m 2 = m / 2 := rfl
          have e4 : Nat.div n 2 = n / 2 := rfl
          rw [e1, e2, e3, e4]
          constructor
          · rintro rfl; exact ⟨rfl, rfl⟩
          · rintro ⟨h1, h2⟩
            have : (m % 2 = 0 ↔ n % 2 = 0) := by
              rw [← Nat.beq_eq, ← Nat.beq_eq, h1]
            omega
        cases t with
        | leaf =>
          cases hb : Nat.beq (Nat.mod n 2) 0 <;> cases hc : Nat.beq (Nat.mod m 2) 0 <;>
            simp only [HT.set, HT.get, hb, hc, cond_true, cond_false, HT.get_leaf, ih _ _ _ _ hn] <;>
            simp [Nat.add_right_cancel_iff, key, hb, hc]
        | node l v r =>
          cases hb : Nat.beq (Nat.mod n 2) 0 <;> cases hc : Nat.beq (Nat.mod m 2) 0 <;>
            simp only [HT.set, HT.get, hb, hc, cond_true, cond_false, ih _ _ _ _ hn] <;>
            simp [Nat.add_right_cancel_iff, key, hb, hc]

structure Heap where
  next : Nat
  t : HT

def Heap.empty : Heap := ⟨0, .leaf⟩
def Heap.get (h : Heap) (i : Nat) : Option AObj := h.t.get i
def Heap.set (h : Heap) (i : Nat) (o : AObj) : Heap := ⟨h.next, HT.set (i + 1) h.t i (some o)⟩
def Heap.kill (h : Heap) (i : Nat) : Heap := ⟨h.next, HT.set (i + 1) h.t i none⟩
def Heap.new (h : Heap) (o : AObj) : Heap := ⟨h.next + 1, HT.set (h.next + 1) h.t h.next (some o)⟩

theorem Heap.get_set (h : Heap) (i j : Nat) (o : AObj) : (h.set i o).get j = if j = i then some o else h.get j := HT.get_set _ _ _ _ _ (by omega)
theorem Heap.get_kill (h : Heap) (i j : Nat) : (h.kill i).get j = if j = i then none else h.get j := HT.get_set _ _ _ _ _ (by omega)
theorem Heap.get_new (h : Heap) (j : Nat) (o : AObj) : (h.new o).get j = if j = h.next then some o else h.get j := HT.get_set _ _ _ _ _ (by omega)
theorem Heap.next_set (h : Heap) (i : Nat) (o : AObj) : (h.set i o).next = h.next := rfl
theorem Heap.next_kill (h : Heap) (i : Nat) : (h.kill i).next = h.next := rfl
theorem Heap.next_new (h : Heap) (o : AObj) : (h.new o).next = h.next + 1 := rfl

/- Numbers, written out before they are handed on. -/
def fN (m : Nat) (K : Nat → Prop) : Prop := Nat.rec (motive := fun _ => Prop) (K 0) (fun k _ => K (Nat.succ k)) m
def fI (m : Int) (K : Int → Prop) : Prop := match m with | .ofNat n => fN n fun n => K (.ofNat n) | .negSucc n => fN n fun n => K (.negSucc n)
def fB (m : Bool) (K : Bool → Prop) : Prop := match m with | true => K true | false => K false
theorem fN_eq (m : Nat) (K : Nat → Prop) : fN m K = K m := by cases m <;> rfl
theorem fI_eq (m : Int) (K : Int → Prop) : fI m K = K m := by cases m <;> simp [fI, fN_eq]
theorem fB_eq (m : Bool) (K : Bool → Prop) : fB m K = K m := by cases m <;> rfl

def Heap.setK (h : Heap) (i : Nat) (o : AObj) (K : Heap → Prop) : Prop := HT.setK 0 (i + 1) h.t i (some o) fun t => K ⟨h.next, t⟩
def Heap.killK (h : Heap) (i : Nat) (K : Heap → Prop) : Prop := HT.setK 0 (i + 1) h.t i none fun t => K ⟨h.next, t⟩
def Heap.newK (h : Heap) (o : AObj) (K : Nat → Heap → Prop) : Prop := HT.setK 0 (h.next + 1) h.t h.next (some o) fun t => fN (h.next + 1) fun n => K h.next ⟨n, t⟩
theorem Heap.setK_eq (h : Heap) (i : Nat) (o : AObj) (K : Heap → Prop) : h.setK i o K = K (h.set i o) := by
  unfold Heap.setK; rw [HT.setK_eq _ _ _ _ _ _ (by omega)]; rfl
theorem Heap.killK_eq (h : Heap) (i : Nat) (K : Heap → Prop) : h.killK i K = K (h.kill i) := by
  unfold Heap.killK; rw [HT.setK_eq _ _ _ _ _ _ (by omega)]; rfl
theorem Heap.newK_eq (h : Heap) (o : AObj) (K : Nat → Heap → Prop) : h.newK o K = K h.next (h.new o) := by
  unfold Heap.newK; rw [HT.setK_eq _ _ _ _ _ _ (by omega), fN_eq]; rfl

/- Lists. -/
def getK : List AVal → Nat → (AVal → Prop) → Prop
  | [], _, K => K .junk
  | a :: _, 0, K => K a
  | _ :: l, n + 1, K => getK l n K
def setK : List AVal → Nat → AVal → (List AVal → Prop) → Prop
  | [], _, _, K => K []
  | _ :: l, 0, v, K => K (v :: l)
  | a :: l, n + 1, v, K => setK l n v fun l' => K (a :: l')
def takeK : List AVal → Nat → (List AVal → Prop) → Prop
  | _, 0, K => K []
  | [], _ + 1, _ => False
  | a :: l, n + 1, K => takeK l n fun r => K (a :: r)
def cutK : List AVal → Nat → Nat → (List AVal → Prop) → Prop
  | l, 0, n, K => takeK l n K
  | [], _ + 1, 0, K => K []
  | [], _ + 1, _ + 1, _ => False
  | _ :: l, o + 1, n, K => cutK l o n K
/-- Cells over those of a row. -/
def overK : List AVal → List AVal → (List AVal → Prop) → Prop
  | l, [], K => K l
  | [], _ :: _, _ => False
  | _ :: l, v :: vs, K => overK l vs fun r => K (v :: r)
def putK : List AVal → Nat → List AVal → (List AVal → Prop) → Prop
  | l, 0, vs, K => overK l vs K
  | [], _ + 1, [], K => K []
  | [], _ + 1, _ :: _, _ => False
  | a :: l, o + 1, vs, K => putK l o vs fun r => K (a :: r)
def catK : List AVal → List AVal → (List AVal → Prop) → Prop
  | [], b, K => K b
  | x :: a, b, K => catK a b fun r => K (x :: r)
/-- A list's elements so often. -/
def repK (z : List AVal) : Nat → (List AVal → Prop) → Prop
  | 0, K => K []
  | n + 1, K => repK z n fun r => catK z r K
def put (l : List AVal) (o : Nat) (vs : List AVal) : List AVal := l.take o ++ vs ++ l.drop (o + vs.length)
def rep (z : List AVal) (n : Nat) : List AVal := (List.replicate n z).flatten

theorem getK_eq (l : List AVal) : ∀ (n : Nat) (K : AVal → Prop), getK l n K = K (l.getD n .junk) := by
  induction l with
  | nil => intro n K; cases n <;> rfl
  | cons a l ih => intro n K; cases n with
    | zero => rfl
    | succ n => simp [getK, ih]
theorem setK_eq (l : List AVal) : ∀ (n : Nat) (v : AVal) (K : List AVal → Prop), setK l n v K = K (l.set n v) := by
  induction l with
  | nil => intro n v K; cases n <;> rfl
  | cons a l ih => intro n v K; cases n with
    | zero => rfl
    | succ n => simp [setK, ih]
theorem takeK_iff (l : List AVal) : ∀ (n : Nat) (K : List AVal → Prop), takeK l n K ↔ n ≤ l.length ∧ K (l.take n) := by
  induction l with
  | nil => intro n K; cases n <;> simp [takeK]
  | cons a l ih => intro n K; cases n with
    | zero => simp [takeK]
    | succ n => simp [takeK, ih]
theorem cutK_iff (l : List AVal) : ∀ (o n : Nat) (K : List AVal → Prop), cutK l o n K ↔ (n ≤ l.length - o ∧ K ((l.drop o).take n)) := by
  induction l with
  | nil => intro o n K; cases o <;> cases n <;> simp [cutK, takeK]
  | cons a l ih => intro o n K; cases o with
    | zero => simp [cutK, takeK_iff]
    | succ o => simp [cutK, ih]
theorem overK_iff (vs : List AVal) : ∀ (l : List AVal) (K : List AVal → Prop), overK l vs K ↔ vs.length ≤ l.length ∧ K (vs ++ l.drop vs.length) := by
  induction vs with
  | nil => intro l K; cases l <;> simp [overK]
  | cons v vs ih => intro l K; cases l with
    | nil => simp [overK]
    | cons a l => simp [overK, ih]
theorem putK_iff (l : List AVal) : ∀ (o : Nat) (vs : List AVal) (K : List AVal → Prop), putK l o vs K ↔ (vs.length ≤ l.length - o ∧ K (put l o vs)) := by
  induction l with
  | nil => intro o vs K; cases o <;> cases vs <;> simp [putK, overK, put]
  | cons a l ih => intro o vs K; cases o with
    | zero => simp [putK, overK_iff, put]
    | succ o =>
      simp only [putK, ih, put]
      have : o + 1 + vs.length = (o + vs.length) + 1 := by omega
      simp [this]
theorem catK_eq (a : List AVal) : ∀ (b : List AVal) (K : List AVal → Prop), catK a b K = K (a ++ b) := by
  induction a with
  | nil => intro b K; rfl
  | cons x a ih => intro b K; simp [catK, ih]
theorem repK_eq (z : List AVal) (n : Nat) : ∀ (K : List AVal → Prop), repK z n K = K (rep z n) := by
  induction n with
  | zero => intro K; simp [repK, rep]
  | succ n ih => intro K; simp [repK, ih, catK_eq, rep, List.replicate_succ]

end Go.Zy
