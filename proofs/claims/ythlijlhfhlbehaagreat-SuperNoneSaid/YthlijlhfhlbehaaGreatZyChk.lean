/- Is an abstract code the model's own? Tests, for the kernel to carry out. -/
import Derived.Test.YthlijlhfhlbehaaGreatZyRun
set_option linter.unusedSimpArgs false
set_option linter.unusedVariables false
namespace Go.Zy

/-- A value without addresses: is it the abstract one? -/
def litOk : Value → AVal → Bool
  | .bool a, .bool b => decide (a = b)
  | .int k a, .int j b => decide (k = j) && decide (a = b)
  | .string s, .str l => decide (s.data.toList = l)
  | .pointer none, .nilptr => true
  | .slice none 0 0, .nilslice => true
  | .map none, .nilmap => true
  | .nilFunc, .nilfunc => true
  | .nilIface, .niliface => true
  | _, _ => false
def litsOk : List Value → List AVal → Bool
  | [], [] => true
  | x :: xs, a :: as => litOk x a && litsOk xs as
  | _, _ => false
/-- A zero value: its cells. -/
def zeroOk (P : Program) (t : TypeId) (z : List AVal) : Bool :=
  match P.info? t with
  | some i => match i.zero with | some v => litsOk v.cells.toList z && decide (v.cells.size = i.size) | none => false
  | none => false
/-- A zero value as one: of a struct, or a single cell. -/
def zeroV (P : Program) (t : TypeId) (z : AVal) : Bool :=
  match P.info? t with
  | some i => match i.zero with
    | some (.agg cs) => (match z with | .agg l => litsOk cs.toList l | _ => false)
    | some v => litOk v z
    | none => false
  | none => false
def sizeIs (P : Program) (t : TypeId) (n : Nat) : Bool := match P.info? t with | some i => decide (i.size = n) | none => false
def bytesIs (P : Program) (t : TypeId) (n : Nat) : Bool := match P.info? t with | some i => decide (i.bytes = n) | none => false
def aggIs (P : Program) (t : TypeId) (b : Bool) : Bool := match P.underlying t with | some (.struct _) | some (.array _ _) => b | some _ => !b | none => false
def sliceOf (P : Program) (t : TypeId) (sz : Nat) : Bool := match P.underlying t with | some (.slice e) => sizeIs P e sz | _ => false
def elemOf? (P : Program) (t : TypeId) : Option TypeId := match P.underlying t with | some (.slice e) => some e | _ => none

def opdOk (vm lm : List Nat) : Operand → Opd → Bool
  | .tmp t, .var i => decide (vm[i]? = some t)
  | .tmp t, .loc i => decide (lm[i]? = some t)
  | .const v, .cst a => litOk v a
  | .func f, .cst (.func (.func g) [] []) => decide (f = g)
  | _, _ => false
def opdsOk (vm lm : List Nat) : List Operand → List Opd → Bool
  | [], [] => true
  | x :: xs, a :: as => opdOk vm lm x a && opdsOk vm lm xs as
  | _, _ => false
def opdO (vm lm : List Nat) : Option Operand → Option Opd → Bool
  | none, none => true
  | some x, some a => opdOk vm lm x a
  | _, _ => false
def isNilC : Operand → Bool
  | .const (.pointer none) | .const (.slice none 0 0) | .const (.map none) | .const .nilFunc | .const .nilIface => true
  | _ => false
def clsOk (P : Program) (t : TypeId) (cls : Nat) (c : Operand) : Bool :=
  match P.underlying t, cls, c with
  | some (.pointer _), 0, .const (.pointer none) => true
  | some (.slice _), 1, .const (.slice none 0 0) => true
  | some (.map _ _), 2, .const (.map none) => true
  | some (.func _ _ _), 3, .const .nilFunc => true
  | some (.interface _), 4, .const .nilIface => true
  | _, _, _ => false
def kindIs (P : Program) (t : TypeId) (k : Nat) : Bool :=
  match P.underlying t, k with
  | some .bool, 0 => true
  | some (.int _), 1 => true
  | some .string, 2 => true
  | _, _ => false
def flatFields (P : Program) : List Field → List Nat → Nat → Bool
  | [], [], _ => true
  | f :: fs, k :: ks, i => decide (f.name ≠ "_") && decide (f.offset = i) && kindIs P f.type k && flatFields P fs ks (i + 1)
  | _, _, _ => false
def flatStruct (P : Program) (t : TypeId) (ks : List Nat) : Bool :=
  match P.underlying t with
  | some (.struct fs) => flatFields P fs.toList ks 0 && !P.stoodInHeld t && !P.eqGuardType P.depth t
  | _ => false
/-- The parts of a struct, an array, a slice under making: places and values. -/
def partsOk (vm lm : List Nat) (place : Nat → Option (Nat × Nat)) : List (Nat × Operand) → List (Nat × Nat × Opd) → Bool
  | [], [] => true
  | (i, x) :: ps, (off, n, a) :: qs => decide (place i = some (off, n)) && decide (0 < n) && opdOk vm lm x a && partsOk vm lm place ps qs
  | _, _ => false
def fieldPlaceOf (P : Program) (fs : Array Field) (i : Nat) : Option (Nat × Nat) := match fs[i]? with | some f => (P.info? f.type).map fun j => (f.offset, j.size) | none => none
def bodied (P : Program) (f : FuncId) : Bool := match P.funcs[f]? with | some fn => fn.body.isSome && decide (fn.name ≠ "runtime.NumGoroutine") | none => false
def methodOk (P : Program) (name : String) (t : TypeId) (f : FuncId) : Bool :=
  match P.info? t, P.underlying t with
  | some i, some (.pointer _) => match i.methods.find? (·.name == name) with
    | some m => m.path.isEmpty && decide (m.func = some (f, true)) && bodied P f
    | none => false
  | _, _ => false
def methodsOk (P : Program) (name : String) : List (TypeId × FuncId) → Bool
  | [] => true
  | (t, f) :: l => methodOk P name t f && methodsOk P name l
def nilmOk (P : Program) (name : String) : List TypeId → Bool
  | [] => true
  | t :: l => (match P.info? t with | some i => (match i.methods.find? (·.name == name) with | some m => m.path.isEmpty && (match m.func with | some (_, b) => b | none => false) | none => false) | none => false) && nilmOk P name l
def repOk (l : List AVal) (z : List AVal) (n : Nat) : Bool := eqVs l (rep z n)

def ROp.pure : ROp → Bool
  | .mv _ | .pick .. | .un .. | .bin .. | .eqb .. | .isnil .. | .eqagg .. | .conv .. | .fld .. | .idx .. | .idxA .. | .nilchk _ | .nilm .. | .build .. | .ext .. | .idxS .. | .idxV .. | .subS .. | .sub .. | .s2ap ..
  | .len .. | .lenA _ | .cap _ | .minmax .. | .mkiface .. | .assert .. | .mkfn .. => true
  | _ => false
def ROp.reads : ROp → Bool
  | .ld _ | .ldn .. | .lookup .. | .lenM _ | .b2s _ | .entry _ | .subA .. | .uptr _ => true
  | _ => false
def ROp.makes : ROp → Bool
  | .alloc _ | .box .. | .buildS .. | .make .. | .mkmap | .s2b _ => true
  | _ => false
def ROp.quiet (r : ROp) : Bool := r.pure || r.reads || r.makes
/-- An operation's operands. -/
def ROp.opds : ROp → List Opd
  | .alloc _ | .mkmap | .lenA _ => []
  | .mv x | .un _ x | .isnil _ _ x | .conv _ x | .b2s x | .s2b x | .same x | .uptr x | .fld _ x | .ld x | .ldn _ x | .nilchk x | .box _ x | .ext _ x | .s2ap _ x | .clear x | .len _ x | .lenM x | .cap x | .mkiface _ x | .assert _ _ _ x | .range x | .next x | .entry x
  | .nilm _ _ x | .clearS _ _ x => [x]
  | .pick c a b => [c, a, b]
  | .bin _ x y | .eqb _ x y | .eqagg _ _ x y | .idx _ x y | .idxA _ _ x y | .st _ x y | .idxS x y | .idxV _ x y | .make _ _ _ x y | .lookup _ _ _ x y | .mapdel _ x y | .append _ _ x y | .appendZ _ _ _ x y | .copy _ x y => [x, y]
  | .build _ ps | .buildS _ _ _ ps => ps.map (·.2.2)
  | .subS x lo hi => x :: (lo.toList ++ hi.toList)
  | .sub _ x lo hi mx | .subA _ _ x lo hi mx => x :: (lo.toList ++ hi.toList ++ mx.toList)
  | .mapset _ m k v => [m, k, v]
  | .minmax _ l => l
  | .mkfn _ l m => l ++ m
  | .call f l | .defer f l => f :: l
  | .invoke _ x l => x :: l

def opOk (P : Program) (vm lm : List Nat) (op : Op) (type : TypeId) (r : ROp) : Bool :=
  let o := opdOk vm lm
  match op with
  | .move x | .assign x => match r with | .mv y => o x y | _ => false
  | .pick c a b => match r with | .pick c' a' b' => o c c' && o a a' && o b b' | _ => false
  | .unOp op _ x => match r with | .un op' y => decide (op = op') && o x y | _ => false
  | .binOp op t x y _ => match r with
    | .bin op' x' y' => decide (op = op') && o x x' && o y y'
    | .eqb neg x' y' => decide (op = bif neg then .neq else .eql) && o x x' && o y y' && (match P.underlying t with | some .bool => true | _ => false)
    | .isnil cls neg a => decide (op = bif neg then .neq else .eql) && ((o x a && clsOk P t cls y) || (o y a && clsOk P t cls x))
    | .eqagg neg ks x' y' => decide (op = bif neg then .neq else .eql) && o x x' && o y y' && flatStruct P t ks
    | _ => false
  | .convert s d x => match r with
    | .conv k y => o x y && (match P.underlying s, P.underlying d with | some (.int _), some (.int j) => decide (j = k) | _, _ => false)
    | .mv y => o x y && (match P.underlying s, P.underlying d with | some .string, some .string => true | _, _ => false) && (match x with | .const (.string _) => true | _ => false)
    | .b2s y => o x y && (match P.underlying s, P.underlying d with | some (.slice e), some .string => (match P.underlying e with | some (.int .u8) => true | _ => false) && sizeIs P e 1 | _, _ => false)
    | .s2b y => o x y && (match P.underlying s, P.underlying d with | some .string, some (.slice e) => (match P.underlying e with | some (.int .u8) => true | _ => false) | _, _ => false)
    | .uptr y => o x y && (match P.underlying s, P.underlying d with | some (.pointer t), some .unsafePointer => (match P.info? t with | some i => decide (i.size ≠ 0) | none => false) | _, _ => false)
    | .same y => o x y && decide (s = d) && (match P.underlying d with | some (.slice e) => (match P.underlying e with | some (.int .u8) => true | _ => false) | _ => false)
    | _ => false
  | .fieldAddr t x f => match r with
    | .fld off y => o x y && (match P.underlying t with | some (.struct fs) => (match fs[f]? with | some g => decide (g.offset = off) && (match P.info? g.type with | some i => decide (i.size ≠ 0) | none => false) | none => false) | _ => false)
    | _ => false
  | .indexAddr t x i => match r with
    | .idx sz y j => o x y && o i j && sliceOf P t sz
    | .idxA n sz y j => o x y && o i j && (match P.underlying t with | some (.array m e) => decide (m = n) && sizeIs P e sz | _ => false)
    | _ => false
  | .load t x => match r with
    | .ld y => o x y && aggIs P t false
    | .ldn n y => o x y && aggIs P t true && sizeIs P t n
    | _ => false
  | .store t x v => match r with | .st n y w => o x y && o v w && sizeIs P t n && decide (0 < n) | _ => false
  | .nilCheck x => match r with
    | .nilchk y => o x y
    | .nilm name tbl y => o x y && nilmOk P name tbl
    | _ => false
  | .alloc e => match r with | .alloc z => zeroOk P e z | _ => false
  | .box _ x => match r with | .box _ y => o x y | _ => false
  | .build t ps => match r with
    | .build z qs => zeroOk P t z && (match P.underlying t with
      | some (.struct fs) => fs.toList.all (fun f => (P.info? f.type).isSome) && partsOk vm lm (fieldPlaceOf P fs) ps.toList qs
      | some (.array _ e) => (match P.info? e with | some i => partsOk vm lm (fun k => some (k * i.size, i.size)) ps.toList qs | none => false)
      | _ => false)
    | _ => false
  | .buildSlice t n ps => match r with
    | .buildS len sz z qs => decide (n = len) && decide (len * sz ≤ 16777216) && (match P.underlying t with
      | some (.slice e) => sizeIs P e sz && (match P.info? e with
        | some i => (match i.zero with | some v => litsOk ((List.replicate len v.cells.toList).flatten) z && decide (v.cells.size = sz) | none => false)
        | none => false) && partsOk vm lm (fun k => some (k * sz, sz)) ps.toList qs
      | _ => false)
    | _ => false
  | .extract x i => match r with | .ext j y => decide (i = j) && o x y | _ => false
  | .index t x i => match r with
    | .idxS y j => o x y && o i j && (match P.underlying t with | some .string => true | _ => false)
    | .idxV n y j => o x y && o i j && (match P.underlying t with | some (.array m e) => decide (m = n) && sizeIs P e 1 && aggIs P e false | _ => false)
    | _ => false
  | .slice t x lo hi mx => match r with
    | .subS y l h => o x y && opdO vm lm lo l && opdO vm lm hi h && mx.isNone && (match P.underlying t with | some .string => true | _ => false)
    | .sub sz y l h m => o x y && opdO vm lm lo l && opdO vm lm hi h && opdO vm lm mx m && sliceOf P t sz
    | .subA n sz y l h m => o x y && opdO vm lm lo l && opdO vm lm hi h && opdO vm lm mx m && (match P.underlying t with | some (.array k e) => decide (k = n) && sizeIs P e sz | _ => false)
    | _ => false
  | .sliceToArrayPointer t x => match r with | .s2ap n y => o x y && (match P.underlying t with | some (.array m _) => decide (m = n) | _ => false) | _ => false
  | .makeSlice t l c => match r with
    | .make sz bytes z l' c' => o l l' && o c c' && (match P.underlying t with | some (.slice e) => sizeIs P e sz && bytesIs P e bytes && zeroOk P e z && decide (0 < sz) | _ => false)
    | _ => false
  | .makeMap _ none => match r with | .mkmap => true | _ => false
  | .lookup t m k ok => match r with
    | .lookup ok' kk z m' k' => decide (ok = ok') && o m m' && o k k' && (match P.underlying t with | some (.map key e) => kindIs P key kk && zeroV P e z | _ => false)
    | _ => false
  | .mapUpdate t m k v | .insert t m k v => match r with
    | .mapset kk m' k' v' => o m m' && o k k' && o v v' && (match P.underlying t with | some (.map key _) => kindIs P key kk | _ => false)
    | _ => false
  | .makeInterface t x => match r with | .mkiface u y => decide (t = u) && o x y && (match P.underlying t with | some (.interface _) => false | some _ => true | none => false) | _ => false
  | .typeAssert x _ a ok => match r with
    | .assert t ok' z y => decide (a = t) && decide (ok = ok') && o x y && zeroV P a z && (match P.underlying a with | some (.interface _) => false | some _ => true | none => false)
    | _ => false
  | .makeFunc fn a b => match r with | .mkfn fn' a' b' => decide (fn = fn') && (match fn with | .yield _ => false | _ => true) && opdsOk vm lm a.toList a' && opdsOk vm lm b.toList b' | _ => false
  | .range t x => match r with | .range y => o x y && (match P.underlying t with | some (.map _ _) => true | _ => false) | _ => false
  | .next x s => match r with | .next y => o x y && !s | _ => false
  | .entry x => match r with | .entry y => o x y | _ => false
  | .defer c => match r with
    | .defer f as => (match c.callee with | .value g => o g f && opdsOk vm lm c.args.toList as | _ => false)
    | _ => false
  | .call c => match c.callee with
    | .value g => match r with | .call f as => o g f && opdsOk vm lm c.args.toList as | _ => false
    | .invoke x name => match r with | .invoke tbl y as => o x y && opdsOk vm lm c.args.toList as && methodsOk P name tbl | _ => false
    | .builtin b =>
      let t0 := c.argTypes.getD 0 0
      match b with
      | .len => match r with
        | .len str y => (match c.args.toList with | [x] => o x y | _ => false) && (match P.underlying t0 with | some .string => str | some (.slice _) => !str | _ => false) && decide (c.argTypes.size = 1)
        | .lenM y => (match c.args.toList with | [x] => o x y | _ => false) && (match P.underlying t0 with | some (.map _ _) => true | _ => false) && decide (c.argTypes.size = 1)
        | .lenA n => decide (c.args.size = 1) && decide (c.argTypes.size = 1) && (match P.underlying t0 with | some (.array m _) => decide (m = n) | some (.pointer a) => (match P.underlying a with | some (.array m _) => decide (m = n) | _ => false) | _ => false)
        | _ => false
      | .cap => match r with | .cap y => (match c.args.toList with | [x] => o x y | _ => false) && (match P.underlying t0 with | some (.slice _) => true | _ => false) && decide (c.argTypes.size = 1) | _ => false
      | .min => match r with | .minmax mx as => !mx && opdsOk vm lm c.args.toList as | _ => false
      | .max => match r with | .minmax mx as => mx && opdsOk vm lm c.args.toList as | _ => false
      | .append => match c.argTypes.toList with
        | [t, u] => match r with
          | .append sz bytes y z => (match c.args.toList with | [x, w] => o x y && o w z | _ => false) && decide (0 < sz) && decide (0 < bytes) && (match P.underlying t with | some (.slice e) => sizeIs P e sz && bytesIs P e bytes && (match P.info? e with | some i => (match i.zero with | some zx => decide (zx.cells.size = sz) | none => false) | none => false) | _ => false) && (match P.underlying u with | some (.slice _) => true | some .string => decide (sz = 1) | _ => false)
          | .appendZ sz bytes zz y z => (match c.args.toList with | [x, w] => o x y && o w z | _ => false) && decide (0 < sz) && decide (0 < bytes) && (match P.underlying t with | some (.slice e) => sizeIs P e sz && bytesIs P e bytes && zeroOk P e zz | _ => false) && (match P.underlying u with | some (.int _) => true | _ => false)
          | _ => false
        | _ => false
      | .copy => match r with | .copy sz y z => (match c.args.toList with | [x, w] => o x y && o w z | _ => false) && decide (0 < sz) && sliceOf P t0 sz && decide (1 ≤ c.argTypes.size) | _ => false
      | .delete => match r with | .mapdel kk y z => (match c.args.toList with | [x, w] => o x y && o w z | _ => false) && decide (1 ≤ c.argTypes.size) && (match P.underlying t0 with | some (.map key _) => kindIs P key kk | _ => false) | _ => false
      | .clear => match r with
        | .clear y => (match c.args.toList with | [x] => o x y | _ => false) && decide (1 ≤ c.argTypes.size) && (match P.underlying t0 with | some (.map _ _) => true | _ => false)
        | .clearS sz z y => (match c.args.toList with | [x] => o x y | _ => false) && decide (1 ≤ c.argTypes.size) && (match P.underlying t0 with | some (.slice e) => sizeIs P e sz && zeroOk P e z | _ => false)
        | _ => false
      | _ => false
  | _ => false

end Go.Zy
