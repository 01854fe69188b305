/- The abstract interpreter: what each operation does, and how code runs. -/
import Derived.Test.YthlijlhfhlbehaaGreatZyExec
set_option linter.unusedSimpArgs false
set_option linter.unusedVariables false
namespace Go.Zy

/- ## Are two values the same? -/
def eqFn : Fn → Fn → Bool
  | .func a, .func b => Nat.beq a b
  | a, b => decide (a = b)
def eqO : Option Nat → Option Nat → Bool
  | none, none => true
  | some a, some b => Nat.beq a b
  | _, _ => false
mutual
def eqV : AVal → AVal → Bool
  | .junk, .junk | .nilptr, .nilptr | .nilslice, .nilslice | .nilmap, .nilmap | .nilfunc, .nilfunc | .niliface, .niliface => true
  | .bool a, .bool b => (a && b) || (!a && !b)
  | .int k a, .int j b => kEq k j && eqI a b
  | .str a, .str b => decide (a = b)
  | .ptr i o, .ptr j p => Nat.beq i j && Nat.beq o p
  | .iptr r o, .iptr s p => Nat.beq o p && eqVs r s
  | .slice i o l c z, .slice j p m d y => Nat.beq i j && Nat.beq o p && Nat.beq l m && eqO c d && Nat.beq z y
  | .islice r o l c z, .islice s p m d y => Nat.beq o p && Nat.beq l m && eqO c d && Nat.beq z y && eqVs r s
  | .map i, .map j | .iter i, .iter j | .yield i, .yield j => Nat.beq i j
  | .func f a b, .func g c d => eqFn f g && eqVs a c && eqVs b d
  | .iface t v, .iface u w => Nat.beq t u && eqV v w
  | .agg a, .agg b | .tuple a, .tuple b => eqVs a b
  | _, _ => false
def eqVs : List AVal → List AVal → Bool
  | [], [] => true
  | a :: l, b :: m => eqV a b && eqVs l m
  | _, _ => false
end

/- ## Operands -/
def ev (vs ls : List AVal) (o : Opd) (K : AVal → Prop) : Prop :=
  match o with
  | .var i => getK vs i K
  | .loc i => getK ls i K
  | .cst v => K v
def evs (vs ls : List AVal) : List Opd → (List AVal → Prop) → Prop
  | [], K => K []
  | o :: os, K => ev vs ls o fun v => evs vs ls os fun r => K (v :: r)
def evO (vs ls : List AVal) (o : Option Opd) (K : Option AVal → Prop) : Prop :=
  match o with
  | none => K none
  | some o => ev vs ls o fun v => K (some v)

/- ## Parts of values -/
def nthK (l : List AVal) (n : Nat) (K : AVal → Prop) : Prop :=
  match l, n with
  | [], _ => False
  | a :: _, 0 => K a
  | _ :: l, n + 1 => nthK l n K
def allOk : List AVal → Bool
  | [] => true
  | v :: l => v.cellOk && allOk l
/-- A value's cells, n of them. -/
def cellsK (v : AVal) (n : Nat) (K : List AVal → Prop) : Prop :=
  match v with
  | .agg cs => bif (allOk cs && Nat.beq cs.length n) then K cs else False
  | .junk | .tuple _ => False
  | v => bif Nat.beq n 1 then K [v] else False
/-- Where a pointer leads: the row, and the place in it. -/
def rowK (h : Heap) (v : AVal) (K : List AVal → Nat → Prop) : Prop :=
  match v with
  | .ptr id off => match h.get id with | some (.row cs) => K cs off | _ => False
  | .iptr row off => K row off
  | _ => False
/-- The first n elements of a slice's, or a text's bytes as cells; all its n elements. -/
def bytesK : List UInt8 → (List AVal → Prop) → Prop
  | [], K => K []
  | b :: l, K => fN b.toNat fun n => bytesK l fun r => K (.int .u8 (.ofNat n) :: r)
def lenOfK (v : AVal) (K : Nat → Prop) : Prop :=
  match v with
  | .nilslice => K 0
  | .slice _ _ l _ _ => K l
  | .islice _ _ l _ _ => K l
  | .str s => fN s.length K
  | _ => False
def isStr : AVal → Bool
  | .str _ => true
  | _ => false
def isSlice : AVal → Bool
  | .slice _ _ _ _ _ | .islice _ _ _ _ _ => true
  | _ => false
def elemsK (h : Heap) (sz : Nat) (v : AVal) (n : Nat) (K : List AVal → Prop) : Prop :=
  match v with
  | .nilslice => bif Nat.beq n 0 then K [] else False
  | .slice id off _ _ z => bif Nat.beq z sz then (match h.get id with | some (.row cs) => fN (n * sz) fun m => cutK cs off m K | _ => False) else False
  | .islice row off _ _ z => bif Nat.beq z sz then (fN (n * sz) fun m => cutK row off m K) else False
  | .str s => bif Nat.beq sz 1 then (bytesK s fun r => takeK r n K) else False
  | _ => False
def intK (v : AVal) (K : IntKind → Int → Prop) : Prop := match v with | .int k n => K k n | _ => False
/-- A number that is no more than a bound, and not below nought. -/
def idxK (v : AVal) (K : Nat → Prop) : Prop := match v with | .int _ (.ofNat n) => K n | _ => False
/-- Does a guard say so? What was passed over says no. -/
def guardK (v : AVal) (b : Bool) (yes no : Unit → Prop) : Prop :=
  match v with
  | .bool c => bif ((c && b) || (!c && !b)) then yes () else no ()
  | .tuple _ => no ()
  | _ => False
def boolK (v : AVal) (K : Bool → Prop) : Prop := match v with | .bool b => K b | _ => False

/- ## Tests and reckonings -/
def binK (op : BinOp) (a b : AVal) (K : AVal → Prop) : Prop :=
  match a with
  | .int k x => match b with
    | .int j y =>
      match op with
      | .shl => match y with | .ofNat n => fI (shlF k x (minN n (kBits k))) fun r => K (.int k r) | _ => False
      | .shr => match y with | .ofNat n => fI (shrF x (minN n (kBits k))) fun r => K (.int k r) | _ => False
      | op => bif kEq k j then (match op with
        | .add => fI (wrapF k (Int.add x y)) fun r => K (.int k r)
        | .sub => fI (wrapF k (Int.sub x y)) fun r => K (.int k r)
        | .mul => fI (wrapF k (Int.mul x y)) fun r => K (.int k r)
        | .quo => bif eqI y (.ofNat 0) then False else fI (wrapF k (Int.tdiv x y)) fun r => K (.int k r)
        | .rem => bif eqI y (.ofNat 0) then False else fI (Int.tmod x y) fun r => K (.int k r)
        | .and | .or | .xor | .andNot => fI (bitF op k x y) fun r => K (.int k r)
        | .eql => fB (eqI x y) fun r => K (.bool r)
        | .neq => fB (!eqI x y) fun r => K (.bool r)
        | .lss => fB (ltI x y) fun r => K (.bool r)
        | .leq => fB (leI x y) fun r => K (.bool r)
        | .gtr => fB (ltI y x) fun r => K (.bool r)
        | .geq => fB (leI y x) fun r => K (.bool r)
        | _ => False) else False
    | _ => False
  | .str x => match b with
    | .str y =>
      match op with
      | .eql => fB (decide (x = y)) fun r => K (.bool r)
      | .neq => fB (!decide (x = y)) fun r => K (.bool r)
      | .lss => fB (Op.bytesLess x y) fun r => K (.bool r)
      | .leq => fB (Op.bytesLess x y || decide (x = y)) fun r => K (.bool r)
      | .gtr => fB (!(Op.bytesLess x y || decide (x = y))) fun r => K (.bool r)
      | .geq => fB (!Op.bytesLess x y) fun r => K (.bool r)
      | _ => False
    | _ => False
  | _ => False
/-- Of a pointer (0), a slice (1), a map (2), a function (3), an interface value (4): is it nil? -/
def isNilK (cls : Nat) (v : AVal) (K : Bool → Prop) : Prop :=
  match cls with
  | 0 => match v with | .nilptr => K true | .ptr _ _ | .iptr _ _ => K false | _ => False
  | 1 => match v with | .nilslice => K true | .slice _ _ _ _ _ | .islice _ _ _ _ _ => K false | _ => False
  | 2 => match v with | .nilmap => K true | .map _ => K false | _ => False
  | 3 => match v with | .nilfunc => K true | .func _ _ _ | .yield _ => K false | _ => False
  | 4 => match v with | .niliface => K true | .iface _ _ => K false | _ => False
  | _ => False
def scalarEq : AVal → AVal → Option Bool
  | .bool a, .bool b => some ((a && b) || (!a && !b))
  | .int k a, .int j b => bif kEq k j then some (eqI a b) else none
  | .str a, .str b => some (decide (a = b))
  | _, _ => none
/-- What kind of scalar: a bool (0), a number (1), a text (2). -/
def kindOf : AVal → Nat
  | .bool _ => 0
  | .int _ _ => 1
  | .str _ => 2
  | _ => 3
def aggEqK : List Nat → List AVal → List AVal → (Bool → Prop) → Prop
  | [], [], [], K => K true
  | k :: ks, a :: l, b :: m, K => bif Nat.beq (kindOf a) k then (match scalarEq a b with
    | some true => aggEqK ks l m K
    | some false => aggEqK ks l m fun _ => K false
    | none => False) else False
  | _, _, _, _ => False
def unK (op : UnOp) (v : AVal) (K : AVal → Prop) : Prop :=
  match op with
  | .not => match v with | .bool b => fB (!b) fun r => K (.bool r) | _ => False
  | .neg => match v with | .int k n => fI (wrapF k (Int.sub (.ofNat 0) n)) fun r => K (.int k r) | _ => False
  | .xor => match v with | .int k n => fI (bitF .xor k (bif k.signed then .negSucc 0 else .ofNat (Nat.sub (kM k) 1)) n) fun r => K (.int k r) | _ => False
  | _ => False

/- ## Slices -/
def subSK (s : List UInt8) (lo hi : Option AVal) (K : AVal → Prop) : Prop :=
  (match hi with | none => (fun J => fN s.length J) | some v => (fun J => idxK v J)) fun h =>
  (match lo with | none => (fun J : Nat → Prop => J 0) | some v => (fun J => idxK v J)) fun l =>
  bif (Nat.ble h s.length && Nat.ble l h) then K (.str ((s.drop l).take (h - l))) else False
def roomOf (len : Nat) : Option Nat → Nat
  | some c => c
  | none => len
/-- The bounds of a cut: of a slice with so many elements and so much room (none: as much as its elements, and nobody knows how much more). -/
def boundsK (len : Nat) (cap : Option Nat) (lo hi mx : Option AVal) (K : Nat → Nat → Option Nat → Prop) : Prop :=
  match mx with
  | none =>
    (match hi with | none => (fun J : Nat → Prop => J len) | some v => (fun J => idxK v J)) fun h =>
    (match lo with | none => (fun J : Nat → Prop => J 0) | some v => (fun J => idxK v J)) fun l =>
    bif (Nat.ble h (roomOf len cap) && Nat.ble l h) then (match cap with | some c => fN (c - l) fun c => fN (h - l) fun n => K l n (some c) | none => fN (h - l) fun n => K l n none) else False
  | some mv => idxK mv fun m =>
    (match hi with | none => (fun _ : Nat → Prop => False) | some v => (fun J => idxK v J)) fun h =>
    (match lo with | none => (fun J : Nat → Prop => J 0) | some v => (fun J => idxK v J)) fun l =>
    bif (Nat.ble m (roomOf len cap) && Nat.ble h m && Nat.ble l h) then fN (m - l) fun c => fN (h - l) fun n => K l n (some c) else False
def subK (sz : Nat) (v : AVal) (lo hi mx : Option AVal) (K : AVal → Prop) : Prop :=
  match v with
  | .nilslice => boundsK 0 (some 0) lo hi mx fun _ _ _ => K .nilslice
  | .slice id off len cap z => bif Nat.beq z sz then (boundsK len cap lo hi mx fun l n c => fN (off + l * sz) fun o => K (.slice id o n c sz)) else False
  | .islice row off len cap z => bif Nat.beq z sz then (boundsK len cap lo hi mx fun l n c => fN (off + l * sz) fun o => K (.islice row o n c sz)) else False
  | _ => False
def subAK (h : Heap) (n sz : Nat) (v : AVal) (lo hi mx : Option AVal) (K : AVal → Prop) : Prop :=
  match v with
  | .ptr id off => match h.get id with
    | some (.row cs) => bif Nat.ble (off + n * sz) cs.length then (boundsK n (some n) lo hi mx fun l m c => fN (off + l * sz) fun o => K (.slice id o m c sz)) else False
    | _ => False
  | .iptr row off => boundsK n (some n) lo hi mx fun l m c => fN (off + l * sz) fun o => K (.islice row o m c sz)
  | _ => False

def limit : Nat := 1099511627776   -- bytes that a slice may take at most here

/-- A new row behind an append that grows (or may): its value. -/
def grownK (h : Heap) (need sz bytes : Nat) (old new : List AVal) (K : AVal → Heap → Prop) : Prop :=
  bif Nat.ble (need * bytes) limit then catK old new fun cs => h.newK (.row cs) fun id h => K (.slice id 0 need none sz) h else False
/-- append: n elements whose cells are told. -/
def appendK (h : Heap) (sz bytes : Nat) (x : AVal) (n : Nat) (new : List AVal) (K : AVal → Heap → Prop) : Prop :=
  match x with
  | .nilslice => match n with | 0 => K .nilslice h | n + 1 => grownK h (n + 1) sz bytes [] new K
  | .slice id off len cap z =>
    bif Nat.beq z sz then (match h.get id with
      | some (.row cs) => fN (len + n) fun need =>
        match cap with
        | some c =>
          bif Nat.ble need c then (fN (off + len * sz) fun o => putK cs o new fun cs => h.setK id (.row cs) fun h => K (.slice id off need (some c) sz) h)
          else (fN (len * sz) fun m => cutK cs off m fun old => grownK h need sz bytes old new K)
        | none => match n with
          | 0 => K (.slice id off len none sz) h
          | _ + 1 => fN (len * sz) fun m => cutK cs off m fun old => h.killK id fun h => grownK h need sz bytes old new K
      | _ => False) else False
  | .islice row off len cap z =>
    bif Nat.beq z sz then (match n with
      | 0 => K (.islice row off len cap z) h
      | n + 1 => match cap with
        | some c => fN (len + (n + 1)) fun need => bif Nat.ble need c then False else (fN (len * sz) fun m => cutK row off m fun old => grownK h need sz bytes old new K)
        | none => False) else False
  | _ => False
def copyK (h : Heap) (sz : Nat) (d s : AVal) (K : AVal → Heap → Prop) : Prop :=
  lenOfK s fun a =>
  match d with
  | .nilslice => K (.int .i64 (.ofNat 0)) h
  | .slice id off len _ z => bif Nat.beq z sz then (fN (minN a len) fun n => elemsK h sz s n fun new =>
      bif allOk new then (match h.get id with
      | some (.row cs) => putK cs off new fun cs => h.setK id (.row cs) fun h => K (.int .i64 (.ofNat n)) h
      | _ => False) else False) else False
  | _ => False

/- ## Maps -/
def keyOk : AVal → Bool
  | .bool _ | .int _ _ | .str _ => true
  | _ => false
/-- The place of a key, and what lies there; none: it isn't there. -/
def findK (k : AVal) : List (AVal × AVal × Nat) → Nat → (Option (Nat × AVal) → Prop) → Prop
  | [], _, K => K none
  | (k', v, _) :: es, i, K => match scalarEq k k' with
    | some true => K (some (i, v))
    | some false => findK k es (i + 1) K
    | none => False
def setEntry (k v : AVal) : List (AVal × AVal × Nat) → Nat → (List (AVal × AVal × Nat) → Prop) → Prop
  | [], _, K => K []
  | (_, _, b) :: es, 0, K => K ((k, v, b) :: es)
  | e :: es, i + 1, K => setEntry k v es i fun es => K (e :: es)
def pushK (e : AVal × AVal × Nat) : List (AVal × AVal × Nat) → (List (AVal × AVal × Nat) → Prop) → Prop
  | [], K => K [e]
  | x :: es, K => pushK e es fun es => K (x :: es)
def dropEntry : List (AVal × AVal × Nat) → Nat → (List (AVal × AVal × Nat) → Prop) → Prop
  | [], _, K => K []
  | _ :: es, 0, K => K es
  | e :: es, i + 1, K => dropEntry es i fun es => K (e :: es)
def entriesK (h : Heap) (m : AVal) (K : List (AVal × AVal × Nat) → Prop) : Prop :=
  match m with
  | .nilmap => K []
  | .map id => match h.get id with | some (.map es _) => K es | _ => False
  | _ => False
def mapK (h : Heap) (m : AVal) (K : Nat → List (AVal × AVal × Nat) → Nat → Prop) : Prop :=
  match m with
  | .map id => match h.get id with | some (.map es c) => K id es c | _ => False
  | _ => False
def seenIn (b : Nat) : List Nat → Bool
  | [] => false
  | a :: l => Nat.beq a b || seenIn b l
/-- The entries that an iterator may come to next: those that were there when it began ahead of newer ones. -/
def leftOf (seen : List Nat) : List (AVal × AVal × Nat) → List (AVal × AVal × Nat)
  | [] => []
  | e :: es => bif seenIn e.2.2 seen then leftOf seen es else e :: leftOf seen es
def newer (since : Nat) : List (AVal × AVal × Nat) → Bool
  | [] => false
  | e :: es => !ltN e.2.2 since || newer since es
/-- For each of some entries. -/
def eachK : List (AVal × AVal × Nat) → (AVal × AVal × Nat → Prop) → Prop
  | [], _ => True
  | [e], K => K e
  | e :: es, K => K e ∧ eachK es K
def snocN (b : Nat) : List Nat → (List Nat → Prop) → Prop
  | [], K => K [b]
  | a :: l, K => snocN b l fun l => K (a :: l)
/-- What comes of a step of an iterator: newer entries than the iterator itself are not reckoned with here. -/
def nextK (h : Heap) (x : AVal) (K : AVal → Heap → Prop) : Prop :=
  match x with
  | .iter id => match h.get id with
    | some (.iter none _ _ _) => K (.tuple [.bool false]) h
    | some (.iter (some m) since seen stepped) => match h.get m with
      | some (.map es clock) =>
        bif newer since es then False else
        bif ltN stepped since then False else
        match leftOf seen es with
        | [] => K (.tuple [.bool false]) h
        | e :: l => eachK (e :: l) fun e => snocN e.2.2 seen fun seen => h.setK id (.iter (some m) since seen clock) fun h => K (.tuple [.bool true, e.1, e.2.1]) h
      | _ => False
    | _ => False
  | _ => False
def lastN : List Nat → Option Nat
  | [] => none
  | [a] => some a
  | _ :: l => lastN l
def bornK (b : Nat) : List (AVal × AVal × Nat) → (AVal → AVal → Prop) → Prop
  | [], _ => False
  | (k, v, c) :: es, K => bif Nat.beq c b then K k v else bornK b es K
def entryK (h : Heap) (x : AVal) (K : AVal → Prop) : Prop :=
  match x with
  | .iter id => match h.get id with
    | some (.iter (some m) _ seen stepped) => match lastN seen with
      | some b => match h.get m with
        | some (.map es clock) => bif Nat.beq clock stepped then bornK b es fun k v => K (.tuple [k, v]) else False
        | _ => False
      | none => False
    | _ => False
  | _ => False

abbrev CallK := AVal → List AVal → Heap → (AVal → Heap → Prop) → Prop

def partsK (vs ls : List AVal) : List (Nat × Nat × Opd) → List AVal → (List AVal → Prop) → Prop
  | [], cs, K => K cs
  | (off, n, x) :: ps, cs, K => ev vs ls x fun v => cellsK v n fun new => putK cs off new fun cs => partsK vs ls ps cs K
def minK (mx : Bool) : AVal → List AVal → (AVal → Prop) → Prop
  | v, [], K => K v
  | .int k x, .int _ y :: l, K => bif (bif mx then ltI x y else ltI y x) then minK mx (.int k y) l K else minK mx (.int k x) l K
  | _, _, _ => False
def tblK : List (TypeId × FuncId) → TypeId → (FuncId → Prop) → Prop
  | [], _, _ => False
  | (t, f) :: l, u, K => bif Nat.beq t u then K f else tblK l u K
/-- A row's bytes as a text. -/
def textK : List AVal → (List UInt8 → Prop) → Prop
  | [], K => K []
  | .int .u8 (.ofNat n) :: l, K => textK l fun r => K (UInt8.ofNat n :: r)
  | _ :: _, _ => False

def opK (C : CallK) (vs ls : List AVal) (h : Heap) (o : ROp) (K : AVal → Heap → Prop) : Prop :=
  match o with
  | .mv x => ev vs ls x fun v => K v h
  | .pick c a b => ev vs ls c fun c => boolK c fun c => ev vs ls (bif c then a else b) fun v => K v h
  | .un op x => ev vs ls x fun v => unK op v fun v => K v h
  | .bin op x y => ev vs ls x fun x => ev vs ls y fun y => binK op x y fun v => K v h
  | .eqb neg x y => ev vs ls x fun x => ev vs ls y fun y => boolK x fun x => boolK y fun y => fB ((x && y) || (!x && !y)) fun r => fB (bif neg then !r else r) fun r => K (.bool r) h
  | .isnil cls neg x => ev vs ls x fun x => isNilK cls x fun r => fB (bif neg then !r else r) fun r => K (.bool r) h
  | .eqagg neg ks x y => ev vs ls x fun x => ev vs ls y fun y => match x with
    | .agg x => match y with
      | .agg y => aggEqK ks x y fun r => fB (bif neg then !r else r) fun r => K (.bool r) h
      | _ => False
    | _ => False
  | .conv k x => ev vs ls x fun x => intK x fun _ n => fI (wrapF k n) fun r => K (.int k r) h
  | .b2s x => ev vs ls x fun x => match x with
    | .nilslice => K (.str []) h
    | x => bif isSlice x then (lenOfK x fun n => elemsK h 1 x n fun cs => textK cs fun s => K (.str s) h) else False
  | .s2b x => ev vs ls x fun x => match x with
    | .str s => bytesK s fun cs => h.newK (.row cs) fun id h => fN s.length fun n => K (.slice id 0 n none 1) h
    | _ => False
  | .same x => ev vs ls x fun x => match x with
    | .slice id off len (some (c + 1)) sz => match h.get id with
      | some (.row cs) => h.setK id (.row cs) fun h => K (.slice id off len (some (c + 1)) sz) h
      | _ => False
    | _ => False
  | .uptr x => ev vs ls x fun x => rowK h x fun cs off => nthK cs off fun _ => K x h
  | .fld off x => ev vs ls x fun x => match x with
    | .ptr id o => fN (o + off) fun o => K (.ptr id o) h
    | .iptr row o => fN (o + off) fun o => K (.iptr row o) h
    | _ => False
  | .idx sz x i => ev vs ls x fun x => ev vs ls i fun i => idxK i fun i => match x with
    | .slice id off len _ z => bif (ltN i len && Nat.beq z sz) then fN (off + i * sz) fun o => K (.ptr id o) h else False
    | .islice row off len _ z => bif (ltN i len && Nat.beq z sz) then fN (off + i * sz) fun o => K (.iptr row o) h else False
    | _ => False
  | .idxA n sz x i => ev vs ls x fun x => ev vs ls i fun i => idxK i fun i => bif ltN i n then (match x with
    | .ptr id off => fN (off + i * sz) fun o => K (.ptr id o) h
    | .iptr row off => fN (off + i * sz) fun o => K (.iptr row o) h
    | _ => False) else False
  | .ld x => ev vs ls x fun x => rowK h x fun cs off => nthK cs off fun v => K v h
  | .ldn n x => ev vs ls x fun x => rowK h x fun cs off => cutK cs off n fun cs => K (.agg cs) h
  | .st n x v => ev vs ls x fun x => ev vs ls v fun v => cellsK v n fun new => match x with
    | .ptr id off => match h.get id with
      | some (.row cs) => putK cs off new fun cs => h.setK id (.row cs) fun h => K .junk h
      | _ => False
    | _ => False
  | .nilchk x => ev vs ls x fun x => match x with | .ptr id o => K (.ptr id o) h | .iptr r o => K (.iptr r o) h | _ => False
  | .alloc z => h.newK (.row z) fun id h => K (.ptr id 0) h
  | .box n x => ev vs ls x fun x => cellsK x n fun cs => h.newK (.row cs) fun id h => K (.ptr id 0) h
  | .build z ps => partsK vs ls ps z fun cs => K (.agg cs) h
  | .buildS len sz z ps => partsK vs ls ps z fun cs => h.newK (.row cs) fun id h => K (.slice id 0 len (some len) sz) h
  | .ext i x => ev vs ls x fun x => match x with | .tuple l => nthK l i fun v => K v h | _ => False
  | .idxS x i => ev vs ls x fun x => ev vs ls i fun i => idxK i fun i => match x with
    | .str s => match s[i]? with | some b => fN b.toNat fun n => K (.int .u8 (.ofNat n)) h | none => False
    | _ => False
  | .idxV len x i => ev vs ls x fun x => ev vs ls i fun i => idxK i fun i => bif ltN i len then (match x with | .agg l => nthK l i fun v => K v h | _ => False) else False
  | .subS x lo hi => ev vs ls x fun x => evO vs ls lo fun lo => evO vs ls hi fun hi => match x with | .str s => subSK s lo hi fun v => K v h | _ => False
  | .sub sz x lo hi mx => ev vs ls x fun x => evO vs ls lo fun lo => evO vs ls hi fun hi => evO vs ls mx fun mx => subK sz x lo hi mx fun v => K v h
  | .subA n sz x lo hi mx => ev vs ls x fun x => evO vs ls lo fun lo => evO vs ls hi fun hi => evO vs ls mx fun mx => subAK h n sz x lo hi mx fun v => K v h
  | .s2ap n x => ev vs ls x fun x => match x with
    | .slice id off len _ _ => bif (Nat.ble n len && ltN 0 n) then K (.ptr id off) h else False
    | .islice row off len _ _ => bif (Nat.ble n len && ltN 0 n) then K (.iptr row off) h else False
    | _ => False
  | .make sz bytes z l c => ev vs ls l fun l => ev vs ls c fun c => idxK l fun l => idxK c fun c => bif (Nat.ble l c && Nat.ble c limit && Nat.ble (bytes * c) limit) then
      repK z c fun cs => h.newK (.row cs) fun id h => K (.slice id 0 l (some c) sz) h else False
  | .mkmap => h.newK (.map [] 0) fun id h => K (.map id) h
  | .lookup ok kk z m k => ev vs ls m fun m => ev vs ls k fun k => bif (Nat.beq (kindOf k) kk && keyOk k) then (entriesK h m fun es => findK k es 0 fun r =>
      match r with
      | some (_, v) => K (bif ok then .tuple [v, .bool true] else v) h
      | none => K (bif ok then .tuple [z, .bool false] else z) h) else False
  | .mapset kk m k v => ev vs ls m fun m => ev vs ls k fun k => ev vs ls v fun v => bif (Nat.beq (kindOf k) kk && keyOk k) then (mapK h m fun id es c => findK k es 0 fun r =>
      match r with
      | some (i, _) => setEntry k v es i fun es => h.setK id (.map es c) fun h => K .junk h
      | none => pushK (k, v, c) es fun es => fN (c + 1) fun c => h.setK id (.map es c) fun h => K .junk h) else False
  | .mapdel kk m k => ev vs ls m fun m => ev vs ls k fun k => bif (Nat.beq (kindOf k) kk && keyOk k) then (match m with
    | .nilmap => K .junk h
    | m => mapK h m fun id es c => findK k es 0 fun r =>
      match r with
      | some (i, _) => dropEntry es i fun es => h.setK id (.map es c) fun h => K .junk h
      | none => K .junk h) else False
  | .clear m => ev vs ls m fun m => match m with
    | .nilmap => K .junk h
    | m => mapK h m fun id _ c => h.setK id (.map [] c) fun h => K .junk h
  | .len str x => ev vs ls x fun x => bif ((str && isStr x) || (!str && !isStr x)) then lenOfK x fun n => K (.int .i64 (.ofNat n)) h else False
  | .lenM x => ev vs ls x fun x => match x with
    | .nilmap => K (.int .i64 (.ofNat 0)) h
    | .map id => match h.get id with | some (.map es _) => fN es.length fun n => K (.int .i64 (.ofNat n)) h | _ => False
    | _ => False
  | .lenA n => K (.int .i64 (.ofNat n)) h
  | .cap x => ev vs ls x fun x => match x with
    | .nilslice => K (.int .i64 (.ofNat 0)) h
    | .slice _ _ _ (some c) _ => K (.int .i64 (.ofNat c)) h
    | .islice _ _ _ (some c) _ => K (.int .i64 (.ofNat c)) h
    | _ => False
  | .minmax mx args => evs vs ls args fun l => match l with | v :: l => minK mx v l fun v => K v h | [] => False
  | .append sz bytes x y => ev vs ls x fun x => ev vs ls y fun y => lenOfK y fun n => elemsK h sz y n fun new => bif allOk new then appendK h sz bytes x n new K else False
  | .appendZ sz bytes z x n => ev vs ls x fun x => ev vs ls n fun n => idxK n fun n => repK z n fun new => bif Nat.ble (n * bytes) limit then appendK h sz bytes x n new K else False
  | .copy sz d s => ev vs ls d fun d => ev vs ls s fun s => copyK h sz d s K
  | .mkiface t x => ev vs ls x fun x => K (.iface t x) h
  | .assert t ok z x => ev vs ls x fun x => match x with
    | .niliface => bif ok then K (.tuple [z, .bool false]) h else False
    | .iface u v => bif Nat.beq t u then K (bif ok then .tuple [v, .bool true] else v) h else (bif ok then K (.tuple [z, .bool false]) h else False)
    | _ => False
  | .mkfn f a b => evs vs ls a fun a => evs vs ls b fun b => K (.func f a b) h
  | .nilm name tbl x => ev vs ls x fun x => match x with
    | .func (.method n) [.iface t _] _ => bif (decide (n = name) && seenIn t tbl) then K x h else False
    | _ => False
  | .clearS sz z x => ev vs ls x fun x => match x with
    | .nilslice => K .junk h
    | .slice id off len _ z' => bif Nat.beq z' sz then (match h.get id with
      | some (.row cs) => repK z len fun new => putK cs off new fun cs => h.setK id (.row cs) fun h => K .junk h
      | _ => False) else False
    | _ => False
  | .range x => ev vs ls x fun x => match x with
    | .nilmap => h.newK (.iter none 0 [] 0) fun id h => K (.iter id) h
    | .map m => match h.get m with
      | some (.map _ c) => h.newK (.iter (some m) c [] c) fun id h => K (.iter id) h
      | _ => False
    | _ => False
  | .next x => ev vs ls x fun x => nextK h x K
  | .entry x => ev vs ls x fun x => entryK h x fun v => K v h
  | .call f args => ev vs ls f fun f => evs vs ls args fun args => C f args h K
  | .invoke tbl x args => ev vs ls x fun x => evs vs ls args fun args => match x with
    | .iface t v => tblK tbl t fun f => C (.func (.func f) [] []) (v :: args) h K
    | _ => False
  | .defer _ _ => False

inductive DS where
  | call (f : AVal) (args : List AVal)
  | mark (id : Nat)

/-- Where a value goes. -/
def landK (d : Dst) (v : AVal) (vs ls : List AVal) (ds : List DS) (h : Heap) (K : List AVal → List AVal → List DS → Heap → Prop) : Prop :=
  match d with
  | .loc => K vs (v :: ls) ds h
  | .var i => setK vs i v fun vs => K vs ls ds h
  | .drop => K vs ls ds h
def doK (C : CallK) (o : ROp) (d : Dst) (vs ls : List AVal) (ds : List DS) (h : Heap) (K : List AVal → List AVal → List DS → Heap → Prop) : Prop :=
  match o with
  | .defer f args => ev vs ls f fun f => evs vs ls args fun args => match f with
    | .func fn a b => landK d .junk vs ls (.call (.func fn a b) args :: ds) h K
    | _ => False
  | o => opK C vs ls h o fun v h => landK d v vs ls ds h K
def stepK (C : CallK) (e : EOp) (vs ls : List AVal) (ds : List DS) (h : Heap) (K : List AVal → List AVal → List DS → Heap → Prop) : Prop :=
  match e.guard with
  | none => doK C e.op e.dst vs ls ds h K
  | some (x, b) => ev vs ls x fun c => guardK c b (fun _ => doK C e.op e.dst vs ls ds h K) (fun _ => landK e.dst (.tuple []) vs ls ds h K)

def opsK (C : CallK) : List EOp → List AVal → List AVal → List DS → Heap → (List AVal → List AVal → List DS → Heap → Prop) → Prop
  | [], vs, ls, ds, h, K => K vs ls ds h
  | e :: l, vs, ls, ds, h, K => stepK C e vs ls ds h fun vs ls ds h => opsK C l vs ls ds h K

/-- Asked again, each gives what it gave. -/
def againK (C : CallK) (vs ls : List AVal) (h : Heap) : List (Nat × ROp × Opd × Option (Opd × Bool)) → (Unit → Prop) → Prop
  | [], K => K ()
  | (_, o, x, g) :: l, K =>
    match g with
    | none => ev vs ls x fun v => opK C vs ls h o fun w _ => bif eqV v w then againK C vs ls h l K else False
    | some (y, b) => ev vs ls y fun c => guardK c b
        (fun _ => ev vs ls x fun v => opK C vs ls h o fun w _ => bif eqV v w then againK C vs ls h l K else False)
        (fun _ => againK C vs ls h l K)

def phasesK (C : CallK) : List Phase → List AVal → List AVal → List DS → Heap → (List AVal → List AVal → List DS → Heap → Prop) → Prop
  | [], vs, ls, ds, h, K => K vs ls ds h
  | p :: l, vs, ls, ds, h, K => stepK C p.w vs ls ds h fun vs ls ds h => againK C vs ls h p.re fun _ => opsK C p.seg vs ls ds h fun vs ls ds h => phasesK C l vs ls ds h K

abbrev KK := EExit → List AVal → List DS → Heap → Prop

def loopN (body : List AVal → List DS → Heap → KK → Prop) : Nat → List AVal → List DS → Heap → KK → Prop
  | 0, _, _, _, _ => False
  | n + 1, vs, ds, h, K => body vs ds h fun e vs ds h => match e with
    | .normal => loopN body n vs ds h K
    | e => K e vs ds h

structure Round where
  vs : List AVal
  ds : List DS
  h : Heap

/-- How loops end: by a bound on the rounds, or by a relation and a measure. -/
def loopS (body : List AVal → List DS → Heap → KK → Prop) (vs : List AVal) (ds : List DS) (h : Heap) (K : KK) : Prop :=
  ∃ (I : Round → Prop) (μ : Round → Nat), I ⟨vs, ds, h⟩ ∧ ∀ r, I r → body r.vs r.ds r.h fun e vs ds h => match e with
    | .normal => I ⟨vs, ds, h⟩ ∧ μ ⟨vs, ds, h⟩ < μ r
    | e => K e vs ds h

def exec (fuel : Option Nat) (C : CallK) : ECode → List AVal → List DS → Heap → KK → Prop
  | .skip, vs, ds, h, K => K .normal vs ds h
  | .region ops, vs, ds, h, K => opsK C ops vs [] ds h fun vs _ ds h => K .normal vs ds h
  | .dregion seg ph, vs, ds, h, K => opsK C seg vs [] ds h fun vs ls ds h => phasesK C ph vs ls ds h fun vs _ ds h => K .normal vs ds h
  | .seq a b, vs, ds, h, K => exec fuel C a vs ds h fun e vs ds h => match e with
    | .normal => exec fuel C b vs ds h K
    | e => K e vs ds h
  | .cond x a b, vs, ds, h, K => ev vs [] x fun c => boolK c fun c => bif c then exec fuel C a vs ds h K else exec fuel C b vs ds h K
  | .block id b, vs, ds, h, K => exec fuel C b vs ds h fun e vs ds h => match e with
    | .exit i => bif Nat.beq i id then K .normal vs ds h else K (.exit i) vs ds h
    | e => K e vs ds h
  | .loop b, vs, ds, h, K => match fuel with
    | some n => loopN (exec fuel C b) n vs ds h K
    | none => loopS (exec fuel C b) vs ds h K
  | .exit id, vs, ds, h, K => K (.exit id) vs ds h
  | .ret, vs, ds, h, K => K .ret vs ds h
  | .scope b, vs, ds, h, K => exec fuel C b vs ds h K
  | .rangeFunc f ps a b, vs, ds, h, K => ev vs [] f fun f => h.newK (.dfr true) fun m h => h.newK (.loop ps vs a b .ready none) fun id h => C f [.yield id] h fun _ h =>
    match h.get id with
    | some (.loop ps vs' a b st pending) => match st with
      | .busy => False
      | _ => h.setK id (.loop ps vs' a b .exhausted pending) fun h => match pending with
        | none => K .normal vs (.mark m :: ds) h
        | some e => K e vs (.mark m :: ds) h
    | _ => False

inductive ERes where
  | var (i : Nat)
  | cell (i : Nat) (n : Option Nat)

structure EFunc where
  vm : List Nat                -- the persistent slots' places in the model's frame
  init : List (Option Nat)     -- the persistent slots at the start: an argument, or nothing
  body : ECode
  res : List ERes

def initK (args : List AVal) : List (Option Nat) → (List AVal → Prop) → Prop
  | [], K => K []
  | none :: l, K => initK args l fun r => K (.junk :: r)
  | some i :: l, K => getK args i fun v => initK args l fun r => K (v :: r)
def resK (vs : List AVal) (h : Heap) : List ERes → (List AVal → Prop) → Prop
  | [], K => K []
  | .var i :: l, K => getK vs i fun v => resK vs h l fun r => K (v :: r)
  | .cell i none :: l, K => getK vs i fun x => rowK h x fun cs off => nthK cs off fun v => resK vs h l fun r => K (v :: r)
  | .cell i (some n) :: l, K => getK vs i fun x => rowK h x fun cs off => cutK cs off n fun cs => resK vs h l fun r => K (.agg cs :: r)
def defersK (C : CallK) : List DS → Heap → (Heap → Prop) → Prop
  | [], h, K => K h
  | .mark m :: ds, h, K => match h.get m with
    | some (.dfr true) => h.setK m (.dfr false) fun h => defersK C ds h K
    | _ => False
  | .call f args :: ds, h, K => C f args h fun _ h => defersK C ds h K

def paramsK : List Nat → List AVal → List AVal → (List AVal → Prop) → Prop
  | [], [], vs, K => K vs
  | i :: ps, v :: args, vs, K => setK vs i v fun vs => paramsK ps args vs K
  | _, _, _, _ => False

def enterK (fuel : Option Nat) (C : CallK) (F : EFunc) (args : List AVal) (h : Heap) (K : AVal → Heap → Prop) : Prop :=
  initK args F.init fun vs => exec fuel C F.body vs [] h fun e vs ds h =>
    match e with
    | .exit _ => False
    | _ => defersK C ds h fun h => resK vs h F.res fun l => match l with
      | [v] => K v h
      | l => K (.tuple l) h

def yieldK (fuel : Option Nat) (C : CallK) (id : Nat) (args : List AVal) (h : Heap) (K : AVal → Heap → Prop) : Prop :=
  match h.get id with
  | some (.loop ps vs a b _ _) => paramsK ps args vs fun vs => exec fuel C a vs [] h fun e vs ds h => match e with
    | .normal => match ds with
      | [] => match h.get id with
        | some (.loop ps vs' a' b' .ready p) => h.setK id (.loop ps vs' a' b' .busy p) fun h => exec fuel C b vs [] h fun e _ ds h => match ds with
          | [] => match h.get id with
            | some (.loop ps vs' a' b' _ _) => match e with
              | .normal => h.setK id (.loop ps vs' a' b' .ready none) fun h => K (.bool true) h
              | e => h.setK id (.loop ps vs' a' b' .done (some e)) fun h => K (.bool false) h
            | _ => False
          | _ => False
        | _ => False
      | _ => False
    | _ => False
  | _ => False

/-- A table of functions. -/
inductive FT where
  | leaf
  | node (l : FT) (v : Option EFunc) (r : FT)
def FT.get : FT → Nat → Option EFunc
  | .leaf, _ => none
  | .node l v r, n => match n with
    | 0 => v
    | m + 1 => bif Nat.beq (Nat.mod m 2) 0 then FT.get l (Nat.div m 2) else FT.get r (Nat.div m 2)

def call (T : FuncId → Option EFunc) (S : CallK → CallK → CallK) (fuel : Nat) : Nat → CallK
  | 0 => fun _ _ _ _ => False
  | d + 1 => S (call T S fuel d) fun f args h K => match f with
    | .func (.func fid) a b => match T fid with
      | some F => catK args b fun r => catK a r fun args => enterK (some fuel) (call T S fuel d) F args h K
      | none => False
    | .yield id => yieldK (some fuel) (call T S fuel d) id args h K
    | _ => False

end Go.Zy
