/- Is an abstract code the model's own? Regions, and code. -/
import Derived.Test.YthlijlhfhlbehaaGreatZyChk
set_option linter.unusedSimpArgs false
set_option linter.unusedVariables false
namespace Go.Zy

/-- Where an operation's value goes: the local slots behind it. -/
def dstOk (nt : Nat) (vm lm : List Nat) (d : Option Tmp) (e : Dst) : Option (List Nat) :=
  match d, e with
  | some t, .loc => bif (decide (t < nt) && !vm.contains t && !lm.contains t) then some (t :: lm) else none
  | some t, .var i => bif (decide (vm[i]? = some t) && decide (t < nt)) then some lm else none
  | none, .drop => some lm
  | _, _ => none
def guardOk (ops : Array Oper) (vm lm : List Nat) (g : Option (Nat × Bool)) (e : Option (Opd × Bool)) : Bool :=
  match g, e with
  | none, none => true
  | some (j, b), some (x, b') => decide (b = b') && (match (ops[j]?).bind (·.dst) with | some t => opdOk vm lm (.tmp t) x | none => false)
  | _, _ => false
/-- One operation: the local slots behind it. -/
def operOk (P : Program) (nt : Nat) (ops : Array Oper) (vm lm : List Nat) (o : Oper) (e : EOp) : Option (List Nat) :=
  bif (guardOk ops vm lm o.guard e.guard && opOk P vm lm o.op o.type e.op) then dstOk nt vm lm o.dst e.dst else none
def seqOk (P : Program) (nt : Nat) (ops : Array Oper) (vm : List Nat) : List Nat → List Oper → List EOp → Bool
  | _, [], [] => true
  | lm, o :: os, e :: es => match operOk P nt ops vm lm o e with | some lm => seqOk P nt ops vm lm os es | none => false
  | _, _, _ => false

/- A drawn region. -/
def bit (i : Nat) : Nat := Nat.shiftLeft 1 i
def hasBit (m i : Nat) : Bool := Nat.beq (Nat.land (Nat.shiftRight m i) 1) 1
/-- What must be carried out ahead of each operation, by the edges that bind, as numbers' bits. -/
def aheadOf (done : List Nat) (l : List Edge) : Nat :=
  match l with
  | [] => 0
  | e :: l => bif Region.binds .any e then Nat.lor (Nat.lor (bit e.on) (done.getD e.on 0)) (aheadOf done l) else aheadOf done l
def aheads : List Oper → List Nat → List Nat
  | [], done => done
  | o :: os, done => aheads os (done ++ [aheadOf done o.after.toList])
def edgesDown : List Oper → Nat → Bool
  | [], _ => true
  | o :: os, i => o.after.toList.all (fun e => !Region.binds .any e || decide (e.on < i)) && edgesDown os (i + 1)
def aheadsOk (ah : List Nat) : List Oper → Nat → Bool
  | [], _ => true
  | o :: os, i => Nat.beq (aheadOf ah o.after.toList) (ah.getD i 0) && aheadsOk ah os (i + 1)
/-- An operation of a drawn region: its number, the slots it reads, the one it writes, does it write memory, does it read memory, does it make memory. -/
structure Rec where
  ix : Nat
  rd : List Nat
  dst : Option Nat
  w : Bool
  r : Bool
  m : Bool
def slotOf (vm lm : List Nat) : Opd → List Nat
  | .var i => match vm[i]? with | some t => [t] | none => []
  | .loc i => match lm[i]? with | some t => [t] | none => []
  | .cst _ => []
def knownOpd (vm lm : List Nat) : Opd → Bool
  | .var i => (vm[i]?).isSome
  | .loc i => (lm[i]?).isSome
  | .cst _ => true
def opdsOf (r : ROp) (g : Option (Opd × Bool)) : List Opd := match g with | some (x, _) => x :: r.opds | none => r.opds
def recOf (P : Program) (nt : Nat) (ops : Array Oper) (vm lm : List Nat) (e : EOp) : Option (Rec × List Nat) :=
  match ops[e.ix]? with
  | some o => match operOk P nt ops vm lm o e with
    | some lm' => bif (opdsOf e.op e.guard).all (knownOpd vm lm) then some (⟨e.ix, (opdsOf e.op e.guard).flatMap (slotOf vm lm), o.dst, !e.op.quiet, e.op.reads, e.op.makes⟩, lm') else none
    | none => none
  | none => none
/-- The operations in the order in which the abstract run takes them: what is tested of each, and what it is. -/
def recs (P : Program) (nt : Nat) (ops : Array Oper) (vm : List Nat) : List Nat → List EOp → Option (List Rec × List Nat)
  | lm, [] => some ([], lm)
  | lm, e :: es => match recOf P nt ops vm lm e with
    | some (c, lm') => match recs P nt ops vm lm' es with
      | some (l, lm'') => some (c :: l, lm'')
      | none => none
    | none => none
def pairOk (ah : List Nat) (c d : Rec) : Bool :=
  let b := hasBit (ah.getD d.ix 0) c.ix
  !Nat.beq c.ix d.ix && !hasBit (ah.getD c.ix 0) d.ix &&
  (match c.dst with | some t => (match d.dst with | some u => !Nat.beq t u | none => true) && (!d.rd.contains t || b) | none => true) &&
  (match d.dst with | some u => !c.rd.contains u || b | none => true) &&
  (!c.w || b)
def pairsOk (ah : List Nat) : List Rec → Bool
  | [] => true
  | c :: cs => cs.all (pairOk ah c) && !hasBit (ah.getD c.ix 0) c.ix && pairsOk ah cs
/-- Is all that writes a slot ahead of an operation? -/
def writersIn (ah : List Nat) (i t : Nat) : List Oper → Nat → Bool
  | [], _ => true
  | q :: l, j => (!decide (q.dst = some t) || hasBit (ah.getD i 0) j) && writersIn ah i t l (j + 1)
/-- What reads memory and isn't ahead of a writing operation is asked again behind it. -/
def againOk1 (ah : List Nat) (ops : Array Oper) (vm lm : List Nat) (P : Program) (c : Rec) : List (Nat × ROp × Opd × Option (Opd × Bool)) → Bool
  | [] => false
  | (i, r, x, g) :: re => bif Nat.beq i c.ix then r.reads && (match ops[i]? with
      | some o => opOk P vm lm o.op o.type r && guardOk ops vm lm o.guard g && (match o.dst with | some t => opdOk vm lm (.tmp t) x | none => false) && (opdsOf r g).all (knownOpd vm lm) &&
          ((opdsOf r g).flatMap (slotOf vm lm)).all (fun t => writersIn ah c.ix t ops.toList 0)
      | none => false) else againOk1 ah ops vm lm P c re
def againOk (ah : List Nat) (ops : Array Oper) (vm lm : List Nat) (P : Program) (before : List Rec) (d : Rec) (re : List (Nat × ROp × Opd × Option (Opd × Bool))) : Bool :=
  re.all (fun x => x.2.1.reads) && before.all fun c => !c.r || hasBit (ah.getD d.ix 0) c.ix || againOk1 ah ops vm lm P c re
def phasesOk (ah : List Nat) (P : Program) (nt : Nat) (ops : Array Oper) (vm : List Nat) : List Rec → List Nat → List Phase → Option (List Rec)
  | before, _, [] => some before
  | before, lm, p :: ps => match recOf P nt ops vm lm p.w with
    | some (d, lm) => bif (d.w && againOk ah ops vm lm P before d p.re) then (match recs P nt ops vm lm p.seg with
      | some (l, lm) => bif l.all (fun c => !c.w) then phasesOk ah P nt ops vm (before ++ d :: l) lm ps else none
      | none => none) else none
    | none => none
def allIn (cs : List Rec) : Nat → Bool
  | 0 => true
  | n + 1 => cs.any (fun c => Nat.beq c.ix n) && allIn cs n
def dregionOk (P : Program) (nt : Nat) (ops : Array Oper) (vm : List Nat) (seg : List EOp) (ph : List Phase) : Bool :=
  let ah := aheads ops.toList []
  P.follows .mixedOrders && edgesDown ops.toList 0 && aheadsOk ah ops.toList 0 &&
  (match recs P nt ops vm [] seg with
   | some (l, lm) => l.all (fun c => !c.w) && (match phasesOk ah P nt ops vm l lm ph with
     | some cs => pairsOk ah cs && allIn cs ops.size
     | none => false)
   | none => false)

def ROp.isDefer : ROp → Bool
  | .defer _ _ => true
  | _ => false
/-- Does a code hold no deferred call, and no loop over a function? -/
def ECode.plain : ECode → Bool
  | .region ops => ops.all fun e => !e.op.isDefer
  | .dregion seg ph => (seg.all fun e => !e.op.isDefer) && ph.all fun p => !p.w.op.isDefer && p.seg.all fun e => !e.op.isDefer
  | .seq a b | .cond _ a b => a.plain && b.plain
  | .block _ b | .loop b | .scope b => b.plain
  | .rangeFunc .. => false
  | _ => true
def exitOk : Code → EExit → Bool
  | .exit i, .exit j => decide (i = j)
  | .ret, .ret => true
  | _, _ => false
def codeOk (P : Program) (nt : Nat) (vm : List Nat) : Code → ECode → Bool
  | .skip, .skip => true
  | .label _, .skip => true
  | .region _ ops draw, .region es => !draw && seqOk P nt ops vm [] ops.toList es
  | .region _ ops draw, .dregion seg ph => draw && dregionOk P nt ops vm seg ph
  | .seq a b, .seq a' b' => codeOk P nt vm a a' && codeOk P nt vm b b'
  | .cond c a b, .cond x a' b' => opdOk vm [] c x && codeOk P nt vm a a' && codeOk P nt vm b b'
  | .block i b, .block j b' => decide (i = j) && codeOk P nt vm b b'
  | .loop b, .loop b' => codeOk P nt vm b b'
  | .exit i, .exit j => decide (i = j)
  | .ret, .ret => true
  | .scope b, .scope b' => codeOk P nt vm b b'
  | .rangeFunc f ps a b, .rangeFunc g qs a' b' => opdOk vm [] f g && decide (ps.toList.map some = qs.map (fun i => vm[i]?)) && ps.toList.all (fun t => decide (t < nt)) && codeOk P nt vm a a' && codeOk P nt vm b b' && a'.plain && b'.plain
  | _, _ => false
def resOk (P : Program) (vm : List Nat) : List ResultVar → List ERes → Bool
  | [], [] => true
  | .tmp t :: l, .var i :: m => decide (vm[i]? = some t) && resOk P vm l m
  | .cell a t :: l, .cell i none :: m => decide (vm[i]? = some a) && aggIs P t false && resOk P vm l m
  | .cell a t :: l, .cell i (some n) :: m => decide (vm[i]? = some a) && aggIs P t true && sizeIs P t n && resOk P vm l m
  | _, _ => false
/-- The persistent slots at the start: a parameter lies in the slot of its number. -/
def initOk (np : Nat) : List Nat → List (Option Nat) → Bool
  | [], [] => true
  | t :: vm, none :: l => decide (np ≤ t) && initOk np vm l
  | t :: vm, some i :: l => decide (t = i) && decide (i < np) && initOk np vm l
  | _, _ => false
def distinctN : List Nat → Bool
  | [] => true
  | a :: l => !l.contains a && distinctN l
def funcOk (P : Program) (f : FuncId) (vm : List Nat) (F : EFunc) : Bool :=
  match P.funcs[f]? with
  | some fn => (match fn.body with | some c => codeOk P fn.ntmps vm c F.body | none => false) && resOk P vm fn.results.toList F.res && initOk (fn.params.size + fn.nfree) vm F.init &&
      distinctN vm && vm.all (fun t => decide (t < fn.ntmps)) && decide (fn.params.size + fn.nfree ≤ fn.ntmps) && decide (fn.name ≠ "runtime.NumGoroutine")
  | none => false

end Go.Zy
