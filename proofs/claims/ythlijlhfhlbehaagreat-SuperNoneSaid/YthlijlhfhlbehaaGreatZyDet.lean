/- Quiet operations come to one value; operations depend on their operands alone. -/
import Derived.Test.YthlijlhfhlbehaaGreatZyStep
set_option linter.unusedSimpArgs false
set_option linter.unusedVariables false
namespace Go.Zy

def Det1 {α : Type} (F : (α → Prop) → Prop) : Prop := ∀ K, F K → ∃ a, K a ∧ ∀ K', K' a → F K'
def Det2 (h : Heap) (F : (AVal → Heap → Prop) → Prop) : Prop := ∀ K, F K → ∃ v, K v h ∧ ∀ K', K' v h → F K'
def Det3 (h : Heap) (F : (AVal → Heap → Prop) → Prop) : Prop := ∀ K, F K → ∃ v obj, K v (h.new obj) ∧ ∀ K', K' v (h.new obj) → F K'
theorem Det1.ret {α : Type} (a : α) : Det1 fun K => K a := fun _ H => ⟨a, H, fun _ h => h⟩
theorem Det1.no {α : Type} : Det1 fun (_ : α → Prop) => False := fun _ H => H.elim
theorem Det1.bind {α β : Type} {F : (α → Prop) → Prop} {G : α → (β → Prop) → Prop} (hf : Det1 F) (hg : ∀ a, Det1 (G a)) : Det1 fun K => F fun a => G a K := by
  intro K H
  obtain ⟨a, h1, h2⟩ := hf _ H
  obtain ⟨b, h3, h4⟩ := hg a _ h1
  exact ⟨b, h3, fun K' hk => h2 _ (h4 _ hk)⟩
theorem Det1.cond {α : Type} {c : Bool} {F G : (α → Prop) → Prop} (hf : Det1 F) (hg : Det1 G) : Det1 fun K => bif c then F K else G K := by cases c <;> assumption
theorem Det2.ret {h : Heap} (v : AVal) : Det2 h fun K => K v h := fun _ H => ⟨v, H, fun _ h => h⟩
theorem Det2.no {h : Heap} : Det2 h fun _ => False := fun _ H => H.elim
theorem Det2.bind {α : Type} {h : Heap} {F : (α → Prop) → Prop} {G : α → (AVal → Heap → Prop) → Prop} (hf : Det1 F) (hg : ∀ a, Det2 h (G a)) : Det2 h fun K => F fun a => G a K := by
  intro K H
  obtain ⟨a, h1, h2⟩ := hf _ H
  obtain ⟨b, h3, h4⟩ := hg a _ h1
  exact ⟨b, h3, fun K' hk => h2 _ (h4 _ hk)⟩
theorem Det2.cond {h : Heap} {c : Bool} {F G : (AVal → Heap → Prop) → Prop} (hf : Det2 h F) (hg : Det2 h G) : Det2 h fun K => bif c then F K else G K := by cases c <;> assumption
theorem Det2.pure {h : Heap} {F : (AVal → Prop) → Prop} (hf : Det1 F) : Det2 h fun K => F fun v => K v h := Det2.bind hf fun v => Det2.ret v
theorem Det3.no {h : Heap} : Det3 h fun _ => False := fun _ H => H.elim
theorem Det3.ret {h : Heap} (obj : AObj) (v : AVal) : Det3 h fun K => K v (h.new obj) := fun _ H => ⟨v, obj, H, fun _ h => h⟩
theorem Det3.bind {α : Type} {h : Heap} {F : (α → Prop) → Prop} {G : α → (AVal → Heap → Prop) → Prop} (hf : Det1 F) (hg : ∀ a, Det3 h (G a)) : Det3 h fun K => F fun a => G a K := by
  intro K H
  obtain ⟨a, h1, h2⟩ := hf _ H
  obtain ⟨b, o, h3, h4⟩ := hg a _ h1
  exact ⟨b, o, h3, fun K' hk => h2 _ (h4 _ hk)⟩
theorem Det3.cond {h : Heap} {c : Bool} {F G : (AVal → Heap → Prop) → Prop} (hf : Det3 h F) (hg : Det3 h G) : Det3 h fun K => bif c then F K else G K := by cases c <;> assumption

theorem det_boolK (v : AVal) : Det1 (boolK v) := by intro K H; cases v <;> first | exact H.elim | exact ⟨_, H, fun _ h => h⟩
theorem det_fI (m : Int) : Det1 (fI m) := by intro K H; rw [fI_eq] at H; exact ⟨m, H, fun K' h => by rw [fI_eq]; exact h⟩
theorem det_fN (m : Nat) : Det1 (fN m) := by intro K H; rw [fN_eq] at H; exact ⟨m, H, fun K' h => by rw [fN_eq]; exact h⟩
theorem det_fB (m : Bool) : Det1 (fB m) := by intro K H; rw [fB_eq] at H; exact ⟨m, H, fun K' h => by rw [fB_eq]; exact h⟩
theorem det_idxK (v : AVal) : Det1 (idxK v) := by
  intro K H; cases v <;> try exact H.elim
  rename_i k n; cases n <;> first | exact H.elim | exact ⟨_, H, fun _ h => h⟩
theorem det_unK (op : UnOp) (v : AVal) : Det1 (unK op v) := by
  show Det1 fun K => unK op v K
  cases op <;> cases v <;> simp only [unK] <;> first | exact Det1.no | exact Det1.bind (det_fI _) fun _ => Det1.ret _ | exact Det1.bind (det_fB _) fun _ => Det1.ret _
theorem det_binK (op : BinOp) (a b : AVal) : Det1 (binK op a b) := by
  show Det1 fun K => binK op a b K
  cases a with
  | int k x =>
    cases b with
    | int j y =>
      cases op with
      | shl => cases y <;> simp only [binK] <;> first | exact Det1.no | exact Det1.bind (det_fI _) fun _ => Det1.ret _
      | shr => cases y <;> simp only [binK] <;> first | exact Det1.no | exact Det1.bind (det_fI _) fun _ => Det1.ret _
      | _ => simp only [binK]; first | exact Det1.cond (Det1.bind (det_fI _) fun _ => Det1.ret _) Det1.no | exact Det1.cond (Det1.bind (det_fB _) fun _ => Det1.ret _) Det1.no | exact Det1.cond (Det1.cond Det1.no (Det1.bind (det_fI _) fun _ => Det1.ret _)) Det1.no | exact Det1.cond Det1.no Det1.no
    | _ => exact Det1.no
  | str x =>
    cases b with
    | str y => cases op <;> simp only [binK] <;> first | exact Det1.no | exact Det1.bind (det_fB _) fun _ => Det1.ret _
    | _ => exact Det1.no
  | _ => exact Det1.no
theorem det_isNilK (cls : Nat) (v : AVal) : Det1 (isNilK cls v) := by
  intro K H
  match cls, H with
  | 0, H | 1, H | 2, H | 3, H | 4, H => cases v <;> first | exact H.elim | exact ⟨_, H, fun _ h => h⟩
theorem det_aggEqK : ∀ (ks : List Nat) (l m : List AVal), Det1 (aggEqK ks l m) := by
  intro ks
  induction ks with
  | nil => intro l m; cases l <;> cases m <;> first | exact Det1.no | exact Det1.ret true
  | cons k ks ih =>
    intro l m
    cases l with
    | nil => exact Det1.no
    | cons a l => cases m with
      | nil => exact Det1.no
      | cons b m =>
        show Det1 fun K => aggEqK (k :: ks) (a :: l) (b :: m) K
        simp only [aggEqK]
        refine Det1.cond ?_ Det1.no
        cases scalarEq a b with
        | none => exact Det1.no
        | some r => cases r with
          | true => exact ih l m
          | false => exact Det1.bind (ih l m) fun _ => Det1.ret _
theorem det_intK (v : AVal) (K : IntKind → Int → Prop) (H : intK v K) : ∃ k n, v = .int k n := by cases v <;> first | exact H.elim | exact ⟨_, _, rfl⟩
theorem det_takeK (l : List AVal) (n : Nat) : Det1 (takeK l n) := by intro K H; rw [takeK_iff] at H; exact ⟨_, H.2, fun K' h => by rw [takeK_iff]; exact ⟨H.1, h⟩⟩
theorem det_cutK (l : List AVal) (o n : Nat) : Det1 (cutK l o n) := by intro K H; rw [cutK_iff] at H; exact ⟨_, H.2, fun K' h => by rw [cutK_iff]; exact ⟨H.1, h⟩⟩
theorem det_putK (l : List AVal) (o : Nat) (vs : List AVal) : Det1 (putK l o vs) := by intro K H; rw [putK_iff] at H; exact ⟨_, H.2, fun K' h => by rw [putK_iff]; exact ⟨H.1, h⟩⟩
theorem det_repK (z : List AVal) (n : Nat) : Det1 (repK z n) := by intro K H; rw [repK_eq] at H; exact ⟨_, H, fun K' h => by rw [repK_eq]; exact h⟩
theorem det_bytesK : ∀ (s : List UInt8), Det1 (bytesK s) := by
  intro s
  induction s with
  | nil => exact Det1.ret []
  | cons b s ih =>
    show Det1 fun K => bytesK (b :: s) K
    simp only [bytesK]
    exact Det1.bind (det_fN _) fun n => Det1.bind ih fun r => Det1.ret _
theorem det_textK : ∀ (l : List AVal), Det1 (textK l) := by
  intro l
  induction l with
  | nil => exact Det1.ret []
  | cons a l ih =>
    cases a with
    | int k n =>
      show Det1 fun K => textK (.int k n :: l) K
      cases k <;> cases n <;> simp only [textK] <;> first | exact Det1.no | exact Det1.bind ih fun r => Det1.ret _
    | _ => exact Det1.no
theorem det_nthK : ∀ (l : List AVal) (n : Nat), Det1 (nthK l n) := by
  intro l
  induction l with
  | nil => intro n; cases n <;> exact Det1.no
  | cons a l ih => intro n; cases n with
    | zero => exact Det1.ret a
    | succ n => exact ih n
theorem det_cellsK (v : AVal) (n : Nat) : Det1 (cellsK v n) := by
  show Det1 fun K => cellsK v n K
  cases v <;> simp only [cellsK] <;> first | exact Det1.no | exact Det1.cond (Det1.ret _) Det1.no
theorem det_lenOfK (v : AVal) : Det1 (lenOfK v) := by
  show Det1 fun K => lenOfK v K
  cases v <;> simp only [lenOfK] <;> first | exact Det1.no | exact Det1.ret _ | exact Det1.bind (det_fN _) fun _ => Det1.ret _
theorem det_elemsK (h : Heap) (sz : Nat) (v : AVal) (n : Nat) : Det1 (elemsK h sz v n) := by
  show Det1 fun K => elemsK h sz v n K
  cases v <;> simp only [elemsK] <;> try exact Det1.no
  · refine Det1.cond (Det1.bind (det_bytesK _) fun r => det_takeK _ _) Det1.no
  · exact Det1.cond (Det1.ret _) Det1.no
  · rename_i id off len cap z
    refine Det1.cond ?_ Det1.no
    cases h.get id with
    | none => exact Det1.no
    | some o => cases o <;> first | exact Det1.no | exact Det1.bind (det_fN _) fun m => det_cutK _ _ _
  · exact Det1.cond (Det1.bind (det_fN _) fun m => det_cutK _ _ _) Det1.no
theorem det_row {h : Heap} {v : AVal} {G : List AVal → Nat → (AVal → Heap → Prop) → Prop} (hg : ∀ l o, Det2 h (G l o)) : Det2 h fun K => rowK h v fun cs off => G cs off K := by
  cases v <;> try exact Det2.no
  · rename_i id off
    simp only [rowK]
    cases h.get id with
    | none => exact Det2.no
    | some o => cases o <;> first | exact Det2.no | exact hg _ _
  · exact hg _ _
theorem det_subSK (s : List UInt8) (lo hi : Option AVal) : Det1 (subSK s lo hi) := by
  show Det1 fun K => subSK s lo hi K
  unfold subSK
  cases hi with
  | none =>
    refine Det1.bind (F := fun J => fN s.length J) (det_fN _) fun h => ?_
    cases lo with
    | none => exact Det1.cond (Det1.ret _) Det1.no
    | some v => exact Det1.bind (F := fun J => idxK v J) (det_idxK _) fun l => Det1.cond (Det1.ret _) Det1.no
  | some u =>
    refine Det1.bind (F := fun J => idxK u J) (det_idxK _) fun h => ?_
    cases lo with
    | none => exact Det1.cond (Det1.ret _) Det1.no
    | some v => exact Det1.bind (F := fun J => idxK v J) (det_idxK _) fun l => Det1.cond (Det1.ret _) Det1.no
/-- .. of three numbers. -/
def DetB (F : (Nat → Nat → Option Nat → Prop) → Prop) : Prop := ∀ K, F K → ∃ a b c, K a b c ∧ ∀ K', K' a b c → F K'
theorem DetB.no : DetB fun _ => False := fun _ H => H.elim
theorem DetB.ret (a b : Nat) (c : Option Nat) : DetB fun K => K a b c := fun _ H => ⟨a, b, c, H, fun _ h => h⟩
theorem DetB.bind {α : Type} {F : (α → Prop) → Prop} {G : α → (Nat → Nat → Option Nat → Prop) → Prop} (hf : Det1 F) (hg : ∀ a, DetB (G a)) : DetB fun K => F fun a => G a K := by
  intro K H
  obtain ⟨a, h1, h2⟩ := hf _ H
  obtain ⟨b, c, d, h3, h4⟩ := hg a _ h1
  exact ⟨b, c, d, h3, fun K' hk => h2 _ (h4 _ hk)⟩
theorem DetB.cond {c : Bool} {F G : (Nat → Nat → Option Nat → Prop) → Prop} (hf : DetB F) (hg : DetB G) : DetB fun K => bif c then F K else G K := by cases c <;> assumption
theorem det_boundsK (len : Nat) (cap : Option Nat) (lo hi mx : Option AVal) : DetB (boundsK len cap lo hi mx) := by
  have one : ∀ (l h : Nat), DetB fun K => bif (Nat.ble h (roomOf len cap) && Nat.ble l h) then (match cap with | some c => fN (c - l) fun c => fN (h - l) fun n => K l n (some c) | none => fN (h - l) fun n => K l n none) else False := by
    intro l h
    refine DetB.cond ?_ DetB.no
    cases cap with
    | none => exact DetB.bind (det_fN _) fun n => DetB.ret _ _ _
    | some c => exact DetB.bind (det_fN _) fun c => DetB.bind (det_fN _) fun n => DetB.ret _ _ _
  have two : ∀ (m l h : Nat), DetB fun K => bif (Nat.ble m (roomOf len cap) && Nat.ble h m && Nat.ble l h) then fN (m - l) fun c => fN (h - l) fun n => K l n (some c) else False :=
    fun m l h => DetB.cond (DetB.bind (det_fN _) fun c => DetB.bind (det_fN _) fun n => DetB.ret _ _ _) DetB.no
  show DetB fun K => boundsK len cap lo hi mx K
  unfold boundsK
  cases mx with
  | none =>
    cases hi with
    | none =>
      cases lo with
      | none => exact one _ _
      | some v => exact DetB.bind (F := fun J => idxK v J) (det_idxK _) fun l => one _ _
    | some u =>
      refine DetB.bind (F := fun J => idxK u J) (det_idxK _) fun h => ?_
      cases lo with
      | none => exact one _ _
      | some v => exact DetB.bind (F := fun J => idxK v J) (det_idxK _) fun l => one _ _
  | some mv =>
    refine DetB.bind (F := fun J => idxK mv J) (det_idxK _) fun m => ?_
    cases hi with
    | none => exact DetB.no
    | some u =>
      refine DetB.bind (F := fun J => idxK u J) (det_idxK _) fun h => ?_
      cases lo with
      | none => exact two _ _ _
      | some v => exact DetB.bind (F := fun J => idxK v J) (det_idxK _) fun l => two _ _ _
theorem Det1.bindB {α : Type} {F : (Nat → Nat → Option Nat → Prop) → Prop} {G : Nat → Nat → Option Nat → (α → Prop) → Prop} (hf : DetB F) (hg : ∀ a b c, Det1 (G a b c)) : Det1 fun K => F fun a b c => G a b c K := by
  intro K H
  obtain ⟨a, b, c, h1, h2⟩ := hf _ H
  obtain ⟨d, h3, h4⟩ := hg a b c _ h1
  exact ⟨d, h3, fun K' hk => h2 _ (h4 _ hk)⟩
theorem det_subK (sz : Nat) (v : AVal) (lo hi mx : Option AVal) : Det1 (subK sz v lo hi mx) := by
  show Det1 fun K => subK sz v lo hi mx K
  cases v <;> simp only [subK] <;> try exact Det1.no
  · exact Det1.bindB (det_boundsK _ _ _ _ _) fun _ _ _ => Det1.ret _
  · exact Det1.cond (Det1.bindB (det_boundsK _ _ _ _ _) fun _ _ _ => Det1.bind (det_fN _) fun _ => Det1.ret _) Det1.no
  · exact Det1.cond (Det1.bindB (det_boundsK _ _ _ _ _) fun _ _ _ => Det1.bind (det_fN _) fun _ => Det1.ret _) Det1.no
theorem det_subAK (h : Heap) (n sz : Nat) (v : AVal) (lo hi mx : Option AVal) : Det1 (subAK h n sz v lo hi mx) := by
  show Det1 fun K => subAK h n sz v lo hi mx K
  cases v <;> simp only [subAK] <;> try exact Det1.no
  · rename_i id off
    cases h.get id with
    | none => exact Det1.no
    | some o => cases o <;> first | exact Det1.no | exact Det1.cond (Det1.bindB (det_boundsK _ _ _ _ _) fun _ _ _ => Det1.bind (det_fN _) fun _ => Det1.ret _) Det1.no
  · exact Det1.bindB (det_boundsK _ _ _ _ _) fun _ _ _ => Det1.bind (det_fN _) fun _ => Det1.ret _
theorem det_partsK (vs ls : List AVal) : ∀ (ps : List (Nat × Nat × Opd)) (cs : List AVal), Det1 (partsK vs ls ps cs) := by
  intro ps
  induction ps with
  | nil => intro cs; exact Det1.ret cs
  | cons p ps ih =>
    obtain ⟨off, n, x⟩ := p
    intro cs
    show Det1 fun K => partsK vs ls ((off, n, x) :: ps) cs K
    simp only [partsK, ev_eq]
    exact Det1.bind (det_cellsK _ _) fun new => Det1.bind (det_putK _ _ _) fun cs => ih cs
theorem det_minK (mx : Bool) : ∀ (l : List AVal) (v : AVal), Det1 (minK mx v l) := by
  intro l
  induction l with
  | nil => intro v; exact Det1.ret v
  | cons u l ih =>
    intro v
    show Det1 fun K => minK mx v (u :: l) K
    cases v <;> cases u <;> simp only [minK] <;> first | exact Det1.no | exact Det1.cond (ih _) (ih _)
theorem det_entriesK (h : Heap) (m : AVal) : Det1 (entriesK h m) := by
  show Det1 fun K => entriesK h m K
  cases m <;> simp only [entriesK] <;> try exact Det1.no
  · exact Det1.ret []
  · rename_i id
    cases h.get id with
    | none => exact Det1.no
    | some o => cases o <;> first | exact Det1.no | exact Det1.ret _
theorem det_findK (k : AVal) : ∀ (es : List (AVal × AVal × Nat)) (i : Nat), Det1 (findK k es i) := by
  intro es
  induction es with
  | nil => intro i; exact Det1.ret none
  | cons e es ih =>
    obtain ⟨k', v, b⟩ := e
    intro i
    show Det1 fun K => findK k ((k', v, b) :: es) i K
    simp only [findK]
    cases scalarEq k k' with
    | none => exact Det1.no
    | some r => cases r with
      | true => exact Det1.ret _
      | false => exact ih _
theorem det_bornK {h : Heap} {b : Nat} {G : AVal → AVal → (AVal → Heap → Prop) → Prop} (hg : ∀ k v, Det2 h (G k v)) : ∀ (es : List (AVal × AVal × Nat)), Det2 h fun K => bornK b es fun k v => G k v K := by
  intro es
  induction es with
  | nil => exact Det2.no
  | cons e es ih =>
    obtain ⟨k, v, c⟩ := e
    exact Det2.cond (hg _ _) ih

theorem det_evs {α : Type} {vs ls : List AVal} {os : List Opd} {G : List AVal → (α → Prop) → Prop} (hg : ∀ l, Det1 (G l)) : Det1 fun K => evs vs ls os fun l => G l K := by
  simp only [evs_eq]; exact hg _

theorem det_pure {C : CallK} {vs ls : List AVal} {h : Heap} {r : ROp} (hr : r.pure = true) : Det2 h (opK C vs ls h r) := by
  show Det2 h fun K => opK C vs ls h r K
  cases r <;> try (cases hr; done)
  all_goals simp only [opK, ev_eq, evs_eq, evO_eq]
  case mv x => exact Det2.ret _
  case pick c a b => exact Det2.bind (det_boolK _) fun _ => Det2.ret _
  case un op x => exact Det2.pure (det_unK _ _)
  case bin op x y => exact Det2.pure (det_binK _ _ _)
  case eqb n x y => exact Det2.bind (det_boolK _) fun _ => Det2.bind (det_boolK _) fun _ => Det2.bind (det_fB _) fun _ => Det2.bind (det_fB _) fun _ => Det2.ret _
  case isnil c n x => exact Det2.bind (det_isNilK _ _) fun _ => Det2.bind (det_fB _) fun _ => Det2.ret _
  case eqagg n ks x y =>
    split
    · split
      · exact Det2.bind (det_aggEqK _ _ _) fun _ => Det2.bind (det_fB _) fun _ => Det2.ret _
      · exact Det2.no
    · exact Det2.no
  case conv k x =>
    intro K H
    obtain ⟨k', n, hv⟩ := det_intK _ _ H
    rw [hv] at H ⊢
    exact (Det2.bind (det_fI _) fun _ => Det2.ret _ : Det2 h fun K => fI (wrapF k n) fun r => K (.int k r) h) K H
  case fld off x => split <;> first | exact Det2.no | exact Det2.bind (det_fN _) fun _ => Det2.ret _
  case idx sz x i =>
    refine Det2.bind (det_idxK _) fun i => ?_
    split <;> first | exact Det2.no | exact Det2.cond (Det2.bind (det_fN _) fun _ => Det2.ret _) Det2.no
  case idxA n sz x i =>
    refine Det2.bind (det_idxK _) fun i => Det2.cond ?_ Det2.no
    split <;> first | exact Det2.no | exact Det2.bind (det_fN _) fun _ => Det2.ret _
  case nilchk x => split <;> first | exact Det2.no | exact Det2.ret _
  case build z ps => exact Det2.bind (det_partsK _ _ _ _) fun _ => Det2.ret _
  case ext i x =>
    split
    · exact Det2.pure (det_nthK _ _)
    · exact Det2.no
  case idxS x i =>
    refine Det2.bind (det_idxK _) fun i => ?_
    split
    · split <;> first | exact Det2.no | exact Det2.bind (det_fN _) fun _ => Det2.ret _
    · exact Det2.no
  case idxV n x i =>
    refine Det2.bind (det_idxK _) fun i => Det2.cond ?_ Det2.no
    split
    · exact Det2.pure (det_nthK _ _)
    · exact Det2.no
  case subS x lo hi =>
    split
    · exact Det2.pure (det_subSK _ _ _)
    · exact Det2.no
  case sub sz x lo hi mx => exact Det2.pure (det_subK _ _ _ _ _)
  case s2ap n x => split <;> first | exact Det2.no | exact Det2.cond (Det2.ret _) Det2.no
  case len s x => exact Det2.cond (Det2.bind (det_lenOfK _) fun _ => Det2.ret _) Det2.no
  case lenA n => exact Det2.ret _
  case cap x => split <;> first | exact Det2.no | exact Det2.ret _
  case minmax mx as =>
    split
    · exact Det2.pure (det_minK _ _ _)
    · exact Det2.no
  case mkiface t x => exact Det2.ret _
  case assert t ok z x =>
    split
    · exact Det2.cond (Det2.ret _) Det2.no
    · exact Det2.cond (Det2.ret _) (Det2.cond (Det2.ret _) Det2.no)
    · exact Det2.no
  case mkfn f a b => exact Det2.ret _
  case nilm n t x => split <;> first | exact Det2.no | exact Det2.cond (Det2.ret _) Det2.no

theorem det_reads {C : CallK} {vs ls : List AVal} {h : Heap} {r : ROp} (hr : r.reads = true) : Det2 h (opK C vs ls h r) := by
  show Det2 h fun K => opK C vs ls h r K
  cases r <;> try (cases hr; done)
  all_goals simp only [opK, ev_eq, evs_eq, evO_eq]
  case b2s x =>
    split
    · exact Det2.ret _
    · exact Det2.cond (Det2.bind (det_lenOfK _) fun _ => Det2.bind (det_elemsK _ _ _ _) fun _ => Det2.bind (det_textK _) fun _ => Det2.ret _) Det2.no
  case uptr x => exact det_row fun _ _ => Det2.bind (det_nthK _ _) fun _ => Det2.ret _
  case ld x => exact det_row fun _ _ => Det2.pure (det_nthK _ _)
  case ldn n x => exact det_row fun _ _ => Det2.bind (det_cutK _ _ _) fun _ => Det2.ret _
  case subA n sz x lo hi mx => exact Det2.pure (det_subAK _ _ _ _ _ _ _)
  case lookup ok kk z m k =>
    refine Det2.cond (Det2.bind (det_entriesK _ _) fun es => Det2.bind (det_findK _ _ _) fun r => ?_) Det2.no
    cases r with
    | none => exact Det2.ret _
    | some p => exact Det2.ret _
  case lenM x =>
    split
    · exact Det2.ret _
    · split <;> first | exact Det2.no | exact Det2.bind (det_fN _) fun _ => Det2.ret _
    · exact Det2.no
  case entry x =>
    unfold entryK
    split
    · split
      · split
        · split
          · exact Det2.cond (det_bornK (fun k v => Det2.ret (.tuple [k, v])) _) Det2.no
          · exact Det2.no
        · exact Det2.no
      · exact Det2.no
    · exact Det2.no

theorem det_makes {C : CallK} {vs ls : List AVal} {h : Heap} {r : ROp} (hr : r.makes = true) : Det3 h (opK C vs ls h r) := by
  show Det3 h fun K => opK C vs ls h r K
  cases r <;> try (cases hr; done)
  all_goals simp only [opK, ev_eq, evs_eq, evO_eq, Heap.newK_eq]
  case s2b x =>
    split
    · exact Det3.bind (det_bytesK _) fun _ => Det3.bind (det_fN _) fun _ => Det3.ret _ _
    · exact Det3.no
  case alloc z => exact Det3.ret _ _
  case box n x => exact Det3.bind (det_cellsK _ _) fun _ => Det3.ret _ _
  case buildS len sz z ps => exact Det3.bind (det_partsK _ _ _ _) fun _ => Det3.ret _ _
  case make sz by_ z l c => exact Det3.bind (det_idxK _) fun _ => Det3.bind (det_idxK _) fun _ => Det3.cond (Det3.bind (det_repK _ _) fun _ => Det3.ret _ _) Det3.no
  case mkmap => exact Det3.ret _ _

/- What an operation reads. -/
theorem partsK_congr {vs ls vs' ls' : List AVal} : ∀ (ps : List (Nat × Nat × Opd)) (cs : List AVal) (K : List AVal → Prop), (∀ y ∈ ps.map (·.2.2), opdV vs ls y = opdV vs' ls' y) → partsK vs ls ps cs K = partsK vs' ls' ps cs K := by
  intro ps
  induction ps with
  | nil => intro cs K _; rfl
  | cons p ps ih =>
    obtain ⟨off, n, x⟩ := p
    intro cs K H
    simp only [partsK, ev_eq]
    rw [H x (by simp)]
    congr 1
    funext new
    congr 1
    funext cs
    exact ih cs K fun y hy => H y (by simp at hy ⊢; exact .inr hy)
theorem map_congr {vs ls vs' ls' : List AVal} {l : List Opd} (H : ∀ y ∈ l, opdV vs ls y = opdV vs' ls' y) : l.map (opdV vs ls) = l.map (opdV vs' ls') := List.map_congr_left H
theorem omap_congr {vs ls vs' ls' : List AVal} {o : Option Opd} (H : ∀ y ∈ o.toList, opdV vs ls y = opdV vs' ls' y) : o.map (opdV vs ls) = o.map (opdV vs' ls') := by
  cases o with
  | none => rfl
  | some y => simp [H y (by simp)]
theorem opK_congr {C : CallK} {vs ls vs' ls' : List AVal} {h : Heap} {r : ROp} {K : AVal → Heap → Prop} (H : ∀ y ∈ r.opds, opdV vs ls y = opdV vs' ls' y) : opK C vs ls h r K = opK C vs' ls' h r K := by
  cases r <;> simp only [ROp.opds] at H <;> simp only [opK, ev_eq, evs_eq, evO_eq]
  case pick c a b =>
    rw [H c (by simp)]
    congr 1; funext t
    cases t
    · simp only [cond_false]; rw [H b (by simp)]
    · simp only [cond_true]; rw [H a (by simp)]
  case build z ps => rw [partsK_congr _ _ _ H]
  case buildS len sz z ps => rw [partsK_congr _ _ _ H]
  case subS x lo hi => rw [H x (by simp), omap_congr fun y hy => H y (by simp at hy ⊢; simp [hy]), omap_congr fun y hy => H y (by simp at hy ⊢; simp [hy])]
  case sub sz x lo hi mx =>
    rw [H x (by simp), omap_congr (o := lo) fun y hy => H y (by simp at hy ⊢; simp [hy]), omap_congr (o := hi) fun y hy => H y (by simp at hy ⊢; simp [hy]), omap_congr (o := mx) fun y hy => H y (by simp at hy ⊢; simp [hy])]
  case subA n sz x lo hi mx =>
    rw [H x (by simp), omap_congr (o := lo) fun y hy => H y (by simp at hy ⊢; simp [hy]), omap_congr (o := hi) fun y hy => H y (by simp at hy ⊢; simp [hy]), omap_congr (o := mx) fun y hy => H y (by simp at hy ⊢; simp [hy])]
  case minmax mx as => rw [map_congr H]
  case mkfn f a b => rw [map_congr fun y hy => H y (List.mem_append_left _ hy), map_congr fun y hy => H y (List.mem_append_right _ hy)]
  case call f args => rw [H f (by simp), map_congr fun y hy => H y (by simp [hy])]
  case invoke t x args => rw [H x (by simp), map_congr fun y hy => H y (by simp [hy])]
  all_goals try rfl
  all_goals first
    | (rename_i x; rw [H x (by simp)]; done)
    | (rename_i x y; rw [H x (by simp), H y (by simp)]; done)
    | (rename_i x y z; rw [H x (by simp), H y (by simp), H z (by simp)]; done)
end Go.Zy
