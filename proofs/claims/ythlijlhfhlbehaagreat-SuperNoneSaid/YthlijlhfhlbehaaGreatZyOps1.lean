/- Operations that only reckon: what the abstract run says of them is what the model does. -/
import Derived.Test.YthlijlhfhlbehaaGreatZyRel
import Derived.Test.YthlijlhfhlbehaaGreatZyChk
set_option linter.unusedSimpArgs false
set_option linter.unusedVariables false
namespace Go.Zy

def opdV (vs ls : List AVal) : Opd → AVal
  | .var i => vs.getD i .junk
  | .loc i => ls.getD i .junk
  | .cst v => v
theorem ev_eq (vs ls : List AVal) (o : Opd) (K : AVal → Prop) : ev vs ls o K = K (opdV vs ls o) := by
  cases o <;> simp [ev, opdV, getK_eq]
theorem evs_eq (vs ls : List AVal) (os : List Opd) : ∀ (K : List AVal → Prop), evs vs ls os K = K (os.map (opdV vs ls)) := by
  induction os with
  | nil => intro K; rfl
  | cons o os ih => intro K; simp [evs, ev_eq, ih]
theorem evO_eq (vs ls : List AVal) (o : Option Opd) (K : Option AVal → Prop) : evO vs ls o K = K (o.map (opdV vs ls)) := by
  cases o <;> simp [evO, ev_eq]

/-- The operands of an operation, related. -/
def Env (ρ : Nm) (σ : Im) (vm lm : List Nat) (vs ls : List AVal) (a : Operand → Value) : Prop :=
  ∀ x y, opdOk vm lm x y = true → VRel ρ σ (opdV vs ls y) (a x)
theorem Env.mono {ρ ρ' : Nm} {σ : Im} (hs : Sub ρ ρ') {vm lm : List Nat} {vs ls : List AVal} {a : Operand → Value} (h : Env ρ σ vm lm vs ls a) : Env ρ' σ vm lm vs ls a :=
  fun x y e => (h x y e).mono hs
theorem Env.list {ρ : Nm} {σ : Im} {vm lm : List Nat} {vs ls : List AVal} {a : Operand → Value} (h : Env ρ σ vm lm vs ls a) :
    ∀ (xs : List Operand) (ys : List Opd), opdsOk vm lm xs ys = true → LRel ρ σ (ys.map (opdV vs ls)) (xs.map a) := by
  intro xs
  induction xs with
  | nil => intro ys e; cases ys with
    | nil => exact .nil
    | cons => simp [opdsOk] at e
  | cons x xs ih => intro ys e; cases ys with
    | nil => simp [opdsOk] at e
    | cons y ys => simp [opdsOk] at e; exact .cons (h _ _ e.1) (ih _ e.2)

theorem litOk_rel {ρ : Nm} {σ : Im} {x : Value} {v : AVal} (h : litOk x v = true) : VRel ρ σ v x := by
  unfold litOk at h
  split at h <;> simp at h
  · subst h; exact .bool _
  · obtain ⟨rfl, rfl⟩ := h; exact .int _ _
  · rename_i s l
    subst h
    have : s = ⟨⟨s.data.toList⟩⟩ := rfl
    exact this ▸ .str _
  · exact .nilptr
  · exact .nilslice
  · exact .nilmap
  · exact .nilfunc
  · exact .niliface
theorem litsOk_rel {ρ : Nm} {σ : Im} : ∀ {xs : List Value} {l : List AVal}, litsOk xs l = true → LRel ρ σ l xs := by
  intro xs
  induction xs with
  | nil => intro l h; cases l with
    | nil => exact .nil
    | cons => simp [litsOk] at h
  | cons x xs ih => intro l h; cases l with
    | nil => simp [litsOk] at h
    | cons v l => simp [litsOk] at h; exact .cons (litOk_rel h.1) (ih h.2)
theorem litOk_one {x : Value} {v : AVal} (h : litOk x v = true) : v.cellOk = true := by
  unfold litOk at h; split at h <;> first | rfl | (simp at h)
theorem litsOk_one : ∀ {xs : List Value} {l : List AVal}, litsOk xs l = true → allOk l = true := by
  intro xs
  induction xs with
  | nil => intro l h; cases l with
    | nil => rfl
    | cons => simp [litsOk] at h
  | cons x xs ih => intro l h; cases l with
    | nil => simp [litsOk] at h
    | cons v l => simp [litsOk] at h; simp [allOk, litOk_one h.1, ih h.2]

/-- What an operation that reckons comes to. -/
def Pures (P : Program) (ρ : Nm) (σ : Im) (a : Operand → Value) (op : Op) (v : AVal) : Prop :=
  ∃ x, VRel ρ σ v x ∧ ∀ o : Oper, o.op = op → ∀ w, (execOp a o).run P w = .ok (.value x) w

section
variable {P : Program} {ρ : Nm} {σ : Im} {vm lm : List Nat} {vs ls : List AVal} {a : Operand → Value} {C : CallK} {h : Heap} {K : AVal → Heap → Prop}

theorem run_value {s : Sem Value} {x : Value} {w : World} (hs : s.run P w = .ok x w) : (do pure (Next.value (← s)) : Sem Next).run P w = .ok (.value x) w := by
  simp [hs]

theorem pure_mv {x : Operand} {y : Opd} (he : Env ρ σ vm lm vs ls a) (hc : opdOk vm lm x y = true) (H : opK C vs ls h (.mv y) K) : ∃ v, K v h ∧ Pures P ρ σ a (.move x) v ∧ Pures P ρ σ a (.assign x) v := by
  simp only [opK, ev_eq] at H
  refine ⟨_, H, ⟨_, he _ _ hc, ?_⟩, ⟨_, he _ _ hc, ?_⟩⟩ <;> (intro o ho w; simp [execOp, ho])

theorem pure_pick {c x y : Operand} {c' x' y' : Opd} (he : Env ρ σ vm lm vs ls a) (h1 : opdOk vm lm c c' = true) (h2 : opdOk vm lm x x' = true) (h3 : opdOk vm lm y y' = true)
    (H : opK C vs ls h (.pick c' x' y') K) : ∃ v, K v h ∧ Pures P ρ σ a (.pick c x y) v := by
  simp only [opK, ev_eq] at H
  have hr := he _ _ h1
  generalize opdV vs ls c' = cv at H hr
  cases cv <;> simp only [boolK] at H <;> try exact H.elim
  rename_i b
  have hx : a c = .bool b := by first | exact hr.bool_inv | exact hr.int_inv | exact hr.str_inv
  cases b
  · simp only [cond_false] at H
    refine ⟨_, H, _, he _ _ h3, ?_⟩
    intro o ho w; simp [execOp, ho, hx, asBool]
  · simp only [cond_true] at H
    refine ⟨_, H, _, he _ _ h2, ?_⟩
    intro o ho w; simp [execOp, ho, hx, asBool]

theorem bitSlow_and (k : IntKind) (x y : Int) : (Op.intBits .and k x y) = (Pure.pure (.int k (bitSlow .and k x y)) : Sem Value) := rfl

theorem kM_max (k : IntKind) : k.signed = false → k.max = .ofNat (Nat.sub (kM k) 1) := by
  cases k <;> simp [IntKind.signed, IntKind.max, IntKind.bits, kM] <;> decide

theorem pure_un {op : UnOp} {t : TypeId} {x : Operand} {y : Opd} (he : Env ρ σ vm lm vs ls a) (hc : opdOk vm lm x y = true) (H : opK C vs ls h (.un op y) K) :
    ∃ v, K v h ∧ Pures P ρ σ a (.unOp op t x) v := by
  simp only [opK, ev_eq] at H
  have hr := he _ _ hc
  generalize opdV vs ls y = v at H hr
  cases op <;> simp only [unK] at H <;> try exact H.elim
  · cases v <;> simp only [fI_eq] at H <;> try exact H.elim
    rename_i k n
    have hx : a x = .int k n := by first | exact hr.bool_inv | exact hr.int_inv | exact hr.str_inv
    refine ⟨_, H, _, .int _ _, ?_⟩
    intro o ho w
    have : Int.sub 0 n = - n := by show 0 - n = - n; omega
    simp [execOp, ho, hx, Op.unary, Op.intArith, wrapF_eq, this]
  · cases v <;> simp only [fI_eq] at H <;> try exact H.elim
    rename_i k n
    have hx : a x = .int k n := by first | exact hr.bool_inv | exact hr.int_inv | exact hr.str_inv
    refine ⟨_, H, _, .int _ _, ?_⟩
    intro o ho w
    have hm : (bif k.signed then (Int.negSucc 0) else .ofNat (Nat.sub (kM k) 1)) = (if k.signed = true then -1 else k.max) := by
      cases hs : k.signed
      · simp [kM_max k hs]
      · simp
    rw [hm, bitF_eq]
    simp [execOp, ho, hx, Op.unary, Op.intBits, bitSlow]
  · cases v <;> simp only [fB_eq] at H <;> try exact H.elim
    rename_i b
    have hx : a x = .bool b := by first | exact hr.bool_inv | exact hr.int_inv | exact hr.str_inv
    refine ⟨_, H, _, .bool _, ?_⟩
    intro o ho w
    simp [execOp, ho, hx, Op.unary]

theorem kBits_eq (k : IntKind) : kBits k = k.bits := by cases k <;> rfl
theorem minN_eq (a b : Nat) : minN a b = min a b := by
  unfold minN; cases h : Nat.ble a b
  · have : ¬ a ≤ b := by intro e; rw [Nat.ble_eq_true_of_le e] at h; cases h
    simp; omega
  · have := Nat.le_of_ble_eq_true h; simp; omega

theorem data_toList (l : List UInt8) : (ByteArray.toList ⟨⟨l⟩⟩) = l := by
  have key : ∀ (n : Nat) (r : List UInt8) (i : Nat), l.length - i = n → ByteArray.toList.loop ⟨⟨l⟩⟩ i r = r.reverse ++ l.drop i := by
    intro n
    induction n with
    | zero => intro r i hi
              unfold ByteArray.toList.loop
              have hs : ByteArray.size ⟨⟨l⟩⟩ = l.length := rfl
              rw [if_neg (by rw [hs]; omega)]
              simp [List.drop_eq_nil_of_le (by omega : l.length ≤ i)]
    | succ n ih => intro r i hi
                   unfold ByteArray.toList.loop
                   have hs : ByteArray.size ⟨⟨l⟩⟩ = l.length := rfl
                   rw [if_pos (by rw [hs]; omega), ih _ _ (by omega)]
                   have hlt : i < l.length := by omega
                   have hg : ByteArray.get! ⟨⟨l⟩⟩ i = l[i] := by simp [ByteArray.get!, hlt]
                   rw [hg, List.drop_eq_getElem_cons hlt]
                   simp
  have := key (l.length - 0) [] 0 rfl
  simpa [ByteArray.toList] using this

theorem pure_bin {op : BinOp} {t u : TypeId} {x y : Operand} {x' y' : Opd} (he : Env ρ σ vm lm vs ls a) (h1 : opdOk vm lm x x' = true) (h2 : opdOk vm lm y y' = true)
    (H : opK C vs ls h (.bin op x' y') K) : ∃ v, K v h ∧ Pures P ρ σ a (.binOp op t x y u) v := by
  simp only [opK, ev_eq] at H
  have hr := he _ _ h1
  have hs := he _ _ h2
  generalize opdV vs ls x' = v1 at H hr
  generalize opdV vs ls y' = v2 at H hs
  cases v1 <;> simp only [binK] at H <;> try exact H.elim
  · rename_i k m
    cases v2 <;> simp only at H <;> try exact H.elim
    rename_i j n
    have hx : a x = .int k m := by first | exact hr.bool_inv | exact hr.int_inv | exact hr.str_inv
    have hy : a y = .int j n := by first | exact hs.bool_inv | exact hs.int_inv | exact hs.str_inv
    have hg : ∀ w, (eqGuard op t x y (.int k m) (.int j n)).run P w = .ok () w := by
      intro w; unfold eqGuard; simp only [Sem.run_bind]; split <;> simp
    cases op
    case shl =>
      cases n <;> simp only [fI_eq] at H <;> try exact H.elim
      rename_i n
      refine ⟨_, H, _, .int _ _, ?_⟩
      intro o ho w
      simp only [execOp, ho, hx, hy, Sem.run_bind, hg, Result.andThen_ok, binOp, Op.shift]
      rw [if_neg (by simp), minN_eq, kBits_eq]
      simp [shlF_eq]
    case shr =>
      cases n <;> simp only [fI_eq] at H <;> try exact H.elim
      rename_i n
      refine ⟨_, H, _, .int _ _, ?_⟩
      intro o ho w
      simp only [execOp, ho, hx, hy, Sem.run_bind, hg, Result.andThen_ok, binOp, Op.shift]
      rw [if_neg (by simp), minN_eq, kBits_eq]
      simp [shrF_eq]
    all_goals
      simp only at H
      cases hk : kEq k j <;> simp only [hk, cond_false, cond_true] at H
      obtain rfl := (kEq_iff k j).1 hk
    case quo.true =>
      cases he0 : eqI n (.ofNat 0) <;> simp only [he0, cond_true, cond_false, fI_eq] at H
      · have hn : n ≠ 0 := by rw [eqI_eq] at he0; simpa using he0
        refine ⟨_, H, _, .int _ _, ?_⟩
        intro o ho w
        simp [execOp, ho, hx, hy, hg, binOp, Op.intDiv, hn, wrapF_eq]
    case rem.true =>
      cases he0 : eqI n (.ofNat 0) <;> simp only [he0, cond_true, cond_false, fI_eq] at H
      · have hn : n ≠ 0 := by rw [eqI_eq] at he0; simpa using he0
        refine ⟨_, H, _, .int _ _, ?_⟩
        intro o ho w
        simp [execOp, ho, hx, hy, hg, binOp, Op.intDiv, hn]
    case add.true => exact ⟨_, by rw [fI_eq] at H; exact H, _, .int _ _, fun o ho w => by
      have : Int.add m n = m + n := rfl
      simp [execOp, ho, hx, hy, hg, binOp, Op.intArith, wrapF_eq, this]⟩
    case sub.true => exact ⟨_, by rw [fI_eq] at H; exact H, _, .int _ _, fun o ho w => by
      have : Int.sub m n = m - n := rfl
      simp [execOp, ho, hx, hy, hg, binOp, Op.intArith, wrapF_eq, this]⟩
    case mul.true => exact ⟨_, by rw [fI_eq] at H; exact H, _, .int _ _, fun o ho w => by
      have : Int.mul m n = m * n := rfl
      simp [execOp, ho, hx, hy, hg, binOp, Op.intArith, wrapF_eq, this]⟩
    case and.true | or.true | xor.true | andNot.true => exact ⟨_, by rw [fI_eq] at H; exact H, _, .int _ _, fun o ho w => by
      rw [bitF_eq]; simp [execOp, ho, hx, hy, hg, binOp, Op.intBits, bitSlow]⟩
    case eql.true | neq.true | lss.true | leq.true | gtr.true | geq.true => exact ⟨_, by rw [fB_eq] at H; exact H, _, .bool _, fun o ho w => by
      simp [execOp, ho, hx, hy, hg, binOp, Op.intCmp, eqI_eq, ltI_eq, leI_eq]
      try (rw [Bool.eq_iff_iff]; simp)⟩
  · rename_i s
    cases v2 <;> simp only at H <;> try exact H.elim
    rename_i r
    have hx : a x = .string ⟨⟨s⟩⟩ := by first | exact hr.bool_inv | exact hr.int_inv | exact hr.str_inv
    have hy : a y = .string ⟨⟨r⟩⟩ := by first | exact hs.bool_inv | exact hs.int_inv | exact hs.str_inv
    have hg : ∀ w, (eqGuard op t x y (.string ⟨⟨s⟩⟩) (.string ⟨⟨r⟩⟩)).run P w = .ok () w := by
      intro w; unfold eqGuard; simp only [Sem.run_bind]; split <;> simp
    have hq : (s == r) = decide (s = r) := by rw [Bool.eq_iff_iff]; simp
    cases op <;> simp only [fB_eq] at H <;> try exact H.elim
    all_goals exact ⟨_, H, _, .bool _, fun o ho w => by
      simp [execOp, ho, hx, hy, hg, binOp, Op.stringOp, data_toList, hq]⟩

end
end Go.Zy
