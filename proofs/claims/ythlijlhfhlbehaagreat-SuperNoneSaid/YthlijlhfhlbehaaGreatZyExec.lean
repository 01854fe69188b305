/- The abstract interpreter: what each operation does, and how code runs. -/
import Derived.Test.YthlijlhfhlbehaaGreatZyBase
set_option linter.unusedSimpArgs false
set_option linter.unusedVariables false
namespace Go.Zy

/- ## Numbers -/
def kNo : IntKind → Nat
  | .i8 => 0 | .i16 => 1 | .i32 => 2 | .i64 => 3 | .u8 => 4 | .u16 => 5 | .u32 => 6 | .u64 => 7
def kEq (a b : IntKind) : Bool := Nat.beq (kNo a) (kNo b)
theorem kEq_iff (a b : IntKind) : kEq a b = true ↔ a = b := by cases a <;> cases b <;> decide
/-- How many numbers a kind has. -/
def kM : IntKind → Nat
  | .i8 | .u8 => 256 | .i16 | .u16 => 65536 | .i32 | .u32 => 4294967296 | .i64 | .u64 => 18446744073709551616
/-- The first number above those that are not below nought. -/
def kH : IntKind → Nat
  | .i8 => 128 | .u8 => 256 | .i16 => 32768 | .u16 => 65536 | .i32 => 2147483648 | .u32 => 4294967296 | .i64 => 9223372036854775808 | .u64 => 18446744073709551616
def ltN (a b : Nat) : Bool := Nat.ble (Nat.succ a) b
def wrapR (k : IntKind) (r : Nat) : Int := bif ltN r (kH k) then .ofNat r else .negSucc (Nat.sub (Nat.sub (kM k) 1) r)
def wrapF (k : IntKind) : Int → Int
  | .ofNat m => bif ltN m (kH k) then .ofNat m else wrapR k (Nat.mod m (kM k))
  | .negSucc m => bif (k.signed && ltN m (kH k)) then .negSucc m else wrapR k (Nat.sub (Nat.sub (kM k) 1) (Nat.mod m (kM k)))
theorem ltN_eq (a b : Nat) : ltN a b = decide (a < b) := by
  unfold ltN; rw [Bool.eq_iff_iff]; simp [Nat.ble_eq, Nat.succ_le_iff]
theorem wrap_def (k : IntKind) (n : Int) : k.wrap n = if k.signed = true ∧ (kH k : Int) ≤ n % (kM k : Int) then n % (kM k : Int) - (kM k : Int) else n % (kM k : Int) := by
  cases k <;> simp [IntKind.wrap, IntKind.bits, IntKind.signed, kM, kH]
theorem kMH (k : IntKind) : (k.signed = true ∧ kM k = 2 * kH k ∧ 0 < kH k) ∨ (k.signed = false ∧ kM k = kH k ∧ 0 < kH k) := by cases k <;> simp [IntKind.signed, kM, kH]
theorem wrapR_eq (k : IntKind) (r : Nat) (h : r < kM k) : wrapR k r = if k.signed = true ∧ kH k ≤ r then (r : Int) - kM k else r := by
  have hd : ∀ a b, Nat.sub a b = a - b := fun _ _ => rfl
  unfold wrapR
  rw [ltN_eq, Bool.cond_decide, hd, hd]
  rcases kMH k with ⟨h1, h2, h3⟩ | ⟨h1, h2, h3⟩
  · by_cases hr : r < kH k
    · rw [if_pos hr, if_neg (by omega)]; rfl
    · rw [if_neg hr, if_pos ⟨h1, by omega⟩, Int.negSucc_eq]; omega
  · rw [if_pos (by omega), if_neg (by simp [h1])]; rfl
theorem wrapF_eq (k : IntKind) (n : Int) : wrapF k n = k.wrap n := by
  have hd : ∀ a b, Nat.sub a b = a - b := fun _ _ => rfl
  have hm : ∀ a b, Nat.mod a b = a % b := fun _ _ => rfl
  have hk := kMH k
  have hpos : 0 < kM k := by rcases hk with ⟨_, h2, h3⟩ | ⟨_, h2, h3⟩ <;> omega
  rw [wrap_def]
  cases n with
  | ofNat m =>
    simp only [wrapF]
    rw [ltN_eq, Bool.cond_decide, hm, wrapR_eq k _ (Nat.mod_lt _ hpos)]
    have e : (Int.ofNat m % (kM k : Int)) = ((m % kM k : Nat) : Int) := by rw [Int.ofNat_eq_natCast]; norm_cast
    rw [e]
    by_cases hr : m < kH k
    · have e2 : m % kM k = m := Nat.mod_eq_of_lt (by omega)
      rw [if_pos hr, e2, if_neg (by omega)]; rfl
    · rw [if_neg hr]; norm_cast
  | negSucc m =>
    simp only [wrapF]
    rw [ltN_eq, hm, hd, hd]
    have hlt := Nat.mod_lt m hpos
    have e : (Int.negSucc m % (kM k : Int)) = ((kM k - 1 - m % kM k : Nat) : Int) := by
      rw [Int.negSucc_emod _ (by omega)]; omega
    rw [wrapR_eq k _ (by omega), e]
    have hr' : m % kM k < kM k := hlt
    rcases hk with ⟨h1, h2, h3⟩ | ⟨h1, h2, h3⟩
    · rw [h1]
      simp only [Bool.true_and, Bool.cond_decide, true_and]
      by_cases hr : m < kH k
      · have e2 : m % kM k = m := Nat.mod_eq_of_lt (by omega)
        rw [if_pos hr, e2, if_pos (by omega), Int.negSucc_eq]
        omega
      · rw [if_neg hr]; norm_cast
    · rw [h1]; simp

def eqI : Int → Int → Bool
  | .ofNat a, .ofNat b | .negSucc a, .negSucc b => Nat.beq a b
  | _, _ => false
theorem eqI_eq (a b : Int) : eqI a b = (a == b) := by
  rw [Bool.eq_iff_iff, beq_iff_eq]
  cases a <;> cases b <;> simp [eqI] <;> omega
def ltI : Int → Int → Bool
  | .ofNat a, .ofNat b => ltN a b
  | .negSucc a, .negSucc b => ltN b a
  | .negSucc _, .ofNat _ => true
  | .ofNat _, .negSucc _ => false
theorem ltI_eq (a b : Int) : ltI a b = decide (a < b) := by
  cases a <;> cases b <;> simp only [ltI, ltN_eq] <;> simp <;> omega
def leI (a b : Int) : Bool := !(ltI b a)
theorem leI_eq (a b : Int) : leI a b = decide (a ≤ b) := by
  unfold leI; rw [ltI_eq, Bool.eq_iff_iff]; simp

def bitN (op : BinOp) (x y : Nat) : Nat :=
  match op with
  | .and => Nat.land x y
  | .or => Nat.lor x y
  | .xor => Nat.xor x y
  | _ => Nat.xor x (Nat.land x y)
def bitSlow (op : BinOp) (k : IntKind) (x y : Int) : Int :=
  let a := BitVec.ofInt k.bits x
  let b := BitVec.ofInt k.bits y
  match op with
  | .and => k.wrap (a &&& b).toNat
  | .or => k.wrap (a ||| b).toNat
  | .xor => k.wrap (a ^^^ b).toNat
  | _ => k.wrap (a &&& ~~~b).toNat
def bitF (op : BinOp) (k : IntKind) : Int → Int → Int
  | .ofNat x, .ofNat y => bif (ltN x (kH k) && ltN y (kH k)) then .ofNat (bitN op x y) else bitSlow op k (.ofNat x) (.ofNat y)
  | x, y => bitSlow op k x y

theorem wrap_small (k : IntKind) (r : Nat) (h : r < kH k) : k.wrap (r : Int) = r := by
  rw [← wrapF_eq]; simp only [wrapF]; rw [show ((r : Int)) = Int.ofNat r from rfl]; simp [wrapF, ltN_eq, h]
theorem kH_pow (k : IntKind) : ∃ n, kH k = 2 ^ n ∧ n ≤ k.bits := by
  cases k
  · exact ⟨7, rfl, by decide⟩
  · exact ⟨15, rfl, by decide⟩
  · exact ⟨31, rfl, by decide⟩
  · exact ⟨63, rfl, by decide⟩
  · exact ⟨8, rfl, by decide⟩
  · exact ⟨16, rfl, by decide⟩
  · exact ⟨32, rfl, by decide⟩
  · exact ⟨64, rfl, by decide⟩
theorem bitF_eq (op : BinOp) (k : IntKind) (x y : Int) : bitF op k x y = bitSlow op k x y := by
  cases x with
  | negSucc x => rfl
  | ofNat x =>
    cases y with
    | negSucc y => rfl
    | ofNat y =>
      simp only [bitF]
      cases hc : (ltN x (kH k) && ltN y (kH k)) with
      | false => rfl
      | true =>
        simp only [Bool.and_eq_true, ltN_eq, decide_eq_true_eq] at hc
        obtain ⟨hx, hy⟩ := hc
        obtain ⟨n, hn, hb⟩ := kH_pow k
        have hp : 2 ^ n ≤ 2 ^ k.bits := Nat.pow_le_pow_right (by decide) hb
        have hx' : x < 2 ^ k.bits := by omega
        have hy' : y < 2 ^ k.bits := by omega
        have ex : (BitVec.ofInt k.bits (Int.ofNat x)).toNat = x := by
          rw [BitVec.toNat_ofInt, Int.ofNat_eq_natCast]; norm_cast; rw [Nat.mod_eq_of_lt hx']; exact Int.toNat_natCast x
        have ey : (BitVec.ofInt k.bits (Int.ofNat y)).toNat = y := by
          rw [BitVec.toNat_ofInt, Int.ofNat_eq_natCast]; norm_cast; rw [Nat.mod_eq_of_lt hy']; exact Int.toNat_natCast y
        have hx2 : x < 2 ^ n := by omega
        have hy2 : y < 2 ^ n := by omega
        have key : ∀ r : Nat, r < 2 ^ n → k.wrap (r : Int) = Int.ofNat r := fun r hr => wrap_small k r (by omega)
        simp only [cond_true]
        have hand : Nat.land x y < 2 ^ n := Nat.and_lt_two_pow x hy2
        have hnot : (BitVec.ofInt k.bits (Int.ofNat x) &&& ~~~BitVec.ofInt k.bits (Int.ofNat y)).toNat = Nat.xor x (Nat.land x y) := by
          rw [BitVec.toNat_and, BitVec.toNat_not, ex, ey]
          apply Nat.eq_of_testBit_eq
          intro i
          show Nat.testBit (x &&& (2 ^ k.bits - 1 - y)) i = Nat.testBit (x ^^^ (x &&& y)) i
          rw [Nat.testBit_and, Nat.testBit_xor, Nat.testBit_and, show 2 ^ k.bits - 1 - y = 2 ^ k.bits - (y + 1) by omega, Nat.testBit_two_pow_sub_succ hy']
          by_cases hi : i < k.bits
          · simp [hi]; cases Nat.testBit x i <;> cases Nat.testBit y i <;> rfl
          · have : Nat.testBit x i = false := Nat.testBit_lt_two_pow (Nat.lt_of_lt_of_le hx' (Nat.pow_le_pow_right (by decide) (by omega)))
            simp [this]
        cases op <;> simp only [bitSlow, bitN] <;> first
          | (rw [BitVec.toNat_and, ex, ey]; exact (key _ hand).symm)
          | (rw [BitVec.toNat_or, ex, ey]; exact (key _ (Nat.or_lt_two_pow hx2 hy2)).symm)
          | (rw [BitVec.toNat_xor, ex, ey]; exact (key _ (Nat.xor_lt_two_pow hx2 hy2)).symm)
          | (rw [hnot]; exact (key _ (Nat.xor_lt_two_pow hx2 hand)).symm)

def shlF (k : IntKind) (x : Int) (n : Nat) : Int :=
  match x with
  | .ofNat m => wrapF k (.ofNat (Nat.shiftLeft m n))
  | x => k.wrap (x * 2 ^ n)
def shrF (x : Int) (n : Nat) : Int :=
  match x with
  | .ofNat m => .ofNat (Nat.shiftRight m n)
  | x => x.fdiv (2 ^ n)
theorem shlF_eq (k : IntKind) (x : Int) (n : Nat) : shlF k x n = k.wrap (x * 2 ^ n) := by
  cases x with
  | negSucc m => rfl
  | ofNat m =>
    simp only [shlF, wrapF_eq]
    congr 1
    have : Nat.shiftLeft m n = m * 2 ^ n := Nat.shiftLeft_eq m n
    rw [this]; norm_cast
theorem shrF_eq (x : Int) (n : Nat) : shrF x n = x.fdiv (2 ^ n) := by
  cases x with
  | negSucc m => rfl
  | ofNat m =>
    simp only [shrF]
    have : Nat.shiftRight m n = m / 2 ^ n := Nat.shiftRight_eq_div_pow m n
    rw [this]
    have h2 : ((2 : Int) ^ n) = ((2 ^ n : Nat) : Int) := by norm_cast
    rw [h2, Int.fdiv_eq_ediv_of_nonneg _ (Int.natCast_nonneg _)]
    rfl

def kBits : IntKind → Nat
  | .i8 | .u8 => 8 | .i16 | .u16 => 16 | .i32 | .u32 => 32 | .i64 | .u64 => 64
def minN (a b : Nat) : Nat := bif Nat.ble a b then a else b

end Go.Zy
