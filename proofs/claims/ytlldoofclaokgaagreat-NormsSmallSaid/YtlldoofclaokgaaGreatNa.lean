/- Varints, the sum of bytes, frames: plain. -/
import Derived.Test.YtlldoofclaokgaaGreatInts
namespace Go.Proofs.YtlldoofclaokgaaGreat

/-- a number's bytes, seven bits each, the least ahead -/
def vint (n : Nat) : List Int := if n < 128 then [(n : Int)] else ((n % 128 + 128 : Nat) : Int) :: vint (n / 128)
termination_by n
decreasing_by omega
theorem vint_lt {n : Nat} (h : n < 128) : vint n = [(n : Int)] := by rw [vint, if_pos h]
theorem vint_ge {n : Nat} (h : ¬ n < 128) : vint n = ((n % 128 + 128 : Nat) : Int) :: vint (n / 128) := by rw [vint, if_neg h]
theorem vint_byte (n : Nat) : ∀ x ∈ vint n, 0 ≤ x ∧ x < 256 := by
  induction n using Nat.strongRecOn with
  | _ n ih =>
    by_cases h : n < 128
    · rw [vint_lt h]; intro x hx; simp at hx; omega
    · rw [vint_ge h]; intro x hx
      rcases List.mem_cons.1 hx with rfl | hx
      · omega
      · exact ih (n / 128) (by omega) x hx
theorem vint_length (n : Nat) : ∀ k, n < 128 ^ k → 1 ≤ k → (vint n).length ≤ k := by
  induction n using Nat.strongRecOn with
  | _ n ih =>
    intro k hk h1
    by_cases h : n < 128
    · rw [vint_lt h]; simpa using h1
    · rw [vint_ge h]
      match k, h1 with
      | 1, _ => omega
      | k + 2, _ =>
        have := ih (n / 128) (by omega) (k + 1) (by rw [Nat.pow_succ] at hk; omega) (by omega)
        simp only [List.length_cons]; omega
theorem vint_pos (n : Nat) : 1 ≤ (vint n).length := by
  by_cases h : n < 128
  · rw [vint_lt h]; simp
  · rw [vint_ge h]; simp

/-! ### The sum -/
def crcHalf (n : Nat) : Nat := if n % 2 = 1 then (n / 2) ^^^ 2197175160 else n / 2
def crcHalves : Nat → Nat → Nat
  | 0, n => n
  | k + 1, n => crcHalf (crcHalves k n)
theorem xor_mod2 (a b : Nat) : (a ^^^ b) % 2 = (a % 2 + b % 2) % 2 := by
  have h : (a ^^^ b) % 2 = (a % 2) ^^^ (b % 2) := by
    have := Nat.xor_mod_two_pow (a := a) (b := b) (n := 1)
    simpa using this
  rw [h]
  rcases Nat.mod_two_eq_zero_or_one a with ha | ha <;> rcases Nat.mod_two_eq_zero_or_one b with hb | hb <;> simp [ha, hb]
theorem xor_div2 (a b : Nat) : (a ^^^ b) / 2 = a / 2 ^^^ b / 2 := by
  apply Nat.eq_of_testBit_eq
  intro i
  simp [Nat.testBit_xor, ← Nat.testBit_succ]
theorem crcHalf_xor (a b : Nat) : crcHalf (a ^^^ b) = crcHalf a ^^^ crcHalf b := by
  unfold crcHalf
  rw [xor_mod2, xor_div2]
  rcases Nat.mod_two_eq_zero_or_one a with ha | ha <;> rcases Nat.mod_two_eq_zero_or_one b with hb | hb <;> simp only [ha, hb] <;> simp
  · rw [Nat.xor_assoc]
  · rw [Nat.xor_assoc, Nat.xor_assoc, Nat.xor_comm 2197175160]
  · rw [Nat.xor_assoc, ← Nat.xor_assoc 2197175160, Nat.xor_comm 2197175160 (b / 2), Nat.xor_assoc, Nat.xor_self, Nat.xor_zero]
theorem crcHalves_xor (k a b : Nat) : crcHalves k (a ^^^ b) = crcHalves k a ^^^ crcHalves k b := by
  induction k with
  | zero => rfl
  | succ k ih => rw [crcHalves, ih, crcHalf_xor]; rfl
theorem crcHalves_shift (k : Nat) : ∀ m, crcHalves k (m * 2 ^ k) = m := by
  induction k with
  | zero => intro m; simp [crcHalves]
  | succ k ih =>
    intro m
    rw [crcHalves, show m * 2 ^ (k + 1) = (m * 2) * 2 ^ k by rw [Nat.pow_succ, Nat.mul_comm (2 ^ k), ← Nat.mul_assoc], ih]
    unfold crcHalf; rw [if_neg (by omega)]; omega
theorem crcHalf_lt {n : Nat} (h : n < 2 ^ 32) : crcHalf n < 2 ^ 32 := by
  unfold crcHalf
  split
  · exact Nat.xor_lt_two_pow (by omega) (by decide)
  · omega
theorem crcHalves_lt {n : Nat} (h : n < 2 ^ 32) (k : Nat) : crcHalves k n < 2 ^ 32 := by
  induction k with
  | zero => exact h
  | succ k ih => exact crcHalf_lt ih
/-- the table's number -/
def crcT (i : Nat) : Nat := crcHalves 8 i
/-- the sum with a byte more -/
def crcTurn (c x : Nat) : Nat := crcHalves 8 (c ^^^ x)
theorem split8 (c : Nat) : c = (c % 256) ^^^ (c / 256 * 2 ^ 8) := by
  apply Nat.eq_of_testBit_eq
  intro i
  rw [Nat.testBit_xor, show (256 : Nat) = 2 ^ 8 from rfl, Nat.testBit_mod_two_pow, ← Nat.shiftLeft_eq, Nat.testBit_shiftLeft, Nat.testBit_div_two_pow]
  by_cases h : i < 8
  · simp [h, Nat.not_le.2 h]
  · simp [h, Nat.not_lt.1 h, Nat.sub_add_cancel (Nat.not_lt.1 h)]
theorem crcTurn_table (c x : Nat) : crcTurn c x = crcT ((c % 256) ^^^ x) ^^^ (c / 256) := by
  unfold crcTurn crcT
  have h : c ^^^ x = ((c % 256) ^^^ x) ^^^ (c / 256 * 2 ^ 8) := by
    conv => lhs; rw [split8 c]
    rw [Nat.xor_assoc, Nat.xor_assoc, Nat.xor_comm x]
  rw [h, crcHalves_xor, crcHalves_shift]
theorem crcTurn_lt {c x : Nat} (hc : c < 2 ^ 32) (hx : x < 256) : crcTurn c x < 2 ^ 32 :=
  crcHalves_lt (Nat.xor_lt_two_pow hc (by omega)) 8
def crcFold (b : List Int) (c : Nat) : Nat := b.foldl (fun c x => crcTurn c x.toNat) c
theorem crcFold_snoc (b : List Int) (x : Int) (c : Nat) : crcFold (b ++ [x]) c = crcTurn (crcFold b c) x.toNat := by simp [crcFold]
theorem crcFold_lt (b : List Int) (hb : ∀ x ∈ b, 0 ≤ x ∧ x < 256) : ∀ c, c < 2 ^ 32 → crcFold b c < 2 ^ 32 := by
  induction b with
  | nil => intro c h; exact h
  | cons x b ih =>
    intro c h
    have := hb x (List.mem_cons_self ..)
    exact ih (fun y hy => hb y (List.mem_cons_of_mem _ hy)) _ (crcTurn_lt h (by omega))
def crcSum (b : List Int) : Nat := crcFold b 4294967295 ^^^ 4294967295
theorem crcSum_lt (b : List Int) (hb : ∀ x ∈ b, 0 ≤ x ∧ x < 256) : crcSum b < 2 ^ 32 := Nat.xor_lt_two_pow (crcFold_lt b hb _ (by decide)) (by decide)
def crcMask (s : Nat) : Nat := (s / 32768 + s * 131072 + 2726488792) % 4294967296
def four (m : Nat) : List Int := [((m % 256 : Nat) : Int), ((m / 256 % 256 : Nat) : Int), ((m / 65536 % 256 : Nat) : Int), ((m / 16777216 % 256 : Nat) : Int)]
def frameOf (b : List Int) : List Int := vint b.length ++ four (crcMask (crcSum b)) ++ b
theorem four_byte (m : Nat) : ∀ x ∈ four m, 0 ≤ x ∧ x < 256 := by
  intro x hx; simp only [four, List.mem_cons, List.not_mem_nil, or_false] at hx; omega
theorem frameOf_byte (b : List Int) (hb : ∀ x ∈ b, 0 ≤ x ∧ x < 256) : ∀ x ∈ frameOf b, 0 ≤ x ∧ x < 256 := by
  intro x hx
  simp only [frameOf, List.mem_append] at hx
  rcases hx with (hx | hx) | hx
  · exact vint_byte _ x hx
  · exact four_byte _ x hx
  · exact hb x hx
theorem or128_all : ∀ a : Fin 256, (a : Nat) ||| 128 = (a : Nat) % 128 + 128 := by decide +kernel
theorem or128_mod (m : Nat) : bits .or .u8 ((m : Int) % 256) 128 = ((m % 128 + 128 : Nat) : Int) := by
  rw [show ((m : Int) % 256) = ((m % 256 : Nat) : Int) by omega, show (128 : Int) = ((128 : Nat) : Int) from rfl, (bits_nat .u8 8 (by decide) wraps_u8 (m % 256) 128 (by omega) (by decide)).2]
  have := or128_all ⟨m % 256, by omega⟩
  simp only at this
  rw [this]; omega
theorem u32_nat {a : Nat} (ha : a < 4294967296) : (BitVec.ofInt 32 (a : Int)).toNat = a := by
  rw [BitVec.ofInt_natCast, BitVec.toNat_ofNat]; exact Nat.mod_eq_of_lt (by omega)
theorem wrap_u32_nat {a : Nat} (ha : a < 4294967296) : IntKind.u32.wrap (a : Int) = a := by rw [IntKind.wrap_u32]; omega
theorem xor_u32 (a b : Nat) (ha : a < 4294967296) (hb : b < 4294967296) : bits .xor .u32 (a : Int) (b : Int) = ((a ^^^ b : Nat) : Int) := by
  show IntKind.u32.wrap ((BitVec.ofInt 32 (a : Int) ^^^ BitVec.ofInt 32 (b : Int)).toNat : Int) = _
  rw [BitVec.toNat_xor, u32_nat ha, u32_nat hb]
  exact wrap_u32_nat (Nat.xor_lt_two_pow (n := 32) (by omega) (by omega))
theorem or_u32 (a b : Nat) (ha : a < 4294967296) (hb : b < 4294967296) : bits .or .u32 (a : Int) (b : Int) = ((a ||| b : Nat) : Int) := by
  show IntKind.u32.wrap ((BitVec.ofInt 32 (a : Int) ||| BitVec.ofInt 32 (b : Int)).toNat : Int) = _
  rw [BitVec.toNat_or, u32_nat ha, u32_nat hb]
  exact wrap_u32_nat (Nat.or_lt_two_pow (n := 32) (by omega) (by omega))
theorem and1_u32 (a : Nat) (ha : a < 4294967296) : bits .and .u32 (a : Int) 1 = ((a % 2 : Nat) : Int) := by
  show IntKind.u32.wrap ((BitVec.ofInt 32 (a : Int) &&& BitVec.ofInt 32 ((1 : Nat) : Int)).toNat : Int) = _
  rw [BitVec.toNat_and, u32_nat ha, u32_nat (by decide), Nat.and_one_is_mod]
  exact wrap_u32_nat (by omega)
theorem xor_u8 (a b : Nat) (ha : a < 256) (hb : b < 256) : bits .xor .u8 (a : Int) (b : Int) = ((a ^^^ b : Nat) : Int) := by
  have h1 : ∀ {a : Nat}, a < 256 → (BitVec.ofInt 8 (a : Int)).toNat = a := fun h => by
    rw [BitVec.ofInt_natCast, BitVec.toNat_ofNat]; exact Nat.mod_eq_of_lt (by omega)
  show IntKind.u8.wrap ((BitVec.ofInt 8 (a : Int) ^^^ BitVec.ofInt 8 (b : Int)).toNat : Int) = _
  rw [BitVec.toNat_xor, h1 ha, h1 hb, IntKind.wrap_u8]
  have := Nat.xor_lt_two_pow (x := a) (y := b) (n := 8) (by omega) (by omega)
  omega
theorem mask_val : (0xA282EAD8 : Nat) = 2726488792 ∧ (0x82F63B78 : Nat) = 2197175160 := by decide
end Go.Proofs.YtlldoofclaokgaaGreat
