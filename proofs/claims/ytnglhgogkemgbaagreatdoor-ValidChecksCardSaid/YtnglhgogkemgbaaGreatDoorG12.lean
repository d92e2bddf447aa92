/- Varints, the sum of bytes, frames: plain. codec.Uint and the reference's: a number's bytes. sync.Once's Do with a method's value, not yet done: walked. The table of sums: made once; walked. The sum of bytes: slices.Values ranged over, Extend, Sum. -/
import Derived.Test.YtnglhgogkemgbaaGreatDoorG01
import Derived.Tactics
import Derived.Tactics2
import Derived.Defers
import Derived.Laws.Pointers
import Derived.Laws.LoneSync
import Derived.RegionTactic
import Derived.RegionCalls
import Derived.Laws.NewBlocks
import Derived.OwnWalkIn
import Derived.TacticsInMore
import Derived.LoopNIn
import Derived.LoopIn
import Derived.Shelf.Abstract
/-! Varints, the sum of bytes, frames: plain. -/
namespace Go.Proofs.YtnglhgogkemgbaaGreatDoor

/-- a number's bytes, seven bits each, the least ahead -/
def vint (n : Nat) : List Int := if n < 128 then [(n : Int)] else ((n % 128 + 128 : Nat) : Int) :: vint (n / 128)
termination_by n
decreasing_by omega
theorem vint_lt {n : Nat} (h : n < 128) : vint n = [(n : Int)] := by rw [vint, if_pos h]
theorem vint_ge {n : Nat} (h : ¬ n < 128) : vint n = ((n % 128 + 128 : Nat) : Int) :: vint (n / 128) := by rw [vint, if_neg h]
theorem vint_byte (n : Nat) : ∀ x ∈ vint n, 0 ≤ x ∧ x < 256 := by
  induction n using Nat.strongRecOn with
  | _ n ih =>
    by_cases h : n < 128
    · rw [vint_lt h]; intro x hx; simp at hx; omega
    · rw [vint_ge h]; intro x hx
      rcases List.mem_cons.1 hx with rfl | hx
      · omega
      · exact ih (n / 128) (by omega) x hx
theorem vint_length (n : Nat) : ∀ k, n < 128 ^ k → 1 ≤ k → (vint n).length ≤ k := by
  induction n using Nat.strongRecOn with
  | _ n ih =>
    intro k hk h1
    by_cases h : n < 128
    · rw [vint_lt h]; simpa using h1
    · rw [vint_ge h]
      match k, h1 with
      | 1, _ => omega
      | k + 2, _ =>
        have := ih (n / 128) (by omega) (k + 1) (by rw [Nat.pow_succ] at hk; omega) (by omega)
        simp only [List.length_cons]; omega
theorem vint_pos (n : Nat) : 1 ≤ (vint n).length := by
  by_cases h : n < 128
  · rw [vint_lt h]; simp
  · rw [vint_ge h]; simp

/-! ### The sum -/
def crcHalf (n : Nat) : Nat := if n % 2 = 1 then (n / 2) ^^^ 2197175160 else n / 2
def crcHalves : Nat → Nat → Nat
  | 0, n => n
  | k + 1, n => crcHalf (crcHalves k n)
theorem xor_mod2 (a b : Nat) : (a ^^^ b) % 2 = (a % 2 + b % 2) % 2 := by
  have h : (a ^^^ b) % 2 = (a % 2) ^^^ (b % 2) := by
    have := Nat.xor_mod_two_pow (a := a) (b := b) (n := 1)
    simpa using this
  rw [h]
  rcases Nat.mod_two_eq_zero_or_one a with ha | ha <;> rcases Nat.mod_two_eq_zero_or_one b with hb | hb <;> simp [ha, hb]
theorem xor_div2 (a b : Nat) : (a ^^^ b) / 2 = a / 2 ^^^ b / 2 := by
  apply Nat.eq_of_testBit_eq
  intro i
  simp [Nat.testBit_xor, ← Nat.testBit_succ]
theorem crcHalf_xor (a b : Nat) : crcHalf (a ^^^ b) = crcHalf a ^^^ crcHalf b := by
  unfold crcHalf
  rw [xor_mod2, xor_div2]
  rcases Nat.mod_two_eq_zero_or_one a with ha | ha <;> rcases Nat.mod_two_eq_zero_or_one b with hb | hb <;> simp only [ha, hb] <;> simp
  · rw [Nat.xor_assoc]
  · rw [Nat.xor_assoc, Nat.xor_assoc, Nat.xor_comm 2197175160]
  · rw [Nat.xor_assoc, ← Nat.xor_assoc 2197175160, Nat.xor_comm 2197175160 (b / 2), Nat.xor_assoc, Nat.xor_self, Nat.xor_zero]
theorem crcHalves_xor (k a b : Nat) : crcHalves k (a ^^^ b) = crcHalves k a ^^^ crcHalves k b := by
  induction k with
  | zero => rfl
  | succ k ih => rw [crcHalves, ih, crcHalf_xor]; rfl
theorem crcHalves_shift (k : Nat) : ∀ m, crcHalves k (m * 2 ^ k) = m := by
  induction k with
  | zero => intro m; simp [crcHalves]
  | succ k ih =>
    intro m
    rw [crcHalves, show m * 2 ^ (k + 1) = (m * 2) * 2 ^ k by rw [Nat.pow_succ, Nat.mul_comm (2 ^ k), ← Nat.mul_assoc], ih]
    unfold crcHalf; rw [if_neg (by omega)]; omega
theorem crcHalf_lt {n : Nat} (h : n < 2 ^ 32) : crcHalf n < 2 ^ 32 := by
  unfold crcHalf
  split
  · exact Nat.xor_lt_two_pow (by omega) (by decide)
  · omega
theorem crcHalves_lt {n : Nat} (h : n < 2 ^ 32) (k : Nat) : crcHalves k n < 2 ^ 32 := by
  induction k with
  | zero => exact h
  | succ k ih => exact crcHalf_lt ih
/-- the table's number -/
def crcT (i : Nat) : Nat := crcHalves 8 i
/-- the sum with a byte more -/
def crcTurn (c x : Nat) : Nat := crcHalves 8 (c ^^^ x)
theorem split8 (c : Nat) : c = (c % 256) ^^^ (c / 256 * 2 ^ 8) := by
  apply Nat.eq_of_testBit_eq
  intro i
  rw [Nat.testBit_xor, show (256 : Nat) = 2 ^ 8 from rfl, Nat.testBit_mod_two_pow, ← Nat.shiftLeft_eq, Nat.testBit_shiftLeft, Nat.testBit_div_two_pow]
  by_cases h : i < 8
  · simp [h, Nat.not_le.2 h]
  · simp [h, Nat.not_lt.1 h, Nat.sub_add_cancel (Nat.not_lt.1 h)]
theorem crcTurn_table (c x : Nat) : crcTurn c x = crcT ((c % 256) ^^^ x) ^^^ (c / 256) := by
  unfold crcTurn crcT
  have h : c ^^^ x = ((c % 256) ^^^ x) ^^^ (c / 256 * 2 ^ 8) := by
    conv => lhs; rw [split8 c]
    rw [Nat.xor_assoc, Nat.xor_assoc, Nat.xor_comm x]
  rw [h, crcHalves_xor, crcHalves_shift]
theorem crcTurn_lt {c x : Nat} (hc : c < 2 ^ 32) (hx : x < 256) : crcTurn c x < 2 ^ 32 :=
  crcHalves_lt (Nat.xor_lt_two_pow hc (by omega)) 8
def crcFold (b : List Int) (c : Nat) : Nat := b.foldl (fun c x => crcTurn c x.toNat) c
theorem crcFold_snoc (b : List Int) (x : Int) (c : Nat) : crcFold (b ++ [x]) c = crcTurn (crcFold b c) x.toNat := by simp [crcFold]
theorem crcFold_lt (b : List Int) (hb : ∀ x ∈ b, 0 ≤ x ∧ x < 256) : ∀ c, c < 2 ^ 32 → crcFold b c < 2 ^ 32 := by
  induction b with
  | nil => intro c h; exact h
  | cons x b ih =>
    intro c h
    have := hb x (List.mem_cons_self ..)
    exact ih (fun y hy => hb y (List.mem_cons_of_mem _ hy)) _ (crcTurn_lt h (by omega))
def crcSum (b : List Int) : Nat := crcFold b 4294967295 ^^^ 4294967295
theorem crcSum_lt (b : List Int) (hb : ∀ x ∈ b, 0 ≤ x ∧ x < 256) : crcSum b < 2 ^ 32 := Nat.xor_lt_two_pow (crcFold_lt b hb _ (by decide)) (by decide)
def crcMask (s : Nat) : Nat := (s / 32768 + s * 131072 + 2726488792) % 4294967296
def four (m : Nat) : List Int := [((m % 256 : Nat) : Int), ((m / 256 % 256 : Nat) : Int), ((m / 65536 % 256 : Nat) : Int), ((m / 16777216 % 256 : Nat) : Int)]
def frameOf (b : List Int) : List Int := vint b.length ++ four (crcMask (crcSum b)) ++ b
theorem u32_nat {a : Nat} (ha : a < 4294967296) : (BitVec.ofInt 32 (a : Int)).toNat = a := by
  rw [BitVec.ofInt_natCast, BitVec.toNat_ofNat]; exact Nat.mod_eq_of_lt (by omega)
theorem wrap_u32_nat {a : Nat} (ha : a < 4294967296) : IntKind.u32.wrap (a : Int) = a := by rw [IntKind.wrap_u32]; omega
theorem xor_u32 (a b : Nat) (ha : a < 4294967296) (hb : b < 4294967296) : bits .xor .u32 (a : Int) (b : Int) = ((a ^^^ b : Nat) : Int) := by
  show IntKind.u32.wrap ((BitVec.ofInt 32 (a : Int) ^^^ BitVec.ofInt 32 (b : Int)).toNat : Int) = _
  rw [BitVec.toNat_xor, u32_nat ha, u32_nat hb]
  exact wrap_u32_nat (Nat.xor_lt_two_pow (n := 32) (by omega) (by omega))
theorem and1_u32 (a : Nat) (ha : a < 4294967296) : bits .and .u32 (a : Int) 1 = ((a % 2 : Nat) : Int) := by
  show IntKind.u32.wrap ((BitVec.ofInt 32 (a : Int) &&& BitVec.ofInt 32 ((1 : Nat) : Int)).toNat : Int) = _
  rw [BitVec.toNat_and, u32_nat ha, u32_nat (by decide), Nat.and_one_is_mod]
  exact wrap_u32_nat (by omega)
theorem xor_u8 (a b : Nat) (ha : a < 256) (hb : b < 256) : bits .xor .u8 (a : Int) (b : Int) = ((a ^^^ b : Nat) : Int) := by
  have h1 : ∀ {a : Nat}, a < 256 → (BitVec.ofInt 8 (a : Int)).toNat = a := fun h => by
    rw [BitVec.ofInt_natCast, BitVec.toNat_ofNat]; exact Nat.mod_eq_of_lt (by omega)
  show IntKind.u8.wrap ((BitVec.ofInt 8 (a : Int) ^^^ BitVec.ofInt 8 (b : Int)).toNat : Int) = _
  rw [BitVec.toNat_xor, h1 ha, h1 hb, IntKind.wrap_u8]
  have := Nat.xor_lt_two_pow (x := a) (y := b) (n := 8) (by omega) (by omega)
  omega
end Go.Proofs.YtnglhgogkemgbaaGreatDoor
/-! codec.Uint and the reference's: a number's bytes. -/
namespace Go.Proofs.YtnglhgogkemgbaaGreatDoor
open Go.RowKit

theorem Tryz.infoU8 : (Tryz.prog.info? 5).map (fun i => (i.zero, i.size, i.bytes)) = some (some (.int .u8 0), 1, 1) := by kernel_rfl
/-- new bytes of our own -/
def NewBytes (B : Nat) (xs : List Int) (e : Ending) (w' : World) : Prop :=
  ∃ v, e = .returned v ∧ w'.ownsRow B 5 1 v xs.length (xs.map (Value.int .u8))

set_option maxHeartbeats 2000000 in
set_option maxRecDepth 100000 in
theorem ruint_any (n : Nat) (hn : n < 18446744073709551616) (w : World) :
    Calls Tryz.prog 40 #[.int .u64 n] w fun e w' => NewBytes w.heap.size (vint n) e w' ∧ Below w.heap.size w w' := by
  obtain ⟨i0, hi, hz0, hz1, hz2⟩ := info_parts Tryz.infoU8
  go_enter Tryz.func40, Tryz.ntmps40
  go_wp2
  go_loopw [0, 3] (fun nv bv wr => ∃ (m : Nat) (xs : List Int), nv = .int .u64 m ∧ m ≤ n ∧ vint n = xs ++ vint m ∧ wr.ownsRow w.heap.size 5 1 bv xs.length (xs.map (Value.int .u8)) ∧ Below w.heap.size w wr) (fun nv _ _ => (intOf nv).toNat)
  case atStart => exact ⟨n, [], rfl, Nat.le_refl _, rfl, ⟨rfl, .inl ⟨rfl, rfl⟩⟩, Below.refl _ _⟩
  case round =>
    obtain ⟨m, xs, rfl, hm, hs, hrow, hb⟩ := hrel
    have hxl : xs.length ≤ 10 := by
      have h1 := vint_length n 10 (by omega) (by decide)
      rw [hs, List.length_append] at h1; omega
    have HR := Lib.hid hrow
    have HB := Lib.hid hb
    have HS := Lib.hid hs
    have hu3 : wr.ownsRow w.heap.size 5 1 u3 xs.length (xs.map (Value.int .u8)) := HR.out
    clear hrow
    by_cases h : 128 ≤ m
    · have d1 : decide ((128 : Int) ≤ (m : Int)) = true := decide_eq_true (by omega)
      have d2 : decide (128 ≤ m) = true := decide_eq_true h
      have HM := Lib.hid h
      obtain ⟨x, hx⟩ : ∃ x : Int, x = ((m % 128 + 128 : Nat) : Int) := ⟨_, rfl⟩
      have hor : (m : Int) % 128 + 128 = x := by omega
      have HX := Lib.hid hx
      clear hb hs h hu3 hx
      go_wp2_with (at_builtin; refine wpList_append_own _ rfl _ _ 51 rfl (w.heap.size) 5 i0 (.int .u8 0) 1 1 Tryz.underlying51 hi hz0 hz1 hz2 rfl (by decide) _ _ _ rfl (HR.out.alloc _) ⟨wr.heap.size, 0, none⟩ 1 1 [.int .u8 x] rfl (by rfl) (row_new _ _ _) (by simp [Value.oneCell']) (by unfold maxLen; omega) (by omega) (by have := HB.out.size; simp; omega) ?_; intro v' w1 hown' hgrow _)
      refine ⟨⟨m / 128, xs ++ [x], congrArg (Value.int .u64) (by omega), by omega, ?_, by simpa using hown', ?_⟩, ?_⟩
      · rw [HS.out, vint_ge (n := m) (by have := HM.out; omega), HX.out, List.append_assoc]; rfl
      · exact (HB.out.alloc HB.out.size _).grown hgrow (by have := HB.out.size; simp; omega) (fun j hj => (HR.out.lt j hj).1)
      · have := HM.out; show ((m : Int) / 128).toNat < (m : Int).toNat; omega
    · have d1 : decide ((128 : Int) ≤ (m : Int)) = false := decide_eq_false (by omega)
      have d2 : decide (128 ≤ m) = false := decide_eq_false h
      have HM := Lib.hid h
      obtain ⟨y, hy⟩ : ∃ y : Int, (m : Int) % 256 = y := ⟨_, rfl⟩
      have HY := Lib.hid hy
      clear hb hs h hu3
      go_wp2_with (at_builtin; refine wpList_append_own _ rfl _ _ 51 rfl (w.heap.size) 5 i0 (.int .u8 0) 1 1 Tryz.underlying51 hi hz0 hz1 hz2 rfl (by decide) _ _ _ rfl (HR.out.alloc _) ⟨wr.heap.size, 0, none⟩ 1 1 [.int .u8 y] rfl (by rfl) (row_new _ _ _) (by simp [Value.oneCell']) (by unfold maxLen; omega) (by omega) (by have := HB.out.size; simp; omega) ?_; intro v' w1 hown' hgrow _)
      refine bodyPost_ret (v := v') (by simp [results, Tryz.results40, go_sem]) rfl ⟨⟨v', rfl, ?_⟩, ?_⟩
      · rw [HS.out, vint_lt (n := m) (by have := HM.out; omega)]
        have : y = m := by have := HM.out; have := HY.out; omega
        rw [this] at hown'
        simpa using hown'
      · exact (HB.out.alloc HB.out.size _).grown hgrow (by have := HB.out.size; simp; omega) (fun j hj => (HR.out.lt j hj).1)
end Go.Proofs.YtnglhgogkemgbaaGreatDoor
/-! sync.Once's Do with a method's value, not yet done: walked. -/
namespace Go.Proofs.YtnglhgogkemgbaaGreatDoor
open Go.RowKit

theorem sy_disable (w : World) : (callFunc 210 #[]).run Tryz.prog w = .ok (.value (.tuple #[])) w := run_call_mark0 Tryz.func210 (by kernel_rfl) (by kernel_rfl) (by kernel_rfl) .disable (by kernel_rfl) w
theorem sy_enable (w : World) : (callFunc 212 #[]).run Tryz.prog w = .ok (.value (.tuple #[])) w := run_call_mark0 Tryz.func212 (by kernel_rfl) (by kernel_rfl) (by kernel_rfl) .enable (by kernel_rfl) w
theorem sy_acquire (a : Addr) (w : World) : (callFunc 213 #[.pointer (some a)]).run Tryz.prog w = .ok (.value (.tuple #[])) w := run_call_marked Tryz.func213 (by kernel_rfl) (by kernel_rfl) (by kernel_rfl) .acquire (by kernel_rfl) a w
theorem sy_release (a : Addr) (w : World) : (callFunc 215 #[.pointer (some a)]).run Tryz.prog w = .ok (.value (.tuple #[])) w := run_call_marked Tryz.func215 (by kernel_rfl) (by kernel_rfl) (by kernel_rfl) .releaseMerge (by kernel_rfl) a w

theorem sy_store_deferred (a : Addr) (x : Value) (u : FrameMode) (w : World) (hc : w.cell? a = some x) (hz : w.frozen? a = false) :
    CallsD Tryz.prog 191 #[.pointer (some a), .bool true] u w fun e u' w' => u' = u ∧ (e = .returned (.tuple #[]) ∧ w' = w.drew.setCell a (.int .u32 1)) := by
  have hc' : w.drew.cell? a = some x := by go_simp
  have hz' : w.drew.frozen? a = false := by go_simp
  have hst := run_call_store (P := Tryz.prog) Tryz.func201 (by kernel_rfl) (by kernel_rfl) (by kernel_rfl) (by kernel_rfl) (k := .u32) (y := 1) hc' hz'
  go_enter_d Tryz.func191, Tryz.ntmps191
  go_wp2
  go_region_calls
  all_goals (go_end0; exact ⟨rfl, rfl⟩)

set_option maxRecDepth 100000 in
theorem sy_unlock_deferred (a : Addr) (u : FrameMode) (w : World) (hc : w.cell? a = some (.int .i32 1)) (hz : w.frozen? a = false) :
    CallsD Tryz.prog 190 #[.pointer (some a)] u w fun e u' w' => u' = u ∧ (e = .returned (.tuple #[]) ∧ w' = w.setCell a (.int .i32 0)) := by
  have hd := sy_disable
  have he := sy_enable
  have hr := sy_release
  have hadd := run_call_add (P := Tryz.prog) Tryz.func198 (by kernel_rfl) (by kernel_rfl) (by kernel_rfl) .i32 (by kernel_rfl) (y := -1) (s := 0) hc hz (by simp [go_sem]; rfl)
  have hcv := run_convert_to_unsafe (P := Tryz.prog) (src := 297) (dst := 300) Tryz.underlying297 Tryz.underlying300 (by kernel_rfl) hc
  go_enter_d Tryz.func190, Tryz.ntmps190
  go_wp2
  go_end0
  exact ⟨rfl, rfl⟩

set_option maxRecDepth 100000 in
theorem sy_lock_free (a : Addr) (w : World) (hc : w.cell? a = some (.int .i32 0)) (hz : w.frozen? a = false) :
    Calls Tryz.prog 189 #[.pointer (some a)] w fun e w' => e = .returned (.tuple #[]) ∧ w' = w.setCell a (.int .i32 1) := by
  have hd := sy_disable
  have he := sy_enable
  have ha := sy_acquire
  have hcas := run_call_cas_hit (P := Tryz.prog) Tryz.func211 (by kernel_rfl) (by kernel_rfl) (by kernel_rfl) .i32 (by kernel_rfl) (y := 1) hc hz
  have hc' : (w.setCell a (.int .i32 1)).cell? a = some (.int .i32 1) := World.cell?_setCell_same w a _ hc
  have hcv := run_convert_to_unsafe (P := Tryz.prog) (src := 297) (dst := 300) Tryz.underlying297 Tryz.underlying300 (by kernel_rfl) hc'
  go_enter Tryz.func189, Tryz.ntmps189
  go_wp2
  go_end0
  exact ⟨rfl, rfl⟩
set_option maxRecDepth 100000 in
theorem sy_load (a : Addr) (x : Int) (w : World) (hc : w.cell? a = some (.int .u32 x)) :
    Calls Tryz.prog 181 #[.pointer (some a)] w fun e w' => e = .returned (.bool (x != 0)) ∧ w = w' := by
  have hl := run_call_load (P := Tryz.prog) Tryz.func188 (by kernel_rfl) (by kernel_rfl) (by kernel_rfl) .u32 (by kernel_rfl) hc
  go_enter Tryz.func181, Tryz.ntmps181
  go_wp2
  go_ret
  exact ⟨rfl, rfl⟩
set_option maxRecDepth 100000 in
set_option maxHeartbeats 1600000 in
/-- the slow road: g is called with p; R: how it ends -/
theorem slow_any (b off g : Nat) (p : Value) (R : World → Prop) (w : World) (eg : ∀ args w, (callFunc g args).run Tryz.prog w = .ok (.enter g args) w)
    (h0 : w.cell? ⟨b, off, none⟩ = some (.int .u32 0)) (h1 : w.cell? ⟨b, off + 1, none⟩ = some (.int .i32 0)) (f1 : w.frozen? ⟨b, off + 1, none⟩ = false)
    (hf : Calls Tryz.prog g #[p] (w.setCell ⟨b, off + 1, none⟩ (.int .i32 1)) fun e w' => e = .returned (.tuple #[]) ∧ R w')
    (hR : ∀ w', R w' → w'.cell? ⟨b, off, none⟩ = some (.int .u32 0) ∧ w'.cell? ⟨b, off + 1, none⟩ = some (.int .i32 1) ∧ w'.frozen? ⟨b, off, none⟩ = false ∧ w'.frozen? ⟨b, off + 1, none⟩ = false) :
    Calls Tryz.prog 182 #[.pointer (some ⟨b, off, none⟩), .func (.func g) #[p] #[]] w fun e w' => e = .returned (.tuple #[]) ∧
      ∃ w1, R w1 ∧ w' = (w1.drew.setCell ⟨b, off, none⟩ (.int .u32 1)).setCell ⟨b, off + 1, none⟩ (.int .i32 0) := by
  have hnot : ∀ (x : Bool) (w : World), (Op.unary .not (.bool x)).run Tryz.prog w = .ok (.bool (!x)) w := fun _ _ => rfl
  go_enter_defers Tryz.func182, Tryz.ntmps182
  go_wp2_with (go_at_call 189; refine (sy_lock_free ⟨b, off + 1, none⟩ _ (by go_simp) (by go_simp)).mono ?_; rintro e w' ⟨rfl, rfl⟩)
  have hl := sy_load ⟨b, off, none⟩ 0 (w.setCell ⟨b, off + 1, none⟩ (.int .i32 1)) ((World.cell?_setCell_other _ ⟨b, off + 1, none⟩ ⟨b, off, none⟩ _ (by simp)).trans h0)
  refine hl.mono ?_
  rintro e w' ⟨rfl, rfl⟩
  clear hl
  go_wp2_with fail
  refine hf.mono ?_
  rintro e w1 ⟨rfl, hr⟩
  obtain ⟨c0, c1, z0, z1⟩ := hR _ hr
  have HR := Lib.hid hr
  clear hr hf hR
  go_wp2
  refine leaves_cons (f := 191) (args := #[.pointer (some ⟨b, off, none⟩), .bool true]) (by simp) (by simp [go_sem]) ?_
  refine (sy_store_deferred ⟨b, off, none⟩ (.int .u32 0) .returning _ c0 z0).mono ?_
  rintro e u' w'' ⟨rfl, rfl, rfl⟩
  refine leaves_cons (f := 190) (args := #[.pointer (some ⟨b, off + 1, none⟩)]) (by simp [settle]) (by simp [go_sem]) ?_
  refine (sy_unlock_deferred ⟨b, off + 1, none⟩ _ _ ?_ (by simp [z1])).mono ?_
  · refine (World.cell?_setCell_other _ ⟨b, off, none⟩ ⟨b, off + 1, none⟩ _ (by simp)).trans ?_
    rw [World.cell?_drew]; exact c1
  rintro e u' w'' ⟨rfl, rfl, rfl⟩
  refine ⟨.tuple #[], results_none rfl _ _ _, rfl, w1, HR.out, rfl⟩
set_option maxRecDepth 100000 in
set_option maxHeartbeats 1600000 in
/-- Do, not yet done -/
theorem once_first (b off g : Nat) (p : Value) (R : World → Prop) (w : World) (eg : ∀ args w, (callFunc g args).run Tryz.prog w = .ok (.enter g args) w)
    (h0 : w.cell? ⟨b, off, none⟩ = some (.int .u32 0)) (h1 : w.cell? ⟨b, off + 1, none⟩ = some (.int .i32 0)) (f1 : w.frozen? ⟨b, off + 1, none⟩ = false)
    (hf : Calls Tryz.prog g #[p] (w.setCell ⟨b, off + 1, none⟩ (.int .i32 1)) fun e w' => e = .returned (.tuple #[]) ∧ R w')
    (hR : ∀ w', R w' → w'.cell? ⟨b, off, none⟩ = some (.int .u32 0) ∧ w'.cell? ⟨b, off + 1, none⟩ = some (.int .i32 1) ∧ w'.frozen? ⟨b, off, none⟩ = false ∧ w'.frozen? ⟨b, off + 1, none⟩ = false) :
    Calls Tryz.prog 171 #[.pointer (some ⟨b, off, none⟩), .func (.func g) #[p] #[]] w fun e w' => e = .returned (.tuple #[]) ∧
      ∃ w1, R w1 ∧ w' = (w1.drew.setCell ⟨b, off, none⟩ (.int .u32 1)).setCell ⟨b, off + 1, none⟩ (.int .i32 0) := by
  have hl := sy_load ⟨b, off, none⟩ 0 w h0
  have hs := slow_any b off g p R w eg h0 h1 f1 hf hR
  clear hf hR h0 h1 f1
  go_enter Tryz.func171, Tryz.ntmps171
  go_wp2_with fail
  refine hl.mono ?_
  rintro e w' ⟨rfl, rfl⟩
  clear hl
  go_wp2_with fail
  refine hs.mono ?_
  rintro e w' ⟨rfl, hw⟩
  go_wp2
  go_end0
  exact ⟨rfl, hw⟩
/-- Do, done -/
theorem once_done (b off : Nat) (f : Value) (w : World) (h0 : w.cell? ⟨b, off, none⟩ = some (.int .u32 1)) :
    Calls Tryz.prog 171 #[.pointer (some ⟨b, off, none⟩), f] w fun e w' => e = .returned (.tuple #[]) ∧ w = w' := by
  have hl := sy_load ⟨b, off, none⟩ 1 w h0
  go_enter Tryz.func171, Tryz.ntmps171
  go_wp2_with fail
  refine hl.mono ?_
  rintro e w' ⟨rfl, rfl⟩
  clear hl
  go_wp2
  go_end0
  exact ⟨rfl, rfl⟩
end Go.Proofs.YtnglhgogkemgbaaGreatDoor
/-! The table of sums: made once; walked. -/
namespace Go.Proofs.YtnglhgogkemgbaaGreatDoor
open Go.RowKit

/-- the cells of a table's block: what lies ahead of the numbers; the numbers -/
def tblCells (done : Int) (mu : Int) (made : Int) (l : List Int) : List Value := [.int .i64 1, .int .u32 done, .int .i32 mu, .int .u32 0, .int .i32 made] ++ l.map (Value.int .u32)
def TblAt (W : World) (tb : Nat) (done mu made : Int) (l : List Int) : Prop := W.heap[tb]? = some (.cells (tblCells done mu made l).toArray 160 (0, 0))

set_option maxHeartbeats 2000000 in
set_option maxRecDepth 100000 in
theorem crcNew_any (w : World) :
    Calls Tryz.prog 42 #[] w fun e w' => e = .returned (.pointer (some ⟨w.heap.size, 0, none⟩)) ∧ TblAt w' w.heap.size 0 0 0 (List.replicate 256 0) ∧ Below w.heap.size w w' ∧ w.heap.size < w'.heap.size := by
  go_enter Tryz.func42, Tryz.ntmps42
  go_wp2_with fail
  have hz : Tryz.zeroCells160.setIfInBounds 0 (.int .i64 1) = (tblCells 0 0 0 (List.replicate 256 0)).toArray := by kernel_rfl
  rw [hz]
  go_ret
  exact ⟨rfl, World.alloc_heap_new _ _, (Below.refl _ w).alloc (Nat.le_refl _) _, by simp⟩
/-- a number of the table is stored -/
theorem TblAt.set {W : World} {tb : Nat} {d m a : Int} {l : List Int} (h : TblAt W tb d m a l) (i : Nat) (x : Int) : TblAt (W.setCell ⟨tb, 5 + i, none⟩ (.int .u32 x)) tb d m a (l.set i x) := by
  unfold TblAt at *
  unfold World.setCell
  simp only [Array.getElem?_modify, h, if_true, Option.map_some]
  have e : tblCells d m a (l.set i x) = (tblCells d m a l).set (5 + i) (.int .u32 x) := by
    simp [tblCells, List.map_set, Nat.add_comm 5 i]
  rw [e]
  simp
theorem TblAt.cell {W : World} {tb : Nat} {d m a : Int} {l : List Int} (h : TblAt W tb d m a l) (j : Nat) : W.cell? ⟨tb, j, none⟩ = (tblCells d m a l)[j]? := by simp [World.cell?, show W.heap[tb]? = _ from h]
theorem TblAt.frozen {W : World} {tb : Nat} {d m a : Int} {l : List Int} (h : TblAt W tb d m a l) (j : Nat) : W.frozen? ⟨tb, j, none⟩ = false := by simp [World.frozen?, show W.heap[tb]? = _ from h]
theorem TblAt.lt {W : World} {tb : Nat} {d m a : Int} {l : List Int} (h : TblAt W tb d m a l) : tb < W.heap.size := (Array.getElem?_eq_some_iff.1 h).1
theorem TblAt.at {W : World} {tb : Nat} {d m a : Int} {l : List Int} (h : TblAt W tb d m a l) (i : Nat) (x : Int) (hx : l[i]? = some x) : W.cell? ⟨tb, 5 + i, none⟩ = some (.int .u32 x) := by
  rw [h.cell]; simp [tblCells, Nat.add_comm 5 i, hx]
/-- so far made -/
def crcL (i : Nat) : List Int := (List.range i).map (fun j => ((crcT j : Nat) : Int)) ++ List.replicate (256 - i) 0
theorem crcL_set {i : Nat} (hi : i < 256) : (crcL i).set i ((crcT i : Nat) : Int) = crcL (i + 1) := by
  unfold crcL
  rw [List.set_append, if_neg (by simp)]
  simp only [List.length_map, List.length_range, Nat.sub_self, List.range_succ, List.map_append, List.append_assoc]
  obtain ⟨k, hk⟩ : ∃ k, 256 - i = k + 1 := ⟨255 - i, by omega⟩
  rw [hk, show 256 - (i + 1) = k by omega]
  rfl
theorem crcL_len (i : Nat) (hi : i ≤ 256) : (crcL i).length = 256 := by simp [crcL]; omega
theorem crcT_lt {i : Nat} (h : i < 4294967296) : crcT i < 2 ^ 32 := crcHalves_lt (by omega) 8

set_option maxRecDepth 100000 in
theorem add32_any (a : Addr) (w : World) (hc : w.cell? a = some (.int .i32 0)) (hz : w.frozen? a = false) :
    Calls Tryz.prog 187 #[.pointer (some a), .int .i32 1] w fun e w' => e = .returned (.int .i32 1) ∧ w.setCell a (.int .i32 1) = w' := by
  have hadd := run_call_add (P := Tryz.prog) Tryz.func198 (by kernel_rfl) (by kernel_rfl) (by kernel_rfl) .i32 (by kernel_rfl) (y := 1) (s := 1) hc hz (by simp [go_sem]; rfl)
  go_enter Tryz.func187, Tryz.ntmps187
  go_wp2
  go_ret
  exact ⟨rfl, rfl⟩
set_option maxHeartbeats 4000000 in
set_option maxRecDepth 100000 in
theorem reckon_any (tb : Nat) (w : World) (h : TblAt w tb 0 1 0 (crcL 0)) :
    Calls Tryz.prog 178 #[.pointer (some ⟨tb, 0, none⟩)] w fun e w' => e = .returned (.tuple #[]) ∧ TblAt w' tb 0 1 1 (crcL 256) ∧ Only (fun k => k = tb) w w' := by
  have H := Lib.hid h
  clear h
  go_enter Tryz.func178, Tryz.ntmps178
  go_wp2_with fail
  go_loopw [5] (fun iv wr => ∃ i : Nat, iv = .int .i64 i ∧ i ≤ 256 ∧ TblAt wr tb 0 1 0 (crcL i) ∧ Only (fun k => k = tb) w wr) (fun iv _ => 256 - (intOf iv).toNat)
  case atStart => exact ⟨0, rfl, by omega, H.out, Only.refl _ _⟩
  case round =>
    obtain ⟨i, rfl, hi, ht, ho⟩ := hrel
    have HT := Lib.hid ht
    have HO := Lib.hid ho
    by_cases hlt : i < 256
    · have d1 : decide ((i : Int) < 256) = true := decide_eq_true (by omega)
      have d2 : decide (i < 256) = true := decide_eq_true hlt
      have hwr : (i : Int) % 4294967296 = (i : Int) := by omega
      clear ht ho
      go_wp2_with fail
      go_loopw [3, 10] (fun xv kv wr2 => ∃ k : Nat, kv = .int .i64 k ∧ k ≤ 8 ∧ xv = .int .u32 ((crcHalves k i : Nat) : Int) ∧ wr = wr2) (fun _ kv _ => 8 - (intOf kv).toNat)
      case atStart => exact ⟨0, rfl, by omega, rfl, rfl⟩
      case round =>
        obtain ⟨k, rfl, hk, rfl, rfl⟩ := hrel
        obtain ⟨c, hc⟩ : ∃ c, c = crcHalves k i := ⟨_, rfl⟩
        have hcl : c < 4294967296 := by rw [hc]; exact crcHalves_lt (by omega) k
        have HC : Hid (crcHalves (k + 1) i = crcHalf c) := by show _ = _; rw [hc]; rfl
        rw [← hc]
        by_cases hk8 : k < 8
        · have e1 : decide ((k : Int) < 8) = true := decide_eq_true (by omega)
          have e2 : decide (k < 8) = true := decide_eq_true hk8
          have HK := Lib.hid hk8
          have ha := and1_u32 c hcl
          have HCL := Lib.hid hcl
          clear hc hcl hk8
          by_cases hodd : c % 2 = 1
          · rw [hodd] at ha
            obtain ⟨z, hz⟩ : ∃ z, z = crcHalf c := ⟨_, rfl⟩
            have hx : bits .xor .u32 ((c : Int) / 2) 2197175160 = (z : Int) := by
              rw [hz, show ((c : Int) / 2) = ((c / 2 : Nat) : Int) by omega, show (2197175160 : Int) = ((2197175160 : Nat) : Int) from rfl, xor_u32 _ _ (by have := HCL.out; omega) (by decide)]
              unfold crcHalf; rw [if_pos hodd]
            have HZ := Lib.hid hz
            clear hodd hz
            go_wp2_with fail
            go_roundw
            case rel => exact ⟨k + 1, by go_num, by have := HK.out; omega, by rw [HC.out, HZ.out], by trivial⟩
            case measure => (have hq := HK.out; simp [intOf]; omega)
          · have h0 : c % 2 = 0 := by omega
            rw [h0] at ha
            have HZ : Hid (((c / 2 : Nat) : Int) = ((crcHalf c : Nat) : Int)) := by show _ = _; unfold crcHalf; rw [if_neg hodd]
            clear hodd h0
            go_wp2_with fail
            go_roundw
            case rel => exact ⟨k + 1, by go_num, by have := HK.out; omega, by rw [HC.out, ← HZ.out]; rfl, by trivial⟩
            case measure => (have hq := HK.out; simp [intOf]; omega)
        · have e1 : decide ((k : Int) < 8) = false := decide_eq_false (by omega)
          have e2 : decide (k < 8) = false := decide_eq_false hk8
          obtain rfl : k = 8 := by omega
          have ht := HT.out
          have hlen := crcL_len i hi
          have ho := HO.out
          obtain ⟨old, hcell⟩ : ∃ old, wr.cell? ⟨tb, 5 + i, none⟩ = some old := ⟨_, ht.at i _ (List.getElem?_eq_getElem (by omega))⟩
          have hfro := ht.frozen (5 + i)
          have HS : Hid (TblAt (wr.setCell ⟨tb, 5 + i, none⟩ (.int .u32 (c : Int))) tb 0 1 0 (crcL (i + 1))) := by
            have := ht.set i (c : Int)
            rw [hc] at this ⊢
            rwa [show crcHalves 8 i = crcT i from rfl, crcL_set hlt] at this
          have HI := Lib.hid hlt
          have hli : (i : Int) < 256 := by omega
          clear ht hlen ho hc hcl HC hk8 hlt
          go_wp2_with fail
          go_roundw
          case rel => exact ⟨i + 1, by go_num, by have := HI.out; omega, HS.out, HO.out.setCell (p := ⟨tb, 5 + i, none⟩) rfl _⟩
          case measure => (have hq := HI.out; simp [intOf]; omega)
    · have d1 : decide ((i : Int) < 256) = false := decide_eq_false (by omega)
      have d2 : decide (i < 256) = false := decide_eq_false hlt
      obtain rfl : i = 256 := by omega
      have hcell := (ht.cell 4).trans (show (tblCells 0 1 0 (crcL 256))[4]? = some (.int .i32 0) from rfl)
      have hfro := ht.frozen 4
      have HS : Hid (TblAt (wr.setCell ⟨tb, 4, none⟩ (.int .i32 1)) tb 0 1 1 (crcL 256)) := by
        show _ = _
        unfold World.setCell
        simp only [Array.getElem?_modify, show wr.heap[tb]? = _ from ht, if_true, Option.map_some]
        rfl
      clear ht ho hlt
      go_wp2_with fail
      refine (add32_any ⟨tb, 4, none⟩ wr hcell hfro).mono ?_
      rintro e w' ⟨rfl, rfl⟩
      go_wp2
      go_end0
      exact ⟨rfl, HS.out, HO.out.setCell (p := ⟨tb, 4, none⟩) rfl _⟩
end Go.Proofs.YtnglhgogkemgbaaGreatDoor
/-! The sum of bytes: slices.Values ranged over, Extend, Sum. -/
namespace Go.Proofs.YtnglhgogkemgbaaGreatDoor
open Go.RowKit
attribute [local go_sem] Oper.semAt_some

set_option maxHeartbeats 2000000 in
set_option maxRecDepth 100000 in
theorem values1_iter (R : Nat → Prop) (xs : List Int) (p : Option Addr) (cp B : Nat) (hl : xs.length ≤ 140737488351232) :
    IterC Tryz.prog 179 #[.pointer (some ⟨B, 0, none⟩)] (fun i : Nat => #[.int .u8 (xs.getD i 0)]) (fun i => i + 1) (fun i => i < xs.length) (fun i => xs.length ≤ i) (fun _ _ => False) 0
      (fun W => W.cell? ⟨B, 0, none⟩ = some (.slice p xs.length cp) ∧ IntsIn R .u8 W (.slice p xs.length cp) xs) := by
  intro l J Jx W hJ hJx hPre hY h0
  have hc := (hPre _ _ h0).1
  refine callsIn_wide (n := 0) |>.1 ?_
  refine callsIn_of_wp Tryz.func179 rfl trivial ?_ rfl
  simp only [Tryz.ntmps179, List.size_toArray, List.length_cons, List.length_nil, Nat.reduceAdd, Nat.reduceSub, Array.replicate_succ, Array.replicate_zero, List.push_toArray, List.append_toArray, List.nil_append, List.cons_append]
  gi_wp2
  gi_loopw [7] (fun iv wr => ∃ a : Nat, iv = .int .i64 a ∧ a ≤ xs.length ∧ J a wr) (fun iv _ => xs.length - (intOf iv).toNat)
  case atStart => exact ⟨0, rfl, Nat.zero_le _, h0⟩
  case round =>
    obtain ⟨a, rfl, ha, hj⟩ := hrel
    have hv := (hPre _ _ hj).2
    have HJ := Lib.hid hj
    by_cases hlt : a < xs.length
    · have d1 : decide ((a : Int) < (xs.length : Int)) = true := decide_eq_true (by omega)
      have d2 : decide (a < xs.length) = true := decide_eq_true hlt
      obtain ⟨b, o, rfl, _, _, hcell⟩ := hv.at a hlt
      obtain ⟨fn, tmps, assign, body, hy, hR⟩ := hY a wr hj hlt
      have HL := Lib.hid hlt
      generalize xs.getD a 0 = x at hcell hy
      clear hv hlt hj
      gi_wp2
      refine ⟨rfl, hR.mono ?_⟩
      rintro e w2 (⟨rfl, hj2⟩ | ⟨rfl, hjx⟩)
      · gi_wp2
        go_roundw
        case rel => exact ⟨a + 1, by go_num, HL.out, hj2⟩
        case measure => (have hp := HL.out; simp [intOf]; omega)
      · gi_wp2
        refine bodyPost_ret (results_none rfl _ _ _) rfl ?_
        exact .inr (.inl ⟨⟨_, rfl⟩, hjx⟩)
    · have d1 : decide ((a : Int) < (xs.length : Int)) = false := decide_eq_false (by omega)
      have d2 : decide (a < xs.length) = false := decide_eq_false hlt
      have hge : xs.length ≤ a := by omega
      clear hlt hv hj
      gi_wp2
      go_end0
      exact .inl ⟨⟨_, rfl⟩, a, hge, HJ.out⟩
theorem values_any (p : Option Addr) (n c : Nat) (w : World) :
    Calls Tryz.prog 162 #[.slice p n c] w fun e w' => e = .returned (.func (.func 179) #[] #[.pointer (some ⟨w.heap.size, 0, none⟩)]) ∧ w.alloc (.cells #[.slice p n c] 51) = w' := by
  have hmf : ∀ (fn : Fn) (first cap : Array Value) (w : World), (Instr.makeFunc fn first cap).run Tryz.prog w = .ok (.func fn first cap) w := fun _ _ _ _ => rfl
  go_enter Tryz.func162, Tryz.ntmps162
  go_wp2
  go_ret
  exact ⟨rfl, rfl⟩
/-- Do's two stores behind what was called -/
theorem TblAt.done {W : World} {tb : Nat} {a : Int} {l : List Int} (h : TblAt W tb 0 1 a l) : TblAt ((W.drew.setCell ⟨tb, 1, none⟩ (.int .u32 1)).setCell ⟨tb, 2, none⟩ (.int .i32 0)) tb 1 0 a l := by
  unfold TblAt at *
  unfold World.setCell
  simp only [Array.getElem?_modify, show W.drew.heap[tb]? = _ from h, if_true, Option.map_some]
  rfl
theorem TblAt.held {W : World} {tb : Nat} {a : Int} {l : List Int} (h : TblAt W tb 0 0 a l) : TblAt (W.setCell ⟨tb, 2, none⟩ (.int .i32 1)) tb 0 1 a l := by
  unfold TblAt at *
  unfold World.setCell
  simp only [Array.getElem?_modify, h, if_true, Option.map_some]
  rfl
set_option maxHeartbeats 1000000 in
set_option maxRecDepth 100000 in
theorem ready_any (tb : Nat) (w : World) (h : TblAt w tb 0 0 0 (crcL 0)) :
    Calls Tryz.prog 161 #[.pointer (some ⟨tb, 0, none⟩)] w fun e w' => e = .returned (.bool true) ∧ TblAt w' tb 1 0 1 (crcL 256) ∧ Only (fun k => k = tb) w w' := by
  have hmf : ∀ (fn : Fn) (first cap : Array Value) (w : World), (Instr.makeFunc fn first cap).run Tryz.prog w = .ok (.func fn first cap) w := fun _ _ _ _ => rfl
  have c0 : w.cell? ⟨tb, 0, none⟩ = some (.int .i64 1) := (h.cell 0).trans rfl
  have ho := once_first tb 1 178 (.pointer (some ⟨tb, 0, none⟩)) (fun w' => TblAt w' tb 0 1 1 (crcL 256) ∧ Only (fun k => k = tb) w w') w (enters_of Tryz.func178 (by kernel_rfl) rfl)
    ((h.cell 1).trans rfl) ((h.cell 2).trans rfl) (h.frozen 2) ((reckon_any tb _ h.held).mono fun e w' ⟨h1, h2, h3⟩ => ⟨h1, h2, ((Only.refl (fun k => k = tb) w).setCell (p := ⟨tb, 2, none⟩) rfl _).trans h3⟩)
    (fun w' ⟨h2, _⟩ => ⟨(h2.cell 1).trans rfl, (h2.cell 2).trans rfl, h2.frozen 1, h2.frozen 2⟩)
  clear h
  go_enter Tryz.func161, Tryz.ntmps161
  go_wp2_with fail
  refine ho.mono ?_
  rintro e w' ⟨rfl, w1, ⟨h1, h2⟩, rfl⟩
  have HE := Lib.hid h1.done
  have HO : Hid (Only (fun k => k = tb) w ((w1.drew.setCell ⟨tb, 1, none⟩ (.int .u32 1)).setCell ⟨tb, 2, none⟩ (.int .i32 0))) := (h2.drew.setCell (p := ⟨tb, 1, none⟩) rfl _).setCell (p := ⟨tb, 2, none⟩) rfl _
  clear ho h1 h2
  generalize (w1.drew.setCell ⟨tb, 1, none⟩ (.int .u32 1)).setCell ⟨tb, 2, none⟩ (.int .i32 0) = w2 at *
  go_wp2
  go_ret
  exact ⟨rfl, HE.out, HO.out⟩
end Go.Proofs.YtnglhgogkemgbaaGreatDoor
