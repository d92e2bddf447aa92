/- math/bits.Len, at small numbers. -/
import Derived.Test.YtcifoallahmjbaaJa
import Derived.Sort.LotD2
import Derived.Sort.LotD1
namespace Go.Proofs.Ytcifoallahmjbaa
open Go.RowKit
open Go.Sort (swp ltInt PermIn bitsLen)

/-- L is how many bits n has -/
def LenOf (L n : Nat) : Prop := L ≤ 64 ∧ (1 ≤ n → 2 ^ L ≤ 2 * n) ∧ n < 2 ^ L ∧ (n = 0 → L = 0)
def tabOk (S : ByteArray) : Bool := (List.range 256).all fun i => match S.data[i]? with | some y => decide (y.toNat ≤ 8) && (decide (i = 0) || decide (2 ^ y.toNat ≤ 2 * i)) && decide (i < 2 ^ y.toNat) && (decide (i ≠ 0) || decide (y.toNat = 0)) | none => false
theorem tab_at {S : ByteArray} {n : Nat} (h : tabOk S = true) (hn : n < S.size) (h256 : n < 256) : (S[n]'hn).toNat ≤ 8 ∧ (1 ≤ n → 2 ^ (S[n]'hn).toNat ≤ 2 * n) ∧ n < 2 ^ (S[n]'hn).toNat ∧ (n = 0 → (S[n]'hn).toNat = 0) := by
  unfold tabOk at h
  have := List.all_eq_true.1 h n (by simp; exact h256)
  have e : S.data[n]? = some (S[n]'hn) := Array.getElem?_eq_getElem hn
  rw [e] at this
  simp only [Bool.and_eq_true, decide_eq_true_eq, Bool.or_eq_true] at this
  obtain ⟨⟨⟨h1, h2⟩, h3⟩, h4⟩ := this
  exact ⟨h1, fun hh => by rcases h2 with h2 | h2; (· omega); exact h2, h3, fun hh => by rcases h4 with h4 | h4; (· exact absurd hh h4); exact h4⟩
theorem wrap_tab (y : Nat) (h : y ≤ 8) : wrap64 (wrap64 (y : Int)) = (y : Int) := by unfold wrap64; omega
theorem wrap_off (b y : Nat) (h : y ≤ 8) (hb : b ≤ 64) : wrap64 ((b : Int) + wrap64 (y : Int)) = ((b + y : Nat) : Int) := by unfold wrap64; omega
theorem len_fin {S : ByteArray} {n : Nat} {w : World} (hn : n < S.size) (h : tabOk S = true) (h256 : n < 256) (m : Nat) (hm : n = m) :
    ∃ L : Nat, Ending.returned (.int .i64 (wrap64 (wrap64 ((S[n]'hn).toNat : Int)))) = .returned (.int .i64 L) ∧ LenOf L m ∧ w = w := by
  have ht := tab_at h hn h256
  generalize (S[n]'hn).toNat = y at *
  obtain ⟨h1, h2, h3, h4⟩ := ht
  subst hm
  exact ⟨y, by rw [wrap_tab y h1], ⟨Nat.le_trans h1 (by decide), h2, h3, h4⟩, rfl⟩
theorem off_len {x y b P m : Nat} (hP : 2 ^ b = P) (h1 : y ≤ 8) (h2 : 2 ^ y ≤ 2 * x) (h3 : x < 2 ^ y) (hb : b ≤ 56) (hx : 1 ≤ x) (hm : x * P ≤ m) (hm2 : m < (x + 1) * P) : LenOf (b + y) m := by
  have hp : 0 < P := hP ▸ Nat.two_pow_pos b
  refine ⟨Nat.add_le_add hb h1, fun _ => ?_, ?_, fun h => ?_⟩
  · have h5 := Nat.mul_le_mul_right P h2
    rw [Nat.pow_add, Nat.mul_comm, hP]
    calc _ ≤ 2 * x * P := h5
      _ = 2 * (x * P) := by rw [Nat.mul_assoc]
      _ ≤ _ := Nat.mul_le_mul_left 2 hm
  · have h4 := Nat.mul_le_mul_right P h3
    rw [Nat.pow_add, Nat.mul_comm (2 ^ b), hP]
    exact Nat.lt_of_lt_of_le hm2 h4
  · exfalso
    have h5 : 1 * 1 ≤ x * P := Nat.mul_le_mul hx hp
    rw [h] at hm
    exact absurd (Nat.le_trans h5 hm) (by decide)
theorem len_off {S : ByteArray} {x b P : Nat} {w : World} (hn : x < S.size) (h : tabOk S = true) (h256 : x < 256) (hb : b ≤ 56) (m : Nat) (hx : 1 ≤ x) (hP : 2 ^ b = P) (hm : x * P ≤ m) (hm2 : m < (x + 1) * P) :
    ∃ L : Nat, Ending.returned (.int .i64 (wrap64 ((b : Int) + wrap64 ((S[x]'hn).toNat : Int)))) = .returned (.int .i64 L) ∧ LenOf L m ∧ w = w := by
  have ht := tab_at h hn h256
  generalize (S[x]'hn).toNat = y at *
  obtain ⟨h1, h2, h3, _⟩ := ht
  exact ⟨b + y, by rw [wrap_off b y h1 (Nat.le_trans hb (by decide))], off_len hP h1 (h2 hx) h3 hb hx hm hm2, rfl⟩
theorem LenOf.is {L n : Nat} (h : LenOf L n) : L = bitsLen n := by
  obtain ⟨_, h2, h3, h4⟩ := h
  have h5 : bitsLen n ≤ L := (Sort.bitsLen_le_iff n L).2 h3
  by_cases h0 : n = 0
  · have := h4 h0; subst this; omega
  · by_cases hL : L = 0
    · omega
    · have h6 : ¬ bitsLen n ≤ L - 1 := fun h => by
        have h7 := (Sort.bitsLen_le_iff n (L - 1)).1 h
        have h8 := h2 (by omega)
        have h9 : 2 ^ L = 2 * 2 ^ (L - 1) := by rw [← Nat.pow_succ']; congr 1; omega
        omega
      omega
set_option maxHeartbeats 4000000 in
set_option maxRecDepth 100000 in
theorem len64_any (n : Nat) (w : World) (h : n ≤ 1000000000) : Calls Try.prog 72 #[.int .u64 n] w fun e w' => ∃ L : Nat, e = .returned (.int .i64 L) ∧ LenOf L n ∧ w = w' := by
  have g0 : ¬ ((4294967296 : Int) ≤ (n : Int)) := by omega
  by_cases q1 : 65536 ≤ n
  · have g1 : (65536 : Int) ≤ (n : Int) := by omega
    by_cases q2 : 256 ≤ n / 65536
    · have g2 : (256 : Int) ≤ (n : Int) / 65536 := by omega
      have hx : (n : Int) / 65536 / 256 < 256 := by omega
      have hx0 : 0 ≤ (n : Int) / 65536 / 256 := by omega
      have H1 : Hid (((n : Int) / 65536 / 256).toNat * 16777216 ≤ n) := by show ((n : Int) / 65536 / 256).toNat * 16777216 ≤ n; omega
      have H2 : Hid (n < (((n : Int) / 65536 / 256).toNat + 1) * 16777216) := by show n < (((n : Int) / 65536 / 256).toNat + 1) * 16777216; omega
      have H3 : Hid (1 ≤ ((n : Int) / 65536 / 256).toNat ∧ ((n : Int) / 65536 / 256).toNat < 256) := by show 1 ≤ ((n : Int) / 65536 / 256).toNat ∧ ((n : Int) / 65536 / 256).toNat < 256; omega
      go_enter Try.func72, Try.ntmps72
      go_wp2
      go_ret
      exact len_off _ (by kernel_rfl) H3.out.2 (b := 24) (by decide) n H3.out.1 (by decide) H1.out H2.out
    · have g2 : ¬ ((256 : Int) ≤ (n : Int) / 65536) := by omega
      have hx : (n : Int) / 65536 < 256 := by omega
      have hx0 : 0 ≤ (n : Int) / 65536 := by omega
      have H1 : Hid (((n : Int) / 65536).toNat * 65536 ≤ n) := by show ((n : Int) / 65536).toNat * 65536 ≤ n; omega
      have H2 : Hid (n < (((n : Int) / 65536).toNat + 1) * 65536) := by show n < (((n : Int) / 65536).toNat + 1) * 65536; omega
      have H3 : Hid (1 ≤ ((n : Int) / 65536).toNat ∧ ((n : Int) / 65536).toNat < 256) := by show 1 ≤ ((n : Int) / 65536).toNat ∧ ((n : Int) / 65536).toNat < 256; omega
      go_enter Try.func72, Try.ntmps72
      go_wp2
      go_ret
      exact len_off _ (by kernel_rfl) H3.out.2 (b := 16) (by decide) n H3.out.1 (by decide) H1.out H2.out
  · have g1 : ¬ ((65536 : Int) ≤ (n : Int)) := by omega
    by_cases q2 : 256 ≤ n
    · have g2 : (256 : Int) ≤ (n : Int) := by omega
      have hx : (n : Int) / 256 < 256 := by omega
      have hx0 : 0 ≤ (n : Int) / 256 := by omega
      have H1 : Hid (((n : Int) / 256).toNat * 256 ≤ n) := by show ((n : Int) / 256).toNat * 256 ≤ n; omega
      have H2 : Hid (n < (((n : Int) / 256).toNat + 1) * 256) := by show n < (((n : Int) / 256).toNat + 1) * 256; omega
      have H3 : Hid (1 ≤ ((n : Int) / 256).toNat ∧ ((n : Int) / 256).toNat < 256) := by show 1 ≤ ((n : Int) / 256).toNat ∧ ((n : Int) / 256).toNat < 256; omega
      go_enter Try.func72, Try.ntmps72
      go_wp2
      go_ret
      exact len_off _ (by kernel_rfl) H3.out.2 (b := 8) (by decide) n H3.out.1 (by decide) H1.out H2.out
    · have g2 : ¬ ((256 : Int) ≤ (n : Int)) := by omega
      have hn2 : n < 256 := by omega
      go_enter Try.func72, Try.ntmps72
      go_wp2
      go_ret
      exact len_fin _ (by kernel_rfl) hn2 n rfl
set_option maxHeartbeats 400000 in
set_option maxRecDepth 100000 in
theorem bitsLen_any (n : Nat) (w : World) (h : n ≤ 1000000000) : Calls Try.prog 61 #[.int .u64 n] w fun e w' => e = .returned (.int .i64 (bitsLen n : Nat)) ∧ w' = w := by
  have h1 := len64_any n w h
  go_enter Try.func61, Try.ntmps61
  go_wp2_with fail
  refine h1.mono ?_
  rintro e w1 ⟨L, rfl, hL, rfl⟩
  have H2 := Lib.hid hL
  clear h1 hL
  go_wp2_with fail
  go_ret
  exact ⟨by rw [H2.out.is]; rfl, rfl⟩
end Go.Proofs.Ytcifoallahmjbaa
