/- What the small functions of package weight and of its reference compute, in plain words. -/
import Derived.Test.YtjbcbejedaeedaaGreatDoorBase
namespace Go.Proofs.YtjbcbejedaeedaaGreatDoor
def lvl (p s t : Int) : Int := if p = 0 then if s = 0 then if t = 0 then 0 else 3 else 2 else 1
def inB (n a b : Int) : Bool := decide (a ≤ n) && decide (n ≤ b)
def okB (p s t : Int) (v : Bool) : Bool :=
  inB p 0 65535 && inB s 0 511 && inB t 0 63 && !(decide (p ≠ 0) && (decide (s = 0) || decide (t = 0))) && !(decide (s ≠ 0) && decide (t = 0)) && !(v && decide (p = 0)) && decide (p < 64256)
def chk (p s t : Int) (v : Bool) : Int := if okB p s t v then 0 else 70
def sgn (a b : Int) : Int := if a < b then -1 else if b < a then 1 else 0
def cmp3 (p s t q r u : Int) : Int := if sgn p q ≠ 0 then sgn p q else if sgn s r ≠ 0 then sgn s r else sgn t u
theorem sgn_neg (a b : Int) : sgn b a = - sgn a b := by unfold sgn; split <;> split <;> (try split) <;> omega
theorem cmp3_neg (p s t q r u : Int) : cmp3 q r u p s t = - cmp3 p s t q r u := by
  unfold cmp3; rw [sgn_neg p q, sgn_neg s r, sgn_neg t u]; split <;> split <;> (try split) <;> (try split) <;> omega
/-- a hexadecimal digit's letter -/
def hexd (n : Nat) : Int := if n % 16 < 10 then 48 + ((n % 16 : Nat) : Int) else 55 + ((n % 16 : Nat) : Int)
theorem hexget (k : Nat) (h : k < 16) : (((⟨#[48, 49, 50, 51, 52, 53, 54, 55, 56, 57, 65, 66, 67, 68, 69, 70]⟩ : ByteArray)[k]'h).toNat : Int) = hexd k := by
  have : ∀ k : Fin 16, (((⟨#[48, 49, 50, 51, 52, 53, 54, 55, 56, 57, 65, 66, 67, 68, 69, 70]⟩ : ByteArray)[k.val]'k.isLt).toNat : Int) = hexd k.val := by decide
  exact this ⟨k, h⟩
theorem hexenc (n : Nat) : Utf8.encode (hexd n) = strOfNums [hexd n] := by
  have e : hexd n = hexd (n % 16) := by unfold hexd; rw [Nat.mod_mod]
  have : ∀ k : Fin 16, Utf8.encode (hexd k.val) = strOfNums [hexd k.val] := by decide
  rw [e]; exact this ⟨n % 16, Nat.mod_lt _ (by decide)⟩
def hex4 (n : Int) : List Int := [hexd (n / 4096 % 16).toNat, hexd (n / 256 % 16).toNat, hexd (n / 16 % 16).toNat, hexd (n % 16).toNat]
theorem hex4_len (n : Int) : (hex4 n).length = 4 := rfl
end Go.Proofs.YtjbcbejedaeedaaGreatDoor
