/- UTF-8 as the model writes it is the form of the document; forms tell their numbers. -/
import Derived.Test.YtchjjfjjcdjjcaaGreatDoorBase
import Derived.Test.YtchjjfjjcdjjcaaGreatDoorOrd
import Derived.Laws.Cover4
namespace Go.Proofs.YtchjjfjjcdjjcaaGreatDoor
open Go.RowKit

/-- a text's bytes as numbers -/
def nums (s : ByteArray) : List Int := s.data.toList.map fun b => (b.toNat : Int)
theorem nums_len (s : ByteArray) : (nums s).length = s.size := by unfold nums; rw [List.length_map]; rfl
theorem ord_cons (x y : Int) (xs ys : List Int) : ord (x :: xs) (y :: ys) = if x < y then -1 else if y < x then 1 else ord xs ys := rfl
/-- forms stand in order as their scalars do -/
theorem ord_enc (r t : Int) (hr : 0 ≤ r ∧ r ≤ 1114111) (ht : 0 ≤ t ∧ t ≤ 1114111) (X Y : List Int) :
    ord (enc r ++ X) (enc t ++ Y) = if r < t then -1 else if t < r then 1 else ord X Y := by
  unfold enc
  by_cases a1 : r < 128
  · rw [if_pos a1]
    by_cases b1 : t < 128
    · rw [if_pos b1]; rfl
    · rw [if_neg b1]
      rw [if_pos (show r < t by omega)]
      (repeat' split) <;> (simp only [List.cons_append, ord_cons]; rw [if_pos (by omega)])
  rw [if_neg a1]
  by_cases a2 : r < 2048
  · rw [if_pos a2]
    by_cases b1 : t < 128
    · rw [if_pos b1, if_neg (show ¬ r < t by omega), if_pos (show t < r by omega)]
      simp only [List.cons_append, ord_cons]; rw [if_neg (by omega), if_pos (by omega)]
    rw [if_neg b1]
    by_cases b2 : t < 2048
    · rw [if_pos b2]
      simp only [List.cons_append, List.nil_append, ord_cons]
      by_cases h : r < t
      · rw [if_pos h]
        by_cases h1 : r / 64 = t / 64
        · rw [if_neg (by omega), if_neg (by omega), if_pos (by omega)]
        · rw [if_pos (by omega)]
      · rw [if_neg h]
        by_cases h' : t < r
        · rw [if_pos h']
          by_cases h1 : r / 64 = t / 64
          · rw [if_neg (by omega), if_neg (by omega), if_neg (by omega), if_pos (by omega)]
          · rw [if_neg (by omega), if_pos (by omega)]
        · rw [if_neg h']
          have : r = t := by omega
          subst this
          rw [if_neg (by omega), if_neg (by omega), if_neg (by omega), if_neg (by omega)]
    · rw [if_neg b2, if_pos (show r < t by omega)]
      (repeat' split) <;> (simp only [List.cons_append, ord_cons]; rw [if_pos (by omega)])
  rw [if_neg a2]
  by_cases a3 : r < 65536
  · rw [if_pos a3]
    by_cases b1 : t < 128
    · rw [if_pos b1, if_neg (show ¬ r < t by omega), if_pos (show t < r by omega)]
      simp only [List.cons_append, ord_cons]; rw [if_neg (by omega), if_pos (by omega)]
    rw [if_neg b1]
    by_cases b2 : t < 2048
    · rw [if_pos b2, if_neg (show ¬ r < t by omega), if_pos (show t < r by omega)]
      simp only [List.cons_append, ord_cons]; rw [if_neg (by omega), if_pos (by omega)]
    rw [if_neg b2]
    by_cases b3 : t < 65536
    · rw [if_pos b3]
      simp only [List.cons_append, List.nil_append, ord_cons]
      by_cases h : r < t
      · rw [if_pos h]
        by_cases h1 : r / 4096 = t / 4096
        · rw [if_neg (by omega), if_neg (by omega)]
          by_cases h2 : r / 64 % 64 = t / 64 % 64
          · rw [if_neg (by omega), if_neg (by omega), if_pos (by omega)]
          · rw [if_pos (by omega)]
        · rw [if_pos (by omega)]
      · rw [if_neg h]
        by_cases h' : t < r
        · rw [if_pos h']
          by_cases h1 : r / 4096 = t / 4096
          · rw [if_neg (by omega), if_neg (by omega)]
            by_cases h2 : r / 64 % 64 = t / 64 % 64
            · rw [if_neg (by omega), if_neg (by omega), if_neg (by omega), if_pos (by omega)]
            · rw [if_neg (by omega), if_pos (by omega)]
          · rw [if_neg (by omega), if_pos (by omega)]
        · rw [if_neg h']
          have : r = t := by omega
          subst this
          rw [if_neg (by omega), if_neg (by omega), if_neg (by omega), if_neg (by omega), if_neg (by omega), if_neg (by omega)]
    · rw [if_neg b3, if_pos (show r < t by omega)]
      simp only [List.cons_append, ord_cons]; rw [if_pos (by omega)]
  rw [if_neg a3]
  by_cases b1 : t < 128
  · rw [if_pos b1, if_neg (show ¬ r < t by omega), if_pos (show t < r by omega)]
    simp only [List.cons_append, ord_cons]; rw [if_neg (by omega), if_pos (by omega)]
  rw [if_neg b1]
  by_cases b2 : t < 2048
  · rw [if_pos b2, if_neg (show ¬ r < t by omega), if_pos (show t < r by omega)]
    simp only [List.cons_append, ord_cons]; rw [if_neg (by omega), if_pos (by omega)]
  rw [if_neg b2]
  by_cases b3 : t < 65536
  · rw [if_pos b3, if_neg (show ¬ r < t by omega), if_pos (show t < r by omega)]
    simp only [List.cons_append, ord_cons]; rw [if_neg (by omega), if_pos (by omega)]
  rw [if_neg b3]
  simp only [List.cons_append, List.nil_append, ord_cons]
  by_cases h : r < t
  · rw [if_pos h]
    by_cases h1 : r / 262144 = t / 262144
    · rw [if_neg (by omega), if_neg (by omega)]
      by_cases h2 : r / 4096 % 64 = t / 4096 % 64
      · rw [if_neg (by omega), if_neg (by omega)]
        by_cases h3 : r / 64 % 64 = t / 64 % 64
        · rw [if_neg (by omega), if_neg (by omega), if_pos (by omega)]
        · rw [if_pos (by omega)]
      · rw [if_pos (by omega)]
    · rw [if_pos (by omega)]
  · rw [if_neg h]
    by_cases h' : t < r
    · rw [if_pos h']
      by_cases h1 : r / 262144 = t / 262144
      · rw [if_neg (by omega), if_neg (by omega)]
        by_cases h2 : r / 4096 % 64 = t / 4096 % 64
        · rw [if_neg (by omega), if_neg (by omega)]
          by_cases h3 : r / 64 % 64 = t / 64 % 64
          · rw [if_neg (by omega), if_neg (by omega), if_neg (by omega), if_pos (by omega)]
          · rw [if_neg (by omega), if_pos (by omega)]
        · rw [if_neg (by omega), if_pos (by omega)]
      · rw [if_neg (by omega), if_pos (by omega)]
    · rw [if_neg h']
      have : r = t := by omega
      subst this
      simp

theorem enc_inj {xs ys : List Int} (hx : ∀ r ∈ xs, 0 ≤ r ∧ r ≤ 1114111) (hy : ∀ r ∈ ys, 0 ≤ r ∧ r ≤ 1114111) (h : xs.flatMap enc = ys.flatMap enc) : xs = ys := by
  induction xs generalizing ys with
  | nil =>
    cases ys with
    | nil => rfl
    | cons y ys =>
      rw [List.flatMap_nil, List.flatMap_cons] at h
      have := congrArg List.length h
      simp only [List.length_append, List.length_nil] at this
      have e : (enc y).length ≠ 0 := by unfold enc; (repeat' split) <;> simp
      omega
  | cons x xs ih =>
    cases ys with
    | nil =>
      rw [List.flatMap_nil, List.flatMap_cons] at h
      have := congrArg List.length h
      simp only [List.length_append, List.length_nil] at this
      have e : (enc x).length ≠ 0 := by unfold enc; (repeat' split) <;> simp
      omega
    | cons y ys =>
      rw [List.flatMap_cons, List.flatMap_cons] at h
      have ho := ord_enc x y (hx x (List.mem_cons_self ..)) (hy y (List.mem_cons_self ..)) (xs.flatMap enc) (ys.flatMap enc)
      rw [h, ord_refl] at ho
      have hxy : x = y := by
        by_cases c : x < y
        · rw [if_pos c] at ho; omega
        · rw [if_neg c] at ho
          by_cases c' : y < x
          · rw [if_pos c'] at ho; omega
          · omega
      subst hxy
      rw [List.append_cancel_left h |> ih (fun r hr => hx r (List.mem_cons_of_mem _ hr)) (fun r hr => hy r (List.mem_cons_of_mem _ hr))]
/-- a number that may be written -/
theorem encode_nums (r : Int) (h : 0 ≤ r ∧ r ≤ 1114111) (h2 : r < 55296 ∨ 57343 < r) : nums (Utf8.encode r) = enc r := by
  obtain ⟨n, rfl⟩ : ∃ n : Nat, r = n := ⟨r.toNat, by omega⟩
  have hv : Utf8.valid (n : Int) = true := by simp [Utf8.valid]; omega
  unfold Utf8.encode enc
  simp only [hv, if_true, Int.toNat_natCast]
  by_cases c1 : n < 128
  · rw [if_pos (show n < 0x80 from c1), if_pos (show (n : Int) < 128 by omega)]
    simp [nums]; omega
  rw [if_neg (show ¬ n < 0x80 from c1), if_neg (show ¬ (n : Int) < 128 by omega)]
  by_cases c2 : n < 2048
  · rw [if_pos (show n < 0x800 from c2), if_pos (show (n : Int) < 2048 by omega)]
    simp [nums]; omega
  rw [if_neg (show ¬ n < 0x800 from c2), if_neg (show ¬ (n : Int) < 2048 by omega)]
  by_cases c3 : n < 65536
  · rw [if_pos (show n < 0x10000 from c3), if_pos (show (n : Int) < 65536 by omega)]
    simp [nums]; omega
  rw [if_neg (show ¬ n < 0x10000 from c3), if_neg (show ¬ (n : Int) < 65536 by omega)]
  simp [nums]; omega
theorem nums_app (a b : ByteArray) : nums (a ++ b) = nums a ++ nums b := by simp [nums]
theorem runes_nums (xs : List Int) (h : ∀ r ∈ xs, (0 ≤ r ∧ r ≤ 1114111) ∧ (r < 55296 ∨ 57343 < r)) : nums (runesBytes xs) = xs.flatMap enc := by
  have key : ∀ (xs : List Int) (s : ByteArray), (∀ r ∈ xs, (0 ≤ r ∧ r ≤ 1114111) ∧ (r < 55296 ∨ 57343 < r)) → nums (xs.foldl (fun r n => r ++ Utf8.encode n) s) = nums s ++ xs.flatMap enc := by
    intro xs
    induction xs with
    | nil => intro s _; simp
    | cons x xs ih =>
      intro s h
      have hx := h x (List.mem_cons_self ..)
      rw [List.foldl_cons, ih _ (fun r hr => h r (List.mem_cons_of_mem _ hr)), nums_app, encode_nums x hx.1 hx.2, List.flatMap_cons, List.append_assoc]
  have := key xs ByteArray.empty h
  unfold runesBytes
  rw [this]; simp [nums]
theorem runes_inj {xs ys : List Int} (hx : ∀ r ∈ xs, (0 ≤ r ∧ r ≤ 1114111) ∧ (r < 55296 ∨ 57343 < r)) (hy : ∀ r ∈ ys, (0 ≤ r ∧ r ≤ 1114111) ∧ (r < 55296 ∨ 57343 < r)) (h : runesBytes xs = runesBytes ys) : xs = ys :=
  enc_inj (fun r hr => (hx r hr).1) (fun r hr => (hy r hr).1) (by rw [← runes_nums xs hx, ← runes_nums ys hy, h])
end Go.Proofs.YtchjjfjjcdjjcaaGreatDoor
