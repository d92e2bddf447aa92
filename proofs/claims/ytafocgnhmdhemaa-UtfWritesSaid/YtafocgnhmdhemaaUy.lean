/- Texts in order of their bytes are in order of their scalars: in plain words. -/
import Derived.Test.YtafocgnhmdhemaaUt
import Derived.Test.YtafocgnhmdhemaaUr
import Derived.Test.YtafocgnhmdhemaaOrd
import Derived.Lib.Bytealg
namespace Go.Proofs.Ytafocgnhmdhemaa
open Go.RowKit
open PlainAid (bt)

/-- a text's bytes as numbers -/
def nums (s : ByteArray) : List Int := s.data.toList.map fun b => (b.toNat : Int)
theorem nums_len (s : ByteArray) : (nums s).length = s.size := by unfold nums; rw [List.length_map]; rfl
theorem nums_at (s : ByteArray) (k : Nat) (h : k < s.size) : (nums s)[k]? = some (bt s k) := by
  unfold nums bt
  rw [dif_pos h, List.getElem?_map, Array.getElem?_toList, Array.getElem?_eq_getElem (show k < s.data.size from h)]; rfl
theorem cb_ord (a b : List UInt8) : Lib.compareBytes a b = ord (a.map fun b => (b.toNat : Int)) (b.map fun b => (b.toNat : Int)) := by
  induction a generalizing b with
  | nil => cases b <;> rfl
  | cons x xs ih =>
    cases b with
    | nil => rfl
    | cons y ys =>
      simp only [List.map_cons, ord, Lib.compareBytes, ← ih, UInt8.lt_iff_toNat_lt, Int.ofNat_lt]
theorem fm_form (s : ByteArray) (p : Nat) (h : fmN s p ≠ 0) : sc (fmR s p) = true ∧ lg (fmR s p) = fmN s p ∧ ∀ (k : Nat) x, (enc (fmR s p))[k]? = some x → bt s (p + k) = x := by
  have hz := fmN_size s p h
  have h4 := fmN_le s p
  obtain ⟨e1, e2, e3, e4⟩ := fm_excl s p
  by_cases c1 : fmN s p = 1
  · have hi := e1.1 c1
    obtain ⟨g1, g2⟩ := fm_yes1 s p hi
    obtain ⟨k1, k2⟩ := (is1_iff s p (by omega)).2 hi
    rw [g1, c1]
    exact ⟨k1, (str_is s _ p 1 (by omega) k1).1 k2⟩
  by_cases c2 : fmN s p = 2
  · have hi := e2.1 c2
    obtain ⟨g1, g2⟩ := fm_yes2 s p hi
    obtain ⟨k1, k2⟩ := ((is2_iff s p (by omega)).1).2 hi
    rw [g1, c2, ← (is2_iff s p (by omega)).2 hi]
    exact ⟨k1, (str_is s _ p 2 (by omega) k1).1 k2⟩
  by_cases c3 : fmN s p = 3
  · have hi := e3.1 c3
    obtain ⟨g1, g2⟩ := fm_yes3 s p hi
    obtain ⟨k1, k2⟩ := ((is3_iff s p (by omega)).1).2 hi
    rw [g1, c3, ← (is3_iff s p (by omega)).2 hi]
    exact ⟨k1, (str_is s _ p 3 (by omega) k1).1 k2⟩
  have c4 : fmN s p = 4 := by omega
  have hi := e4.1 c4
  obtain ⟨g1, g2⟩ := fm_yes4 s p hi
  obtain ⟨k1, k2⟩ := ((is4_iff s p (by omega)).1).2 hi
  rw [g1, c4, ← (is4_iff s p (by omega)).2 hi]
  exact ⟨k1, (str_is s _ p 4 (by omega) k1).1 k2⟩
theorem nums_form (s : ByteArray) (p : Nat) (h : fmN s p ≠ 0) : (nums s).drop p = enc (fmR s p) ++ (nums s).drop (p + fmN s p) := by
  obtain ⟨_, h2, h3⟩ := fm_form s p h
  have hz := fmN_size s p h
  apply List.ext_getElem?
  intro k
  have hl : (enc (fmR s p)).length = fmN s p := by rw [enc_len, h2]
  by_cases hk : k < fmN s p
  · rw [List.getElem?_append_left (by omega), List.getElem?_drop, nums_at s (p + k) (by omega)]
    have hx : (enc (fmR s p))[k]? = some ((enc (fmR s p))[k]'(by omega)) := List.getElem?_eq_getElem (by omega)
    rw [hx, h3 k _ hx]
  · rw [List.getElem?_append_right (by omega), List.getElem?_drop, List.getElem?_drop, hl]
    congr 1; omega
theorem ord_cons (x y : Int) (xs ys : List Int) : ord (x :: xs) (y :: ys) = if x < y then -1 else if y < x then 1 else ord xs ys := rfl
/-- forms stand in order as their scalars do -/
theorem ord_enc (r t : Int) (hr : 0 ≤ r ∧ r ≤ 1114111) (ht : 0 ≤ t ∧ t ≤ 1114111) (X Y : List Int) :
    ord (enc r ++ X) (enc t ++ Y) = if r < t then -1 else if t < r then 1 else ord X Y := by
  unfold enc
  by_cases a1 : r < 128
  · rw [if_pos a1]
    by_cases b1 : t < 128
    · rw [if_pos b1]; rfl
    · rw [if_neg b1]
      rw [if_pos (show r < t by omega)]
      (repeat' split) <;> (simp only [List.cons_append, ord_cons]; rw [if_pos (by omega)])
  rw [if_neg a1]
  by_cases a2 : r < 2048
  · rw [if_pos a2]
    by_cases b1 : t < 128
    · rw [if_pos b1, if_neg (show ¬ r < t by omega), if_pos (show t < r by omega)]
      simp only [List.cons_append, ord_cons]; rw [if_neg (by omega), if_pos (by omega)]
    rw [if_neg b1]
    by_cases b2 : t < 2048
    · rw [if_pos b2]
      simp only [List.cons_append, List.nil_append, ord_cons]
      by_cases h : r < t
      · rw [if_pos h]
        by_cases h1 : r / 64 = t / 64
        · rw [if_neg (by omega), if_neg (by omega), if_pos (by omega)]
        · rw [if_pos (by omega)]
      · rw [if_neg h]
        by_cases h' : t < r
        · rw [if_pos h']
          by_cases h1 : r / 64 = t / 64
          · rw [if_neg (by omega), if_neg (by omega), if_neg (by omega), if_pos (by omega)]
          · rw [if_neg (by omega), if_pos (by omega)]
        · rw [if_neg h']
          have : r = t := by omega
          subst this
          rw [if_neg (by omega), if_neg (by omega), if_neg (by omega), if_neg (by omega)]
    · rw [if_neg b2, if_pos (show r < t by omega)]
      (repeat' split) <;> (simp only [List.cons_append, ord_cons]; rw [if_pos (by omega)])
  rw [if_neg a2]
  by_cases a3 : r < 65536
  · rw [if_pos a3]
    by_cases b1 : t < 128
    · rw [if_pos b1, if_neg (show ¬ r < t by omega), if_pos (show t < r by omega)]
      simp only [List.cons_append, ord_cons]; rw [if_neg (by omega), if_pos (by omega)]
    rw [if_neg b1]
    by_cases b2 : t < 2048
    · rw [if_pos b2, if_neg (show ¬ r < t by omega), if_pos (show t < r by omega)]
      simp only [List.cons_append, ord_cons]; rw [if_neg (by omega), if_pos (by omega)]
    rw [if_neg b2]
    by_cases b3 : t < 65536
    · rw [if_pos b3]
      simp only [List.cons_append, List.nil_append, ord_cons]
      by_cases h : r < t
      · rw [if_pos h]
        by_cases h1 : r / 4096 = t / 4096
        · rw [if_neg (by omega), if_neg (by omega)]
          by_cases h2 : r / 64 % 64 = t / 64 % 64
          · rw [if_neg (by omega), if_neg (by omega), if_pos (by omega)]
          · rw [if_pos (by omega)]
        · rw [if_pos (by omega)]
      · rw [if_neg h]
        by_cases h' : t < r
        · rw [if_pos h']
          by_cases h1 : r / 4096 = t / 4096
          · rw [if_neg (by omega), if_neg (by omega)]
            by_cases h2 : r / 64 % 64 = t / 64 % 64
            · rw [if_neg (by omega), if_neg (by omega), if_neg (by omega), if_pos (by omega)]
            · rw [if_neg (by omega), if_pos (by omega)]
          · rw [if_neg (by omega), if_pos (by omega)]
        · rw [if_neg h']
          have : r = t := by omega
          subst this
          rw [if_neg (by omega), if_neg (by omega), if_neg (by omega), if_neg (by omega), if_neg (by omega), if_neg (by omega)]
    · rw [if_neg b3, if_pos (show r < t by omega)]
      simp only [List.cons_append, ord_cons]; rw [if_pos (by omega)]
  rw [if_neg a3]
  by_cases b1 : t < 128
  · rw [if_pos b1, if_neg (show ¬ r < t by omega), if_pos (show t < r by omega)]
    simp only [List.cons_append, ord_cons]; rw [if_neg (by omega), if_pos (by omega)]
  rw [if_neg b1]
  by_cases b2 : t < 2048
  · rw [if_pos b2, if_neg (show ¬ r < t by omega), if_pos (show t < r by omega)]
    simp only [List.cons_append, ord_cons]; rw [if_neg (by omega), if_pos (by omega)]
  rw [if_neg b2]
  by_cases b3 : t < 65536
  · rw [if_pos b3, if_neg (show ¬ r < t by omega), if_pos (show t < r by omega)]
    simp only [List.cons_append, ord_cons]; rw [if_neg (by omega), if_pos (by omega)]
  rw [if_neg b3]
  simp only [List.cons_append, List.nil_append, ord_cons]
  by_cases h : r < t
  · rw [if_pos h]
    by_cases h1 : r / 262144 = t / 262144
    · rw [if_neg (by omega), if_neg (by omega)]
      by_cases h2 : r / 4096 % 64 = t / 4096 % 64
      · rw [if_neg (by omega), if_neg (by omega)]
        by_cases h3 : r / 64 % 64 = t / 64 % 64
        · rw [if_neg (by omega), if_neg (by omega), if_pos (by omega)]
        · rw [if_pos (by omega)]
      · rw [if_pos (by omega)]
    · rw [if_pos (by omega)]
  · rw [if_neg h]
    by_cases h' : t < r
    · rw [if_pos h']
      by_cases h1 : r / 262144 = t / 262144
      · rw [if_neg (by omega), if_neg (by omega)]
        by_cases h2 : r / 4096 % 64 = t / 4096 % 64
        · rw [if_neg (by omega), if_neg (by omega)]
          by_cases h3 : r / 64 % 64 = t / 64 % 64
          · rw [if_neg (by omega), if_neg (by omega), if_neg (by omega), if_pos (by omega)]
          · rw [if_neg (by omega), if_pos (by omega)]
        · rw [if_neg (by omega), if_pos (by omega)]
      · rw [if_neg (by omega), if_pos (by omega)]
    · rw [if_neg h']
      have : r = t := by omega
      subst this
      simp
theorem sc_bd {r : Int} (h : sc r = true) : 0 ≤ r ∧ r ≤ 1114111 := by unfold sc at h; simp at h; omega
theorem ord_texts (a b : ByteArray) : ∀ (n p q : Nat), a.size - p ≤ n → BD a p = none → BD b q = none → p ≤ a.size → q ≤ b.size → ord ((nums a).drop p) ((nums b).drop q) = ord (DC a p) (DC b q) := by
  intro n
  have ends : ∀ (s : ByteArray) (p : Nat), s.size ≤ p → (nums s).drop p = [] ∧ DC s p = [] := fun s p h => ⟨List.drop_eq_nil_of_le (by rw [nums_len]; exact h), by rw [DC_eq, if_pos h]⟩
  have goes : ∀ (s : ByteArray) (p : Nat), BD s p = none → p < s.size → fmN s p ≠ 0 ∧ BD s (p + fmN s p) = none ∧ DC s p = fmR s p :: DC s (p + fmN s p) := by
    intro s p hb h
    rw [BD_eq, if_neg (by omega)] at hb
    by_cases z : fmN s p = 0
    · rw [if_pos z] at hb; cases hb
    · rw [if_neg z] at hb
      exact ⟨z, hb, by rw [DC_eq, if_neg (by omega), if_neg z]⟩
  induction n with
  | zero =>
    intro p q h1 ha hb hp hq
    obtain ⟨e1, e2⟩ := ends a p (by omega)
    rw [e1, e2]
    by_cases c : b.size ≤ q
    · obtain ⟨e3, e4⟩ := ends b q c
      rw [e3, e4]
    · obtain ⟨g1, g2, g3⟩ := goes b q hb (by omega)
      rw [g3, nums_form b q g1]
      have := (fm_form b q g1).2.1
      have hl := enc_pos (fmR b q)
      cases he : enc (fmR b q) with
      | nil => have := enc_len (fmR b q); rw [he] at this; simp at this; omega
      | cons x xs => rfl
  | succ n ih =>
    intro p q h1 ha hb hp hq
    by_cases ca : a.size ≤ p
    · obtain ⟨e1, e2⟩ := ends a p ca
      rw [e1, e2]
      by_cases c : b.size ≤ q
      · obtain ⟨e3, e4⟩ := ends b q c
        rw [e3, e4]
      · obtain ⟨g1, g2, g3⟩ := goes b q hb (by omega)
        rw [g3, nums_form b q g1]
        have := (fm_form b q g1).2.1
        have hl := enc_pos (fmR b q)
        cases he : enc (fmR b q) with
        | nil => have := enc_len (fmR b q); rw [he] at this; simp at this; omega
        | cons x xs => rfl
    · obtain ⟨f1, f2, f3⟩ := goes a p ha (by omega)
      by_cases c : b.size ≤ q
      · obtain ⟨e3, e4⟩ := ends b q c
        rw [e3, e4, f3, nums_form a p f1]
        have hl := enc_pos (fmR a p)
        cases he : enc (fmR a p) with
        | nil => have := enc_len (fmR a p); rw [he] at this; simp at this; omega
        | cons x xs => rfl
      · obtain ⟨g1, g2, g3⟩ := goes b q hb (by omega)
        rw [f3, g3, nums_form a p f1, nums_form b q g1, ord_cons, ord_enc _ _ (sc_bd (fm_form a p f1).1) (sc_bd (fm_form b q g1).1)]
        have := fmN_size a p f1
        have := fmN_size b q g1
        rw [ih _ _ (by omega) f2 g2 (by omega) (by omega)]
/-- texts compare by their scalars as by their bytes -/
theorem ord_whole (a b : ByteArray) (ha : BD a 0 = none) (hb : BD b 0 = none) : Lib.compareBytes a.data.toList b.data.toList = ord (dcV a) (dcV b) := by
  rw [cb_ord]
  have := ord_texts a b a.size 0 0 (by omega) ha hb (Nat.zero_le _) (Nat.zero_le _)
  simp only [List.drop_zero] at this
  unfold dcV; rw [ha, hb]
  exact this
end Go.Proofs.Ytafocgnhmdhemaa
