/- UTF-8 in plain words: the reference's way to say which scalar's form stands at a place. -/
import Derived.Test.YtafocgnhmdhemaaUspec
namespace Go.Proofs.Ytafocgnhmdhemaa
open Go.RowKit
open PlainAid (bt)

theorem bt_str' (l : List Int) (k : Nat) (x : Int) (h : l[k]? = some x) (h0 : 0 ≤ x) (h1 : x < 256) : bt (strOfNums l) k = x := by
  have hk : k < l.length := (List.getElem?_eq_some_iff.1 h).1
  unfold bt
  rw [dif_pos (by rw [strOfNums_size]; exact hk)]
  have e1 : (strOfNums l).data[k]? = some (UInt8.ofNat x.toNat) := by
    rw [← Array.getElem?_toList, strOfNums_data, List.getElem?_map, h]; rfl
  have e2 : (strOfNums l).data[k]'(by rw [← Array.length_toList, strOfNums_data, List.length_map]; exact hk) = UInt8.ofNat x.toNat := (Array.getElem?_eq_some_iff.1 e1).2
  show (((strOfNums l).data[k]'_).toNat : Int) = x
  rw [e2, UInt8.toNat_ofNat']
  omega
theorem bt_ext (a b : ByteArray) (hs : a.size = b.size) (h : ∀ k, k < a.size → bt a k = bt b k) : a = b := by
  apply ByteArray.ext
  apply Array.ext hs
  intro i h1 h2
  have e := h i h1
  unfold bt at e
  rw [dif_pos (show i < a.size from h1), dif_pos (show i < b.size from h2)] at e
  have e' : (a[i]'h1).toNat = (b[i]'h2).toNat := by exact_mod_cast e
  exact UInt8.toNat_inj.1 e'
theorem enc_bd (r : Int) (h : sc r = true) : ∀ x ∈ enc r, 0 ≤ x ∧ x < 256 := by
  have hr : 0 ≤ r ∧ r ≤ 1114111 := by unfold sc at h; simp at h; omega
  intro x hx
  unfold enc at hx
  split at hx
  · simp at hx; omega
  · split at hx
    · simp at hx; omega
    · split at hx
      · simp at hx; omega
      · simp at hx; omega
theorem enc_len (r : Int) : (enc r).length = lg r := by unfold enc lg; repeat' split <;> try rfl
theorem enc_pos (r : Int) : 1 ≤ lg r ∧ lg r ≤ 4 := by unfold lg; constructor <;> (repeat' split) <;> omega
/-- the form of r stands in s from i on -/
theorem str_is (s : ByteArray) (r : Int) (i n : Nat) (h : i + n ≤ s.size) (hr : sc r = true) :
    (strOfNums (enc r) = s.extract i (i + n)) ↔ (lg r = n ∧ ∀ k x, (enc r)[k]? = some x → bt s (i + k) = x) := by
  have hsz := size_extract' s i (i + n) h (by omega)
  have hb := enc_bd r hr
  constructor
  · intro e
    have e1 : (enc r).length = n := by
      have := congrArg ByteArray.size e; rw [strOfNums_size, hsz] at this; omega
    refine ⟨by rw [← enc_len]; exact e1, fun k x hk => ?_⟩
    have hk' : k < (enc r).length := (List.getElem?_eq_some_iff.1 hk).1
    have hx := hb x (List.mem_of_getElem? hk)
    rw [← bt_extract s i (i + n) k h (by omega), ← e]
    exact bt_str' _ _ _ hk hx.1 hx.2
  · rintro ⟨e1, e2⟩
    rw [← enc_len] at e1
    apply bt_ext
    · rw [strOfNums_size, hsz]; omega
    · intro k hk
      rw [strOfNums_size] at hk
      rw [bt_extract s i (i + n) k h (by omega)]
      have hx : (enc r)[k]? = some ((enc r)[k]) := List.getElem?_eq_getElem hk
      have hm := hb _ (List.mem_of_getElem? hx)
      rw [bt_str' _ _ _ hx hm.1 hm.2]
      exact (e2 k _ hx).symm
/-- what the reference reckons of n bytes -/
def q1 (s : ByteArray) (a : Nat) : Int := bt s a
def q2 (s : ByteArray) (a : Nat) : Int := (bt s a - 192) * 64 + bt s (a + 1) - 128
def q3 (s : ByteArray) (a : Nat) : Int := ((bt s a - 224) * 64 + bt s (a + 1) - 128) * 64 + bt s (a + 2) - 128
def q4 (s : ByteArray) (a : Nat) : Int := (((bt s a - 240) * 64 + bt s (a + 1) - 128) * 64 + bt s (a + 2) - 128) * 64 + bt s (a + 3) - 128
theorem is1_iff (s : ByteArray) (a : Nat) (h : a + 1 ≤ s.size) : (sc (q1 s a) = true ∧ strOfNums (enc (q1 s a)) = s.extract a (a + 1)) ↔ is1 s a = true := by
  have b0 := PlainAid.bt_nonneg s a
  constructor
  · rintro ⟨h1, h2⟩
    have := ((str_is s (q1 s a) a 1 h h1).1 h2).1
    unfold q1 lg at this
    have : bt s a < 128 := by
      by_cases c : bt s a < 128
      · exact c
      · rw [if_neg c] at this; split at this <;> (try split at this) <;> omega
    unfold is1; rw [decide_eq_true this, decide_eq_true (show a < s.size by omega)]; rfl
  · intro hi
    have hlt : bt s a < 128 := by simp only [is1, Bool.and_eq_true, decide_eq_true_eq] at hi; exact hi.2
    have h1 : sc (q1 s a) = true := by unfold q1 sc; simp; omega
    refine ⟨h1, (str_is s (q1 s a) a 1 h h1).2 ⟨by unfold q1 lg; rw [if_pos hlt], fun k x hk => ?_⟩⟩
    unfold q1 enc at hk
    rw [if_pos hlt] at hk
    cases k with
    | zero => simp at hk; rw [← hk]; rfl
    | succ k => simp at hk
theorem is2_iff (s : ByteArray) (a : Nat) (h : a + 2 ≤ s.size) : ((sc (q2 s a) = true ∧ strOfNums (enc (q2 s a)) = s.extract a (a + 2)) ↔ is2 s a = true) ∧ (is2 s a = true → q2 s a = r2 s a) := by
  have b0 := PlainAid.bt_nonneg s a
  have b1 := PlainAid.bt_nonneg s (a + 1)
  have c0 := PlainAid.bt_le s a
  have c1 := PlainAid.bt_le s (a + 1)
  have key : is2 s a = true → q2 s a = r2 s a ∧ (192 ≤ bt s a ∧ bt s a < 224) ∧ (128 ≤ bt s (a + 1) ∧ bt s (a + 1) < 192) ∧ sc (r2 s a) = true ∧ lg (r2 s a) = 2 := by
    intro hi
    simp only [is2, co, Bool.and_eq_true, decide_eq_true_eq] at hi
    obtain ⟨⟨⟨⟨_, f⟩, g⟩, k⟩, l⟩ := hi
    exact ⟨by unfold q2 r2; omega, f, g, k, l⟩
  refine ⟨⟨?_, ?_⟩, fun hi => (key hi).1⟩
  · rintro ⟨h1, h2⟩
    obtain ⟨e1, e2⟩ := (str_is s (q2 s a) a 2 h h1).1 h2
    have hr : 128 ≤ q2 s a ∧ q2 s a < 2048 := by
      unfold lg at e1; by_cases c : q2 s a < 128
      · rw [if_pos c] at e1; cases e1
      · rw [if_neg c] at e1
        by_cases d : q2 s a < 2048
        · omega
        · rw [if_neg d] at e1; split at e1 <;> cases e1
    have he : enc (q2 s a) = [192 + q2 s a / 64, 128 + q2 s a % 64] := by unfold enc; rw [if_neg (by omega), if_pos hr.2]
    rw [he] at e2
    have f0 := e2 0 _ rfl
    have f1 := e2 1 _ rfl
    simp only [Nat.add_zero] at f0
    have er : q2 s a = r2 s a := by unfold r2; rw [f0, f1]; omega
    rw [← er.symm] at er
    unfold is2
    have e3 : r2 s a = q2 s a := by unfold r2; rw [f0, f1]; omega
    rw [e3, h1, e1, decide_eq_true h, decide_eq_true (show 192 ≤ bt s a ∧ bt s a < 224 by omega), show co (bt s (a + 1)) = true from decide_eq_true (by omega)]
    rfl
  · intro hi
    obtain ⟨e, f, g, k, l⟩ := key hi
    rw [e]
    refine ⟨k, (str_is s (r2 s a) a 2 h k).2 ⟨l, fun j x hj => ?_⟩⟩
    have hr : 128 ≤ r2 s a ∧ r2 s a < 2048 := by
      unfold lg at l; by_cases c : r2 s a < 128
      · rw [if_pos c] at l; cases l
      · rw [if_neg c] at l
        by_cases d : r2 s a < 2048
        · omega
        · rw [if_neg d] at l; split at l <;> cases l
    have he : enc (r2 s a) = [192 + r2 s a / 64, 128 + r2 s a % 64] := by unfold enc; rw [if_neg (by omega), if_pos hr.2]
    rw [he] at hj
    have er : r2 s a = bt s a % 32 * 64 + bt s (a + 1) % 64 := rfl
    match j with
    | 0 => simp at hj; rw [← hj, Nat.add_zero]; omega
    | 1 => simp at hj; rw [← hj]; omega
    | j + 2 => simp at hj
theorem is3_iff (s : ByteArray) (a : Nat) (h : a + 3 ≤ s.size) : ((sc (q3 s a) = true ∧ strOfNums (enc (q3 s a)) = s.extract a (a + 3)) ↔ is3 s a = true) ∧ (is3 s a = true → q3 s a = r3 s a) := by
  have b0 := PlainAid.bt_nonneg s a
  have b1 := PlainAid.bt_nonneg s (a + 1)
  have b2 := PlainAid.bt_nonneg s (a + 2)
  have c0 := PlainAid.bt_le s a
  have c1 := PlainAid.bt_le s (a + 1)
  have c2 := PlainAid.bt_le s (a + 2)
  have key : is3 s a = true → q3 s a = r3 s a ∧ (224 ≤ bt s a ∧ bt s a < 240) ∧ (128 ≤ bt s (a + 1) ∧ bt s (a + 1) < 192) ∧ (128 ≤ bt s (a + 2) ∧ bt s (a + 2) < 192) ∧ sc (r3 s a) = true ∧ lg (r3 s a) = 3 := by
    intro hi
    simp only [is3, co, Bool.and_eq_true, decide_eq_true_eq] at hi
    obtain ⟨⟨⟨⟨⟨_, f⟩, g⟩, g2⟩, k⟩, l⟩ := hi
    exact ⟨by unfold q3 r3; omega, f, g, g2, k, l⟩
  have rng : ∀ r, lg r = 3 → 2048 ≤ r ∧ r < 65536 := by
    intro r l
    unfold lg at l
    by_cases c : r < 128
    · rw [if_pos c] at l; cases l
    · rw [if_neg c] at l
      by_cases d : r < 2048
      · rw [if_pos d] at l; cases l
      · rw [if_neg d] at l
        by_cases e : r < 65536
        · omega
        · rw [if_neg e] at l; cases l
  refine ⟨⟨?_, ?_⟩, fun hi => (key hi).1⟩
  · rintro ⟨h1, h2⟩
    obtain ⟨e1, e2⟩ := (str_is s (q3 s a) a 3 h h1).1 h2
    have hr := rng _ e1
    have he : enc (q3 s a) = [224 + q3 s a / 4096, 128 + q3 s a / 64 % 64, 128 + q3 s a % 64] := by unfold enc; rw [if_neg (by omega), if_neg (by omega), if_pos hr.2]
    rw [he] at e2
    have f0 := e2 0 _ rfl
    have f1 := e2 1 _ rfl
    have f2 := e2 2 _ rfl
    simp only [Nat.add_zero] at f0
    have e3 : r3 s a = q3 s a := by unfold r3; rw [f0, f1, f2]; omega
    unfold is3
    rw [e3, h1, e1, decide_eq_true h, decide_eq_true (show 224 ≤ bt s a ∧ bt s a < 240 by omega), show co (bt s (a + 1)) = true from decide_eq_true (by omega), show co (bt s (a + 2)) = true from decide_eq_true (by omega)]
    rfl
  · intro hi
    obtain ⟨e, f, g, g2, k, l⟩ := key hi
    rw [e]
    refine ⟨k, (str_is s (r3 s a) a 3 h k).2 ⟨l, fun j x hj => ?_⟩⟩
    have hr := rng _ l
    have he : enc (r3 s a) = [224 + r3 s a / 4096, 128 + r3 s a / 64 % 64, 128 + r3 s a % 64] := by unfold enc; rw [if_neg (by omega), if_neg (by omega), if_pos hr.2]
    rw [he] at hj
    have er : r3 s a = (bt s a % 16 * 64 + bt s (a + 1) % 64) * 64 + bt s (a + 2) % 64 := rfl
    match j with
    | 0 => simp at hj; rw [← hj, Nat.add_zero]; omega
    | 1 => simp at hj; rw [← hj]; omega
    | 2 => simp at hj; rw [← hj]; omega
    | j + 3 => simp at hj
theorem is4_iff (s : ByteArray) (a : Nat) (h : a + 4 ≤ s.size) : ((sc (q4 s a) = true ∧ strOfNums (enc (q4 s a)) = s.extract a (a + 4)) ↔ is4 s a = true) ∧ (is4 s a = true → q4 s a = r4 s a) := by
  have b0 := PlainAid.bt_nonneg s a
  have b1 := PlainAid.bt_nonneg s (a + 1)
  have b2 := PlainAid.bt_nonneg s (a + 2)
  have b3 := PlainAid.bt_nonneg s (a + 3)
  have c0 := PlainAid.bt_le s a
  have c1 := PlainAid.bt_le s (a + 1)
  have c2 := PlainAid.bt_le s (a + 2)
  have c3 := PlainAid.bt_le s (a + 3)
  have key : is4 s a = true → q4 s a = r4 s a ∧ (240 ≤ bt s a ∧ bt s a < 248) ∧ (128 ≤ bt s (a + 1) ∧ bt s (a + 1) < 192) ∧ (128 ≤ bt s (a + 2) ∧ bt s (a + 2) < 192) ∧ (128 ≤ bt s (a + 3) ∧ bt s (a + 3) < 192) ∧ sc (r4 s a) = true ∧ lg (r4 s a) = 4 := by
    intro hi
    simp only [is4, co, Bool.and_eq_true, decide_eq_true_eq] at hi
    obtain ⟨⟨⟨⟨⟨⟨_, f⟩, g⟩, g2⟩, g3⟩, k⟩, l⟩ := hi
    exact ⟨by unfold q4 r4; omega, f, g, g2, g3, k, l⟩
  have rng : ∀ r, lg r = 4 → 65536 ≤ r := by
    intro r l
    unfold lg at l
    by_cases c : r < 128
    · rw [if_pos c] at l; cases l
    · rw [if_neg c] at l
      by_cases d : r < 2048
      · rw [if_pos d] at l; cases l
      · rw [if_neg d] at l
        by_cases e : r < 65536
        · rw [if_pos e] at l; cases l
        · omega
  have top : ∀ r, sc r = true → 0 ≤ r ∧ r ≤ 1114111 := by intro r hr; unfold sc at hr; simp at hr; omega
  refine ⟨⟨?_, ?_⟩, fun hi => (key hi).1⟩
  · rintro ⟨h1, h2⟩
    obtain ⟨e1, e2⟩ := (str_is s (q4 s a) a 4 h h1).1 h2
    have hr := rng _ e1
    have ht := top _ h1
    have he : enc (q4 s a) = [240 + q4 s a / 262144, 128 + q4 s a / 4096 % 64, 128 + q4 s a / 64 % 64, 128 + q4 s a % 64] := by unfold enc; rw [if_neg (by omega), if_neg (by omega), if_neg (by omega)]
    rw [he] at e2
    have f0 := e2 0 _ rfl
    have f1 := e2 1 _ rfl
    have f2 := e2 2 _ rfl
    have f3 := e2 3 _ rfl
    simp only [Nat.add_zero] at f0
    have e3 : r4 s a = q4 s a := by unfold r4; rw [f0, f1, f2, f3]; omega
    unfold is4
    rw [e3, h1, e1, decide_eq_true h, decide_eq_true (show 240 ≤ bt s a ∧ bt s a < 248 by omega), show co (bt s (a + 1)) = true from decide_eq_true (by omega), show co (bt s (a + 2)) = true from decide_eq_true (by omega), show co (bt s (a + 3)) = true from decide_eq_true (by omega)]
    rfl
  · intro hi
    obtain ⟨e, f, g, g2, g3, k, l⟩ := key hi
    rw [e]
    refine ⟨k, (str_is s (r4 s a) a 4 h k).2 ⟨l, fun j x hj => ?_⟩⟩
    have hr := rng _ l
    have ht := top _ k
    have he : enc (r4 s a) = [240 + r4 s a / 262144, 128 + r4 s a / 4096 % 64, 128 + r4 s a / 64 % 64, 128 + r4 s a % 64] := by unfold enc; rw [if_neg (by omega), if_neg (by omega), if_neg (by omega)]
    rw [he] at hj
    have er : r4 s a = ((bt s a % 8 * 64 + bt s (a + 1) % 64) * 64 + bt s (a + 2) % 64) * 64 + bt s (a + 3) % 64 := rfl
    match j with
    | 0 => simp at hj; rw [← hj, Nat.add_zero]; omega
    | 1 => simp at hj; rw [← hj]; omega
    | 2 => simp at hj; rw [← hj]; omega
    | 3 => simp at hj; rw [← hj]; omega
    | j + 4 => simp at hj
end Go.Proofs.Ytafocgnhmdhemaa
