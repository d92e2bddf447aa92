/- Pieces of a text, at any place; the next and the last scalar, in plain words. The reference's way to read a form at a place: the walk. UTF-8 in plain words: the reference's way to say which scalar's form stands at a place. Texts in order of their bytes are in order of their scalars: in plain words. The law UtfWrites, walked. -/
import Derived.Test.YtchjjfjjcdjjcaaGreatDoorVh
import Derived.Test.YtchjjfjjcdjjcaaGreatDoorOrd
import Derived.Test.YtchjjfjjcdjjcaaGreatDoorEnc
import Derived.Deep.RegionHeld
import Derived.Lib.Strings
import Derived.Lib.Bytealg
namespace Go.Proofs.YtchjjfjjcdjjcaaGreatDoor
open Go.RowKit
open PlainAid (bt)
theorem fmR_zero (s : ByteArray) (a : Nat) (h : fmN s a = 0) : fmR s a = 0 := by
  unfold fmN at h; unfold fmR
  cases h1 : is1 s a
  · rw [h1] at h
    cases h2 : is2 s a
    · rw [h2] at h
      cases h3 : is3 s a
      · rw [h3] at h
        cases h4 : is4 s a
        · rfl
        · rw [h4] at h; simp at h
      · rw [h3] at h; simp at h
    · rw [h2] at h; simp at h
  · rw [h1] at h; simp at h
theorem fm_excl (s : ByteArray) (a : Nat) : (fmN s a = 1 ↔ is1 s a = true) ∧ (fmN s a = 2 ↔ is2 s a = true) ∧ (fmN s a = 3 ↔ is3 s a = true) ∧ (fmN s a = 4 ↔ is4 s a = true) := by
  obtain ⟨f1, f2, f3, f4⟩ := is_first s a
  unfold fmN
  cases h1 : is1 s a
  · cases h2 : is2 s a
    · cases h3 : is3 s a
      · cases h4 : is4 s a <;> simp
      · have h4 : is4 s a = false := by
          cases h4 : is4 s a
          · rfl
          · have := f3 h3; have := f4 h4; omega
        rw [h4]; simp
    · have h3 : is3 s a = false := by
        cases h3 : is3 s a
        · rfl
        · have := f2 h2; have := f3 h3; omega
      have h4 : is4 s a = false := by
        cases h4 : is4 s a
        · rfl
        · have := f2 h2; have := f4 h4; omega
      rw [h3, h4]; simp
  · have h2 : is2 s a = false := by
      cases h2 : is2 s a
      · rfl
      · have := f1 h1; have := f2 h2; omega
    have h3 : is3 s a = false := by
      cases h3 : is3 s a
      · rfl
      · have := f1 h1; have := f3 h3; omega
    have h4 : is4 s a = false := by
      cases h4 : is4 s a
      · rfl
      · have := f1 h1; have := f4 h4; omega
    rw [h2, h3, h4]; simp
end Go.Proofs.YtchjjfjjcdjjcaaGreatDoor
namespace Go.Proofs.YtchjjfjjcdjjcaaGreatDoor
open Go.RowKit
open PlainAid (bt)
theorem fm_yes1 (s : ByteArray) (a : Nat) (h : is1 s a = true) : fmR s a = bt s a ∧ fmN s a = 1 := by
  obtain ⟨g1, g2, g3, g4⟩ := is_first s a
  have f := g1 h
  have n2 : is2 s a = false := by
    cases hh : is2 s a
    · rfl
    · have := g2 hh; omega
  have n3 : is3 s a = false := by
    cases hh : is3 s a
    · rfl
    · have := g3 hh; omega
  have n4 : is4 s a = false := by
    cases hh : is4 s a
    · rfl
    · have := g4 hh; omega
  unfold fmR fmN
  rw [h, n2, n3, n4]; exact ⟨rfl, rfl⟩
theorem fm_yes2 (s : ByteArray) (a : Nat) (h : is2 s a = true) : fmR s a = r2 s a ∧ fmN s a = 2 := by
  obtain ⟨g1, g2, g3, g4⟩ := is_first s a
  have f := g2 h
  have n1 : is1 s a = false := by
    cases hh : is1 s a
    · rfl
    · have := g1 hh; omega
  have n3 : is3 s a = false := by
    cases hh : is3 s a
    · rfl
    · have := g3 hh; omega
  have n4 : is4 s a = false := by
    cases hh : is4 s a
    · rfl
    · have := g4 hh; omega
  unfold fmR fmN
  rw [h, n1, n3, n4]; exact ⟨rfl, rfl⟩
theorem fm_yes3 (s : ByteArray) (a : Nat) (h : is3 s a = true) : fmR s a = r3 s a ∧ fmN s a = 3 := by
  obtain ⟨g1, g2, g3, g4⟩ := is_first s a
  have f := g3 h
  have n1 : is1 s a = false := by
    cases hh : is1 s a
    · rfl
    · have := g1 hh; omega
  have n2 : is2 s a = false := by
    cases hh : is2 s a
    · rfl
    · have := g2 hh; omega
  have n4 : is4 s a = false := by
    cases hh : is4 s a
    · rfl
    · have := g4 hh; omega
  unfold fmR fmN
  rw [h, n1, n2, n4]; exact ⟨rfl, rfl⟩
theorem fm_yes4 (s : ByteArray) (a : Nat) (h : is4 s a = true) : fmR s a = r4 s a ∧ fmN s a = 4 := by
  obtain ⟨g1, g2, g3, g4⟩ := is_first s a
  have f := g4 h
  have n1 : is1 s a = false := by
    cases hh : is1 s a
    · rfl
    · have := g1 hh; omega
  have n2 : is2 s a = false := by
    cases hh : is2 s a
    · rfl
    · have := g2 hh; omega
  have n3 : is3 s a = false := by
    cases hh : is3 s a
    · rfl
    · have := g3 hh; omega
  unfold fmR fmN
  rw [h, n1, n2, n3]; exact ⟨rfl, rfl⟩

end Go.Proofs.YtchjjfjjcdjjcaaGreatDoor
namespace Go.Proofs.YtchjjfjjcdjjcaaGreatDoor
open Go.RowKit
open PlainAid (bt)

theorem bt_str' (l : List Int) (k : Nat) (x : Int) (h : l[k]? = some x) (h0 : 0 ≤ x) (h1 : x < 256) : bt (strOfNums l) k = x := by
  have hk : k < l.length := (List.getElem?_eq_some_iff.1 h).1
  unfold bt
  rw [dif_pos (by rw [strOfNums_size]; exact hk)]
  have e1 : (strOfNums l).data[k]? = some (UInt8.ofNat x.toNat) := by
    rw [← Array.getElem?_toList, strOfNums_data, List.getElem?_map, h]; rfl
  have e2 : (strOfNums l).data[k]'(by rw [← Array.length_toList, strOfNums_data, List.length_map]; exact hk) = UInt8.ofNat x.toNat := (Array.getElem?_eq_some_iff.1 e1).2
  show (((strOfNums l).data[k]'_).toNat : Int) = x
  rw [e2, UInt8.toNat_ofNat']
  omega
theorem bt_ext (a b : ByteArray) (hs : a.size = b.size) (h : ∀ k, k < a.size → bt a k = bt b k) : a = b := by
  apply ByteArray.ext
  apply Array.ext hs
  intro i h1 h2
  have e := h i h1
  unfold bt at e
  rw [dif_pos (show i < a.size from h1), dif_pos (show i < b.size from h2)] at e
  have e' : (a[i]'h1).toNat = (b[i]'h2).toNat := by exact_mod_cast e
  exact UInt8.toNat_inj.1 e'
/-- the form of r stands in s from i on -/
theorem str_is (s : ByteArray) (r : Int) (i n : Nat) (h : i + n ≤ s.size) (hr : sc r = true) :
    (strOfNums (enc r) = s.extract i (i + n)) ↔ (lg r = n ∧ ∀ k x, (enc r)[k]? = some x → bt s (i + k) = x) := by
  have hsz := size_extract' s i (i + n) h (by omega)
  have hb := enc_bd r hr
  constructor
  · intro e
    have e1 : (enc r).length = n := by
      have := congrArg ByteArray.size e; rw [strOfNums_size, hsz] at this; omega
    refine ⟨by rw [← enc_len]; exact e1, fun k x hk => ?_⟩
    have hk' : k < (enc r).length := (List.getElem?_eq_some_iff.1 hk).1
    have hx := hb x (List.mem_of_getElem? hk)
    rw [← bt_extract s i (i + n) k h (by omega), ← e]
    exact bt_str' _ _ _ hk hx.1 hx.2
  · rintro ⟨e1, e2⟩
    rw [← enc_len] at e1
    apply bt_ext
    · rw [strOfNums_size, hsz]; omega
    · intro k hk
      rw [strOfNums_size] at hk
      rw [bt_extract s i (i + n) k h (by omega)]
      have hx : (enc r)[k]? = some ((enc r)[k]) := List.getElem?_eq_getElem hk
      have hm := hb _ (List.mem_of_getElem? hx)
      rw [bt_str' _ _ _ hx hm.1 hm.2]
      exact (e2 k _ hx).symm
/-- what the reference reckons of n bytes -/
def q1 (s : ByteArray) (a : Nat) : Int := bt s a
def q2 (s : ByteArray) (a : Nat) : Int := (bt s a - 192) * 64 + bt s (a + 1) - 128
def q3 (s : ByteArray) (a : Nat) : Int := ((bt s a - 224) * 64 + bt s (a + 1) - 128) * 64 + bt s (a + 2) - 128
def q4 (s : ByteArray) (a : Nat) : Int := (((bt s a - 240) * 64 + bt s (a + 1) - 128) * 64 + bt s (a + 2) - 128) * 64 + bt s (a + 3) - 128
theorem is1_iff (s : ByteArray) (a : Nat) (h : a + 1 ≤ s.size) : (sc (q1 s a) = true ∧ strOfNums (enc (q1 s a)) = s.extract a (a + 1)) ↔ is1 s a = true := by
  have b0 := PlainAid.bt_nonneg s a
  constructor
  · rintro ⟨h1, h2⟩
    have := ((str_is s (q1 s a) a 1 h h1).1 h2).1
    unfold q1 lg at this
    have : bt s a < 128 := by
      by_cases c : bt s a < 128
      · exact c
      · rw [if_neg c] at this; split at this <;> (try split at this) <;> omega
    unfold is1; rw [decide_eq_true this, decide_eq_true (show a < s.size by omega)]; rfl
  · intro hi
    have hlt : bt s a < 128 := by simp only [is1, Bool.and_eq_true, decide_eq_true_eq] at hi; exact hi.2
    have h1 : sc (q1 s a) = true := by unfold q1 sc; simp; omega
    refine ⟨h1, (str_is s (q1 s a) a 1 h h1).2 ⟨by unfold q1 lg; rw [if_pos hlt], fun k x hk => ?_⟩⟩
    unfold q1 enc at hk
    rw [if_pos hlt] at hk
    cases k with
    | zero => simp at hk; rw [← hk]; rfl
    | succ k => simp at hk
theorem is2_iff (s : ByteArray) (a : Nat) (h : a + 2 ≤ s.size) : ((sc (q2 s a) = true ∧ strOfNums (enc (q2 s a)) = s.extract a (a + 2)) ↔ is2 s a = true) ∧ (is2 s a = true → q2 s a = r2 s a) := by
  have b0 := PlainAid.bt_nonneg s a
  have b1 := PlainAid.bt_nonneg s (a + 1)
  have c0 := PlainAid.bt_le s a
  have c1 := PlainAid.bt_le s (a + 1)
  have key : is2 s a = true → q2 s a = r2 s a ∧ (192 ≤ bt s a ∧ bt s a < 224) ∧ (128 ≤ bt s (a + 1) ∧ bt s (a + 1) < 192) ∧ sc (r2 s a) = true ∧ lg (r2 s a) = 2 := by
    intro hi
    simp only [is2, co, Bool.and_eq_true, decide_eq_true_eq] at hi
    obtain ⟨⟨⟨⟨_, f⟩, g⟩, k⟩, l⟩ := hi
    exact ⟨by unfold q2 r2; omega, f, g, k, l⟩
  refine ⟨⟨?_, ?_⟩, fun hi => (key hi).1⟩
  · rintro ⟨h1, h2⟩
    obtain ⟨e1, e2⟩ := (str_is s (q2 s a) a 2 h h1).1 h2
    have hr : 128 ≤ q2 s a ∧ q2 s a < 2048 := by
      unfold lg at e1; by_cases c : q2 s a < 128
      · rw [if_pos c] at e1; cases e1
      · rw [if_neg c] at e1
        by_cases d : q2 s a < 2048
        · omega
        · rw [if_neg d] at e1; split at e1 <;> cases e1
    have he : enc (q2 s a) = [192 + q2 s a / 64, 128 + q2 s a % 64] := by unfold enc; rw [if_neg (by omega), if_pos hr.2]
    rw [he] at e2
    have f0 := e2 0 _ rfl
    have f1 := e2 1 _ rfl
    simp only [Nat.add_zero] at f0
    have er : q2 s a = r2 s a := by unfold r2; rw [f0, f1]; omega
    rw [← er.symm] at er
    unfold is2
    have e3 : r2 s a = q2 s a := by unfold r2; rw [f0, f1]; omega
    rw [e3, h1, e1, decide_eq_true h, decide_eq_true (show 192 ≤ bt s a ∧ bt s a < 224 by omega), show co (bt s (a + 1)) = true from decide_eq_true (by omega)]
    rfl
  · intro hi
    obtain ⟨e, f, g, k, l⟩ := key hi
    rw [e]
    refine ⟨k, (str_is s (r2 s a) a 2 h k).2 ⟨l, fun j x hj => ?_⟩⟩
    have hr : 128 ≤ r2 s a ∧ r2 s a < 2048 := by
      unfold lg at l; by_cases c : r2 s a < 128
      · rw [if_pos c] at l; cases l
      · rw [if_neg c] at l
        by_cases d : r2 s a < 2048
        · omega
        · rw [if_neg d] at l; split at l <;> cases l
    have he : enc (r2 s a) = [192 + r2 s a / 64, 128 + r2 s a % 64] := by unfold enc; rw [if_neg (by omega), if_pos hr.2]
    rw [he] at hj
    have er : r2 s a = bt s a % 32 * 64 + bt s (a + 1) % 64 := rfl
    match j with
    | 0 => simp at hj; rw [← hj, Nat.add_zero]; omega
    | 1 => simp at hj; rw [← hj]; omega
    | j + 2 => simp at hj
theorem is3_iff (s : ByteArray) (a : Nat) (h : a + 3 ≤ s.size) : ((sc (q3 s a) = true ∧ strOfNums (enc (q3 s a)) = s.extract a (a + 3)) ↔ is3 s a = true) ∧ (is3 s a = true → q3 s a = r3 s a) := by
  have b0 := PlainAid.bt_nonneg s a
  have b1 := PlainAid.bt_nonneg s (a + 1)
  have b2 := PlainAid.bt_nonneg s (a + 2)
  have c0 := PlainAid.bt_le s a
  have c1 := PlainAid.bt_le s (a + 1)
  have c2 := PlainAid.bt_le s (a + 2)
  have key : is3 s a = true → q3 s a = r3 s a ∧ (224 ≤ bt s a ∧ bt s a < 240) ∧ (128 ≤ bt s (a + 1) ∧ bt s (a + 1) < 192) ∧ (128 ≤ bt s (a + 2) ∧ bt s (a + 2) < 192) ∧ sc (r3 s a) = true ∧ lg (r3 s a) = 3 := by
    intro hi
    simp only [is3, co, Bool.and_eq_true, decide_eq_true_eq] at hi
    obtain ⟨⟨⟨⟨⟨_, f⟩, g⟩, g2⟩, k⟩, l⟩ := hi
    exact ⟨by unfold q3 r3; omega, f, g, g2, k, l⟩
  have rng : ∀ r, lg r = 3 → 2048 ≤ r ∧ r < 65536 := by
    intro r l
    unfold lg at l
    by_cases c : r < 128
    · rw [if_pos c] at l; cases l
    · rw [if_neg c] at l
      by_cases d : r < 2048
      · rw [if_pos d] at l; cases l
      · rw [if_neg d] at l
        by_cases e : r < 65536
        · omega
        · rw [if_neg e] at l; cases l
  refine ⟨⟨?_, ?_⟩, fun hi => (key hi).1⟩
  · rintro ⟨h1, h2⟩
    obtain ⟨e1, e2⟩ := (str_is s (q3 s a) a 3 h h1).1 h2
    have hr := rng _ e1
    have he : enc (q3 s a) = [224 + q3 s a / 4096, 128 + q3 s a / 64 % 64, 128 + q3 s a % 64] := by unfold enc; rw [if_neg (by omega), if_neg (by omega), if_pos hr.2]
    rw [he] at e2
    have f0 := e2 0 _ rfl
    have f1 := e2 1 _ rfl
    have f2 := e2 2 _ rfl
    simp only [Nat.add_zero] at f0
    have e3 : r3 s a = q3 s a := by unfold r3; rw [f0, f1, f2]; omega
    unfold is3
    rw [e3, h1, e1, decide_eq_true h, decide_eq_true (show 224 ≤ bt s a ∧ bt s a < 240 by omega), show co (bt s (a + 1)) = true from decide_eq_true (by omega), show co (bt s (a + 2)) = true from decide_eq_true (by omega)]
    rfl
  · intro hi
    obtain ⟨e, f, g, g2, k, l⟩ := key hi
    rw [e]
    refine ⟨k, (str_is s (r3 s a) a 3 h k).2 ⟨l, fun j x hj => ?_⟩⟩
    have hr := rng _ l
    have he : enc (r3 s a) = [224 + r3 s a / 4096, 128 + r3 s a / 64 % 64, 128 + r3 s a % 64] := by unfold enc; rw [if_neg (by omega), if_neg (by omega), if_pos hr.2]
    rw [he] at hj
    have er : r3 s a = (bt s a % 16 * 64 + bt s (a + 1) % 64) * 64 + bt s (a + 2) % 64 := rfl
    match j with
    | 0 => simp at hj; rw [← hj, Nat.add_zero]; omega
    | 1 => simp at hj; rw [← hj]; omega
    | 2 => simp at hj; rw [← hj]; omega
    | j + 3 => simp at hj
theorem is4_iff (s : ByteArray) (a : Nat) (h : a + 4 ≤ s.size) : ((sc (q4 s a) = true ∧ strOfNums (enc (q4 s a)) = s.extract a (a + 4)) ↔ is4 s a = true) ∧ (is4 s a = true → q4 s a = r4 s a) := by
  have b0 := PlainAid.bt_nonneg s a
  have b1 := PlainAid.bt_nonneg s (a + 1)
  have b2 := PlainAid.bt_nonneg s (a + 2)
  have b3 := PlainAid.bt_nonneg s (a + 3)
  have c0 := PlainAid.bt_le s a
  have c1 := PlainAid.bt_le s (a + 1)
  have c2 := PlainAid.bt_le s (a + 2)
  have c3 := PlainAid.bt_le s (a + 3)
  have key : is4 s a = true → q4 s a = r4 s a ∧ (240 ≤ bt s a ∧ bt s a < 248) ∧ (128 ≤ bt s (a + 1) ∧ bt s (a + 1) < 192) ∧ (128 ≤ bt s (a + 2) ∧ bt s (a + 2) < 192) ∧ (128 ≤ bt s (a + 3) ∧ bt s (a + 3) < 192) ∧ sc (r4 s a) = true ∧ lg (r4 s a) = 4 := by
    intro hi
    simp only [is4, co, Bool.and_eq_true, decide_eq_true_eq] at hi
    obtain ⟨⟨⟨⟨⟨⟨_, f⟩, g⟩, g2⟩, g3⟩, k⟩, l⟩ := hi
    exact ⟨by unfold q4 r4; omega, f, g, g2, g3, k, l⟩
  have rng : ∀ r, lg r = 4 → 65536 ≤ r := by
    intro r l
    unfold lg at l
    by_cases c : r < 128
    · rw [if_pos c] at l; cases l
    · rw [if_neg c] at l
      by_cases d : r < 2048
      · rw [if_pos d] at l; cases l
      · rw [if_neg d] at l
        by_cases e : r < 65536
        · rw [if_pos e] at l; cases l
        · omega
  have top : ∀ r, sc r = true → 0 ≤ r ∧ r ≤ 1114111 := by intro r hr; unfold sc at hr; simp at hr; omega
  refine ⟨⟨?_, ?_⟩, fun hi => (key hi).1⟩
  · rintro ⟨h1, h2⟩
    obtain ⟨e1, e2⟩ := (str_is s (q4 s a) a 4 h h1).1 h2
    have hr := rng _ e1
    have ht := top _ h1
    have he : enc (q4 s a) = [240 + q4 s a / 262144, 128 + q4 s a / 4096 % 64, 128 + q4 s a / 64 % 64, 128 + q4 s a % 64] := by unfold enc; rw [if_neg (by omega), if_neg (by omega), if_neg (by omega)]
    rw [he] at e2
    have f0 := e2 0 _ rfl
    have f1 := e2 1 _ rfl
    have f2 := e2 2 _ rfl
    have f3 := e2 3 _ rfl
    simp only [Nat.add_zero] at f0
    have e3 : r4 s a = q4 s a := by unfold r4; rw [f0, f1, f2, f3]; omega
    unfold is4
    rw [e3, h1, e1, decide_eq_true h, decide_eq_true (show 240 ≤ bt s a ∧ bt s a < 248 by omega), show co (bt s (a + 1)) = true from decide_eq_true (by omega), show co (bt s (a + 2)) = true from decide_eq_true (by omega), show co (bt s (a + 3)) = true from decide_eq_true (by omega)]
    rfl
  · intro hi
    obtain ⟨e, f, g, g2, g3, k, l⟩ := key hi
    rw [e]
    refine ⟨k, (str_is s (r4 s a) a 4 h k).2 ⟨l, fun j x hj => ?_⟩⟩
    have hr := rng _ l
    have ht := top _ k
    have he : enc (r4 s a) = [240 + r4 s a / 262144, 128 + r4 s a / 4096 % 64, 128 + r4 s a / 64 % 64, 128 + r4 s a % 64] := by unfold enc; rw [if_neg (by omega), if_neg (by omega), if_neg (by omega)]
    rw [he] at hj
    have er : r4 s a = ((bt s a % 8 * 64 + bt s (a + 1) % 64) * 64 + bt s (a + 2) % 64) * 64 + bt s (a + 3) % 64 := rfl
    match j with
    | 0 => simp at hj; rw [← hj, Nat.add_zero]; omega
    | 1 => simp at hj; rw [← hj]; omega
    | 2 => simp at hj; rw [← hj]; omega
    | 3 => simp at hj; rw [← hj]; omega
    | j + 4 => simp at hj
end Go.Proofs.YtchjjfjjcdjjcaaGreatDoor
namespace Go.Proofs.YtchjjfjjcdjjcaaGreatDoor
open Go.RowKit
open PlainAid (bt)

theorem nums_at (s : ByteArray) (k : Nat) (h : k < s.size) : (nums s)[k]? = some (bt s k) := by
  unfold nums bt
  rw [dif_pos h, List.getElem?_map, Array.getElem?_toList, Array.getElem?_eq_getElem (show k < s.data.size from h)]; rfl
theorem cb_ord (a b : List UInt8) : Lib.compareBytes a b = ord (a.map fun b => (b.toNat : Int)) (b.map fun b => (b.toNat : Int)) := by
  induction a generalizing b with
  | nil => cases b <;> rfl
  | cons x xs ih =>
    cases b with
    | nil => rfl
    | cons y ys =>
      simp only [List.map_cons, ord, Lib.compareBytes, ← ih, UInt8.lt_iff_toNat_lt, Int.ofNat_lt]
theorem fm_form (s : ByteArray) (p : Nat) (h : fmN s p ≠ 0) : sc (fmR s p) = true ∧ lg (fmR s p) = fmN s p ∧ ∀ (k : Nat) x, (enc (fmR s p))[k]? = some x → bt s (p + k) = x := by
  have hz := fmN_size s p h
  have h4 := fmN_le s p
  obtain ⟨e1, e2, e3, e4⟩ := fm_excl s p
  by_cases c1 : fmN s p = 1
  · have hi := e1.1 c1
    obtain ⟨g1, g2⟩ := fm_yes1 s p hi
    obtain ⟨k1, k2⟩ := (is1_iff s p (by omega)).2 hi
    rw [g1, c1]
    exact ⟨k1, (str_is s _ p 1 (by omega) k1).1 k2⟩
  by_cases c2 : fmN s p = 2
  · have hi := e2.1 c2
    obtain ⟨g1, g2⟩ := fm_yes2 s p hi
    obtain ⟨k1, k2⟩ := ((is2_iff s p (by omega)).1).2 hi
    rw [g1, c2, ← (is2_iff s p (by omega)).2 hi]
    exact ⟨k1, (str_is s _ p 2 (by omega) k1).1 k2⟩
  by_cases c3 : fmN s p = 3
  · have hi := e3.1 c3
    obtain ⟨g1, g2⟩ := fm_yes3 s p hi
    obtain ⟨k1, k2⟩ := ((is3_iff s p (by omega)).1).2 hi
    rw [g1, c3, ← (is3_iff s p (by omega)).2 hi]
    exact ⟨k1, (str_is s _ p 3 (by omega) k1).1 k2⟩
  have c4 : fmN s p = 4 := by omega
  have hi := e4.1 c4
  obtain ⟨g1, g2⟩ := fm_yes4 s p hi
  obtain ⟨k1, k2⟩ := ((is4_iff s p (by omega)).1).2 hi
  rw [g1, c4, ← (is4_iff s p (by omega)).2 hi]
  exact ⟨k1, (str_is s _ p 4 (by omega) k1).1 k2⟩
theorem nums_form (s : ByteArray) (p : Nat) (h : fmN s p ≠ 0) : (nums s).drop p = enc (fmR s p) ++ (nums s).drop (p + fmN s p) := by
  obtain ⟨_, h2, h3⟩ := fm_form s p h
  have hz := fmN_size s p h
  apply List.ext_getElem?
  intro k
  have hl : (enc (fmR s p)).length = fmN s p := by rw [enc_len, h2]
  by_cases hk : k < fmN s p
  · rw [List.getElem?_append_left (by omega), List.getElem?_drop, nums_at s (p + k) (by omega)]
    have hx : (enc (fmR s p))[k]? = some ((enc (fmR s p))[k]'(by omega)) := List.getElem?_eq_getElem (by omega)
    rw [hx, h3 k _ hx]
  · rw [List.getElem?_append_right (by omega), List.getElem?_drop, List.getElem?_drop, hl]
    congr 1; omega
theorem ord_texts (a b : ByteArray) : ∀ (n p q : Nat), a.size - p ≤ n → BD a p = none → BD b q = none → p ≤ a.size → q ≤ b.size → ord ((nums a).drop p) ((nums b).drop q) = ord (DC a p) (DC b q) := by
  intro n
  have ends : ∀ (s : ByteArray) (p : Nat), s.size ≤ p → (nums s).drop p = [] ∧ DC s p = [] := fun s p h => ⟨List.drop_eq_nil_of_le (by rw [nums_len]; exact h), by rw [DC_eq, if_pos h]⟩
  have goes : ∀ (s : ByteArray) (p : Nat), BD s p = none → p < s.size → fmN s p ≠ 0 ∧ BD s (p + fmN s p) = none ∧ DC s p = fmR s p :: DC s (p + fmN s p) := by
    intro s p hb h
    rw [BD_eq, if_neg (by omega)] at hb
    by_cases z : fmN s p = 0
    · rw [if_pos z] at hb; cases hb
    · rw [if_neg z] at hb
      exact ⟨z, hb, by rw [DC_eq, if_neg (by omega), if_neg z]⟩
  induction n with
  | zero =>
    intro p q h1 ha hb hp hq
    obtain ⟨e1, e2⟩ := ends a p (by omega)
    rw [e1, e2]
    by_cases c : b.size ≤ q
    · obtain ⟨e3, e4⟩ := ends b q c
      rw [e3, e4]
    · obtain ⟨g1, g2, g3⟩ := goes b q hb (by omega)
      rw [g3, nums_form b q g1]
      have := (fm_form b q g1).2.1
      have hl := enc_pos (fmR b q)
      cases he : enc (fmR b q) with
      | nil => have := enc_len (fmR b q); rw [he] at this; simp at this; omega
      | cons x xs => rfl
  | succ n ih =>
    intro p q h1 ha hb hp hq
    by_cases ca : a.size ≤ p
    · obtain ⟨e1, e2⟩ := ends a p ca
      rw [e1, e2]
      by_cases c : b.size ≤ q
      · obtain ⟨e3, e4⟩ := ends b q c
        rw [e3, e4]
      · obtain ⟨g1, g2, g3⟩ := goes b q hb (by omega)
        rw [g3, nums_form b q g1]
        have := (fm_form b q g1).2.1
        have hl := enc_pos (fmR b q)
        cases he : enc (fmR b q) with
        | nil => have := enc_len (fmR b q); rw [he] at this; simp at this; omega
        | cons x xs => rfl
    · obtain ⟨f1, f2, f3⟩ := goes a p ha (by omega)
      by_cases c : b.size ≤ q
      · obtain ⟨e3, e4⟩ := ends b q c
        rw [e3, e4, f3, nums_form a p f1]
        have hl := enc_pos (fmR a p)
        cases he : enc (fmR a p) with
        | nil => have := enc_len (fmR a p); rw [he] at this; simp at this; omega
        | cons x xs => rfl
      · obtain ⟨g1, g2, g3⟩ := goes b q hb (by omega)
        rw [f3, g3, nums_form a p f1, nums_form b q g1, ord_cons, ord_enc _ _ (sc_bd (fm_form a p f1).1) (sc_bd (fm_form b q g1).1)]
        have := fmN_size a p f1
        have := fmN_size b q g1
        rw [ih _ _ (by omega) f2 g2 (by omega) (by omega)]
/-- texts compare by their scalars as by their bytes -/
theorem ord_whole (a b : ByteArray) (ha : BD a 0 = none) (hb : BD b 0 = none) : Lib.compareBytes a.data.toList b.data.toList = ord (dcV a) (dcV b) := by
  rw [cb_ord]
  have := ord_texts a b a.size 0 0 (by omega) ha hb (Nat.zero_le _) (Nat.zero_le _)
  simp only [List.drop_zero] at this
  unfold dcV; rw [ha, hb]
  exact this
end Go.Proofs.YtchjjfjjcdjjcaaGreatDoor
namespace Go.Proofs.YtchjjfjjcdjjcaaGreatDoor
open Go.RowKit
open PlainAid (bt)

/-- where a scalar's form stands it is read -/
theorem fm_enc (s : ByteArray) (p : Nat) (r : Int) (h : sc r = true) (hz : p + lg r ≤ s.size) (hb : ∀ (k : Nat) x, (enc r)[k]? = some x → bt s (p + k) = x) : fmR s p = r ∧ fmN s p = lg r := by
  have hr := sc_bd h
  have hstr : ∀ n, lg r = n → strOfNums (enc r) = s.extract p (p + n) := fun n hn => (str_is s r p n (by omega) h).2 ⟨hn, hb⟩
  by_cases h1 : r < 128
  · have hl : lg r = 1 := by unfold lg; rw [if_pos h1]
    have he : enc r = [r] := by unfold enc; rw [if_pos h1]
    have e0 := hb 0 r (by rw [he]; rfl)
    rw [Nat.add_zero] at e0
    have hq : q1 s p = r := e0
    have := (is1_iff s p (by omega)).1 ⟨by rw [hq]; exact h, by rw [hq]; exact hstr 1 hl⟩
    obtain ⟨g1, g2⟩ := fm_yes1 s p this
    exact ⟨by rw [g1]; exact e0, by rw [g2, hl]⟩
  by_cases h2 : r < 2048
  · have hl : lg r = 2 := by unfold lg; rw [if_neg h1, if_pos h2]
    have he : enc r = [192 + r / 64, 128 + r % 64] := by unfold enc; rw [if_neg h1, if_pos h2]
    have e0 := hb 0 _ (by rw [he]; rfl)
    have e1 := hb 1 _ (by rw [he]; rfl)
    rw [Nat.add_zero] at e0
    have hq : q2 s p = r := by unfold q2; rw [e0, e1]; omega
    have hi := (is2_iff s p (by omega)).1.1 ⟨by rw [hq]; exact h, by rw [hq]; exact hstr 2 hl⟩
    obtain ⟨g1, g2⟩ := fm_yes2 s p hi
    exact ⟨by rw [g1, ← (is2_iff s p (by omega)).2 hi, hq], by rw [g2, hl]⟩
  by_cases h3 : r < 65536
  · have hl : lg r = 3 := by unfold lg; rw [if_neg h1, if_neg h2, if_pos h3]
    have he : enc r = [224 + r / 4096, 128 + r / 64 % 64, 128 + r % 64] := by unfold enc; rw [if_neg h1, if_neg h2, if_pos h3]
    have e0 := hb 0 _ (by rw [he]; rfl)
    have e1 := hb 1 _ (by rw [he]; rfl)
    have e2 := hb 2 _ (by rw [he]; rfl)
    rw [Nat.add_zero] at e0
    have hq : q3 s p = r := by unfold q3; rw [e0, e1, e2]; omega
    have hi := (is3_iff s p (by omega)).1.1 ⟨by rw [hq]; exact h, by rw [hq]; exact hstr 3 hl⟩
    obtain ⟨g1, g2⟩ := fm_yes3 s p hi
    exact ⟨by rw [g1, ← (is3_iff s p (by omega)).2 hi, hq], by rw [g2, hl]⟩
  · have hl : lg r = 4 := by unfold lg; rw [if_neg h1, if_neg h2, if_neg h3]
    have he : enc r = [240 + r / 262144, 128 + r / 4096 % 64, 128 + r / 64 % 64, 128 + r % 64] := by unfold enc; rw [if_neg h1, if_neg h2, if_neg h3]
    have e0 := hb 0 _ (by rw [he]; rfl)
    have e1 := hb 1 _ (by rw [he]; rfl)
    have e2 := hb 2 _ (by rw [he]; rfl)
    have e3 := hb 3 _ (by rw [he]; rfl)
    rw [Nat.add_zero] at e0
    have hq : q4 s p = r := by unfold q4; rw [e0, e1, e2, e3]; omega
    have hi := (is4_iff s p (by omega)).1.1 ⟨by rw [hq]; exact h, by rw [hq]; exact hstr 4 hl⟩
    obtain ⟨g1, g2⟩ := fm_yes4 s p hi
    exact ⟨by rw [g1, ← (is4_iff s p (by omega)).2 hi, hq], by rw [g2, hl]⟩
theorem flat_bd (xs : List Int) (h : ∀ r ∈ xs, sc r = true) : ∀ x ∈ xs.flatMap enc, 0 ≤ x ∧ x < 256 := by
  intro x hx
  obtain ⟨r, hr, hm⟩ := List.mem_flatMap.1 hx
  exact enc_bd r (h r hr) x hm
theorem dec_enc (all : List Int) (h : ∀ r ∈ all, sc r = true) : ∀ (suf pre : List Int), all = pre ++ suf →
    BD (strOfNums (all.flatMap enc)) (pre.flatMap enc).length = none ∧ DC (strOfNums (all.flatMap enc)) (pre.flatMap enc).length = suf := by
  intro suf
  induction suf with
  | nil =>
    intro pre e
    have hs : (strOfNums (all.flatMap enc)).size ≤ (pre.flatMap enc).length := by rw [strOfNums_size, e, List.append_nil]; exact Nat.le_refl _
    exact ⟨by rw [BD_eq, if_pos hs], by rw [DC_eq, if_pos hs]⟩
  | cons r suf ih =>
    intro pre e
    have hr : sc r = true := h r (by rw [e]; simp)
    have hl : all.flatMap enc = pre.flatMap enc ++ (enc r ++ suf.flatMap enc) := by rw [e, List.flatMap_append, List.flatMap_cons]
    have hp := enc_pos r
    have hlen := enc_len r
    have hsz : (strOfNums (all.flatMap enc)).size = (pre.flatMap enc).length + (lg r + (suf.flatMap enc).length) := by rw [strOfNums_size, hl, List.length_append, List.length_append, hlen]
    have hf := fm_enc (strOfNums (all.flatMap enc)) (pre.flatMap enc).length r hr (by omega) (by
      intro k x hk
      have hb := enc_bd r hr x (List.mem_of_getElem? hk)
      refine bt_str' _ _ _ ?_ hb.1 hb.2
      have hkl : k < (enc r).length := (List.getElem?_eq_some_iff.1 hk).1
      rw [hl, List.getElem?_append_right (by omega), show (pre.flatMap enc).length + k - (pre.flatMap enc).length = k by omega, List.getElem?_append_left hkl]
      exact hk)
    have hn := ih (pre ++ [r]) (by rw [e]; simp)
    have hl2 : ((pre ++ [r]).flatMap enc).length = (pre.flatMap enc).length + lg r := by rw [List.flatMap_append, List.length_append]; simp [hlen]
    rw [hl2] at hn
    refine ⟨?_, ?_⟩
    · rw [BD_eq, if_neg (by omega), hf.2, if_neg (by omega)]; exact hn.1
    · rw [DC_eq, if_neg (by omega), hf.1, hf.2, if_neg (by omega), hn.2]
theorem fb_all {xs : List Int} (h : fb xs = none) : ∀ r ∈ xs, sc r = true := by
  intro r hr
  unfold fb at h
  rw [List.findIdx?_eq_none_iff] at h
  have := h r hr
  simpa using this
/-- what is written is read -/
theorem back (xs : List Int) (h : fb xs = none) : BD (ecS xs) 0 = none ∧ dcV (ecS xs) = xs := by
  have := dec_enc xs (fb_all h) xs [] rfl
  rw [(ec_none h).1]
  refine ⟨this.1, ?_⟩
  unfold dcV
  rw [show BD (strOfNums (xs.flatMap enc)) 0 = none from this.1]
  exact this.2

end Go.Proofs.YtchjjfjjcdjjcaaGreatDoor
