/- The parser in plain words: where the forms of a text stand, what stands in quotes, texts, rules; no program in sight. -/
import Derived.Test.YtchjjfjjcdjjcaaDoorGf
import Derived.Lib.IndexAny
namespace Go.Proofs.YtchjjfjjcdjjcaaDoor
open Go.RowKit
open PlainAid (bt)

theorem form_tail (s : ByteArray) (a k : Nat) (h1 : 1 ≤ k) (h2 : k < fmN s a) : 128 ≤ bt s (a + k) := by
  unfold fmN at h2
  cases e1 : is1 s a
  · rw [e1] at h2
    cases e2 : is2 s a
    · rw [e2] at h2
      cases e3 : is3 s a
      · rw [e3] at h2
        cases e4 : is4 s a
        · rw [e4] at h2; simp at h2
        · rw [e4] at h2; simp at h2
          unfold is4 co at e4; simp only [Bool.and_eq_true, decide_eq_true_eq] at e4
          have : k = 1 ∨ k = 2 ∨ k = 3 := by omega
          rcases this with rfl | rfl | rfl <;> omega
      · rw [e3] at h2; simp at h2
        unfold is3 co at e3; simp only [Bool.and_eq_true, decide_eq_true_eq] at e3
        have : k = 1 ∨ k = 2 := by omega
        rcases this with rfl | rfl <;> omega
    · rw [e2] at h2; simp at h2
      unfold is2 co at e2; simp only [Bool.and_eq_true, decide_eq_true_eq] at e2
      have : k = 1 := by omega
      subst this; omega
  · rw [e1] at h2; simp at h2; omega
theorem bd_step {s : ByteArray} {i : Nat} (h : BD s i = none) (hi : i < s.size) : fmN s i ≠ 0 ∧ BD s (i + fmN s i) = none ∧ i + fmN s i ≤ s.size := by
  rw [BD_eq, if_neg (by omega)] at h
  by_cases hz : fmN s i = 0
  · rw [if_pos hz] at h; cases h
  · rw [if_neg hz] at h; exact ⟨hz, h, fmN_size s i hz⟩
/-- a plain byte, and the end, are where a form begins -/
theorem bd_ascii {s : ByteArray} : ∀ (n i j : Nat), s.size - i ≤ n → BD s i = none → i ≤ j → j ≤ s.size → (j < s.size → bt s j < 128) → BD s j = none
  | n, i, j, hn, h, hij, hj, ha => by
    by_cases he : i = j
    · subst he; exact h
    · have hi : i < s.size := by omega
      obtain ⟨h1, h2, h3⟩ := bd_step h hi
      by_cases hle : i + fmN s i ≤ j
      · cases n with
        | zero => omega
        | succ n => exact bd_ascii n (i + fmN s i) j (by omega) h2 hle hj ha
      · exfalso
        have := form_tail s i (j - i) (by omega) (by omega)
        rw [show i + (j - i) = j by omega] at this
        have := ha (by omega)
        omega
theorem fm_ascii {s : ByteArray} {j : Nat} (hj : j < s.size) (ha : bt s j < 128) : fmN s j = 1 ∧ fmR s j = bt s j := by
  have h : is1 s j = true := by unfold is1; rw [decide_eq_true hj, decide_eq_true ha]; rfl
  unfold fmN fmR
  rw [if_pos h, if_pos h]; exact ⟨rfl, rfl⟩
theorem bd_next {s : ByteArray} {j : Nat} (h : BD s j = none) (hj : j < s.size) (ha : bt s j < 128) : BD s (j + 1) = none := by
  have := (bd_step h hj).2.1
  rwa [(fm_ascii hj ha).1] at this
theorem bd_run {s : ByteArray} {i : Nat} (h : BD s i = none) : ∀ (m : Nat), i + m ≤ s.size → (∀ k, k < m → bt s (i + k) < 128) → BD s (i + m) = none
  | 0, _, _ => h
  | m + 1, hm, ha => by
    have h1 := bd_run h m (by omega) (fun k hk => ha k (by omega))
    have := bd_next h1 (by omega) (ha m (by omega))
    rwa [Nat.add_assoc] at this
/-- the scalars from a place up to another one -/
def dT (s : ByteArray) : Nat → Nat → Nat → List Int
  | 0, _, _ => []
  | n + 1, a, j => if a < j then fmR s a :: dT s n (a + fmN s a) j else []
theorem dT_more (s : ByteArray) (j : Nat) : ∀ (n a : Nat), BD s a = none → j ≤ s.size → j - a ≤ n → ∀ m, n ≤ m → dT s m a j = dT s n a j
  | 0, a, _, _, h, m, _ => by
    cases m with
    | zero => rfl
    | succ m => show dT s (m + 1) a j = []; unfold dT; rw [if_neg (by omega)]
  | n + 1, a, hb, hj, h, m, hm => by
    obtain ⟨m, rfl⟩ : ∃ k, m = k + 1 := ⟨m - 1, by omega⟩
    rw [dT, dT]
    split
    · rename_i hlt
      obtain ⟨h1, h2, h3⟩ := bd_step hb (by omega)
      rw [dT_more s j n (a + fmN s a) h2 hj (by omega) m (by omega)]
    · rfl
def dTo (s : ByteArray) (a j : Nat) : List Int := dT s (j - a) a j
theorem dTo_end (s : ByteArray) (j : Nat) : dTo s j j = [] := by unfold dTo; rw [Nat.sub_self]; rfl
theorem dTo_step {s : ByteArray} {a j : Nat} (hb : BD s a = none) (hj : j ≤ s.size) (h : a < j) : dTo s a j = fmR s a :: dTo s (a + fmN s a) j := by
  obtain ⟨h1, h2, h3⟩ := bd_step hb (by omega)
  unfold dTo
  rw [show j - a = (j - a - 1) + 1 by omega, dT, if_pos h, dT_more s j (j - (a + fmN s a)) (a + fmN s a) h2 hj (Nat.le_refl _) (j - a - 1) (by omega)]
theorem fm_inner (s : ByteArray) (lo hi k : Nat) (hh : hi ≤ s.size) (hk : lo + k < hi) (hf : lo + k + fmN s (lo + k) ≤ hi) : fmR (s.extract lo hi) k = fmR s (lo + k) ∧ fmN (s.extract lo hi) k = fmN s (lo + k) := by
  have hsz : (s.extract lo hi).size = hi - lo := size_extract' s lo hi hh (by omega)
  have h1 := fm_suffix (s.extract lo hi) k (by omega)
  have h2 : (s.extract lo hi).extract k (s.extract lo hi).size = s.extract (lo + k) hi := by
    rw [hsz, ByteArray.extract_extract]; congr 1; omega
  rw [h2] at h1
  have h3 := (fm_piece s (lo + k) hi hh (by omega)).1 hf
  exact ⟨h1.1.symm.trans h3.1, h1.2.symm.trans h3.2⟩
theorem piece_all (s : ByteArray) (lo hi : Nat) (hh : hi ≤ s.size) (hl : lo ≤ hi) (ha : hi < s.size → bt s hi < 128) :
    ∀ (n k : Nat), hi - (lo + k) ≤ n → lo + k ≤ hi → BD s (lo + k) = none → BD (s.extract lo hi) k = none ∧ DC (s.extract lo hi) k = dTo s (lo + k) hi
  | n, k, hn, hk, hb => by
    have hsz : (s.extract lo hi).size = hi - lo := size_extract' s lo hi hh hl
    by_cases he : lo + k = hi
    · rw [BD_eq, DC_eq, if_pos (by omega), if_pos (by omega), he, dTo_end]; exact ⟨rfl, rfl⟩
    · obtain ⟨h1, h2, h3⟩ := bd_step hb (by omega)
      have hle : lo + k + fmN s (lo + k) ≤ hi := by
        refine Nat.le_of_not_lt fun hlt => ?_
        have := form_tail s (lo + k) (hi - (lo + k)) (by omega) (by omega)
        rw [show lo + k + (hi - (lo + k)) = hi by omega] at this
        have := ha (by omega)
        omega
      obtain ⟨f1, f2⟩ := fm_inner s lo hi k hh (by omega) hle
      have hsk : ¬ (s.extract lo hi).size ≤ k := by omega
      rw [BD_eq, DC_eq, f1, f2, if_neg hsk, if_neg hsk, if_neg h1, if_neg h1, dTo_step hb hh (by omega)]
      cases n with
      | zero => omega
      | succ n =>
        have := piece_all s lo hi hh hl ha n (k + fmN s (lo + k)) (by omega) (by omega) (by rw [← Nat.add_assoc]; exact h2)
        rw [← Nat.add_assoc] at this
        exact ⟨this.1, by rw [this.2]⟩
theorem piece_is (s : ByteArray) (lo hi : Nat) (hh : hi ≤ s.size) (hl : lo ≤ hi) (hb : BD s lo = none) (ha : hi < s.size → bt s hi < 128) :
    BD (s.extract lo hi) 0 = none ∧ dcV (s.extract lo hi) = dTo s lo hi := by
  have := piece_all s lo hi hh hl ha (hi - lo) 0 (by omega) (by omega) hb
  rw [Nat.add_zero] at this
  unfold dcV
  rw [this.1]
  exact ⟨rfl, this.2⟩
/-- where a quote ends, or a line does, or all -/
def qE (s : ByteArray) (a : Nat) : Nat := if Lib.indexAny (s.data.toList.drop a) [39, 10] < 0 then s.size else a + (Lib.indexAny (s.data.toList.drop a) [39, 10]).toNat
/-- what stands in quotes, and how far it goes -/
def quoT (s : ByteArray) (i : Nat) : Option (List Int × Nat) :=
  if qE s (i + 1) < s.size ∧ bt s (qE s (i + 1)) = 39 then some (if qE s (i + 1) = i + 1 then [39] else dTo s (i + 1) (qE s (i + 1)), qE s (i + 1) + 1 - i) else none
theorem any_cases (s chars : List UInt8) : (Lib.NoAny s chars s.length ∧ Lib.indexAny s chars = -1) ∨ ∃ (n : Nat) (x : UInt8), Lib.NoAny s chars n ∧ s[n]? = some x ∧ chars.contains x = true ∧ Lib.indexAny s chars = n := by
  have h : ∀ m, m ≤ s.length → Lib.NoAny s chars m ∨ ∃ (n : Nat) (x : UInt8), Lib.NoAny s chars n ∧ s[n]? = some x ∧ chars.contains x = true := by
    intro m
    induction m with
    | zero => exact fun _ => .inl (Lib.NoAny.zero _ _)
    | succ m ih =>
      intro hm
      rcases ih (by omega) with h | h
      · have hx : s[m]? = some (s[m]'(by omega)) := List.getElem?_eq_getElem _
        cases hc : chars.contains (s[m]'(by omega)) with
        | false => exact .inl (h.succ hx hc)
        | true => exact .inr ⟨m, _, h, hx, hc⟩
      · exact .inr h
  rcases h s.length (Nat.le_refl _) with h | ⟨n, x, h1, h2, h3⟩
  · exact .inl ⟨h, Lib.indexAny_none h⟩
  · exact .inr ⟨n, x, h1, h2, h3, Lib.indexAny_hit h1 h2 h3⟩
theorem qe_no {s chars : List UInt8} {m : Nat} (h : Lib.indexAny s chars < 0) (hm : m ≤ s.length) : Lib.NoAny s chars m := by
  rcases any_cases s chars with ⟨h1, _⟩ | ⟨n, x, _, _, _, h4⟩
  · exact fun j b hj hb => h1 j b (by omega) hb
  · omega
theorem qe_yes {s chars : List UInt8} {n : Nat} (h : Lib.indexAny s chars = n) : Lib.NoAny s chars n ∧ ∃ x, s[n]? = some x ∧ chars.contains x = true := by
  rcases any_cases s chars with ⟨_, h2⟩ | ⟨m, x, h1, h2, h3, h4⟩
  · omega
  · obtain rfl : m = n := by omega
    exact ⟨h1, x, h2, h3⟩
theorem list_bt (s : ByteArray) (a k : Nat) : (s.data.toList.drop a)[k]? = if a + k < s.size then some (UInt8.ofNat (bt s (a + k)).toNat) else none := by
  by_cases h : a + k < s.size
  · rw [if_pos h, ← bt_list s (a + k) h, List.getElem?_drop, List.getElem?_drop, Nat.add_zero]
  · rw [if_neg h, List.getElem?_drop, List.getElem?_eq_none (by simp; omega)]
theorem qb_iff (x : Int) (h0 : 0 ≤ x) (h1 : x ≤ 255) : ([39, 10] : List UInt8).contains (UInt8.ofNat x.toNat) = decide (x = 39 ∨ x = 10) := by
  obtain ⟨n, rfl⟩ : ∃ n : Nat, x = n := ⟨x.toNat, by omega⟩
  have h := List.all_eq_true.1 (show (List.range 256).all (fun n => ([39, 10] : List UInt8).contains (UInt8.ofNat n) == decide ((n : Int) = 39 ∨ (n : Int) = 10)) = true by kernel_rfl) n (by simp; omega)
  simpa using h
theorem qE_is (s : ByteArray) (a : Nat) (ha : a ≤ s.size) : a ≤ qE s a ∧ qE s a ≤ s.size ∧ (∀ k, a ≤ k → k < qE s a → bt s k ≠ 39 ∧ bt s k ≠ 10) ∧ (qE s a < s.size → bt s (qE s a) = 39 ∨ bt s (qE s a) = 10) := by
  have hno : ∀ m, Lib.NoAny (s.data.toList.drop a) [39, 10] m → ∀ k, a ≤ k → k < a + m → k < s.size → bt s k ≠ 39 ∧ bt s k ≠ 10 := by
    intro m hm k hk hk2 hks
    have h1 := hm (k - a) (UInt8.ofNat (bt s k).toNat) (by omega) (by rw [list_bt, show a + (k - a) = k by omega, if_pos hks])
    rw [qb_iff _ (PlainAid.bt_nonneg s k) (PlainAid.bt_le s k)] at h1
    have := of_decide_eq_false h1
    exact ⟨fun e => this (.inl e), fun e => this (.inr e)⟩
  unfold qE
  by_cases hq : Lib.indexAny (s.data.toList.drop a) [39, 10] < 0
  · rw [if_pos hq]
    refine ⟨ha, Nat.le_refl _, fun k h1 h2 => ?_, fun h => absurd h (Nat.lt_irrefl _)⟩
    exact hno (s.size - a) (qe_no hq (by simp)) k h1 (by omega) h2
  · rw [if_neg hq]
    obtain ⟨n, hn⟩ : ∃ n : Nat, Lib.indexAny (s.data.toList.drop a) [39, 10] = n := ⟨_, (Int.toNat_of_nonneg (by omega)).symm⟩
    rw [hn, Int.toNat_natCast]
    obtain ⟨h1, x, h2, h3⟩ := qe_yes hn
    rw [list_bt] at h2
    by_cases hlt : a + n < s.size
    · rw [if_pos hlt] at h2
      refine ⟨by omega, by omega, fun k k1 k2 => hno n h1 k k1 k2 (by omega), fun _ => ?_⟩
      rw [← Option.some.inj h2, qb_iff _ (PlainAid.bt_nonneg s _) (PlainAid.bt_le s _)] at h3
      exact of_decide_eq_true h3
    · rw [if_neg hlt] at h2; cases h2
/-- bytes at which a text ends -/
def stopB (c : Int) : Bool := c == 32 || c == 9 || c == 10 || c == 38 || c == 60 || c == 61 || c == 47 || c == 35
/-- a text, from a place on, behind some numbers; or the place that is wrong -/
def textF (s : ByteArray) : Nat → Nat → List Int → Option (List Int) × Nat
  | 0, i, l => (some l, i)
  | n + 1, i, l => if i < s.size then
      if bt s i = 92 then (match escT s i with | none => (none, i) | some x => textF s n (i + x.2) (l ++ [x.1]))
      else if bt s i = 39 then (match quoT s i with | none => (none, i) | some x => textF s n (i + x.2) (l ++ x.1))
      else if stopB (bt s i) = true then (some l, i) else textF s n (i + fmN s i) (l ++ [fmR s i])
    else (some l, i)
/-- what none makes an error -/
def someT : Option (List Int) × Nat → Option (List Int) × Nat
  | (none, a) => (none, a)
  | (some l, a) => if l = [] then (none, a) else (some l, a)
def textT (s : ByteArray) (i : Nat) : Option (List Int) × Nat := someT (textF s (s.size - skipT s i) (skipT s i) [])
/-- a rule: kind, text, what is added -/
abbrev Rul := Int × List Int × List Int
/-- a rule from a place on, behind so many; or the place that is wrong and the error -/
def ruleT (s : ByteArray) (i n : Nat) : (Rul × Nat) ⊕ (Nat × Int) :=
  if sgnOk s i (n == 0) = true then
    if n < 2000 then
      match textT s (endS s i) with
      | (none, a) => .inr (a, 100)
      | (some l, j) =>
        if (sgnT s i).getD 0 ≠ 0 ∧ skipT s j < s.size ∧ bt s (skipT s j) = 47 then
          match textT s (skipT s j + 1) with
          | (none, a) => .inr (a, 100)
          | (some x, k) => .inl (((sgnT s i).getD 0, l, x), skipT s k)
        else .inl (((sgnT s i).getD 0, l, []), skipT s j)
    else .inr (i, 2)
  else .inr (i, 100)
def parseF (s : ByteArray) : Nat → Nat → List Rul → List Rul ⊕ (Nat × Int)
  | 0, _, l => .inl l
  | n + 1, i, l => if i < s.size then (match ruleT s i l.length with | .inr e => .inr e | .inl x => parseF s n x.2 (l ++ [x.1])) else .inl l
def parseT (s : ByteArray) : List Rul ⊕ (Nat × Int) := match BD s 0 with | some a => .inr (a, 40) | none => parseF s (s.size - skipT s 0) (skipT s 0) []
end Go.Proofs.YtchjjfjjcdjjcaaDoor
