/- Package tailor: what is written is read, in plain words; no program in sight. -/
import Derived.Test.YtchjjfjjcdjjcaaGreatDoorZh
import Derived.Test.YtchjjfjjcdjjcaaGreatDoorGl
namespace Go.Proofs.YtchjjfjjcdjjcaaGreatDoor
open Go.RowKit
open PlainAid (bt)

/-- numbers stand in a text, from a place on -/
def Seg (s : ByteArray) (i : Nat) (ys : List Int) : Prop := ∀ (k : Nat) x, ys[k]? = some x → i + k < s.size ∧ bt s (i + k) = x
section
variable {s : ByteArray}
theorem Seg.left {i : Nat} {a b : List Int} (h : Seg s i (a ++ b)) : Seg s i a := fun k x hk => h k x (by rw [List.getElem?_append_left (List.getElem?_eq_some_iff.1 hk).1]; exact hk)
theorem Seg.right {i : Nat} {a b : List Int} (h : Seg s i (a ++ b)) : Seg s (i + a.length) b := fun k x hk => by
  have := h (a.length + k) x (by rw [List.getElem?_append_right (by omega)]; rw [show a.length + k - a.length = k by omega]; exact hk)
  rw [Nat.add_assoc]; exact this
theorem Seg.le {i : Nat} {ys : List Int} (h : Seg s i ys) (hi : i ≤ s.size) : i + ys.length ≤ s.size := by
  cases hl : ys.length with
  | zero => omega
  | succ n =>
    have := (h n _ (List.getElem?_eq_getElem (by omega))).1
    omega
theorem Seg.head {i : Nat} {x : Int} {ys : List Int} (h : Seg s i (x :: ys)) : i < s.size ∧ bt s i = x := h 0 x rfl
theorem Seg.tail {i : Nat} {x : Int} {ys : List Int} (h : Seg s i (x :: ys)) : Seg s (i + 1) ys := Seg.right (a := [x]) h
theorem enc_head {r : Int} (h : sc r = true) : ∃ y t, enc r = y :: t ∧ ((r < 128 ∧ y = r) ∨ (128 ≤ r ∧ 192 ≤ y)) := by
  unfold sc at h
  simp at h
  unfold enc
  by_cases h1 : r < 128
  · rw [if_pos h1]; exact ⟨_, _, rfl, .inl ⟨h1, rfl⟩⟩
  · rw [if_neg h1]
    by_cases h2 : r < 2048
    · rw [if_pos h2]; exact ⟨_, _, rfl, .inr ⟨by omega, by omega⟩⟩
    · rw [if_neg h2]
      by_cases h3 : r < 65536
      · rw [if_pos h3]; exact ⟨_, _, rfl, .inr ⟨by omega, by omega⟩⟩
      · rw [if_neg h3]; exact ⟨_, _, rfl, .inr ⟨by omega, by omega⟩⟩
theorem fm_seg {i : Nat} {r : Int} (h : sc r = true) (hs : Seg s i (enc r)) : fmR s i = r ∧ fmN s i = (enc r).length ∧ 1 ≤ (enc r).length := by
  obtain ⟨y, t, he, _⟩ := enc_head h
  have hl := enc_len r
  have hi : i < s.size := by rw [he] at hs; exact hs.head.1
  have hle := hs.le (by omega)
  obtain ⟨h1, h2⟩ := fm_enc s i r h (by omega) (fun k x hk => (hs k x hk).2)
  exact ⟨h1, by omega, by rw [he]; simp⟩
theorem dT_seg : ∀ (l : List Int) (n a : Nat), (∀ r ∈ l, sc r = true) → Seg s a (l.flatMap enc) → (l.flatMap enc).length ≤ n → dT s n a (a + (l.flatMap enc).length) = l
  | [], n, a, _, _, _ => by
    cases n with
    | zero => rfl
    | succ n => rw [dT, if_neg (by simp)]
  | r :: l, n, a, h, hs, hn => by
    have hr := h r (List.mem_cons_self ..)
    rw [List.flatMap_cons] at hs hn ⊢
    obtain ⟨f1, f2, f3⟩ := fm_seg hr hs.left
    rw [List.length_append] at hn ⊢
    obtain ⟨m, rfl⟩ : ∃ m, n = m + 1 := ⟨n - 1, by omega⟩
    rw [dT, if_pos (by omega), f1, f2]
    have ih := dT_seg l m (a + (enc r).length) (fun x hx => h x (List.mem_cons_of_mem _ hx)) hs.right (by omega)
    rw [show a + ((enc r).length + (l.flatMap enc).length) = a + (enc r).length + (l.flatMap enc).length by omega, ih]
theorem qE_seg {a : Nat} {E : List Int} (ha : a ≤ s.size) (h : Seg s a (E ++ [39])) (hE : ∀ x ∈ E, x ≠ 39 ∧ x ≠ 10) : qE s a = a + E.length := by
  obtain ⟨q1, q2, q3, q4⟩ := qE_is s a ha
  have hend := (Seg.right h).head
  rcases Nat.lt_trichotomy (qE s a) (a + E.length) with hlt | heq | hgt
  · exfalso
    have hk : qE s a - a < E.length := by omega
    have h1 := Seg.left h (qE s a - a) _ (List.getElem?_eq_getElem hk)
    rw [show a + (qE s a - a) = qE s a by omega] at h1
    have h2 := hE _ (List.getElem_mem hk)
    rcases q4 h1.1 with h3 | h3
    · exact h2.1 (by rw [← h1.2, h3])
    · exact h2.2 (by rw [← h1.2, h3])
  · exact heq
  · exact absurd hend.2 (q3 (a + E.length) (by omega) hgt).1
theorem quo_seg {i : Nat} {l : List Int} (h : Seg s i (39 :: (l.flatMap enc ++ [39]))) (hl : ∀ r ∈ l, sc r = true) (hE : ∀ x ∈ l.flatMap enc, x ≠ 39 ∧ x ≠ 10) :
    quoT s i = some (if (l.flatMap enc).length = 0 then [39] else l, (l.flatMap enc).length + 2) := by
  have h1 := h.head
  have h2 := h.tail
  have hq := qE_seg (by omega) h2 hE
  have hend := (Seg.right h2).head
  have hd := dT_seg l (l.flatMap enc).length (i + 1) hl (Seg.left h2) (Nat.le_refl _)
  unfold quoT
  rw [hq, if_pos hend]
  unfold dTo
  rw [show i + 1 + (l.flatMap enc).length - (i + 1) = (l.flatMap enc).length by omega, hd, show i + 1 + (l.flatMap enc).length + 1 - i = (l.flatMap enc).length + 2 by omega]
  by_cases hz : (l.flatMap enc).length = 0
  · rw [if_pos hz, if_pos (by omega)]
  · rw [if_neg hz, if_neg (by omega)]
theorem esc_seg {i : Nat} (h : Seg s i [92, 117, 48, 48, 48, 97]) : escT s i = some (10, 6) := by
  obtain ⟨_, _⟩ := h 0 92 rfl
  obtain ⟨h1, b1⟩ := h 1 117 rfl
  obtain ⟨h2, b2⟩ := h 2 48 rfl
  obtain ⟨h3, b3⟩ := h 3 48 rfl
  obtain ⟨h4, b4⟩ := h 4 48 rfl
  obtain ⟨h5, b5⟩ := h 5 97 rfl
  have hn : escN s i = 4 := by unfold escN; rw [if_pos ⟨h1, b1⟩]
  have hx : hxG s (i + 2) 4 = 10 := by
    simp only [hxG, Nat.add_zero]
    rw [show i + 2 + 3 = i + 5 by omega, show i + 2 + 2 = i + 4 by omega, show i + 2 + 1 = i + 3 by omega, b2, b3, b4, b5]
    decide
  have ha : hexAll s (i + 2) 4 = true := by
    rw [hexAll_iff]
    intro k hk
    have : k = 0 ∨ k = 1 ∨ k = 2 ∨ k = 3 := by omega
    rcases this with rfl | rfl | rfl | rfl
    · rw [show i + 2 + 0 = i + 2 by omega, b2]; decide
    · rw [show i + 2 + 1 = i + 3 by omega, b3]; decide
    · rw [show i + 2 + 2 = i + 4 by omega, b4]; decide
    · rw [show i + 2 + 3 = i + 5 by omega, b5]; decide
  unfold escT
  rw [hn, hx, ha, if_pos ⟨by decide, by omega, rfl, by decide⟩]
/-- one number is read -/
theorem text_step {i n : Nat} {r : Int} {acc : List Int} (hr : sc r = true) (h : Seg s i (mixR r)) : textF s (n + 1) i acc = textF s n (i + (mixR r).length) (acc ++ [r]) := by
  have q0 : quotL = [32, 9, 38, 60, 61, 47, 35, 92] := rfl
  unfold mixR at h ⊢
  by_cases h39 : r = 39
  · subst h39
    rw [if_pos rfl] at h ⊢
    have hq := quo_seg (l := []) h (by simp) (by simp)
    obtain ⟨a1, a2⟩ := h.head
    rw [textF, if_pos a1, if_neg (by omega), if_pos a2, hq]
    rfl
  · rw [if_neg h39] at h ⊢
    by_cases h10 : r = 10
    · subst h10
      rw [if_pos rfl] at h ⊢
      obtain ⟨a1, a2⟩ := h.head
      rw [textF, if_pos a1, if_pos a2, esc_seg h]
      rfl
    · rw [if_neg h10] at h ⊢
      cases hq : quotL.contains r
      · rw [hq, if_neg (by decide)] at h
        rw [if_neg (by decide)]
        obtain ⟨f1, f2, f3⟩ := fm_seg hr h
        obtain ⟨y, t, he, hy⟩ := enc_head hr
        have hh := h
        rw [he] at hh
        obtain ⟨a1, a2⟩ := hh.head
        have hnq : r ≠ 32 ∧ r ≠ 9 ∧ r ≠ 38 ∧ r ≠ 60 ∧ r ≠ 61 ∧ r ≠ 47 ∧ r ≠ 35 ∧ r ≠ 92 := by
          rw [q0] at hq
          simp at hq
          exact hq
        have hst : stopB (bt s i) = false := by
          unfold stopB
          rw [a2]
          simp only [Bool.or_eq_false_iff, beq_eq_false_iff_ne]
          omega
        rw [textF, if_pos a1, if_neg (by omega), if_neg (by omega), hst, if_neg (by decide), f1, f2]
      · rw [hq, if_pos rfl] at h
        rw [if_pos rfl]
        have hlt := quot_lt hq
        have he : [r].flatMap enc = [r] := by simp [enc, hlt.2]
        have hq2 := quo_seg (s := s) (i := i) (l := [r]) (by rw [he]; exact h) (by simpa using hr) (by rw [he]; simp; exact ⟨h39, h10⟩)
        rw [he] at hq2
        obtain ⟨a1, a2⟩ := h.head
        rw [textF, if_pos a1, if_neg (by omega), if_pos a2, hq2]
        rfl
theorem text_run : ∀ (l : List Int) (n i : Nat) (acc : List Int), (∀ r ∈ l, sc r = true) → Seg s i (mixT l) → i ≤ s.size → s.size - i ≤ n → ∃ n', s.size - (i + (mixT l).length) ≤ n' ∧ textF s n i acc = textF s n' (i + (mixT l).length) (acc ++ l)
  | [], n, i, acc, _, _, _, hn => ⟨n, hn, by simp [mixT]⟩
  | r :: l, n, i, acc, h, hs, hi, hn => by
    have e : mixT (r :: l) = mixR r ++ mixT l := rfl
    rw [e] at hs ⊢
    have hr := h r (List.mem_cons_self ..)
    have hl := mixR_len r
    have hle := (Seg.left hs).le hi
    obtain ⟨m, rfl⟩ : ∃ m, n = m + 1 := ⟨n - 1, by omega⟩
    obtain ⟨n', h1, h2⟩ := text_run l m (i + (mixR r).length) (acc ++ [r]) (fun x hx => h x (List.mem_cons_of_mem _ hx)) (Seg.right hs) (by omega) (by omega)
    refine ⟨n', by rw [List.length_append]; omega, ?_⟩
    rw [text_step hr (Seg.left hs), h2, List.length_append, List.append_assoc, show i + ((mixR r).length + (mixT l).length) = i + (mixR r).length + (mixT l).length by omega]
    rfl
/-- where a text ends -/
def EndAt (s : ByteArray) (j : Nat) : Prop := j = s.size ∨ (j < s.size ∧ (bt s j = 38 ∨ bt s j = 60 ∨ bt s j = 61 ∨ bt s j = 47))
theorem text_stop {j : Nat} (h : EndAt s j) (n : Nat) (acc : List Int) : textF s n j acc = (some acc, j) := by
  cases n with
  | zero => rfl
  | succ n =>
    rcases h with h | ⟨h1, h2⟩
    · rw [textF, if_neg (by omega)]
    · have hst : stopB (bt s j) = true := by
        unfold stopB
        rcases h2 with e | e | e | e <;> rw [e] <;> rfl
      rw [textF, if_pos h1, if_neg (by omega), if_neg (by omega), hst, if_pos rfl]
theorem skip_end {j : Nat} (h : EndAt s j) : skipT s j = j := by
  unfold skipT
  rcases h with h | ⟨h1, h2⟩
  · rw [h, Nat.sub_self]; rfl
  · obtain ⟨m, hm⟩ : ∃ m, s.size - j = m + 1 := ⟨s.size - j - 1, by omega⟩
    have hb : blank (bt s j) = false := by unfold blank; rcases h2 with e | e | e | e <;> rw [e] <;> rfl
    rw [hm, skipF, if_pos h1, hb, if_neg (by decide), if_neg (by omega)]
/-- how a string may begin -/
def hdOk (x : Int) : Prop := x ≠ 32 ∧ x ≠ 9 ∧ x ≠ 10 ∧ x ≠ 35 ∧ x ≠ 60
theorem skip_hd {j : Nat} (h : j < s.size) (hx : hdOk (bt s j)) : skipT s j = j := by
  unfold skipT
  obtain ⟨m, hm⟩ : ∃ m, s.size - j = m + 1 := ⟨s.size - j - 1, by omega⟩
  obtain ⟨x1, x2, x3, x4, _⟩ := hx
  have hb : blank (bt s j) = false := by unfold blank; simp only [Bool.or_eq_false_iff, beq_eq_false_iff_ne]; omega
  rw [hm, skipF, if_pos h, hb, if_neg (by decide), if_neg x4]
theorem mixR_head {r : Int} (hr : sc r = true) : ∃ y t, mixR r = y :: t ∧ hdOk y := by
  unfold mixR hdOk
  split
  · exact ⟨_, _, rfl, by decide⟩
  · split
    · exact ⟨_, _, rfl, by decide⟩
    · split
      · exact ⟨_, _, rfl, by decide⟩
      · rename_i h39 h10 hq
        obtain ⟨y, t, he, hy⟩ := enc_head hr
        refine ⟨y, t, he, ?_⟩
        have hnq : r ≠ 32 ∧ r ≠ 9 ∧ r ≠ 38 ∧ r ≠ 60 ∧ r ≠ 61 ∧ r ≠ 47 ∧ r ≠ 35 ∧ r ≠ 92 := by
          unfold quotL at hq
          simp at hq
          omega
        omega
theorem shortT_head {l : List Int} (hl : l ≠ []) (h : ∀ r ∈ l, sc r = true) : ∃ y t, shortT l = y :: t ∧ hdOk y := by
  unfold shortT
  split
  · exact ⟨_, _, rfl, by unfold hdOk; decide⟩
  · cases l with
    | nil => exact absurd rfl hl
    | cons r l =>
      obtain ⟨y, t, he, hy⟩ := mixR_head (h r (List.mem_cons_self ..))
      refine ⟨y, t ++ mixT l, ?_, hy⟩
      show mixR r ++ mixT l = _
      rw [he]; rfl
theorem hasQ_no {l : List Int} (h : hasQ l = false) : ∀ x ∈ l.flatMap enc, x ≠ 39 ∧ x ≠ 10 := by
  intro x hx
  unfold hasQ at h
  rw [List.any_eq_false] at h
  have := h x hx
  simp at this
  exact this
theorem enc_flat_pos {l : List Int} (hl : l ≠ []) (h : ∀ r ∈ l, sc r = true) : (l.flatMap enc).length ≠ 0 := by
  cases l with
  | nil => exact absurd rfl hl
  | cons r l =>
    have := enc_pos r
    have := enc_len r
    rw [List.flatMap_cons, List.length_append]; omega
/-- a string is read -/
theorem text_seg {i : Nat} {l : List Int} (hl : l ≠ []) (h : ∀ r ∈ l, sc r = true) (hs : Seg s i (shortT l)) (he : EndAt s (i + (shortT l).length)) : textT s i = (some l, i + (shortT l).length) := by
  obtain ⟨y, t, hy, hok⟩ := shortT_head hl h
  have hh := hs
  rw [hy] at hh
  obtain ⟨a1, a2⟩ := hh.head
  have hsk : skipT s i = i := skip_hd a1 (by rw [a2]; exact hok)
  have key : textF s (s.size - i) i [] = (some l, i + (shortT l).length) := by
    unfold shortT at hs he ⊢
    split at hs
    · rename_i hc
      rw [if_pos hc] at he ⊢
      have hq := quo_seg hs h (hasQ_no hc.1)
      rw [if_neg (enc_flat_pos hl h)] at hq
      obtain ⟨b1, b2⟩ := hs.head
      obtain ⟨m, hm⟩ : ∃ m, s.size - i = m + 1 := ⟨s.size - i - 1, by omega⟩
      have hlen : (39 :: (l.flatMap enc ++ [39])).length = (l.flatMap enc).length + 2 := by simp
      rw [hlen] at he ⊢
      rw [hm, textF, if_pos b1, if_neg (by omega), if_pos b2, hq]
      exact text_stop he m l
    · rename_i hc
      rw [if_neg hc] at he ⊢
      obtain ⟨n', _, h2⟩ := text_run l (s.size - i) i [] h hs (by omega) (Nat.le_refl _)
      rw [h2]
      exact text_stop he n' l
  unfold textT
  rw [hsk, key]
  show (if l = [] then ((none : Option (List Int)), _) else (some l, _)) = _
  rw [if_neg hl]
theorem lts_stop {e n : Nat} (h : ¬ (e < s.size ∧ bt s e = 60)) : ltsF s n e = e := by
  cases n with
  | zero => rfl
  | succ n => rw [ltsF, if_neg h]
theorem lts_more {e n : Nat} (h1 : e < s.size) (h2 : bt s e = 60) : ltsF s (n + 1) e = ltsF s n (e + 1) := by rw [ltsF, if_pos ⟨h1, h2⟩]
theorem ext_seg {i : Nat} : ∀ (ys : List Int), Seg s i ys → i ≤ s.size → (∀ x ∈ ys, 0 ≤ x ∧ x < 256) → (s.extract i (i + ys.length)).data.toList = ys.map fun x => UInt8.ofNat x.toNat := by
  intro ys h hi hb
  have hle := h.le hi
  apply List.ext_getElem?
  intro k
  rw [List.getElem?_map]
  have hsz := size_extract' s i (i + ys.length) hle (by omega)
  have hl : (s.extract i (i + ys.length)).data.toList.length = ys.length := by
    have : (s.extract i (i + ys.length)).data.toList.length = (s.extract i (i + ys.length)).size := Array.length_toList
    omega
  by_cases hk : k < ys.length
  · obtain ⟨x, hx⟩ : ∃ x, ys[k]? = some x := ⟨ys[k], List.getElem?_eq_getElem hk⟩
    have h1 := list_bt (s.extract i (i + ys.length)) 0 k
    rw [List.drop_zero, Nat.zero_add, if_pos (by omega), bt_extract s i (i + ys.length) k hle (by omega), (h k x hx).2] at h1
    rw [h1, hx]; rfl
  · rw [List.getElem?_eq_none (by omega), List.getElem?_eq_none (by omega)]; rfl
/-- a sign is read -/
theorem sign_seg {i : Nat} {k : Int} {y : Int} (h0 : 0 ≤ k) (h4 : k ≤ 4) (h : Seg s i (signW k ++ [y])) (hy : y ≠ 60) : endS s i = i + (signW k).length ∧ sgnT s i = some k := by
  have he : endS s i = i + (signW k).length := by
    have hk : k = 0 ∨ k = 1 ∨ k = 2 ∨ k = 3 ∨ k = 4 := by omega
    unfold endS
    rcases hk with rfl | rfl | rfl | rfl | rfl
    · obtain ⟨a, b⟩ := h 0 38 rfl
      rw [Nat.add_zero] at a b
      have hl : ltsF s 3 i = i := lts_stop (by omega)
      rw [hl, if_pos ⟨rfl, a⟩]; rfl
    · obtain ⟨a, b⟩ := h 0 60 rfl
      obtain ⟨c, d⟩ := h 1 y rfl
      rw [Nat.add_zero] at a b
      have hl : ltsF s 3 i = i + 1 := by rw [lts_more a b, lts_stop (by omega)]
      rw [hl, if_neg (by omega)]; rfl
    · obtain ⟨a, b⟩ := h 0 60 rfl
      obtain ⟨a1, b1⟩ := h 1 60 rfl
      obtain ⟨c, d⟩ := h 2 y rfl
      rw [Nat.add_zero] at a b
      have hl : ltsF s 3 i = i + 2 := by rw [lts_more a b, lts_more a1 b1, lts_stop (show ¬ (i + 2 < s.size ∧ bt s (i + 2) = 60) by omega)]
      rw [hl, if_neg (by omega)]; rfl
    · obtain ⟨a, b⟩ := h 0 60 rfl
      obtain ⟨a1, b1⟩ := h 1 60 rfl
      obtain ⟨a2, b2⟩ := h 2 60 rfl
      rw [Nat.add_zero] at a b
      have hl : ltsF s 3 i = i + 3 := by rw [lts_more a b, lts_more a1 b1, lts_more a2 b2]; rfl
      rw [hl, if_neg (by omega)]; rfl
    · obtain ⟨a, b⟩ := h 0 61 rfl
      rw [Nat.add_zero] at a b
      have hl : ltsF s 3 i = i := lts_stop (by omega)
      rw [hl, if_pos ⟨rfl, a⟩]; rfl
  refine ⟨he, ?_⟩
  have hi : i < s.size := by
    obtain ⟨x, t, e⟩ : ∃ x t, signW k = x :: t := by
      cases hc : signW k with
      | nil => have := (signW_len k).2; rw [hc] at this; cases this
      | cons x t => exact ⟨x, t, rfl⟩
    rw [e] at h
    exact h.head.1
  unfold sgnT
  have hk : k = 0 ∨ k = 1 ∨ k = 2 ∨ k = 3 ∨ k = 4 := by omega
  rw [he, ext_seg (signW k) h.left (by omega) (by rcases hk with rfl | rfl | rfl | rfl | rfl <;> decide)]
  rcases hk with rfl | rfl | rfl | rfl | rfl <;> rfl
theorem hd_ne {x : Int} (h : hdOk x) : x ≠ 60 := h.2.2.2.2
/-- a rule is read -/
theorem rule_seg {i n : Nat} {x : Rul} (hb : badR n x = false) (hn : n < 2000) (hs : Seg s i (ruleW x)) (he : EndAt s (i + (ruleW x).length)) (h47 : ¬ (i + (ruleW x).length < s.size ∧ bt s (i + (ruleW x).length) = 47)) :
    ruleT s i n = .inl (x, i + (ruleW x).length) := by
  obtain ⟨k, tx, ex⟩ := x
  obtain ⟨k0, k4, kz, ht, hx, hst, hsx⟩ := bad_parts hb
  simp only at k0 k4 kz ht hx hst hsx
  have hrw : ruleW (k, tx, ex) = signW k ++ shortT tx ++ (if ex = [] then [] else 47 :: shortT ex) := rfl
  obtain ⟨y, t, hy, hok⟩ := shortT_head ht hst
  have hseg1 : Seg s i (signW k ++ [y]) := by
    rw [hrw, hy] at hs
    have h1 := Seg.left hs
    rw [show signW k ++ y :: t = (signW k ++ [y]) ++ t by simp] at h1
    exact h1.left
  obtain ⟨e1, e2⟩ := sign_seg k0 k4 hseg1 (hd_ne hok)
  have htext : Seg s (i + (signW k).length) (shortT tx) := by rw [hrw] at hs; exact (Seg.left hs).right
  have hsok : sgnOk s i (n == 0) = true := by
    unfold sgnOk
    rw [e2]
    by_cases hz : n = 0
    · rw [kz hz]; simp
    · have : (n == 0) = false := beq_eq_false_iff_ne.2 hz
      rw [this]; rfl
  unfold ruleT
  rw [if_pos hsok, if_pos hn, e1, e2]
  by_cases hex : ex = []
  · rw [hrw, if_pos hex, List.append_nil, List.length_append, ← Nat.add_assoc] at he h47
    rw [text_seg ht hst htext he]
    simp only [Option.getD_some]
    rw [skip_end he, if_neg (fun h => h47 h.2), hrw, if_pos hex, List.append_nil, List.length_append, ← Nat.add_assoc, hex]
  · have hkn : k ≠ 0 := fun h => hex (hx h)
    rw [hrw, if_neg hex] at hs he
    have hsl := Seg.right hs
    rw [List.length_append, ← Nat.add_assoc] at hsl
    obtain ⟨a1, a2⟩ := hsl.head
    have hend1 : EndAt s (i + (signW k).length + (shortT tx).length) := .inr ⟨a1, .inr (.inr (.inr a2))⟩
    rw [text_seg ht hst htext hend1]
    simp only [Option.getD_some]
    rw [skip_end hend1, if_pos ⟨hkn, a1, a2⟩]
    have hlen : i + (signW k ++ shortT tx ++ 47 :: shortT ex).length = i + (signW k).length + (shortT tx).length + 1 + (shortT ex).length := by simp; omega
    rw [hlen] at he
    rw [text_seg hex hsx hsl.tail he]
    simp only
    rw [skip_end he, hrw, if_neg hex, hlen]
theorem ruleW_head {x : Rul} (h0 : 0 ≤ x.1) (h4 : x.1 ≤ 4) : ∃ y t, ruleW x = y :: t ∧ (y = 38 ∨ y = 60 ∨ y = 61) := by
  have hk : x.1 = 0 ∨ x.1 = 1 ∨ x.1 = 2 ∨ x.1 = 3 ∨ x.1 = 4 := by omega
  unfold ruleW
  rcases hk with h | h | h | h | h <;> rw [h]
  · exact ⟨38, _, rfl, .inl rfl⟩
  · exact ⟨60, _, rfl, .inr (.inl rfl)⟩
  · exact ⟨60, _, rfl, .inr (.inl rfl)⟩
  · exact ⟨60, _, rfl, .inr (.inl rfl)⟩
  · exact ⟨61, _, rfl, .inr (.inr rfl)⟩
theorem parse_seg : ∀ (l : List Rul) (n i : Nat) (acc : List Rul), (∀ j x, l[j]? = some x → badR (acc.length + j) x = false) → acc.length + l.length ≤ 2000 → Seg s i (writeT l) → i + (writeT l).length = s.size → s.size - i ≤ n → parseF s n i acc = .inl (acc ++ l)
  | [], n, i, acc, _, _, _, hi, _ => by
    have hi' : i = s.size := by simpa [writeT] using hi
    cases n with
    | zero => rw [parseF, List.append_nil]
    | succ n => rw [parseF, if_neg (by omega), List.append_nil]
  | x :: l, n, i, acc, hb, hl, hs, hi, hn => by
    have e : writeT (x :: l) = ruleW x ++ writeT l := rfl
    have hbx := hb 0 x rfl
    have hp := bad_parts hbx
    rw [e] at hs hi
    rw [List.length_append, ← Nat.add_assoc] at hi
    obtain ⟨y, t, hy, _⟩ := ruleW_head hp.1 hp.2.1
    have hlen1 : 1 ≤ (ruleW x).length := by rw [hy]; simp
    have hend : EndAt s (i + (ruleW x).length) ∧ ¬ (i + (ruleW x).length < s.size ∧ bt s (i + (ruleW x).length) = 47) := by
      cases l with
      | nil =>
        have : (writeT ([] : List Rul)).length = 0 := rfl
        exact ⟨.inl (by omega), by omega⟩
      | cons x' l' =>
        have hp' := bad_parts (hb 1 x' rfl)
        obtain ⟨y', t', hy', hc⟩ := ruleW_head hp'.1 hp'.2.1
        have hs2 := hs.right
        rw [show writeT (x' :: l') = ruleW x' ++ writeT l' from rfl, hy'] at hs2
        obtain ⟨a1, a2⟩ := hs2.head
        refine ⟨.inr ⟨a1, ?_⟩, fun h => ?_⟩
        · rw [a2]; rcases hc with h | h | h
          · exact .inl h
          · exact .inr (.inl h)
          · exact .inr (.inr (.inl h))
        · have := h.2; rw [a2] at this; omega
    have hr := rule_seg (s := s) (i := i) (n := acc.length) hbx (by simp at hl; omega) hs.left hend.1 hend.2
    obtain ⟨m, rfl⟩ : ∃ m, n = m + 1 := ⟨n - 1, by omega⟩
    rw [parseF, if_pos (by omega), hr]
    simp only
    have ih := parse_seg l m (i + (ruleW x).length) (acc ++ [x]) (fun j z hz => by
      have := hb (j + 1) z (by simpa using hz)
      rw [List.length_append]
      simpa [Nat.add_assoc, Nat.add_comm 1 j] using this) (by simp at hl ⊢; omega) hs.right hi (by omega)
    rw [ih, List.append_assoc]; rfl
end
/-- the numbers that stand for what is written -/
def mixZ (r : Int) : List Int := if r = 39 then [39, 39] else if r = 10 then [92, 117, 48, 48, 48, 97] else if quotL.contains r = true then [39, r, 39] else [r]
theorem mixZ_enc {r : Int} : (mixZ r).flatMap enc = mixR r := by
  unfold mixZ mixR
  by_cases h1 : r = 39
  · rw [if_pos h1, if_pos h1]; rfl
  · rw [if_neg h1, if_neg h1]
    by_cases h2 : r = 10
    · rw [if_pos h2, if_pos h2]; rfl
    · rw [if_neg h2, if_neg h2]
      by_cases h3 : quotL.contains r = true
      · rw [if_pos h3, if_pos h3]; have := quot_lt h3; simp [enc, this.2]
      · rw [if_neg h3, if_neg h3]; simp
theorem mixZ_sc {r : Int} (h : sc r = true) : ∀ x ∈ mixZ r, sc x = true := by
  unfold mixZ
  split
  · decide
  · split
    · decide
    · split
      · intro x hx; simp at hx; rcases hx with rfl | rfl | rfl
        · decide
        · exact h
        · decide
      · intro x hx; simp at hx; rw [hx]; exact h
/-- a list of scalars of which a text is made -/
def Made (ys : List Int) : Prop := ∃ zs : List Int, (∀ r ∈ zs, sc r = true) ∧ zs.flatMap enc = ys
theorem Made.app {a b : List Int} (h : Made a) (k : Made b) : Made (a ++ b) := by
  obtain ⟨za, h1, h2⟩ := h
  obtain ⟨zb, k1, k2⟩ := k
  exact ⟨za ++ zb, fun r hr => (List.mem_append.1 hr).elim (h1 r) (k1 r), by rw [List.flatMap_append, h2, k2]⟩
theorem Made.nil : Made [] := ⟨[], by simp, rfl⟩
theorem mix_made : ∀ (l : List Int), (∀ r ∈ l, sc r = true) → Made (mixT l)
  | [], _ => .nil
  | r :: l, h => by
    have e : mixT (r :: l) = mixR r ++ mixT l := rfl
    rw [e]
    exact Made.app ⟨mixZ r, mixZ_sc (h r (List.mem_cons_self ..)), mixZ_enc⟩ (mix_made l (fun x hx => h x (List.mem_cons_of_mem _ hx)))
theorem short_made {l : List Int} (h : ∀ r ∈ l, sc r = true) : Made (shortT l) := by
  unfold shortT
  split
  · have h1 : Made [39] := ⟨[39], by decide, rfl⟩
    have h2 : Made (l.flatMap enc) := ⟨l, h, rfl⟩
    exact Made.app (a := [39]) h1 (h2.app h1)
  · exact mix_made l h
theorem sign_made (k : Int) : Made (signW k) := by
  unfold signW
  split
  · exact ⟨[38], by decide, rfl⟩
  · split
    · exact ⟨[60], by decide, rfl⟩
    · split
      · exact ⟨[60, 60], by decide, rfl⟩
      · split
        · exact ⟨[60, 60, 60], by decide, rfl⟩
        · exact ⟨[61], by decide, rfl⟩
theorem rule_made {n : Nat} {x : Rul} (h : badR n x = false) : Made (ruleW x) := by
  obtain ⟨_, _, _, _, _, hst, hsx⟩ := bad_parts h
  unfold ruleW
  refine ((sign_made _).app (short_made hst)).app ?_
  split
  · exact .nil
  · exact Made.app (a := [47]) ⟨[47], by decide, rfl⟩ (short_made hsx)
theorem write_made : ∀ (l : List Rul) (n : Nat), (∀ j x, l[j]? = some x → badR (n + j) x = false) → Made (writeT l)
  | [], _, _ => .nil
  | x :: l, n, h => by
    have e : writeT (x :: l) = ruleW x ++ writeT l := rfl
    rw [e]
    exact (rule_made (h 0 x rfl)).app (write_made l (n + 1) (fun j z hz => by have := h (j + 1) z (by simpa using hz); simpa [Nat.add_assoc, Nat.add_comm 1 j] using this))
/-- what is written is read -/
theorem parse_write {l : List Rul} (h : mayT l = 0) : parseT (strOfNums (writeT l)) = .inl l := by
  obtain ⟨hb, hl⟩ := may_zero h
  obtain ⟨zs, hz, he⟩ := write_made l 0 (fun j x hx => by rw [Nat.zero_add]; exact hb j x hx)
  have hbd : BD (strOfNums (writeT l)) 0 = none := by rw [← he]; exact (dec_enc zs hz zs [] rfl).1
  have hby : ∀ x ∈ writeT l, 0 ≤ x ∧ x < 256 := by rw [← he]; exact flat_bd zs hz
  have hsz : (strOfNums (writeT l)).size = (writeT l).length := strOfNums_len _
  have hseg : Seg (strOfNums (writeT l)) 0 (writeT l) := fun k x hk => by
    have hx := hby x (List.mem_of_getElem? hk)
    rw [Nat.zero_add]
    exact ⟨by rw [hsz]; exact (List.getElem?_eq_some_iff.1 hk).1, bt_str' _ _ _ hk hx.1 hx.2⟩
  have hsk : skipT (strOfNums (writeT l)) 0 = 0 := by
    cases l with
    | nil => exact skip_end (.inl (by rw [hsz]; rfl))
    | cons x l =>
      have hp := bad_parts (hb 0 x rfl)
      obtain ⟨y, t, hy, hc⟩ := ruleW_head hp.1 hp.2.1
      have hs2 := hseg
      rw [show writeT (x :: l) = ruleW x ++ writeT l from rfl, hy] at hs2
      obtain ⟨a1, a2⟩ := hs2.head
      rw [← hy] at a1 a2
      refine skip_end (.inr ⟨a1, ?_⟩)
      rw [show writeT (x :: l) = ruleW x ++ writeT l from rfl, a2]
      rcases hc with h | h | h
      · exact .inl h
      · exact .inr (.inl h)
      · exact .inr (.inr (.inl h))
  unfold parseT
  rw [hbd]
  simp only
  rw [hsk]
  exact parse_seg l _ 0 [] (fun j x hx => by simpa using hb j x hx) (by simpa using hl) hseg (by rw [hsz]; omega) (Nat.le_refl _)
end Go.Proofs.YtchjjfjjcdjjcaaGreatDoor
