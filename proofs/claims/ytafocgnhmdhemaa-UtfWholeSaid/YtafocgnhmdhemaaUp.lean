/- The law UtfWhole: in plain words. -/
import Derived.Test.YtafocgnhmdhemaaUl
import Derived.Test.YtafocgnhmdhemaaUf
namespace Go.Proofs.Ytafocgnhmdhemaa
open Go.RowKit
open PlainAid (bt)

/-- whole forms from a place to a place -/
inductive Way (s : ByteArray) : Nat → Nat → Prop where
  | refl (p : Nat) : Way s p p
  | step {p q : Nat} (h : fmN s p ≠ 0) (k : Way s (p + fmN s p) q) : Way s p q

theorem Way.trans {s : ByteArray} {a b c : Nat} (h : Way s a b) (k : Way s b c) : Way s a c := by
  induction h with
  | refl => exact k
  | step h1 _ ih => exact .step h1 (ih k)
theorem Way.le {s : ByteArray} {a b : Nat} (h : Way s a b) : a ≤ b := by
  induction h with
  | refl => exact Nat.le_refl _
  | step h1 _ ih => omega
theorem Way.bd {s : ByteArray} {a b : Nat} (h : Way s a b) : BD s a = BD s b := by
  induction h with
  | refl => rfl
  | @step p q h1 _ ih => 
    have := fmN_size s p h1
    rw [BD_eq, if_neg (by omega), if_neg h1]; exact ih
theorem Way.last {s : ByteArray} {a b : Nat} (h : Way s a b) (hab : a ≠ b) : ∃ p, Way s a p ∧ fmN s p ≠ 0 ∧ p + fmN s p = b := by
  induction h with
  | refl => exact absurd rfl hab
  | @step p q h1 k ih =>
    by_cases e : p + fmN s p = q
    · exact ⟨p, .refl p, h1, e⟩
    · obtain ⟨x, k1, k2, k3⟩ := ih e
      exact ⟨x, .step h1 k1, k2, k3⟩
theorem way_of_bd (s : ByteArray) : ∀ (n p : Nat), s.size - p ≤ n → p ≤ s.size → BD s p = none → Way s p s.size := by
  intro n
  induction n with
  | zero => intro p h1 h2 _; rw [show p = s.size by omega]; exact .refl _
  | succ n ih =>
    intro p h1 h2 hb
    by_cases e : s.size ≤ p
    · rw [show p = s.size by omega]; exact .refl _
    · rw [BD_eq, if_neg e] at hb
      by_cases z : fmN s p = 0
      · rw [if_pos z] at hb; cases hb
      · rw [if_neg z] at hb
        have := fmN_size s p z
        exact .step z (ih _ (by omega) (by omega) hb)
theorem bd_end (s : ByteArray) : BD s s.size = none := by rw [BD_eq, if_pos (Nat.le_refl _)]
/-- within a form no form begins -/
theorem co_no {s : ByteArray} {p : Nat} (h : co (bt s p) = true) : fmN s p = 0 := by
  have h' := of_decide_eq_true h
  obtain ⟨f1, f2, f3, f4⟩ := is_first s p
  unfold fmN
  rw [if_neg (fun e => by have := f1 e; omega), if_neg (fun e => by have := f2 e; omega), if_neg (fun e => by have := f3 e; omega), if_neg (fun e => by have := f4 e; omega)]
theorem fm_inside (s : ByteArray) (p k : Nat) (h0 : 1 ≤ k) (h1 : k < fmN s p) : co (bt s (p + k)) = true := by
  have h4 := fmN_le s p
  obtain ⟨_, e2, e3, e4⟩ := fm_excl s p
  by_cases c2 : fmN s p = 2
  · have h := e2.1 c2
    simp only [is2, Bool.and_eq_true] at h
    rw [show k = 1 by omega]; exact h.1.1.2
  by_cases c3 : fmN s p = 3
  · have h := e3.1 c3
    simp only [is3, Bool.and_eq_true] at h
    by_cases k1 : k = 1
    · rw [k1]; exact h.1.1.1.2
    · rw [show k = 2 by omega]; exact h.1.1.2
  have h := e4.1 (by omega)
  simp only [is4, Bool.and_eq_true] at h
  by_cases k1 : k = 1
  · rw [k1]; exact h.1.1.1.1.2
  by_cases k2 : k = 2
  · rw [k2]; exact h.1.1.1.2
  · rw [show k = 3 by omega]; exact h.1.1.2
/-- the form that ends at a place is one -/
theorem ls_unique (s : ByteArray) (p b : Nat) (h : fmN s p ≠ 0) (hb : p + fmN s p = b) : lsN s b = fmN s p := by
  have h4 := fmN_le s p
  refine (ls_hit s b (fmN s p) (by omega) h4 (decide_eq_true ⟨by omega, by rw [show b - fmN s p = p by omega]⟩) fun m h1 h2 => decide_eq_false fun ⟨h3, h5⟩ => ?_).1
  have hc := fm_inside s p (fmN s p - m) (by omega) (by omega)
  rw [show p + (fmN s p - m) = b - m by omega] at hc
  rw [co_no hc] at h5; omega
theorem ls_form (s : ByteArray) (b : Nat) (h : lsN s b ≠ 0) : lsN s b ≤ b ∧ fmN s (b - lsN s b) = lsN s b := by
  unfold lsN at h ⊢
  by_cases c1 : 1 ≤ b ∧ fmN s (b - 1) = 1
  · rw [if_pos c1]; exact c1
  rw [if_neg c1] at h ⊢
  by_cases c2 : 2 ≤ b ∧ fmN s (b - 2) = 2
  · rw [if_pos c2]; exact c2
  rw [if_neg c2] at h ⊢
  by_cases c3 : 3 ≤ b ∧ fmN s (b - 3) = 3
  · rw [if_pos c3]; exact c3
  rw [if_neg c3] at h ⊢
  by_cases c4 : 4 ≤ b ∧ fmN s (b - 4) = 4
  · rw [if_pos c4]; exact c4
  rw [if_neg c4] at h; exact absurd rfl h
theorem ls_le (s : ByteArray) (b : Nat) : lsN s b ≤ 4 := by unfold lsN; repeat' split <;> try omega
/-- back by single scalars, in a text: one stands before each place but the first -/
theorem back_step (s : ByteArray) (b : Nat) (h : Way s 0 b) (hb : 0 < b) : lsN s b ≠ 0 ∧ lsN s b ≤ b ∧ Way s 0 (b - lsN s b) := by
  obtain ⟨p, k1, k2, k3⟩ := h.last (by omega)
  have := ls_unique s p b k2 k3
  rw [this]
  exact ⟨k2, by omega, by rw [show b - fmN s p = p by omega]; exact k1⟩
/-- back by single scalars, anywhere: what lies behind is whole -/
theorem back_keep (s : ByteArray) (b : Nat) (h : Way s b s.size) (hl : lsN s b ≠ 0) : lsN s b ≤ b ∧ Way s (b - lsN s b) s.size := by
  obtain ⟨h1, h2⟩ := ls_form s b hl
  refine ⟨h1, .step (by rw [h2]; exact hl) ?_⟩
  rw [h2, show b - lsN s b + lsN s b = b by omega]; exact h

theorem ext_app (a b : ByteArray) : (a ++ b).extract 0 a.size = a := by
  apply ByteArray.ext
  simp
theorem fm_app1 (a b : ByteArray) (p : Nat) (h : fmN a p ≠ 0) : fmN (a ++ b) p = fmN a p := by
  have h1 := fmN_size a p h
  have h2 := fm_pre (a ++ b) a.size p (by rw [ByteArray.size_append]; omega)
  rw [ext_app] at h2
  by_cases c : p + fmN (a ++ b) p ≤ a.size
  · exact (h2.1 c).2.symm
  · exact absurd (h2.2 c).2 h
theorem fm_app2 (a b : ByteArray) (k : Nat) (hk : k < b.size) : fmN (a ++ b) (a.size + k) = fmN b k := by
  have hz : (a ++ b).size = a.size + b.size := ByteArray.size_append ..
  have h1 := (fm_suffix (a ++ b) (a.size + k) (by omega)).2
  have h2 := (fm_suffix b k hk).2
  rw [← h1, ← h2]
  congr 1
  apply bt_ext
  · rw [ByteArray.size_extract, ByteArray.size_extract, hz]; omega
  · intro j hj
    rw [ByteArray.size_extract, hz] at hj
    rw [bt_extract (a ++ b) _ _ _ (Nat.le_refl _) (by rw [hz]; omega), bt_extract b _ _ _ (Nat.le_refl _) (by omega)]
    unfold bt
    rw [dif_pos (show a.size + k + j < (a ++ b).size by rw [hz]; omega), dif_pos (show k + j < b.size by omega)]
    congr 1
    rw [ByteArray.getElem_append_right (by omega)]
    simp only [show a.size + k + j - a.size = k + j by omega]
theorem bd_app2 (a b : ByteArray) : ∀ (n k : Nat), b.size - k ≤ n → k ≤ b.size → BD (a ++ b) (a.size + k) = (BD b k).map (a.size + ·) := by
  have hz : (a ++ b).size = a.size + b.size := ByteArray.size_append ..
  intro n
  induction n with
  | zero => intro k h1 h2; rw [BD_eq, if_pos (by omega), BD_eq, if_pos (by omega)]; rfl
  | succ n ih =>
    intro k h1 h2
    by_cases e : b.size ≤ k
    · rw [BD_eq, if_pos (by omega), BD_eq, if_pos (by omega)]; rfl
    · rw [BD_eq, if_neg (by omega), BD_eq b, if_neg e, fm_app2 a b k (by omega)]
      by_cases z : fmN b k = 0
      · rw [if_pos z, if_pos z]; rfl
      · rw [if_neg z, if_neg z, Nat.add_assoc]
        have := fmN_size b k z
        exact ih _ (by omega) (by omega)
theorem way_app (a b : ByteArray) {p q : Nat} (h : Way a p q) : Way (a ++ b) p q := by
  induction h with
  | refl => exact .refl _
  | step h1 _ ih =>
    have := fm_app1 a b _ h1
    exact .step (by rw [this]; exact h1) (by rw [this]; exact ih)
/-- a text behind a text -/
theorem bd_app (a b : ByteArray) (h : BD a 0 = none) : BD (a ++ b) 0 = (BD b 0).map (a.size + ·) := by
  have h1 := way_app a b (way_of_bd a _ 0 (Nat.le_refl _) (Nat.zero_le _) h)
  rw [h1.bd]
  exact bd_app2 a b _ 0 (Nat.le_refl _) (Nat.zero_le _)
theorem whole_if (a b : ByteArray) (h : BD a 0 = none) : ((bdE b == 0) != (bdE (a ++ b) == 0)) = false := by
  have := bd_app a b h
  cases hb : BD b 0 with
  | none => rw [hb] at this; rw [(bd_none hb).2, (bd_none this).2]; rfl
  | some x => rw [hb] at this; rw [(bd_some hb).2, (bd_some this).2]; rfl
end Go.Proofs.Ytafocgnhmdhemaa
