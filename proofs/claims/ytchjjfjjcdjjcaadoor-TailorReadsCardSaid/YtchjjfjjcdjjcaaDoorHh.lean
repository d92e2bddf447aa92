/- The reference's reader of rules: all rules. -/
import Derived.Test.YtchjjfjjcdjjcaaDoorHg
namespace Go.Proofs.YtchjjfjjcdjjcaaDoor
open Go.RowKit
open PlainAid (bt)

/-- where what counts for nothing ends, something else stands -/
theorem skip_fix {s : ByteArray} {j : Nat} (hj : j ≤ s.size) : skipT s j < s.size → ¬ blank (bt s (skipT s j)) = true ∧ bt s (skipT s j) ≠ 35 := by
  have key : ∀ n j, s.size - j ≤ n → j ≤ s.size → skipF s n j < s.size → ¬ blank (bt s (skipF s n j)) = true ∧ bt s (skipF s n j) ≠ 35 := by
    intro n
    induction n with
    | zero => intro j h1 h2 h3; rw [skipF] at h3; omega
    | succ n ih =>
      intro j h1 h2
      rw [skipF]
      split
      · rename_i hlt
        split
        · exact ih _ (by omega) (by omega)
        · rename_i hb
          split
          · rename_i h35
            have := eolT_gt s j hlt (by omega)
            exact ih _ (by omega) (eolT_le s j h2)
          · rename_i h35
            exact fun _ => ⟨hb, h35⟩
      · rename_i h; exact fun h3 => absurd h3 h
  exact key _ _ (Nat.le_refl _) hj
theorem skip_idem {s : ByteArray} {j : Nat} (hj : j ≤ s.size) : skipT s (skipT s j) = skipT s j := by
  have h := skip_fix hj
  generalize skipT s j = i at *
  unfold skipT
  cases hn : s.size - i with
  | zero => rfl
  | succ n =>
    have hi : i < s.size := by omega
    rw [skipF, if_pos hi, if_neg (h hi).1, if_neg (h hi).2]
theorem sgnOk_rel {s : ByteArray} {i n : Nat} (hi : i < s.size) : sgnOk s i (n == 0) = true ↔ ¬ (rSgn s i < 0 ∨ (0 < rSgn s i ∧ n = 0)) := by
  unfold sgnOk
  rcases sgn_rel s i hi with ⟨h1, h2⟩ | ⟨h1, h2, _⟩
  · rw [h2]; simp; omega
  · rw [h2]
    simp only [Option.isSome_some, Bool.true_and, Option.getD_some]
    cases n with
    | zero => simp; omega
    | succ n => simp; omega
/-- a rule that the reference reads -/
structure RrAt (s : ByteArray) (pb xb : Nat) (k : Int) (tv : Value) (tx : List Int) (w0 : World) (j : Nat) (a x : Int) (xv : Value) (W : World) : Prop where
  rd : RdAt W pb s j a x
  x : XrAt W xb k tv xv
  run : IntsIn (fun b => w0.heap.size ≤ b ∧ b < xb) .i32 W tv tx
  only : Only (fun k => k = pb ∨ w0.heap.size ≤ k) w0 W
  pbw : pb < w0.heap.size
  xbw : w0.heap.size ≤ xb
section
variable {s : ByteArray} {pb xb : Nat} {k : Int} {tv : Value} {tx : List Int} {w0 : World} {j : Nat} {a x : Int} {xv : Value} {W W' : World}
theorem RrAt.call (h : RrAt s pb xb k tv tx w0 j a x xv W) (ho : Only (fun k => k = pb) W W') {j' : Nat} {a' x' : Int} (hp : RdAt W' pb s j' a' x') : RrAt s pb xb k tv tx w0 j' a' x' xv W' :=
  ⟨hp, h.x.only ho (by have := h.pbw; have := h.xbw; omega), h.run.kept (Kept.only ho (fun b hb e => by have := h.pbw; omega)), h.only.trans (ho.mono fun _ e => .inl e), h.pbw, h.xbw⟩
theorem RrAt.drewN (h : RrAt s pb xb k tv tx w0 j a x xv W) (n : Nat) : RrAt s pb xb k tv tx w0 j a x xv (W.drewN n) := h.call (only_drewN (Only.refl _ _) n) (h.rd.drewN n)
theorem RrAt.below (h : RrAt s pb xb k tv tx w0 j a x xv W) (hb : Below W.heap.size W W') : RrAt s pb xb k tv tx w0 j a x xv W' := h.call ((Only.refl _ W).below hb) (h.rd.below hb)
theorem RrAt.go (h : RrAt s pb xb k tv tx w0 j a x xv W) (i : Nat) : RrAt s pb xb k tv tx w0 i a x xv (W.setCell ⟨pb, 1, none⟩ (.int .i64 (i : Nat))) :=
  h.call ((Only.refl (fun k => k = pb) W).setCell (p := ⟨pb, 1, none⟩) rfl _) (h.rd.go i)
theorem RrAt.put2 (h : RrAt s pb xb k tv tx w0 j a x xv W) (v : Value) : RrAt s pb xb k tv tx w0 j a x v (W.setCell ⟨xb, 2, none⟩ v) := by
  have ho : Only (fun k => k = xb) W (W.setCell ⟨xb, 2, none⟩ v) := (Only.refl (fun k => k = xb) W).setCell (p := ⟨xb, 2, none⟩) rfl _
  exact ⟨h.rd.only ho (by have := h.pbw; have := h.xbw; omega), h.x.put2 v, h.run.kept (Kept.only ho (fun b hb e => by omega)), h.only.trans (ho.mono fun _ e => .inr (by have := h.xbw; omega)), h.pbw, h.xbw⟩
end
end Go.Proofs.YtchjjfjjcdjjcaaDoor
