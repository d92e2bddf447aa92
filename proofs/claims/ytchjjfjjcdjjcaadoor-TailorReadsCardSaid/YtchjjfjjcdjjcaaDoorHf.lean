/- The reference's reader of rules: signs. -/
import Derived.Test.YtchjjfjjcdjjcaaDoorHe
namespace Go.Proofs.YtchjjfjjcdjjcaaDoor
open Go.RowKit
open PlainAid (bt)

/-- the signs and kinds that the reference tries, one by one -/
def sgnTry (k : Nat) : ByteArray × Int := if k = 0 then (⟨#[60, 60, 60]⟩, 3) else if k = 1 then (⟨#[60, 60]⟩, 2) else if k = 2 then (⟨#[60]⟩, 1) else if k = 3 then (⟨#[61]⟩, 4) else (⟨#[38]⟩, 0)
theorem rSgn_at (s : ByteArray) (i k : Nat) (hk : k < 5) (h : hasT s i (sgnTry k).1 = true) (hno : ∀ j, j < k → hasT s i (sgnTry j).1 = false) : rSgn s i = (sgnTry k).2 ∧ (sgnTry k).1.size = sgL (sgnTry k).2 := by
  have h0 := hno 0
  have h1 := hno 1
  have h2 := hno 2
  have h3 := hno 3
  have : k = 0 ∨ k = 1 ∨ k = 2 ∨ k = 3 ∨ k = 4 := by omega
  unfold rSgn
  rcases this with rfl | rfl | rfl | rfl | rfl
  · rw [if_pos (show hasT s i ⟨#[60, 60, 60]⟩ = true from h)]; exact ⟨rfl, rfl⟩
  · rw [if_neg (by rw [show hasT s i ⟨#[60, 60, 60]⟩ = false from h0 (by omega)]; simp), if_pos (show hasT s i ⟨#[60, 60]⟩ = true from h)]; exact ⟨rfl, rfl⟩
  · rw [if_neg (by rw [show hasT s i ⟨#[60, 60, 60]⟩ = false from h0 (by omega)]; simp), if_neg (by rw [show hasT s i ⟨#[60, 60]⟩ = false from h1 (by omega)]; simp), if_pos (show hasT s i ⟨#[60]⟩ = true from h)]; exact ⟨rfl, rfl⟩
  · rw [if_neg (by rw [show hasT s i ⟨#[60, 60, 60]⟩ = false from h0 (by omega)]; simp), if_neg (by rw [show hasT s i ⟨#[60, 60]⟩ = false from h1 (by omega)]; simp), if_neg (by rw [show hasT s i ⟨#[60]⟩ = false from h2 (by omega)]; simp), if_pos (show hasT s i ⟨#[61]⟩ = true from h)]; exact ⟨rfl, rfl⟩
  · rw [if_neg (by rw [show hasT s i ⟨#[60, 60, 60]⟩ = false from h0 (by omega)]; simp), if_neg (by rw [show hasT s i ⟨#[60, 60]⟩ = false from h1 (by omega)]; simp), if_neg (by rw [show hasT s i ⟨#[60]⟩ = false from h2 (by omega)]; simp), if_neg (by rw [show hasT s i ⟨#[61]⟩ = false from h3 (by omega)]; simp), if_pos (show hasT s i ⟨#[38]⟩ = true from h)]; exact ⟨rfl, rfl⟩
theorem rSgn_none (s : ByteArray) (i : Nat) (hno : ∀ j, j < 5 → hasT s i (sgnTry j).1 = false) : rSgn s i = -1 := by
  unfold rSgn
  rw [if_neg (by rw [show hasT s i ⟨#[60, 60, 60]⟩ = false from hno 0 (by omega)]; simp), if_neg (by rw [show hasT s i ⟨#[60, 60]⟩ = false from hno 1 (by omega)]; simp), if_neg (by rw [show hasT s i ⟨#[60]⟩ = false from hno 2 (by omega)]; simp), if_neg (by rw [show hasT s i ⟨#[61]⟩ = false from hno 3 (by omega)]; simp), if_neg (by rw [show hasT s i ⟨#[38]⟩ = false from hno 4 (by omega)]; simp)]
theorem has_le {s t : ByteArray} {i : Nat} (h : hasT s i t = true) : i + t.size ≤ s.size := by
  unfold hasT at h
  simp only [Bool.and_eq_true, decide_eq_true_eq] at h
  exact h.1
/-- the lists of signs and of kinds in memory -/
structure SgLists (W : World) (tb kb : Nat) : Prop where
  t : W.heap[tb]? = some (.cells #[.string ⟨#[60, 60, 60]⟩, .string ⟨#[60, 60]⟩, .string ⟨#[60]⟩, .string ⟨#[61]⟩, .string ⟨#[38]⟩] 9 (0, 0))
  k : W.heap[kb]? = some (.cells #[.int .i64 3, .int .i64 2, .int .i64 1, .int .i64 4, .int .i64 0] 3 (0, 0))
theorem SgLists.below {W W' : World} {tb kb : Nat} (h : SgLists W tb kb) (hb : Below W.heap.size W W') : SgLists W' tb kb :=
  ⟨(hb.block tb (Array.getElem?_eq_some_iff.1 h.t).1).trans h.t, (hb.block kb (Array.getElem?_eq_some_iff.1 h.k).1).trans h.k⟩
theorem SgLists.at {W : World} {tb kb : Nat} (h : SgLists W tb kb) (k : Nat) (hk : k < 5) : W.cell? ⟨tb, k, none⟩ = some (.string (sgnTry k).1) ∧ W.cell? ⟨kb, k, none⟩ = some (.int .i64 (sgnTry k).2) ∧ tb < W.heap.size ∧ kb < W.heap.size := by
  have : k = 0 ∨ k = 1 ∨ k = 2 ∨ k = 3 ∨ k = 4 := by omega
  refine ⟨?_, ?_, (Array.getElem?_eq_some_iff.1 h.t).1, (Array.getElem?_eq_some_iff.1 h.k).1⟩
  · rcases this with rfl | rfl | rfl | rfl | rfl <;> (simp only [World.cell?, h.t]; rfl)
  · rcases this with rfl | rfl | rfl | rfl | rfl <;> (simp only [World.cell?, h.k]; rfl)
/-- how the reference's reader of signs ends -/
def SgnEnd (s : ByteArray) (pb i : Nat) (a x : Int) (w : World) (e : Ending) (w' : World) : Prop :=
  e = .returned (.int .i64 (rSgn s i)) ∧ RdAt w' pb s (if rSgn s i < 0 then i else i + sgL (rSgn s i)) a x ∧ Only (fun k => k = pb) w w'
set_option maxHeartbeats 4000000 in
set_option maxRecDepth 100000 in
theorem rsign_any (s : ByteArray) (pb i : Nat) (a x : Int) (w : World) (h : RdAt w pb s i a x) (hi : i ≤ s.size) (hs : s.size ≤ 1000000) :
    Calls Tryd.prog 21 #[.pointer (some ⟨pb, 0, none⟩)] w (SgnEnd s pb i a x w) := by
  have HR := Lib.hid h
  clear h
  go_enter Tryd.func21, Tryd.ntmps21
  go_wp2_with fail
  have hb0 : Below w.heap.size w ((w.alloc (.cells #[.string ⟨#[60, 60, 60]⟩, .string ⟨#[60, 60]⟩, .string ⟨#[60]⟩, .string ⟨#[61]⟩, .string ⟨#[38]⟩] 9)).alloc (.cells #[.int .i64 3, .int .i64 2, .int .i64 1, .int .i64 4, .int .i64 0] 3)) := ((Below.refl _ w).alloc (Nat.le_refl _) _).alloc (by simp) _
  have hsl : SgLists ((w.alloc (.cells #[.string ⟨#[60, 60, 60]⟩, .string ⟨#[60, 60]⟩, .string ⟨#[60]⟩, .string ⟨#[61]⟩, .string ⟨#[38]⟩] 9)).alloc (.cells #[.int .i64 3, .int .i64 2, .int .i64 1, .int .i64 4, .int .i64 0] 3)) w.heap.size (w.heap.size + 1) := by
    constructor
    · rw [Below.heap_alloc _ _ _ (by simp), World.alloc_heap_new]
    · have := World.alloc_heap_new (w.alloc (.cells #[.string ⟨#[60, 60, 60]⟩, .string ⟨#[60, 60]⟩, .string ⟨#[60]⟩, .string ⟨#[61]⟩, .string ⟨#[38]⟩] 9)) (.cells #[.int .i64 3, .int .i64 2, .int .i64 1, .int .i64 4, .int .i64 0] 3)
      rw [World.size_alloc] at this; exact this
  have HB0 := Lib.hid hb0
  have HSL := Lib.hid hsl
  clear hb0 hsl
  go_loopw [5] (fun kv wr => ∃ k : Nat, kv = .int .i64 k ∧ k ≤ 5 ∧ (∀ j, j < k → hasT s i (sgnTry j).1 = false) ∧ Below w.heap.size w wr ∧ SgLists wr w.heap.size (w.heap.size + 1)) (fun kv _ => 5 - (intOf kv).toNat)
  case atStart => exact ⟨0, rfl, by omega, fun j hj => absurd hj (by omega), HB0.out, HSL.out⟩
  case round =>
    obtain ⟨k, rfl, hk, hno, hbw, hls⟩ := hrel
    have HNO := Lib.hid hno
    have HBW := Lib.hid hbw
    have HLS := Lib.hid hls
    clear hno hbw
    by_cases hlt : k < 5
    · obtain ⟨c1, c2, c3, c4⟩ := hls.at k hlt
      have HHH : Hid (∀ W, RdAt W pb s i a x → Calls Tryd.prog 23 #[.pointer (some ⟨pb, 0, none⟩), .string (sgnTry k).1] W fun e w' => e = .returned (.bool (hasT s i (sgnTry k).1)) ∧ Below W.heap.size W w') :=
        fun W hW => rhas_any s _ pb i a x W hW hi hs (by
          have : k = 0 ∨ k = 1 ∨ k = 2 ∨ k = 3 ∨ k = 4 := by omega
          rcases this with rfl | rfl | rfl | rfl | rfl <;> decide)
      have HAT := Lib.hid (rSgn_at s i k hlt)
      have HLE := Lib.hid (fun h => has_le (s := s) (t := (sgnTry k).1) (i := i) h)
      have hkz : (k : Int) < 5 := by omega
      have hs3 : (sgnTry k).1.size ≤ 3 := by
        have : k = 0 ∨ k = 1 ∨ k = 2 ∨ k = 3 ∨ k = 4 := by omega
        rcases this with rfl | rfl | rfl | rfl | rfl <;> decide
      clear hls
      obtain ⟨t, ht⟩ : ∃ t, (sgnTry k).1 = t := ⟨_, rfl⟩
      obtain ⟨y, hy⟩ : ∃ y, (sgnTry k).2 = y := ⟨_, rfl⟩
      rw [ht, hy] at HAT
      rw [ht] at c1 HHH HLE hs3
      rw [hy] at c2
      have HT := Lib.hid ht
      have HY := Lib.hid hy
      clear ht hy
      cases hh : hasT s i t with
      | true =>
        have hat := HAT.out hh HNO.out
        have hle := HLE.out hh
        rw [hh] at HHH
        go_wp2_with fail
        refine (HHH.out _ (HR.out.below HBW.out)).mono ?_
        rintro e w2 ⟨rfl, hb2⟩
        have HB2 : Hid (Below w.heap.size w w2) := HBW.out.trans (hb2.mono HBW.out.size)
        obtain ⟨d1, d2, d3, d4⟩ := (HLS.out.below hb2).at k hlt
        rw [HT.out] at d1
        have hd2 : w2.cell? ⟨w.heap.size + 1, k, none⟩ = some (.int .i64 y) := by
          have := (hb2.cell (p := ⟨w.heap.size + 1, k, none⟩) c4).trans c2; exact this
        have hr2 := HR.out.below HB2.out
        obtain ⟨e0, e1, _, _, ef, epl⟩ := hr2.cells
        have f1 := ef 1
        have HR2 := Lib.hid hr2
        have HAT2 := Lib.hid hat
        obtain ⟨n, hn⟩ : ∃ n, t.size = n := ⟨_, rfl⟩
        rw [hn] at hle hat
        have HN := Lib.hid hn
        rw [hn] at hs3
        clear hb2 c1 c2 c3 c4 d2 hr2 ef HAT hat HHH
        have hpl : pb < w.heap.size := HR.out.cells.2.2.2.2.2
        have hnp : ¬ pb = w.heap.size + 1 := by omega
        have hnp' : ¬ w.heap.size + 1 = pb := by omega
        have hnn : ¬ (sgnTry k).2 < 0 := by
          have : k = 0 ∨ k = 1 ∨ k = 2 ∨ k = 3 ∨ k = 4 := by omega
          rcases this with rfl | rfl | rfl | rfl | rfl <;> decide
        rw [HY.out] at hnn
        have HNN := Lib.hid hnn
        clear hn hnn
        go_wp2_with fail
        refine wp_tail 11 (by kernel_rfl) (by kernel_rfl) ?_; simp only [List.take_succ_cons, List.take_zero, List.drop_succ_cons, List.drop_zero]; (repeat (first | still_step | still_call (fail))); refine wpStill_nil ?_
        go_wp2_with fail
        go_ret
        refine ⟨by rw [HAT2.out.1]; rfl, ?_, (((Only.refl (fun k => k = pb) w).below HB2.out).setCell (p := ⟨pb, 1, none⟩) rfl _).drew⟩
        rw [HAT2.out.1, if_neg (by have := HNN.out; omega), ← HAT2.out.2, HN.out]
        have hw : wrap64 ((i : Int) + (n : Int)) = ((i + n : Nat) : Int) := by rw [IntWalk.wrap64_in _ (by omega)]; omega
        rw [hw]
        exact (HR2.out.go (i + n)).drewN 1
      | false =>
        rw [hh] at HHH
        go_wp2_with fail
        refine (HHH.out _ (HR.out.below HBW.out)).mono ?_
        rintro e w2 ⟨rfl, hb2⟩
        have HB2 : Hid (Below w.heap.size w w2) := HBW.out.trans (hb2.mono HBW.out.size)
        have HL2 := Lib.hid (HLS.out.below hb2)
        clear hb2 c1 c2 c3 c4
        go_wp2_with fail
        go_roundw
        case rel => exact ⟨k + 1, by go_num, by omega, fun j hj => by
          rcases Nat.lt_succ_iff_lt_or_eq.1 hj with h | rfl
          · exact HNO.out j h
          · rw [HT.out]; exact hh, HB2.out, HL2.out⟩
        case measure => (show 5 - ((k : Int) + 1).toNat < 5 - (k : Int).toNat; omega)
    · obtain rfl : k = 5 := by omega
      have HE : Hid (rSgn s i = -1) := rSgn_none s i HNO.out
      clear hls
      go_wp2_with fail
      go_ret
      refine ⟨by rw [HE.out]; rfl, ?_, (Only.refl _ w).below HBW.out⟩
      rw [HE.out, if_pos (by decide)]; exact HR.out.below HBW.out
end Go.Proofs.YtchjjfjjcdjjcaaDoor
