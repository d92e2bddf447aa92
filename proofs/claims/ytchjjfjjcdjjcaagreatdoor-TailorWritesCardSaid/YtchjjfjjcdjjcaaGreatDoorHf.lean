/- The reference's reader of rules: signs. The reference's reader of rules: texts. The reference's reader of rules: all rules. -/
import Derived.Test.YtchjjfjjcdjjcaaGreatDoorHd
/-! The reference's reader of rules: signs. -/
namespace Go.Proofs.YtchjjfjjcdjjcaaGreatDoor
open Go.RowKit
open PlainAid (bt)

/-- the signs and kinds that the reference tries, one by one -/
def sgnTry (k : Nat) : ByteArray × Int := if k = 0 then (⟨#[60, 60, 60]⟩, 3) else if k = 1 then (⟨#[60, 60]⟩, 2) else if k = 2 then (⟨#[60]⟩, 1) else if k = 3 then (⟨#[61]⟩, 4) else (⟨#[38]⟩, 0)
theorem rSgn_at (s : ByteArray) (i k : Nat) (hk : k < 5) (h : hasT s i (sgnTry k).1 = true) (hno : ∀ j, j < k → hasT s i (sgnTry j).1 = false) : rSgn s i = (sgnTry k).2 ∧ (sgnTry k).1.size = sgL (sgnTry k).2 := by
  have h0 := hno 0
  have h1 := hno 1
  have h2 := hno 2
  have h3 := hno 3
  have : k = 0 ∨ k = 1 ∨ k = 2 ∨ k = 3 ∨ k = 4 := by omega
  unfold rSgn
  rcases this with rfl | rfl | rfl | rfl | rfl
  · rw [if_pos (show hasT s i ⟨#[60, 60, 60]⟩ = true from h)]; exact ⟨rfl, rfl⟩
  · rw [if_neg (by rw [show hasT s i ⟨#[60, 60, 60]⟩ = false from h0 (by omega)]; simp), if_pos (show hasT s i ⟨#[60, 60]⟩ = true from h)]; exact ⟨rfl, rfl⟩
  · rw [if_neg (by rw [show hasT s i ⟨#[60, 60, 60]⟩ = false from h0 (by omega)]; simp), if_neg (by rw [show hasT s i ⟨#[60, 60]⟩ = false from h1 (by omega)]; simp), if_pos (show hasT s i ⟨#[60]⟩ = true from h)]; exact ⟨rfl, rfl⟩
  · rw [if_neg (by rw [show hasT s i ⟨#[60, 60, 60]⟩ = false from h0 (by omega)]; simp), if_neg (by rw [show hasT s i ⟨#[60, 60]⟩ = false from h1 (by omega)]; simp), if_neg (by rw [show hasT s i ⟨#[60]⟩ = false from h2 (by omega)]; simp), if_pos (show hasT s i ⟨#[61]⟩ = true from h)]; exact ⟨rfl, rfl⟩
  · rw [if_neg (by rw [show hasT s i ⟨#[60, 60, 60]⟩ = false from h0 (by omega)]; simp), if_neg (by rw [show hasT s i ⟨#[60, 60]⟩ = false from h1 (by omega)]; simp), if_neg (by rw [show hasT s i ⟨#[60]⟩ = false from h2 (by omega)]; simp), if_neg (by rw [show hasT s i ⟨#[61]⟩ = false from h3 (by omega)]; simp), if_pos (show hasT s i ⟨#[38]⟩ = true from h)]; exact ⟨rfl, rfl⟩
theorem rSgn_none (s : ByteArray) (i : Nat) (hno : ∀ j, j < 5 → hasT s i (sgnTry j).1 = false) : rSgn s i = -1 := by
  unfold rSgn
  rw [if_neg (by rw [show hasT s i ⟨#[60, 60, 60]⟩ = false from hno 0 (by omega)]; simp), if_neg (by rw [show hasT s i ⟨#[60, 60]⟩ = false from hno 1 (by omega)]; simp), if_neg (by rw [show hasT s i ⟨#[60]⟩ = false from hno 2 (by omega)]; simp), if_neg (by rw [show hasT s i ⟨#[61]⟩ = false from hno 3 (by omega)]; simp), if_neg (by rw [show hasT s i ⟨#[38]⟩ = false from hno 4 (by omega)]; simp)]
theorem has_le {s t : ByteArray} {i : Nat} (h : hasT s i t = true) : i + t.size ≤ s.size := by
  unfold hasT at h
  simp only [Bool.and_eq_true, decide_eq_true_eq] at h
  exact h.1
/-- the lists of signs and of kinds in memory -/
structure SgLists (W : World) (tb kb : Nat) : Prop where
  t : W.heap[tb]? = some (.cells #[.string ⟨#[60, 60, 60]⟩, .string ⟨#[60, 60]⟩, .string ⟨#[60]⟩, .string ⟨#[61]⟩, .string ⟨#[38]⟩] 9 (0, 0))
  k : W.heap[kb]? = some (.cells #[.int .i64 3, .int .i64 2, .int .i64 1, .int .i64 4, .int .i64 0] 3 (0, 0))
theorem SgLists.below {W W' : World} {tb kb : Nat} (h : SgLists W tb kb) (hb : Below W.heap.size W W') : SgLists W' tb kb :=
  ⟨(hb.block tb (Array.getElem?_eq_some_iff.1 h.t).1).trans h.t, (hb.block kb (Array.getElem?_eq_some_iff.1 h.k).1).trans h.k⟩
theorem SgLists.at {W : World} {tb kb : Nat} (h : SgLists W tb kb) (k : Nat) (hk : k < 5) : W.cell? ⟨tb, k, none⟩ = some (.string (sgnTry k).1) ∧ W.cell? ⟨kb, k, none⟩ = some (.int .i64 (sgnTry k).2) ∧ tb < W.heap.size ∧ kb < W.heap.size := by
  have : k = 0 ∨ k = 1 ∨ k = 2 ∨ k = 3 ∨ k = 4 := by omega
  refine ⟨?_, ?_, (Array.getElem?_eq_some_iff.1 h.t).1, (Array.getElem?_eq_some_iff.1 h.k).1⟩
  · rcases this with rfl | rfl | rfl | rfl | rfl <;> (simp only [World.cell?, h.t]; rfl)
  · rcases this with rfl | rfl | rfl | rfl | rfl <;> (simp only [World.cell?, h.k]; rfl)
/-- how the reference's reader of signs ends -/
def SgnEnd (s : ByteArray) (pb i : Nat) (a x : Int) (w : World) (e : Ending) (w' : World) : Prop :=
  e = .returned (.int .i64 (rSgn s i)) ∧ RdAt w' pb s (if rSgn s i < 0 then i else i + sgL (rSgn s i)) a x ∧ Only (fun k => k = pb) w w'
set_option maxHeartbeats 4000000 in
set_option maxRecDepth 100000 in
theorem rsign_any (s : ByteArray) (pb i : Nat) (a x : Int) (w : World) (h : RdAt w pb s i a x) (hi : i ≤ s.size) (hs : s.size ≤ 1000000) :
    Calls Tryz.prog 25 #[.pointer (some ⟨pb, 0, none⟩)] w (SgnEnd s pb i a x w) := by
  have HR := Lib.hid h
  clear h
  go_enter Tryz.func25, Tryz.ntmps25
  go_wp2_with fail
  have hb0 : Below w.heap.size w ((w.alloc (.cells #[.string ⟨#[60, 60, 60]⟩, .string ⟨#[60, 60]⟩, .string ⟨#[60]⟩, .string ⟨#[61]⟩, .string ⟨#[38]⟩] 9)).alloc (.cells #[.int .i64 3, .int .i64 2, .int .i64 1, .int .i64 4, .int .i64 0] 3)) := ((Below.refl _ w).alloc (Nat.le_refl _) _).alloc (by simp) _
  have hsl : SgLists ((w.alloc (.cells #[.string ⟨#[60, 60, 60]⟩, .string ⟨#[60, 60]⟩, .string ⟨#[60]⟩, .string ⟨#[61]⟩, .string ⟨#[38]⟩] 9)).alloc (.cells #[.int .i64 3, .int .i64 2, .int .i64 1, .int .i64 4, .int .i64 0] 3)) w.heap.size (w.heap.size + 1) := by
    constructor
    · rw [Below.heap_alloc _ _ _ (by simp), World.alloc_heap_new]
    · have := World.alloc_heap_new (w.alloc (.cells #[.string ⟨#[60, 60, 60]⟩, .string ⟨#[60, 60]⟩, .string ⟨#[60]⟩, .string ⟨#[61]⟩, .string ⟨#[38]⟩] 9)) (.cells #[.int .i64 3, .int .i64 2, .int .i64 1, .int .i64 4, .int .i64 0] 3)
      rw [World.size_alloc] at this; exact this
  have HB0 := Lib.hid hb0
  have HSL := Lib.hid hsl
  clear hb0 hsl
  go_loopw [5] (fun kv wr => ∃ k : Nat, kv = .int .i64 k ∧ k ≤ 5 ∧ (∀ j, j < k → hasT s i (sgnTry j).1 = false) ∧ Below w.heap.size w wr ∧ SgLists wr w.heap.size (w.heap.size + 1)) (fun kv _ => 5 - (intOf kv).toNat)
  case atStart => exact ⟨0, rfl, by omega, fun j hj => absurd hj (by omega), HB0.out, HSL.out⟩
  case round =>
    obtain ⟨k, rfl, hk, hno, hbw, hls⟩ := hrel
    have HNO := Lib.hid hno
    have HBW := Lib.hid hbw
    have HLS := Lib.hid hls
    clear hno hbw
    by_cases hlt : k < 5
    · obtain ⟨c1, c2, c3, c4⟩ := hls.at k hlt
      have HHH : Hid (∀ W, RdAt W pb s i a x → Calls Tryz.prog 27 #[.pointer (some ⟨pb, 0, none⟩), .string (sgnTry k).1] W fun e w' => e = .returned (.bool (hasT s i (sgnTry k).1)) ∧ Below W.heap.size W w') :=
        fun W hW => rhas_any s _ pb i a x W hW hi hs (by
          have : k = 0 ∨ k = 1 ∨ k = 2 ∨ k = 3 ∨ k = 4 := by omega
          rcases this with rfl | rfl | rfl | rfl | rfl <;> decide)
      have HAT := Lib.hid (rSgn_at s i k hlt)
      have HLE := Lib.hid (fun h => has_le (s := s) (t := (sgnTry k).1) (i := i) h)
      have hkz : (k : Int) < 5 := by omega
      have hs3 : (sgnTry k).1.size ≤ 3 := by
        have : k = 0 ∨ k = 1 ∨ k = 2 ∨ k = 3 ∨ k = 4 := by omega
        rcases this with rfl | rfl | rfl | rfl | rfl <;> decide
      clear hls
      obtain ⟨t, ht⟩ : ∃ t, (sgnTry k).1 = t := ⟨_, rfl⟩
      obtain ⟨y, hy⟩ : ∃ y, (sgnTry k).2 = y := ⟨_, rfl⟩
      rw [ht, hy] at HAT
      rw [ht] at c1 HHH HLE hs3
      rw [hy] at c2
      have HT := Lib.hid ht
      have HY := Lib.hid hy
      clear ht hy
      cases hh : hasT s i t with
      | true =>
        have hat := HAT.out hh HNO.out
        have hle := HLE.out hh
        rw [hh] at HHH
        go_wp2_with fail
        refine (HHH.out _ (HR.out.below HBW.out)).mono ?_
        rintro e w2 ⟨rfl, hb2⟩
        have HB2 : Hid (Below w.heap.size w w2) := HBW.out.trans (hb2.mono HBW.out.size)
        obtain ⟨d1, d2, d3, d4⟩ := (HLS.out.below hb2).at k hlt
        rw [HT.out] at d1
        have hd2 : w2.cell? ⟨w.heap.size + 1, k, none⟩ = some (.int .i64 y) := by
          have := (hb2.cell (p := ⟨w.heap.size + 1, k, none⟩) c4).trans c2; exact this
        have hr2 := HR.out.below HB2.out
        obtain ⟨e0, e1, _, _, ef, epl⟩ := hr2.cells
        have f1 := ef 1
        have HR2 := Lib.hid hr2
        have HAT2 := Lib.hid hat
        obtain ⟨n, hn⟩ : ∃ n, t.size = n := ⟨_, rfl⟩
        rw [hn] at hle hat
        have HN := Lib.hid hn
        rw [hn] at hs3
        clear hb2 c1 c2 c3 c4 d2 hr2 ef HAT hat HHH
        have hpl : pb < w.heap.size := HR.out.cells.2.2.2.2.2
        have hnp : ¬ pb = w.heap.size + 1 := by omega
        have hnp' : ¬ w.heap.size + 1 = pb := by omega
        have hnn : ¬ (sgnTry k).2 < 0 := by
          have : k = 0 ∨ k = 1 ∨ k = 2 ∨ k = 3 ∨ k = 4 := by omega
          rcases this with rfl | rfl | rfl | rfl | rfl <;> decide
        rw [HY.out] at hnn
        have HNN := Lib.hid hnn
        clear hn hnn
        go_wp2_with fail
        refine wp_tail 11 (by kernel_rfl) (by kernel_rfl) ?_; simp only [List.take_succ_cons, List.take_zero, List.drop_succ_cons, List.drop_zero]; (repeat (first | still_step | still_call (fail))); refine wpStill_nil ?_
        go_wp2_with fail
        go_ret
        refine ⟨by rw [HAT2.out.1]; rfl, ?_, (((Only.refl (fun k => k = pb) w).below HB2.out).setCell (p := ⟨pb, 1, none⟩) rfl _).drew⟩
        rw [HAT2.out.1, if_neg (by have := HNN.out; omega), ← HAT2.out.2, HN.out]
        have hw : wrap64 ((i : Int) + (n : Int)) = ((i + n : Nat) : Int) := by rw [IntWalk.wrap64_in _ (by omega)]; omega
        rw [hw]
        exact (HR2.out.go (i + n)).drewN 1
      | false =>
        rw [hh] at HHH
        go_wp2_with fail
        refine (HHH.out _ (HR.out.below HBW.out)).mono ?_
        rintro e w2 ⟨rfl, hb2⟩
        have HB2 : Hid (Below w.heap.size w w2) := HBW.out.trans (hb2.mono HBW.out.size)
        have HL2 := Lib.hid (HLS.out.below hb2)
        clear hb2 c1 c2 c3 c4
        go_wp2_with fail
        go_roundw
        case rel => exact ⟨k + 1, by go_num, by omega, fun j hj => by
          rcases Nat.lt_succ_iff_lt_or_eq.1 hj with h | rfl
          · exact HNO.out j h
          · rw [HT.out]; exact hh, HB2.out, HL2.out⟩
        case measure => (show 5 - ((k : Int) + 1).toNat < 5 - (k : Int).toNat; omega)
    · obtain rfl : k = 5 := by omega
      have HE : Hid (rSgn s i = -1) := rSgn_none s i HNO.out
      clear hls
      go_wp2_with fail
      go_ret
      refine ⟨by rw [HE.out]; rfl, ?_, (Only.refl _ w).below HBW.out⟩
      rw [HE.out, if_pos (by decide)]; exact HR.out.below HBW.out
end Go.Proofs.YtchjjfjjcdjjcaaGreatDoor
/-! The reference's reader of rules: texts. -/
namespace Go.Proofs.YtchjjfjjcdjjcaaGreatDoor
open Go.RowKit
open PlainAid (bt)

/-- how the reference's reader of texts ends -/
def RtxEnd (s : ByteArray) (pb i : Nat) (w : World) (e : Ending) (w' : World) : Prop :=
  Only (fun k => k = pb) w w' ∧
    ((∃ xs j v a, textT s i = (some xs, j) ∧ e = .returned v ∧ Runes w.heap.size w' v xs ∧ xs ≠ [] ∧ xs.length ≤ s.size ∧ RdAt w' pb s j a 0 ∧ i ≤ j ∧ j ≤ s.size ∧ BD s j = none) ∨
      (∃ (j k : Nat) (v : Option Addr) (n : Nat), textT s i = (none, j) ∧ e = .returned (.slice v 0 n) ∧ (n ≤ maxLen) ∧ RdAt w' pb s k j 100 ∧ k ≤ s.size))
theorem plain_stop {c : Int} (h0 : 0 ≤ c) (h1 : c ≤ 255) (h92 : c ≠ 92) (h39 : c ≠ 39) : (!specL.contains c) = !stopB c := by
  rw [spec_is c h0 h1]
  have a1 : (c == 39) = false := by simpa using h39
  have a2 : (c == 92) = false := by simpa using h92
  rw [a1, a2]; simp
set_option maxHeartbeats 8000000 in
set_option maxRecDepth 100000 in
theorem rtext_any (s : ByteArray) (pb i : Nat) (a : Int) (w : World) (h : RdAt w pb s i a 0) (hi : i ≤ s.size) (hs : s.size ≤ 1000000) (hb : BD s i = none) :
    Calls Tryz.prog 26 #[.pointer (some ⟨pb, 0, none⟩)] w (RtxEnd s pb i w) := by
  have hbt := PlainAid.get_bt s
  have HP := Lib.hid h
  have hpl := h.cells.2.2.2.2.2
  have hk := rskip_any s pb i a 0
  have hbk := skip_bd hi hb
  have hle1 := skip_le s i hi
  have HTT : Hid (textT s i = someT (textF s (s.size - skipT s i) (skipT s i) [])) := rfl
  have HSI : Hid (i ≤ skipT s i) := skip_ge s i hi
  clear h
  obtain ⟨i0, hti, hz0, hz1, hz2⟩ := info_parts Tryz.infoR
  go_enter Tryz.func26, Tryz.ntmps26
  go_wp2_with (go_at_call 24; refine (hk _ HP.out hi hs).mono ?_; rintro e w1 ⟨rfl, hp1, ho1⟩)
  generalize skipT s i = i1 at *
  have HP1 := Lib.hid hp1
  have HO1 := Lib.hid ho1
  clear hk hp1 ho1 HP
  have hpl1 : pb < w1.heap.size := Nat.lt_of_lt_of_le hpl HO1.out.size
  go_loopg [3] (s.size - i1) (fun g lv3 wr => ∃ (j : Nat) (acc : List Int), RxAt s pb a 0 w1 j acc lv3 wr ∧ j ≤ s.size ∧ i1 ≤ j ∧ s.size - j ≤ g ∧ BD s j = none ∧ textF s g j acc = textF s (s.size - i1) i1 [] ∧ acc.length ≤ j)
  case atStart => exact ⟨i1, [], ⟨World.ownsRow_nil _ _ _ _, HP1.out, Only.refl _ _, hpl1⟩, hle1, Nat.le_refl _, Nat.le_refl _, hbk, rfl, Nat.zero_le _⟩
  case round =>
    obtain ⟨j, acc, hT, hj, hij, hjg, hbj, hF, hal⟩ := hrel
    have HT := Lib.hid hT
    have HF := Lib.hid hF
    obtain ⟨c0, c1, c2, c3, cf, _⟩ := hT.rd.cells
    have f1 := cf 1
    clear hT hF cf c2
    by_cases hlt : j < s.size
    · have hlt' : decide (j < s.size) = true := decide_eq_true hlt
      have hlz : decide ((j : Int) < (s.size : Int)) = true := decide_eq_true (by omega)
      go_wp2_with fail
      go_quiet (fail)
      go_wp2_with fail
      go_quiet (fail)
      obtain ⟨g, rfl⟩ : ∃ g, gk = g + 1 := ⟨gk - 1, by omega⟩
      have HEQ : Hid (textF s (g + 1) j acc = if bt s j = 92 then (match escT s j with | none => (none, j) | some x => textF s g (j + x.2) (acc ++ [x.1]))
          else if bt s j = 39 then (match quoT s j with | none => (none, j) | some x => textF s g (j + x.2) (acc ++ x.1))
          else if stopB (bt s j) = true then (some acc, j) else textF s g (j + fmN s j) (acc ++ [fmR s j])) := by
        show _ = _
        rw [textF, if_pos hlt]; rfl
      have hesc := fun x m (h : escT s j = some (x, m)) (h92 : bt s j = 92) => esc_some h hlt h92 hbj
      have hquo := fun x m (h : quoT s j = some (x, m)) (h39 : bt s j = 39) => quo_some h hlt h39 hbj
      have HESC := Lib.hid hesc
      have HQUO := Lib.hid hquo
      have hcb := And.intro (PlainAid.bt_nonneg s j) (PlainAid.bt_le s j)
      have HCH := Lib.hid hcb
      clear hesc hquo hcb
      by_cases h92 : bt s j = 92
      · have e92 : (bt s j == 92) = true := by simpa using h92
        rw [if_pos h92] at HEQ
        go_wp2_with fail
        refine (rescape_any s pb j a 0 _ (HT.out.rd.drewN _) hlt hs h92).mono ?_
        rintro e w5 (⟨x, m, he, rfl, hp5, ho5⟩ | ⟨he, rfl, hp5, ho5⟩)
        · have hfac := HESC.out x m he h92
          have HEF : Hid (textF s g (j + m) (acc ++ [x]) = textF s (s.size - i1) i1 []) := by
            show _ = _
            rw [← HF.out, HEQ.out, he]
          have HT5 := Lib.hid ((HT.out.drewN _).call ho5 hp5)
          have HT6 := Lib.hid (HT5.out.below ((Below.refl _ w5).alloc (Nat.le_refl _) (.cells #[.int .i32 x] 21)))
          have hsz := HT6.out.only.size
          have HFAC := Lib.hid hfac
          clear he hfac ho5 hp5 HEQ HESC HQUO HT e92 h92 HF c0 c1 c3 f1
          go_wp2_with (at_builtin; refine gStop ⟨_, _, rfl⟩ ?_)
          refine Lib.hid ?_
          refine wpList_append_own_at _ rfl _ _ 34 rfl w1.heap.size 21 i0 (.int .i32 0) 1 4 Tryz.underlying34 hti hz0 hz1 hz2 rfl (by decide) _ acc.length (acc.map (Value.int .i32)) rfl HT6.out.row ⟨w5.heap.size, 0, none⟩ 1 1 [.int .i32 x] rfl rfl (gCells _ _ _) (by simp [Value.oneCell']) (by unfold maxLen; omega) (by omega) hsz ?_
          intro v7 w7 hrow7 hg7 _ _
          have HT7 := Lib.hid (HT6.out.app (acc' := acc ++ [x]) (by rw [List.length_append, List.map_append]; exact hrow7) hg7)
          clear hrow7 hg7 HT6 HT5 hsz
          go_wp2_with fail
          go_roundg g
          case measure => omega
          case rel => exact ⟨j + m, acc ++ [x], HT7.out, HFAC.out.2.1, by omega, by have := HFAC.out.1; omega, HFAC.out.2.2.1, HEF.out, by have := HFAC.out.1; simp; omega⟩
        · have HE : Hid (textT s i = (none, j)) := by
            show _ = _
            rw [HTT.out, ← HF.out, HEQ.out, he]; rfl
          have HON : Hid (Only (fun k => k = pb) w w5) := (HO1.out.trans (HT.out.only)).trans ((only_drewN (Only.refl _ _) _).trans ho5)
          have HR5 := Lib.hid hp5
          clear hp5 ho5 he HEQ HT HF e92 h92 HESC HQUO c0 c1 c3 f1
          go_wp2_with fail
          refine (rfail_ok s pb j a j _ HR5.out).mono ?_
          rintro e w6 ⟨rfl, hp6, ho6⟩
          have HR6 := Lib.hid hp6
          have HO6 := Lib.hid (HON.out.trans ho6)
          clear hp6 ho6 HR5 HON
          go_wp2_with fail
          go_ret
          exact ⟨HO6.out, .inr ⟨j, j, _, _, HE.out, rfl, Nat.zero_le _, HR6.out, hj⟩⟩
      · have e92 : (bt s j == 92) = false := by simpa using h92
        rw [if_neg h92] at HEQ
        have H92 := Lib.hid h92
        clear h92 HESC
        by_cases h39 : bt s j = 39
        · have e39 : (bt s j == 39) = true := by simpa using h39
          rw [if_pos h39] at HEQ
          go_wp2_with fail
          refine (rquote_any s pb j a 0 _ (HT.out.rd.drewN _) hlt hs h39 hbj).mono ?_
          rintro e w5 (⟨x, m, v, he, rfl, hr5, hp5, ho5⟩ | ⟨he, rfl, hp5, ho5⟩)
          · have hfac := HQUO.out x m he h39
            have HEF : Hid (textF s g (j + m) (acc ++ x) = textF s (s.size - i1) i1 []) := by
              show _ = _
              rw [← HF.out, HEQ.out, he]
            have HT5 := Lib.hid ((HT.out.drewN _).call ho5 hp5)
            have hsz := HT5.out.only.size
            obtain ⟨b, o, cap, rfl, _, _, hcells⟩ := gPlace hr5 (List.length_pos_iff.2 hfac.2.2.2.1)
            have HFAC := Lib.hid hfac
            have HCL := Lib.hid (gNews hcells)
            have HXL : Hid (x.length ≤ 1000000) := by show _ ≤ _; omega
            clear he hfac ho5 hp5 HEQ HQUO HT e92 e39 h39 HF hr5 hcells H92 c0 c1 c3 f1
            go_wp2_with (at_builtin; refine gStop ⟨_, _, rfl⟩ ?_)
            refine Lib.hid ?_
            refine wpList_append_own_at _ rfl _ _ 34 rfl w1.heap.size 21 i0 (.int .i32 0) 1 4 Tryz.underlying34 hti hz0 hz1 hz2 rfl (by decide) _ acc.length (acc.map (Value.int .i32)) rfl HT5.out.row ⟨b, o, none⟩ x.length cap (x.map (Value.int .i32)) rfl (by simp) HCL.out (by simp [Value.oneCell']) (by unfold maxLen; have := HXL.out; omega) (by have := HXL.out; omega) hsz ?_
            intro v7 w7 hrow7 hg7 _ _
            have HT7 := Lib.hid (HT5.out.app (acc' := acc ++ x) (by rw [List.length_append, List.map_append]; exact hrow7) hg7)
            clear hrow7 hg7 HT5 hsz HCL
            go_wp2_with fail
            go_roundg g
            case measure => omega
            case rel => exact ⟨j + m, acc ++ x, HT7.out, HFAC.out.2.1, by omega, by have := HFAC.out.1; omega, HFAC.out.2.2.1, HEF.out, by have := HFAC.out; simp; omega⟩
          · have HE : Hid (textT s i = (none, j)) := by
              show _ = _
              rw [HTT.out, ← HF.out, HEQ.out, he]; rfl
            have HON : Hid (Only (fun k => k = pb) w w5) := (HO1.out.trans (HT.out.only)).trans ((only_drewN (Only.refl _ _) _).trans ho5)
            have HR5 := Lib.hid hp5
            clear hp5 ho5 he HEQ HT HF e92 h39 HQUO H92 c0 c1 c3 f1
            go_wp2_with fail
            refine (rfail_ok s pb j a j _ HR5.out).mono ?_
            rintro e w6 ⟨rfl, hp6, ho6⟩
            have HR6 := Lib.hid hp6
            have HO6 := Lib.hid (HON.out.trans ho6)
            clear hp6 ho6 HR5 HON
            go_wp2_with fail
            go_ret
            exact ⟨HO6.out, .inr ⟨j, j, _, _, HE.out, rfl, Nat.zero_le _, HR6.out, hj⟩⟩
        · have e39 : (bt s j == 39) = false := by simpa using h39
          rw [if_neg h39] at HEQ
          have HPL : Hid ((!specL.contains (bt s j)) = !stopB (bt s j)) := plain_stop HCH.out.1 HCH.out.2 H92.out h39
          clear h39 HQUO H92
          cases hsb : stopB (bt s j) with
          | true =>
            rw [hsb, if_pos rfl] at HEQ
            rw [hsb] at HPL
            have HFIN : Hid (textT s i = someT (some acc, j)) := by
              show _ = _
              rw [HTT.out, ← HF.out, HEQ.out]
            have HT5 := Lib.hid (fun n => HT.out.drewN n)
            obtain ⟨p3, cap3, rfl⟩ := HT.out.form
            obtain ⟨n3, hn3⟩ : ∃ n3, n3 = acc.length := ⟨_, rfl⟩
            rw [← hn3]
            have HN3 := Lib.hid hn3
            clear hn3 hsb
            by_cases hz : n3 = 0
            · have hzz : ((n3 : Int) == 0) = true := by rw [hz]; rfl
              have HZ := Lib.hid hz
              have HE : Hid (textT s i = (none, j)) := by
                show _ = _
                rw [HFIN.out, List.eq_nil_of_length_eq_zero (HN3.out.symm.trans hz)]; rfl
              clear hz
              go_wp2_with (first | (go_at_call 49; refine (rplain_any _ _).mono ?_; rintro e w5 ⟨rfl, h5⟩; rw [HPL.out]; subst h5) | (go_at_call 47; refine (rfail_ok s pb j a j _ (HT5.out _).rd).mono ?_; rintro e w6 ⟨rfl, hp6, ho6⟩))
              go_ret
              refine ⟨(HO1.out.trans (HT5.out _).only).trans ho6, .inr ⟨j, j, p3, cap3, HE.out, by rw [HZ.out]; rfl, ?_, hp6, hj⟩⟩
              have hrow := HT.out.row.2
              rcases hrow with ⟨e, _⟩ | ⟨g, cap, cur, e, _, _, _, h2, _⟩
              · injection e with _ _ e3; rw [e3]; exact Nat.zero_le _
              · injection e with _ _ e3; rw [e3]; exact h2
            · have hzz : ((n3 : Int) == 0) = false := by simp; omega
              have HE : Hid (textT s i = (some acc, j) ∧ acc ≠ []) := by
                have hne : acc ≠ [] := fun e => hz (by have := HN3.out; rw [e] at this; exact this)
                refine ⟨?_, hne⟩
                rw [HFIN.out, someT, if_neg hne]
              clear hz
              go_wp2_with (go_at_call 49; refine (rplain_any _ _).mono ?_; rintro e w5 ⟨rfl, h5⟩; rw [HPL.out]; subst h5)
              go_ret
              refine ⟨HO1.out.trans (HT5.out _).only, .inl ⟨acc, j, _, a, HE.out.1, rfl, ?_, HE.out.2, by have := HN3.out; omega, (HT5.out _).rd, by have := HSI.out; omega, hj, hbj⟩⟩
              rw [HN3.out]
              exact (gRunes (HT5.out _).row).mono HO1.out.size
          | false =>
            have hfac := bd_step hbj hlt
            rw [hsb] at HPL
            have HEF : Hid (textF s g (j + fmN s j) (acc ++ [fmR s j]) = textF s (s.size - i1) i1 []) := by
              show _ = _
              rw [← HF.out, HEQ.out, hsb, if_neg (by simp)]
            have hnx : ∀ W : World, Calls Tryz.prog 50 #[.string s, .int .i64 j] W fun e w' => e = .returned (.tuple #[.int .i32 (fmR s j), .int .i64 (fmN s j), .int .i64 (erN (fmN s j))]) ∧ Below W.heap.size W w' := fun W => rnext_in s j W (by omega) hlt
            have HNX := Lib.hid hnx
            have HFAC := Lib.hid hfac
            clear hnx hfac hsb f1
            go_wp2_with (go_at_call 49; refine (rplain_any _ _).mono ?_; rintro e w5 ⟨rfl, h5⟩; rw [HPL.out]; have HT5 := Lib.hid (show RxAt s pb a 0 w1 j acc u3 w5 from h5 ▸ HT.out.drewN _); clear h5; obtain ⟨d0, d1, _, _, cf5, hlw⟩ := HT5.out.rd.cells; have f5 := cf5 1; clear cf5)
            refine wp_region_over (by kernel_rfl) (by kernel_rfl) ?_; (repeat (go_big_quiet_step (((go_at_call 50; exact over_of (HNX.out _)))))); refine wpQuiet_nil ?_; intro w2 hb2
            have HT6 := Lib.hid (HT5.out.below hb2)
            have HT7 := Lib.hid (HT6.out.below ((Below.refl _ w2).alloc (Nat.le_refl _) (.cells #[.int .i32 (fmR s j)] 21)))
            have hsz := HT7.out.only.size
            have hfl := fmN_le s j
            clear hb2 HT5 HNX c0 c1 c3 d0 d1 f5 hlw
            generalize fmR s j = r at *
            generalize fmN s j = m at *
            generalize erN m = em at *
            go_wp2_with (at_builtin; refine gStop ⟨_, _, rfl⟩ ?_)
            refine Lib.hid ?_
            refine wpList_append_own_at _ rfl _ _ 34 rfl w1.heap.size 21 i0 (.int .i32 0) 1 4 Tryz.underlying34 hti hz0 hz1 hz2 rfl (by decide) _ acc.length (acc.map (Value.int .i32)) rfl HT7.out.row ⟨w2.heap.size, 0, none⟩ 1 1 [.int .i32 r] rfl rfl (gCells _ _ _) (by simp [Value.oneCell']) (by unfold maxLen; omega) (by omega) hsz ?_
            intro v7 w7 hrow7 hg7 _ _
            have HT8 := Lib.hid (HT7.out.app (acc' := acc ++ [r]) (by rw [List.length_append, List.map_append]; exact hrow7) hg7)
            clear hrow7 hg7 HT7 HT6 hsz
            obtain ⟨c0, c1, _, _, cf8, hlw⟩ := HT8.out.rd.cells
            have f8 := cf8 1
            clear cf8 c0
            go_wp2_with fail
            go_roundg g
            case measure => omega
            case rel =>
              refine ⟨j + m, acc ++ [r], ?_, HFAC.out.2.2, by omega, by have := HFAC.out.1; omega, HFAC.out.2.1, HEF.out, by have := HFAC.out.1; simp; omega⟩
              rw [show (j : Int) + (m : Int) = ((j + m : Nat) : Int) from by omega]
              exact HT8.out.go (j + m)
    · have hlt' : decide (j < s.size) = false := decide_eq_false hlt
      have hlz : decide ((j : Int) < (s.size : Int)) = false := decide_eq_false (by omega)
      have HFIN : Hid (textT s i = someT (some acc, j)) := by
        show _ = _
        rw [HTT.out, ← HF.out]
        cases gk with
        | zero => rfl
        | succ n => rw [textF, if_neg hlt]
      obtain ⟨p3, cap3, rfl⟩ := HT.out.form
      have HT5 := Lib.hid (fun n => HT.out.drewN n)
      obtain ⟨n3, hn3⟩ : ∃ n3, n3 = acc.length := ⟨_, rfl⟩
      rw [← hn3]
      have HN3 := Lib.hid hn3
      clear hn3
      by_cases hz : n3 = 0
      · have hzz : ((n3 : Int) == 0) = true := by rw [hz]; rfl
        have HZ := Lib.hid hz
        have HE : Hid (textT s i = (none, j)) := by
          show _ = _
          rw [HFIN.out, List.eq_nil_of_length_eq_zero (HN3.out.symm.trans hz)]; rfl
        clear hz
        go_wp2_with fail
        go_quiet (fail)
        go_wp2_with (go_at_call 47; refine (rfail_ok s pb j a j _ (HT5.out _).rd).mono ?_; rintro e w6 ⟨rfl, hp6, ho6⟩)
        go_ret
        refine ⟨(HO1.out.trans (HT5.out _).only).trans ho6, .inr ⟨j, j, p3, cap3, HE.out, by rw [HZ.out]; rfl, ?_, hp6, hj⟩⟩
        have hrow := HT.out.row.2
        rcases hrow with ⟨e, _⟩ | ⟨g, cap, cur, e, _, _, _, h2, _⟩
        · injection e with _ _ e3; rw [e3]; exact Nat.zero_le _
        · injection e with _ _ e3; rw [e3]; exact h2
      · have hzz : ((n3 : Int) == 0) = false := by simp; omega
        have HE : Hid (textT s i = (some acc, j) ∧ acc ≠ []) := by
          have hne : acc ≠ [] := fun e => hz (by have := HN3.out; rw [e] at this; exact this)
          refine ⟨?_, hne⟩
          rw [HFIN.out, someT, if_neg hne]
        clear hz
        go_wp2_with fail
        go_quiet (fail)
        go_wp2_with fail
        go_ret
        refine ⟨HO1.out.trans (HT5.out _).only, .inl ⟨acc, j, _, a, HE.out.1, rfl, ?_, HE.out.2, by have := HN3.out; omega, (HT5.out _).rd, by have := HSI.out; omega, hj, hbj⟩⟩
        rw [HN3.out]
        exact (gRunes (HT5.out _).row).mono HO1.out.size
end Go.Proofs.YtchjjfjjcdjjcaaGreatDoor
/-! The reference's reader of rules: all rules. -/
namespace Go.Proofs.YtchjjfjjcdjjcaaGreatDoor
open Go.RowKit
open PlainAid (bt)

/-- where what counts for nothing ends, something else stands -/
theorem skip_fix {s : ByteArray} {j : Nat} (hj : j ≤ s.size) : skipT s j < s.size → ¬ blank (bt s (skipT s j)) = true ∧ bt s (skipT s j) ≠ 35 := by
  have key : ∀ n j, s.size - j ≤ n → j ≤ s.size → skipF s n j < s.size → ¬ blank (bt s (skipF s n j)) = true ∧ bt s (skipF s n j) ≠ 35 := by
    intro n
    induction n with
    | zero => intro j h1 h2 h3; rw [skipF] at h3; omega
    | succ n ih =>
      intro j h1 h2
      rw [skipF]
      split
      · rename_i hlt
        split
        · exact ih _ (by omega) (by omega)
        · rename_i hb
          split
          · rename_i h35
            have := eolT_gt s j hlt (by omega)
            exact ih _ (by omega) (eolT_le s j h2)
          · rename_i h35
            exact fun _ => ⟨hb, h35⟩
      · rename_i h; exact fun h3 => absurd h3 h
  exact key _ _ (Nat.le_refl _) hj
theorem skip_idem {s : ByteArray} {j : Nat} (hj : j ≤ s.size) : skipT s (skipT s j) = skipT s j := by
  have h := skip_fix hj
  generalize skipT s j = i at *
  unfold skipT
  cases hn : s.size - i with
  | zero => rfl
  | succ n =>
    have hi : i < s.size := by omega
    rw [skipF, if_pos hi, if_neg (h hi).1, if_neg (h hi).2]
theorem sgnOk_rel {s : ByteArray} {i n : Nat} (hi : i < s.size) : sgnOk s i (n == 0) = true ↔ ¬ (rSgn s i < 0 ∨ (0 < rSgn s i ∧ n = 0)) := by
  unfold sgnOk
  rcases sgn_rel s i hi with ⟨h1, h2⟩ | ⟨h1, h2, _⟩
  · rw [h2]; simp; omega
  · rw [h2]
    simp only [Option.isSome_some, Bool.true_and, Option.getD_some]
    cases n with
    | zero => simp; omega
    | succ n => simp; omega
/-- a rule that the reference reads -/
structure RrAt (s : ByteArray) (pb xb : Nat) (k : Int) (tv : Value) (tx : List Int) (w0 : World) (j : Nat) (a x : Int) (xv : Value) (W : World) : Prop where
  rd : RdAt W pb s j a x
  x : XrAt W xb k tv xv
  run : IntsIn (fun b => w0.heap.size ≤ b ∧ b < xb) .i32 W tv tx
  only : Only (fun k => k = pb ∨ w0.heap.size ≤ k) w0 W
  pbw : pb < w0.heap.size
  xbw : w0.heap.size ≤ xb
section
variable {s : ByteArray} {pb xb : Nat} {k : Int} {tv : Value} {tx : List Int} {w0 : World} {j : Nat} {a x : Int} {xv : Value} {W W' : World}
theorem RrAt.call (h : RrAt s pb xb k tv tx w0 j a x xv W) (ho : Only (fun k => k = pb) W W') {j' : Nat} {a' x' : Int} (hp : RdAt W' pb s j' a' x') : RrAt s pb xb k tv tx w0 j' a' x' xv W' :=
  ⟨hp, h.x.only ho (by have := h.pbw; have := h.xbw; omega), h.run.kept (Kept.only ho (fun b hb e => by have := h.pbw; omega)), h.only.trans (ho.mono fun _ e => .inl e), h.pbw, h.xbw⟩
theorem RrAt.drewN (h : RrAt s pb xb k tv tx w0 j a x xv W) (n : Nat) : RrAt s pb xb k tv tx w0 j a x xv (W.drewN n) := h.call (only_drewN (Only.refl _ _) n) (h.rd.drewN n)
theorem RrAt.below (h : RrAt s pb xb k tv tx w0 j a x xv W) (hb : Below W.heap.size W W') : RrAt s pb xb k tv tx w0 j a x xv W' := h.call ((Only.refl _ W).below hb) (h.rd.below hb)
theorem RrAt.go (h : RrAt s pb xb k tv tx w0 j a x xv W) (i : Nat) : RrAt s pb xb k tv tx w0 i a x xv (W.setCell ⟨pb, 1, none⟩ (.int .i64 (i : Nat))) :=
  h.call ((Only.refl (fun k => k = pb) W).setCell (p := ⟨pb, 1, none⟩) rfl _) (h.rd.go i)
theorem RrAt.put2 (h : RrAt s pb xb k tv tx w0 j a x xv W) (v : Value) : RrAt s pb xb k tv tx w0 j a x v (W.setCell ⟨xb, 2, none⟩ v) := by
  have ho : Only (fun k => k = xb) W (W.setCell ⟨xb, 2, none⟩ v) := (Only.refl (fun k => k = xb) W).setCell (p := ⟨xb, 2, none⟩) rfl _
  exact ⟨h.rd.only ho (by have := h.pbw; have := h.xbw; omega), h.x.put2 v, h.run.kept (Kept.only ho (fun b hb e => by omega)), h.only.trans (ho.mono fun _ e => .inr (by have := h.xbw; omega)), h.pbw, h.xbw⟩
end
end Go.Proofs.YtchjjfjjcdjjcaaGreatDoor
