/- The reference's reader of rules: what stands in quotes. -/
import Derived.Test.YtchjjfjjcdjjcaaDoorHd
namespace Go.Proofs.YtchjjfjjcdjjcaaDoor
open Go.RowKit
open PlainAid (bt)

/-- between two rounds of the reference's readers -/
structure RxAt (s : ByteArray) (pb : Nat) (a x : Int) (w : World) (j : Nat) (acc : List Int) (v : Value) (W : World) : Prop where
  row : W.ownsRow w.heap.size 21 1 v acc.length (acc.map (Value.int .i32))
  rd : RdAt W pb s j a x
  only : Only (fun k => k = pb) w W
  hpb : pb < w.heap.size
section
variable {s : ByteArray} {pb : Nat} {a x : Int} {w W W' : World} {j : Nat} {acc : List Int} {v : Value}
theorem RxAt.call (h : RxAt s pb a x w j acc v W) (ho : Only (fun k => k = pb) W W') {j' : Nat} {a' x' : Int} (hp : RdAt W' pb s j' a' x') : RxAt s pb a' x' w j' acc v W' :=
  ⟨gBlock h.row (fun i hi hl => ho.block i hl (fun e => by have := ownBlock_ge h.row hi; have := h.hpb; omega)), hp, h.only.trans ho, h.hpb⟩
theorem RxAt.below (h : RxAt s pb a x w j acc v W) (hb : Below W.heap.size W W') : RxAt s pb a x w j acc v W' :=
  h.call ((Only.refl _ W).below hb) (h.rd.below hb)
theorem RxAt.go (h : RxAt s pb a x w j acc v W) (i : Nat) : RxAt s pb a x w i acc v (W.setCell ⟨pb, 1, none⟩ (.int .i64 (i : Nat))) :=
  h.call ((Only.refl (fun k => k = pb) W).setCell (p := ⟨pb, 1, none⟩) rfl _) (h.rd.go i)
theorem RxAt.drewN (h : RxAt s pb a x w j acc v W) (n : Nat) : RxAt s pb a x w j acc v (W.drewN n) :=
  ⟨gBlock h.row (fun _ _ _ => rfl), h.rd.drewN n, only_drewN h.only n, h.hpb⟩
theorem RxAt.app (h : RxAt s pb a x w j acc v W) {v' : Value} {acc' : List Int} (hr : W'.ownsRow w.heap.size 21 1 v' acc'.length (acc'.map (Value.int .i32))) (hg : W.grownBy W' v.ownBlock) : RxAt s pb a x w j acc' v' W' := by
  have hne : ∀ k, k < w.heap.size → some k ≠ v.ownBlock := fun k hk e => by have := ownBlock_ge h.row e.symm; omega
  have hsz := h.only.size
  refine ⟨hr, ?_, ⟨hg.os.trans h.only.os, hg.tape.trans h.only.tape, hg.output.trans h.only.output, Nat.le_trans h.only.size hg.size, fun k hk hs => ?_⟩, h.hpb⟩
  · exact (hg.block pb (by have := h.hpb; omega) (hne pb h.hpb)).trans h.rd
  · exact (hg.block k (by omega) (hne k hk)).trans (h.only.block k hk hs)
theorem RxAt.form (h : RxAt s pb a x w j acc v W) : ∃ p cap, v = .slice p acc.length cap := by
  rcases h.row.2 with ⟨rfl, h0⟩ | ⟨g, cap, cur, rfl, _⟩
  · exact ⟨none, 0, by rw [h0]⟩
  · exact ⟨_, _, rfl⟩
end
/-- how the reference's reader of quotes ends -/
def QuoEnd (s : ByteArray) (pb i : Nat) (a x : Int) (w : World) (e : Ending) (w' : World) : Prop :=
  (∃ l m v, quoT s i = some (l, m) ∧ e = .returned (.tuple #[v, .bool true]) ∧ Runes w.heap.size w' v l ∧ RdAt w' pb s (i + m) a x ∧ Only (fun k => k = pb) w w') ∨
    (quoT s i = none ∧ e = .returned (.tuple #[.slice none 0 0, .bool false]) ∧ RdAt w' pb s i a x ∧ Only (fun k => k = pb) w w')
set_option maxHeartbeats 4000000 in
set_option maxRecDepth 100000 in
theorem rquote_any (s : ByteArray) (pb i : Nat) (a x : Int) (w : World) (h : RdAt w pb s i a x) (hi : i < s.size) (hs : s.size ≤ 1000000) (h39 : bt s i = 39) (hb : BD s i = none) :
    Calls Tryd.prog 41 #[.pointer (some ⟨pb, 0, none⟩)] w (QuoEnd s pb i a x w) := by
  obtain ⟨q1, q2, q3, q4⟩ := qE_is s (i + 1) (by omega)
  have HQT : Hid (quoT s i = if qE s (i + 1) < s.size ∧ bt s (qE s (i + 1)) = 39 then some (if qE s (i + 1) = i + 1 then [39] else dTo s (i + 1) (qE s (i + 1)), qE s (i + 1) + 1 - i) else none) := rfl
  have hb1 : BD s (i + 1) = none := bd_next hb hi (by omega)
  have hbt := PlainAid.get_bt s
  obtain ⟨c0, c1, _, _, cf, cpl⟩ := h.cells
  have HR := Lib.hid h
  generalize qE s (i + 1) = J at *
  have HQ3 := Lib.hid q3
  have HQ4 := Lib.hid q4
  clear h h39 hb q3 q4 cf
  obtain ⟨b, hbb⟩ : ∃ b, b = i + 1 := ⟨_, rfl⟩
  rw [← hbb] at HQT q1 hb1 HQ3
  have a1 : (i : Int) + 1 = (b : Int) := by omega
  have HBB := Lib.hid hbb
  clear hbb
  obtain ⟨i0, hti, hz0, hz1, hz2⟩ := info_parts Tryd.infoR
  go_enter Tryd.func41, Tryd.ntmps41
  go_wp2_with fail
  have hdl := fun p (h1 : b ≤ p) (h2 : BD s p = none) (h3 : p ≤ J) => dT_len s J (J - p) p h2 q2
  go_loopw [4, 5] (fun lv iv wr => ∃ (p : Nat) (acc : List Int), iv = .int .i64 p ∧ RxAt s pb a x w i acc lv wr ∧ b ≤ p ∧ p ≤ J ∧ BD s p = none ∧ acc ++ dTo s p J = dTo s b J ∧ acc.length ≤ p) (fun _ iv _ => s.size - (intOf iv).toNat)
  case atStart => exact ⟨b, [], rfl, ⟨World.ownsRow_nil _ _ _ _, HR.out, Only.refl _ _, cpl⟩, Nat.le_refl _, q1, hb1, rfl, Nat.zero_le _⟩
  case round =>
    obtain ⟨p, acc, rfl, hT, hbp, hpJ, hbdp, hac, hal⟩ := hrel
    have HT := Lib.hid hT
    have HAC := Lib.hid hac
    obtain ⟨d0, d1, _, _, df, dpl⟩ := hT.rd.cells
    have f1 := df 1
    clear hT hac df c0 c1 hdl
    by_cases hlt : p < J
    · have hps : p < s.size := by omega
      have hlz : decide ((p : Int) < (s.size : Int)) = true := decide_eq_true (by omega)
      obtain ⟨n39, n10⟩ := HQ3.out p hbp hlt
      have e39 : (bt s p == 39) = false := by simpa using n39
      have e10 : (bt s p == 10) = false := by simpa using n10
      have e10' : (bt s p != 10) = true := by simpa using n10
      have hfac := bd_step hbdp hps
      have hle : p + fmN s p ≤ J := by
        refine Nat.le_of_not_lt fun hl => ?_
        have h1 := form_tail s p (J - p) (by omega) (by omega)
        rw [show p + (J - p) = J by omega] at h1
        have := HQ4.out (by omega)
        omega
      have HEF : Hid ((acc ++ [fmR s p]) ++ dTo s (p + fmN s p) J = dTo s b J) := by
        show _ = _
        rw [← HAC.out, dTo_step hbdp q2 hlt]; simp
      have HFAC := Lib.hid hfac
      have hpos : 1 ≤ fmN s p := by have := hfac.1; omega
      have hnx : ∀ W : World, Calls Tryd.prog 43 #[.string s, .int .i64 p] W fun e w' => e = .returned (.tuple #[.int .i32 (fmR s p), .int .i64 (fmN s p), .int .i64 (erN (fmN s p))]) ∧ Below W.heap.size W w' := fun W => rnext_in s p W (by omega) hps
      have HNX := Lib.hid hnx
      clear hnx hfac n39 n10
      go_wp2_with fail
      refine (HNX.out _).mono ?_
      rintro e w2 ⟨rfl, hb2⟩
      have HT2 := Lib.hid (HT.out.below hb2)
      have HT3 := Lib.hid (HT2.out.below ((Below.refl _ w2).alloc (Nat.le_refl _) (.cells #[.int .i32 (fmR s p)] 21)))
      have hsz := HT3.out.only.size
      clear hb2 HNX d0 d1 f1 e39 e10 e10'
      generalize fmR s p = r at *
      generalize fmN s p = m at *
      generalize erN m = em at *
      go_wp2_with (at_builtin; refine gStop ⟨_, _, rfl⟩ ?_)
      refine Lib.hid ?_
      refine wpList_append_own_at _ rfl _ _ 43 rfl w.heap.size 21 i0 (.int .i32 0) 1 4 Tryd.underlying43 hti hz0 hz1 hz2 rfl (by decide) _ acc.length (acc.map (Value.int .i32)) rfl HT3.out.row ⟨w2.heap.size, 0, none⟩ 1 1 [.int .i32 r] rfl rfl (gCells _ _ _) (by simp [Value.oneCell']) (by unfold maxLen; omega) (by omega) hsz ?_
      intro v7 w7 hrow7 hg7 _ _
      have HT8 := Lib.hid (HT3.out.app (acc' := acc ++ [r]) (by rw [List.length_append, List.map_append]; exact hrow7) hg7)
      clear hrow7 hg7 HT3 HT2 hsz
      go_wp2_with fail
      go_roundw
      case rel => exact ⟨p + m, acc ++ [r], by go_num, HT8.out, by omega, hle, HFAC.out.2.1, HEF.out, by simp; omega⟩
      case measure => (simp [intOf]; omega)
    · obtain rfl : p = J := by omega
      have HAC2 : Hid (acc = dTo s b p) := by
        have := HAC.out; rwa [dTo_end, List.append_nil] at this
      clear hlt
      by_cases hps : p < s.size
      · have hlz : decide ((p : Int) < (s.size : Int)) = true := decide_eq_true (by omega)
        have hor := HQ4.out hps
        by_cases h39 : bt s p = 39
        · have e39 : (bt s p == 39) = true := by simpa using h39
          have e10 : (bt s p == 10) = false := by rw [h39]; rfl
          have e10' : (bt s p != 10) = true := by rw [h39]; rfl
          have HM : Hid (i + (p + 1 - i) = p + 1) := by show _ = _; have := HBB.out; omega
          rw [if_pos ⟨hps, h39⟩] at HQT
          clear hor h39
          by_cases hpb : p = b
          · have g1 : ((b : Int) == (p : Int)) = true := by simp; omega
            rw [if_pos hpb] at HQT
            have HN := Lib.hid hpb
            clear hpb
            go_wp2_with fail
            go_ret2
            refine .inl ⟨_, _, _, HQT.out, rfl, ?_, ?_, ?_⟩
            · have := runes_one w.heap.size (wr.setCell ⟨pb, 1, none⟩ (.int .i64 ((p : Int) + 1))) 39 21 (by simp; exact HT.out.only.size)
              simpa using this
            · rw [HM.out]
              have h2 := HT.out.rd.go (p + 1)
              exact h2.below ((Below.refl _ _).alloc (Nat.le_refl _) _)
            · exact (HT.out.only.setCell (p := ⟨pb, 1, none⟩) rfl _).alloc _
          · have g1 : ((b : Int) == (p : Int)) = false := by simp; omega
            rw [if_neg hpb] at HQT
            clear hpb
            go_wp2_with fail
            go_ret2
            refine .inl ⟨_, _, _, HQT.out, rfl, ?_, ?_, ?_⟩
            · rw [← HAC2.out]; exact gRunes (HT.out.go (p + 1)).row
            · rw [HM.out]; exact HT.out.rd.go (p + 1)
            · exact HT.out.only.setCell (p := ⟨pb, 1, none⟩) rfl _
        · have i10 : bt s p = 10 := by omega
          have e10 : (bt s p == 10) = true := by simpa using i10
          have e10' : (bt s p != 10) = false := by simpa using i10
          rw [if_neg (fun h => h39 h.2)] at HQT
          clear hor h39 i10
          go_wp2_with fail
          go_ret2
          exact .inr ⟨HQT.out, rfl, HT.out.rd, HT.out.only⟩
      · have hlz : decide ((p : Int) < (s.size : Int)) = false := decide_eq_false (by omega)
        rw [if_neg (fun h => hps h.1)] at HQT
        go_wp2_with fail
        go_ret2
        exact .inr ⟨HQT.out, rfl, HT.out.rd, HT.out.only⟩
end Go.Proofs.YtchjjfjjcdjjcaaDoor
