/- norm.Text. -/
import Derived.Test.YtlldoofclaokgaaGreatOb
import Derived.Test.YtlldoofclaokgaaGreatVc
namespace Go.Proofs.YtlldoofclaokgaaGreat
open Go.RowKit

/-- what Text tells -/
def textE (s : ByteArray) : Int := if bdE s ≠ 0 then 40 else if 1000 < s.size then 2 else nfdE (dcV s)
def textL (f : Int → Int) (dc : Int → List Int) (s : ByteArray) : List Int := if textE s = 0 then ordL f ((dcV s).flatMap dc) else []
def textS (f : Int → Int) (dc : Int → List Int) (s : ByteArray) : ByteArray := if textE s = 0 then ecS (textL f dc s) else ⟨#[]⟩
theorem dc_len (s : ByteArray) : ∀ (k a : Nat), (dc s k a).length ≤ k := by
  intro k
  induction k with
  | zero => intro a; unfold dc; exact Nat.le_refl _
  | succ k ih =>
    intro a
    unfold dc
    split
    · simp
    · split
      · simp
      · have := ih (a + fmN s a); simp; omega
theorem dcV_len (s : ByteArray) : (dcV s).length ≤ s.size + 1 := by
  unfold dcV
  split
  · exact dc_len s _ _
  · simp
theorem ints_at_in {R : Nat → Prop} {k : IntKind} {w : World} {v : Value} {xs : List Int} (h : IntsIn R k w v xs) : IntsAt 0 k w v xs := by
  obtain ⟨p, cap, h1, _, h2⟩ := h
  exact ⟨p, cap, h1, fun i x hx => by obtain ⟨b, o, e, _, hb, hc⟩ := h2 i x hx; exact ⟨b, o, e, Nat.zero_le _, hb, hc⟩⟩
theorem bdE_two (s : ByteArray) : bdE s = 0 ∨ bdE s = 40 := by unfold bdE; split <;> simp
set_option maxHeartbeats 4000000 in
set_option maxRecDepth 1000000 in
theorem text_any (f : Int → Int) (dc : Int → List Int) (rv : Value) (S : Nat → Prop) (J : (Nat → Prop) → World → Prop) (R : Nat → Prop) (s : ByteArray) (w : World) (hN : Norm f dc rv S J) (hR : ∀ b, w.heap.size ≤ b → R b) (hsz : s.size ≤ 1000000) (hj : J R w)
    (hec : textE s = 0 → ecE (textL f dc s) = 0) :
    Calls Tryz.prog 33 #[rv, .string s] w fun e w' => e = .returned (.tuple #[.string (textS f dc s), .int .i64 (textE s)]) ∧ J R w' ∧ Only S w w' := by
  have hde := uDecode_any s w (by omega)
  have HN := Lib.hid hN
  have HR := Lib.hid hR
  have HJ := Lib.hid hj
  have HEC := Lib.hid hec
  have hdl := dcV_len s
  clear hN hR hj hec
  rcases bdE_two s with hb | hb
  · by_cases hlong : 1000 < s.size
    · have g1 : (1000 : Int) < (s.size : Int) := by omega
      have HE : Hid (textE s = 2) := by show _ = _; unfold textE; rw [if_neg (by omega), if_pos hlong]
      unfold DecPost at hde
      rw [hb] at hde
      clear hb hlong
      go_enter Tryz.func33, Tryz.ntmps33
      go_wp2_with fail
      refine hde.mono ?_
      rintro e w1 ⟨v, rfl, hru, hb1⟩
      have HB1 := Lib.hid hb1
      clear hde hru hb1
      go_wp2_with fail
      go_ret2
      exact ⟨by unfold textS; rw [HE.out, if_neg (by decide)]; rfl, HN.out.kept _ _ _ HJ.out (Kept.below HB1.out), (Only.refl _ w).below HB1.out⟩
    · have g1 : ¬ ((1000 : Int) < (s.size : Int)) := by omega
      have HE : Hid (textE s = nfdE (dcV s)) := by show _ = _; unfold textE; rw [if_neg (by omega), if_neg hlong]
      unfold DecPost at hde
      rw [hb] at hde
      clear hb
      go_enter Tryz.func33, Tryz.ntmps33
      go_wp2_with fail
      refine hde.mono ?_
      rintro e w1 ⟨v, rfl, hru, hb1⟩
      have HB1 := Lib.hid hb1
      have hS : ∀ k, S k → k < w.heap.size := fun k hk => (HN.out.own _ _ _ HJ.out hk).2
      have hnf := nfd_any f dc rv S J R _ (dcV s) v w1 HN.out (fun b hb => HR.out b (by have := hb1.size; omega)) hru (fun b hb hs => by have := hS b hs; omega) (by omega) (HN.out.kept _ _ _ HJ.out (Kept.below hb1))
      clear hde hru hb1 hS
      by_cases hz : nfdE (dcV s) = 0
      · have HZ := Lib.hid hz
        unfold NfdTold at hnf
        rw [hz] at hnf
        clear hz
        go_wp2_with fail
        with_reducible refine hnf.mono ?_
        rintro e w2 ⟨⟨v2, rfl, hi2⟩, hj2, ho2⟩
        have hL : nfdOf f dc (dcV s) = textL f dc s := by unfold nfdOf textL; rw [HZ.out, if_pos rfl, HE.out, HZ.out, if_pos rfl]
        rw [hL] at hi2
        have hen := uEncode_any (textL f dc s) v2 w2 (ints_at_in hi2) (by
          have h1 : (textL f dc s).length ≤ 7 * (dcV s).length := by
            unfold textL
            split
            · rw [ordL_len]; exact (flat_len HN.out.dlen _).2
            · simp
          omega)
        have HJ2 := Lib.hid hj2
        have HO2 := Lib.hid ho2
        have HECZ : Hid (ecE (textL f dc s) = 0) := HEC.out (by rw [HE.out, HZ.out])
        unfold EncPost at hen
        rw [HECZ.out] at hen
        clear hnf hi2 hj2 ho2 hL
        go_wp2_with fail
        refine hen.mono ?_
        rintro e w3 ⟨rfl, hb3⟩
        have HB3 := Lib.hid hb3
        clear hen hb3
        go_wp2_with fail
        go_ret2
        exact ⟨by unfold textS; rw [HE.out, HZ.out, if_pos rfl]; rfl, HN.out.kept _ _ _ HJ2.out (Kept.below HB3.out), (((Only.refl _ w).below HB1.out).trans HO2.out).below HB3.out⟩
      · have HZ := Lib.hid hz
        unfold NfdTold at hnf
        obtain ⟨z, hzz⟩ : ∃ z, z = nfdE (dcV s) := ⟨_, rfl⟩
        rw [← hzz] at hnf HE hz
        clear hzz
        go_wp2_with fail
        with_reducible refine hnf.mono ?_
        rintro e w2 ⟨⟨v2, rfl, hi2⟩, hj2, ho2⟩
        have HJ2 := Lib.hid hj2
        have HO2 := Lib.hid ho2
        clear hnf hi2 hj2 ho2
        go_wp2_with fail
        go_ret2
        exact ⟨by unfold textS; rw [HE.out, if_neg hz]; rfl, HJ2.out, ((Only.refl _ w).below HB1.out).trans HO2.out⟩
  · have HE : Hid (textE s = 40) := by show _ = _; unfold textE; rw [if_pos (by omega)]
    unfold DecPost at hde
    rw [hb] at hde
    clear hb
    go_enter Tryz.func33, Tryz.ntmps33
    go_wp2_with fail
    refine hde.mono ?_
    rintro e w1 ⟨v, rfl, hru, hb1⟩
    have HB1 := Lib.hid hb1
    clear hde hru hb1
    go_wp2_with fail
    go_ret2
    exact ⟨by unfold textS; rw [HE.out, if_neg (by decide)]; rfl, HN.out.kept _ _ _ HJ.out (Kept.below HB1.out), (Only.refl _ w).below HB1.out⟩
end Go.Proofs.YtlldoofclaokgaaGreat
