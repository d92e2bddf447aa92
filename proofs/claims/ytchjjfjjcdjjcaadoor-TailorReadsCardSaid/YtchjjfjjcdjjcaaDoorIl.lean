/- Law 10: TailorReads: both readers answer the same of every text. -/
import Derived.Test.YtchjjfjjcdjjcaaDoorIk
import Derived.Test.YtchjjfjjcdjjcaaDoorHj
namespace Go.Proofs.YtchjjfjjcdjjcaaDoor
open Go.RowKit

theorem parseF_len {s : ByteArray} : ∀ {n i : Nat} {l r : List Rul}, parseF s n i l = .inl r → r.length ≤ l.length + n
  | 0, i, l, r, h => by rw [parseF] at h; cases h; omega
  | n + 1, i, l, r, h => by
    rw [parseF] at h
    split at h
    · split at h
      · cases h
      · have := parseF_len h
        simp at this
        omega
    · cases h; omega
theorem parV_len (s : ByteArray) : (parV s).length ≤ s.size := by
  unfold parV
  split
  · rename_i l h
    unfold parseT at h
    split at h
    · cases h
    · have := parseF_len h
      simp at this
      omega
  · simp
set_option maxHeartbeats 8000000 in
set_option maxRecDepth 100000 in
theorem tailorReads_any (s : ByteArray) (w : World) : Calls Tryd.prog 3 #[.string s] w fun e w' => e = .returned (.bool true) ∧ Below w.heap.size w w' := by
  by_cases hs : 4000 < s.size
  · have hd : decide (4000 < (s.size : Int)) = true := decide_eq_true (by omega)
    go_enter Tryd.func3, Tryd.ntmps3
    go_wp2_with fail
    refine (awake10_any _).mono ?_
    rintro e w1 ⟨rfl, hb1⟩
    have HB1 := Lib.hid hb1
    clear hb1
    go_wp2_with fail
    go_ret
    exact ⟨rfl, HB1.out⟩
  · have hd : decide (4000 < (s.size : Int)) = false := decide_eq_false (by omega)
    have HP := Lib.hid (fun W => parse_any s W (by omega))
    have HQ := Lib.hid (fun W => rparse_any s W (by omega))
    have HLN : Hid ((parV s).length ≤ 1000000000) := Lib.hid (by have := parV_len s; omega)
    clear hs
    go_enter Tryd.func3, Tryd.ntmps3
    go_wp2_with fail
    refine (awake10_any _).mono ?_
    rintro e w1 ⟨rfl, hb1⟩
    have HB1 := Lib.hid hb1
    clear hb1
    go_wp2_with fail
    refine (HP.out _).mono ?_
    rintro e w2 ⟨v2, rfl, hr2, hb2⟩
    have HB2 := Lib.hid (HB1.out.trans (hb2.mono HB1.out.size))
    have HR2 := Lib.hid hr2
    obtain ⟨p2, k2, rfl, _⟩ := hr2
    clear hb2
    go_wp2_with fail
    refine (HQ.out _).mono ?_
    rintro e w3 ⟨v3, rfl, hr3, hb3⟩
    have HB3 := Lib.hid (HB2.out.trans (hb3.mono HB2.out.size))
    have HS := Lib.hid (rsame10_any _ _ _ _ _ _ _ (HR2.out.kept (Kept.below hb3)) hr3 HLN.out HLN.out)
    obtain ⟨p3, k3, rfl, _⟩ := hr3
    clear hb3
    generalize parA s = pa at *
    generalize parE s = pe at *
    go_wp2_with fail
    refine HS.out.mono ?_
    rintro e w4 ⟨rfl, hb4⟩
    have HB4 := Lib.hid (HB3.out.trans (hb4.mono HB3.out.size))
    clear hb4 HS
    simp only [decide_true]
    go_wp2_with fail
    go_ret
    exact ⟨rfl, HB4.out⟩
end Go.Proofs.YtchjjfjjcdjjcaaDoor
