/- Chapter 4's examples, and the law UtfWhole, walked. -/
import Derived.Test.YtafocgnhmdhemaaUn
import Derived.Test.YtafocgnhmdhemaaUf
import Derived.Test.YtafocgnhmdhemaaUg
namespace Go.Proofs.Ytafocgnhmdhemaa
open Go.RowKit
open PlainAid (bt)

theorem lit1 : bdA { data := #[97, 255] } = 1 ∧ bdE { data := #[97, 255] } = 40 := by
  refine bd_some ?_
  rw [BD_eq, if_neg (by decide), if_neg (by decide), show 0 + fmN { data := #[97, 255] } 0 = 1 from by decide]
  rw [BD_eq, if_neg (by decide), if_pos (by decide)]
theorem lit2 : BD { data := #[226, 130, 172] } 0 = none := by
  rw [BD_eq, if_neg (by decide), if_neg (by decide), show 0 + fmN { data := #[226, 130, 172] } 0 = 3 from by decide]
  rw [BD_eq, if_pos (by decide)]
theorem lit2' : dcV { data := #[226, 130, 172] } = [8364] := by
  unfold dcV; rw [lit2]
  show DC _ 0 = _
  rw [DC_eq, if_neg (by decide), if_neg (by decide), show 0 + fmN { data := #[226, 130, 172] } 0 = 3 from by decide]
  rw [DC_eq, if_pos (by decide)]
  decide
theorem lit3 : lsR { data := #[97, 226, 130, 172] } 4 = 8364 ∧ lsN { data := #[97, 226, 130, 172] } 4 = 3 := by decide

set_option maxHeartbeats 1000000 in
set_option maxRecDepth 100000 in
theorem awake_any (w : World) :
    Calls Try.prog 8 #[] w fun e w' => e = .returned (.bool true) ∧ Below w.heap.size w w' := by
  go_enter Try.func8, Try.ntmps8
  go_wp2_with fail
  refine (uCheck_any _ _ (by decide)).mono ?_
  rintro e w1 ⟨rfl, hb1⟩
  rw [lit1.1, lit1.2]
  go_wp2_with fail
  refine (uDecode_any _ _ (by decide)).mono ?_
  rintro e w2 ⟨v, rfl, hru, hb2⟩
  rw [(bd_none lit2).1, (bd_none lit2).2]
  rw [lit2'] at hru
  rcases hru with ⟨_, h⟩ | ⟨b, cap, hb, hbs, rfl, hc⟩
  · cases h
  have hc0 := hc 0 8364 rfl
  go_wp2_with fail
  refine (last_in _ 4 _ (by decide) (by decide) (by decide)).mono ?_
  rintro e w3 ⟨rfl, hb3⟩
  rw [lit3.1, lit3.2]
  have hc1 : w3.cell? ⟨b, 0, none⟩ = some (.int .i32 8364) := by rw [hb3.cell (p := ⟨b, 0, none⟩) hbs]; exact hc0
  have HB : Hid (Below w.heap.size w w3) := by
    have := hb1.size; have := hb2.size
    exact (hb1.trans (hb2.mono (by omega))).trans (hb3.mono (by omega))
  clear hc hb1 hb2 hb3 hc0
  go_wp2_with fail
  go_ret
  exact ⟨rfl, HB.out⟩
end Go.Proofs.Ytafocgnhmdhemaa
