/- slices.SortStableFunc at ranges, of none: walked. Chapter 8's example: walked. -/
import Derived.Test.YtjbcbejedaeedaaGreatDoorDf
import Derived.Test.YtjbcbejedaeedaaGreatDoorDj
/-! slices.SortStableFunc at ranges, of none: walked. -/
namespace Go.Proofs.YtjbcbejedaeedaaGreatDoor
open Go.RowKit

theorem ins0_any (rv cv : Value) (p : Option Addr) (c : Nat) (w : World) (h : rv = .slice p 0 c) : Calls Tryz.prog 95 #[rv, .int .i64 0, .int .i64 0, cv] w fun e w' => e = .returned (.tuple #[]) ∧ w = w' := by
  subst h
  go_enter Tryz.func95, Tryz.ntmps95
  go_wp2
  refine wp_loop_rounds 1 ?_
  rw [rounds_succ]
  go_wp2
  go_end0
  exact ⟨rfl, rfl⟩
theorem stable0_any (rv cv : Value) (p : Option Addr) (c : Nat) (w : World) (h : rv = .slice p 0 c) : Calls Tryz.prog 53 #[rv, .int .i64 0, cv] w fun e w' => e = .returned (.tuple #[]) ∧ w = w' := by
  have hi := ins0_any rv cv p c w h
  subst h
  go_enter Tryz.func53, Tryz.ntmps53
  go_wp2
  refine wp_loop_rounds 1 ?_
  rw [rounds_succ]
  go_wp2_with fail
  refine hi.mono ?_
  rintro e w' ⟨rfl, rfl⟩
  go_wp2
  refine wp_loop_rounds 1 ?_
  rw [rounds_succ]
  go_wp2
  go_end0
  exact ⟨rfl, rfl⟩
theorem sort0_any : SortAt [] := by
  intro B rv W h
  have HW := Lib.hid h
  obtain ⟨p, c, rfl⟩ : ∃ p c, rv = .slice p 0 c := by
    rcases h.2 with ⟨h1, _⟩ | ⟨g, cap, cur, h1, _⟩
    · exact ⟨_, _, h1⟩
    · exact ⟨_, _, h1⟩
  have hi := stable0_any (.slice p 0 c) (.func (.func 22) #[] #[]) p c W rfl
  clear h
  go_enter Tryz.func21, Tryz.ntmps21
  go_wp2_with fail
  refine hi.mono ?_
  rintro e w' ⟨rfl, rfl⟩
  go_wp2
  go_end0
  exact ⟨rfl, HW.out, Only.refl _ _⟩
end Go.Proofs.YtjbcbejedaeedaaGreatDoor
/-! Chapter 8's example: walked. -/
namespace Go.Proofs.YtjbcbejedaeedaaGreatDoor
open Go.RowKit

def aw8a : ByteArray := ⟨#[64, 118, 101, 114, 115, 105, 111, 110, 32, 49, 10, 48, 48, 52, 49, 32, 48, 51, 48, 49, 32, 59, 32, 91, 46, 49, 67, 52, 55, 46, 48, 48, 50, 48, 46, 48, 48, 48, 56, 93, 91, 46, 48, 48, 48, 48, 46, 48, 48, 50, 52, 46, 48, 48, 48, 50, 93, 32, 35, 32, 65, 10]⟩
def aw8b : ByteArray := ⟨#[64, 118, 101, 114, 115, 105, 111, 110, 32, 49, 10, 48, 48, 52, 49, 32, 91, 46, 49, 67, 52, 55, 46, 48, 48, 50, 48, 46, 48, 48, 48, 56, 93]⟩
def aw8e : Ent := ([65, 769], [(7239, 32, 8, false), (0, 36, 2, false)])
set_option maxRecDepth 100000 in
theorem aw8_lines : goL (none, [], []) (linesW aw8a.data.toList) = .ok (some [49], [], [aw8e]) := by kernel_rfl
set_option maxRecDepth 100000 in
theorem bw8_lines : goL (none, [], []) (linesW aw8b.data.toList) = .error (2, 80) := by kernel_rfl
theorem aw8_parse : parseW aw8a.data.toList = (([49], [], [aw8e]), 0, 0) := by rw [parseW_lines, aw8_lines]; rfl
theorem bw8_parse : parseW aw8b.data.toList = (tab0, 2, 80) := by rw [parseW_lines, bw8_lines]; rfl
theorem aw8_ok : EsOk [aw8e] := by
  intro k x hx
  cases k with
  | zero =>
    simp at hx; subst hx
    exact ⟨by kernel_rfl, rfl⟩
  | succ k => simp at hx
end Go.Proofs.YtjbcbejedaeedaaGreatDoor
namespace Go.Proofs.YtjbcbejedaeedaaGreatDoor
open Go.RowKit
theorem EntsIn.monoL {R S : Nat → Prop} {w : World} {v : Value} {es : List Ent} (h : EntsIn R w v es) (hm : ∀ b, R b → b < w.heap.size → S b) : EntsIn S w v es := by
  obtain ⟨p, cap, h1, h2⟩ := h
  refine ⟨p, cap, h1, fun i x hx => ?_⟩
  obtain ⟨b, o, c, u, e1, e2, e3, e4, e5, e6, e7⟩ := h2 i x hx
  exact ⟨b, o, c, u, e1, hm b e2 e3, e3, e4, e5, e6.mono hm, e7.mono hm⟩
set_option maxHeartbeats 8000000 in
set_option maxRecDepth 100000 in
theorem awake8_any (w : World) (hm : ML w) :
    Calls Tryz.prog 6 #[] w fun e w' => e = .returned (.bool true) ∧ Below w.heap.size w w' := by
  have HM := Lib.hid hm
  have HPA := Lib.hid (fun w hm => parse_any aw8a w (by decide) hm (fun st h => by rw [aw8_lines] at h; cases h; exact sort0_any))
  have HPB := Lib.hid (fun w hm => parse_any aw8b w (by decide) hm (fun st h => by rw [bw8_lines] at h; cases h))
  clear hm
  go_enter Tryz.func6, Tryz.ntmps6
  go_wp2_with fail
  have hp := HPA.out w HM.out
  unfold aw8a at hp
  with_reducible refine hp.mono ?_
  clear hp
  rintro e w1 ⟨hb1, rv, ev, he, hrv, hev⟩
  rw [show (⟨#[64, 118, 101, 114, 115, 105, 111, 110, 32, 49, 10, 48, 48, 52, 49, 32, 48, 51, 48, 49, 32, 59, 32, 91, 46, 49, 67, 52, 55, 46, 48, 48, 50, 48, 46, 48, 48, 48, 56, 93, 91, 46, 48, 48, 48, 48, 46, 48, 48, 50, 52, 46, 48, 48, 48, 50, 93, 32, 35, 32, 65, 10]⟩ : ByteArray) = aw8a from rfl, aw8_parse] at he hrv hev
  simp only at he hrv hev
  subst he
  have HB1 := Lib.hid hb1
  have HEV := Lib.hid hev
  obtain ⟨rp, rc, rfl, _⟩ := hrv
  obtain ⟨ep, ec, rfl, _⟩ := hev
  clear hb1
  go_wp2_with fail
  have hbS : Below w1.heap.size w1 (w1.alloc (.cells #[.string (mkB [49]), .slice rp 0 rc, .slice ep 1 ec] 26)) := (Below.refl _ w1).alloc (Nat.le_refl _) _
  have hsr : SrcIs (w1.alloc (.cells #[.string (mkB [49]), .slice rp 0 rc, .slice ep 1 ec] 26)) w1.heap.size [49] (.slice rp 0 rc) (.slice ep 1 ec) := World.alloc_heap_new w1 _
  have HB2 : Hid (Below w.heap.size w (w1.alloc (.cells #[.string (mkB [49]), .slice rp 0 rc, .slice ep 1 ec] 26))) := HB1.out.trans (hbS.mono HB1.out.size)
  have HEV2 := Lib.hid (HEV.out.kept (Kept.below hbS))
  have hp2 := HPB.out (w1.alloc (.cells #[.string (mkB [49]), .slice rp 0 rc, .slice ep 1 ec] 26)) (HM.out.below HB2.out)
  unfold aw8b at hp2
  with_reducible refine hp2.mono ?_
  clear hp2
  generalize w1.alloc (.cells #[.string (mkB [49]), .slice rp 0 rc, .slice ep 1 ec] 26) = W2 at *
  rintro e w3 ⟨hb3, rv3, ev3, he3, hrv3, hev3⟩
  rw [show (⟨#[64, 118, 101, 114, 115, 105, 111, 110, 32, 49, 10, 48, 48, 52, 49, 32, 91, 46, 49, 67, 52, 55, 46, 48, 48, 50, 48, 46, 48, 48, 48, 56, 93]⟩ : ByteArray) = aw8b from rfl, bw8_parse] at he3 hrv3 hev3
  simp only [tab0] at he3 hrv3 hev3
  subst he3
  obtain ⟨rp3, rc3, rfl, _⟩ := hrv3
  obtain ⟨ep3, ec3, rfl, _⟩ := hev3
  have hsr3 : SrcIs w3 w1.heap.size [49] (.slice rp 0 rc) (.slice ep 1 ec) := (hb3.block _ hsr.cells.2.2.2.2).trans hsr
  have HEV3 := Lib.hid (HEV2.out.kept (Kept.below hb3))
  have HB3 : Hid (Below w.heap.size w w3) := HB2.out.trans (hb3.mono HB2.out.size)
  obtain ⟨s0, s1, s2, _, sl⟩ := hsr3.cells
  have HSR3 := Lib.hid hsr3
  clear hbS hsr hb3 hsr3
  go_wp2_with fail
  have hb4 : Below w3.heap.size w3 (w3.alloc (.cells #[.string (mkB []), .slice rp3 0 rc3, .slice ep3 0 ec3] 26)) := (Below.refl _ w3).alloc (Nat.le_refl _) _
  have hsr4 := (hb4.block _ sl).trans HSR3.out
  have HEV4 := Lib.hid (HEV3.out.kept (Kept.below hb4))
  have HB4 : Hid (Below w.heap.size w (w3.alloc (.cells #[.string (mkB []), .slice rp3 0 rc3, .slice ep3 0 ec3] 26))) := HB3.out.trans (hb4.mono HB3.out.size)
  have hwr := write_ok (fun b => b < (w3.alloc (.cells #[.string (mkB []), .slice rp3 0 rc3, .slice ep3 0 ec3] 26)).heap.size) (mkB [49]) [aw8e] rp rc (.slice ep 1 ec) (w3.alloc (.cells #[.string (mkB []), .slice rp3 0 rc3, .slice ep3 0 ec3] 26)) (fun b hb => hb) (by kernel_rfl) (by kernel_rfl) (HEV4.out.monoL (fun b _ h => h)) (by simp) aw8_ok (HM.out.below HB4.out)
  generalize w3.alloc (.cells #[.string (mkB []), .slice rp3 0 rc3, .slice ep3 0 ec3] 26) = W4 at *
  with_reducible refine hwr.mono ?_
  clear hwr
  rintro e w5 ⟨⟨z, rfl, hz, _⟩, hb5⟩
  have hsr4' : SrcIs W4 w1.heap.size [49] (.slice rp 0 rc) (.slice ep 1 ec) := hsr4
  have hsr5 : SrcIs w5 w1.heap.size [49] (.slice rp 0 rc) (.slice ep 1 ec) := (hb5.block _ hsr4'.cells.2.2.2.2).trans hsr4
  obtain ⟨_, _, t2, _, tl⟩ := hsr5.cells
  have hev5 := HEV4.out.kept (Kept.below hb5)
  obtain ⟨b, o, c, u, rfl, _, hbl, k0, k1, hci, hui⟩ := hev5.at 0 aw8e rfl
  obtain ⟨up, uc, rfl, _⟩ := hui
  rw [show o + 0 * 2 + 1 = o + 1 from by omega] at k1
  have hul : aw8e.2.length = 2 := rfl
  rw [hul] at k1
  have HB5 : Hid (Below w.heap.size w w5) := HB4.out.trans (hb5.mono HB4.out.size)
  have g1 : decide ((z.size : Int) > 10) = true := decide_eq_true (by omega)
  have g2 : decide (10 < z.size) = true := decide_eq_true hz
  clear hb4 hsr4 hsr4' hsr5 hb5 hev5 hci hul s0 s1 s2 sl k0
  go_wp2_with fail
  go_ret
  exact ⟨rfl, HB5.out⟩
end Go.Proofs.YtjbcbejedaeedaaGreatDoor
