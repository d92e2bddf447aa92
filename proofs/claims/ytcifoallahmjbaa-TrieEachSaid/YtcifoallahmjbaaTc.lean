/- An entry in memory of its own; why an entry may not be. -/
import Derived.Test.YtcifoallahmjbaaTb
import Derived.Test.YtcifoallahmjbaaChk
import Derived.Deep.RegionWith
namespace Go.Proofs.Ytcifoallahmjbaa
open Go.RowKit

theorem below_step {n : Nat} {w W0 w1 : World} (h : Below n w W0) (hn : n ≤ W0.heap.size) (h1 : Below W0.drew.heap.size W0.drew w1) : Below n w w1 := h.drew.trans (h1.mono hn)
/-- an entry's two slices, in new memory -/
def TwinEnd (x : Ent) (w : World) (e : Ending) (w' : World) : Prop :=
  ∃ c u, e = .returned (.agg #[c, u]) ∧ IntsIn (Lf w.heap.size w') .i32 w' c x.1 ∧ ElsIn (Lf w.heap.size w') w' u x.2 ∧ Below w.heap.size w w'

theorem tw_kept {w w1 w2 : World} {a b : Value} (h : Below w1.heap.size w1 w2) : Kept (fun b => w.heap.size + 2 ≤ b) w1 ((w2.setCell ⟨w.heap.size + 1, 0, none⟩ a).setCell ⟨w.heap.size + 1, 1, none⟩ b) := by
  refine ⟨by have := h.size; simpa [World.setCell] using this, fun b hb hl => ?_⟩
  rw [Below.heap_setCell _ _ _ _ (show b ≠ w.heap.size + 1 by omega), Below.heap_setCell _ _ _ _ (show b ≠ w.heap.size + 1 by omega)]
  exact h.block b hl
/-- what the two blocks of twin hold till the end -/
def TwS (c u : Value) (w W : World) : Prop := w.heap.size + 1 < W.heap.size ∧ W.heap[w.heap.size]? = some (.cells #[c, u] 35 (0, 0)) ∧ W.heap[w.heap.size + 1]? = some (.cells #[.slice none 0 0, .slice none 0 0] 35 (0, 0))
theorem TwS.cells {c u : Value} {w W : World} (h : TwS c u w W) : W.cell? ⟨w.heap.size, 0, none⟩ = some c ∧ W.cell? ⟨w.heap.size, 1, none⟩ = some u ∧ W.cell? ⟨w.heap.size + 1, 0, none⟩ = some (.slice none 0 0) ∧ W.cell? ⟨w.heap.size + 1, 1, none⟩ = some (.slice none 0 0) ∧
    W.frozen? ⟨w.heap.size + 1, 0, none⟩ = false ∧ W.frozen? ⟨w.heap.size + 1, 1, none⟩ = false ∧ w.heap.size + 1 < W.heap.size := by
  obtain ⟨h1, h2, h3⟩ := h
  refine ⟨?_, ?_, ?_, ?_, ?_, ?_, h1⟩ <;> simp [World.cell?, World.frozen?, h2, h3]
theorem TwS.up {c u : Value} {w W W1 : World} (h : TwS c u w W) (hb : Below W.heap.size W W1) : TwS c u w W1 :=
  ⟨Nat.lt_of_lt_of_le h.1 hb.size, (hb.block _ (Nat.lt_of_succ_lt h.1)).trans h.2.1, (hb.block _ h.1).trans h.2.2⟩

set_option maxHeartbeats 4000000 in
set_option maxRecDepth 100000 in
theorem twin_any (R : Nat → Prop) (x : Ent) (c u : Value) (w : World) (hc : IntsIn R .i32 w c x.1) (hu : ElsIn R w u x.2) (h1 : x.1.length * 4 ≤ 140737488351232) (h2 : x.2.length * 32 ≤ 140737488351232) :
    Calls Try.prog 28 #[.agg #[c, u]] w (TwinEnd x w) := by
  have HC := Lib.hid hc
  have HU := Lib.hid hu
  have H1 := Lib.hid h1
  have H2 := Lib.hid h2
  clear hc hu h1 h2
  go_enter Try.func28, Try.ntmps28
  go_wp2
  generalize hW : ((w.alloc (.cells #[c, u] 35)).alloc (.cells #[.slice none 0 0, .slice none 0 0] 35)) = W0
  have HZ : Hid (W0.heap.size = w.heap.size + 2) := by show _ = _; rw [← hW]; simp
  have HB : Hid (Below w.heap.size w W0) := by rw [← hW]; exact ((Below.refl _ _).alloc (Nat.le_refl _) _).alloc (by simp) _
  have HS : Hid (TwS c u w W0) := by
    rw [← hW]
    refine ⟨by simp, ?_, ?_⟩
    · have := (World.alloc_heap_new w (.cells #[c, u] 35)); exact (Below.heap_alloc _ _ _ (by simp)).trans this
    · have := World.alloc_heap_new (w.alloc (.cells #[c, u] 35)) (.cells #[.slice none 0 0, .slice none 0 0] 35); rwa [World.size_alloc] at this
  obtain ⟨k0, k1, r0, r1, f0, f1, hlt⟩ := HS.out.cells
  have HN : Hid (w.heap.size ≤ W0.heap.size) := (show w.heap.size ≤ W0.heap.size by omega)
  clear hW
  go_region_with (first
    | (refine (cloneI_any R x.1 c _ (HC.out.kept (Kept.below (by first | exact HB.out.drew | exact below_step HB.out HN.out hb2))) H1.out).mono ?_; rintro e w1 ⟨v1, rfl, g1, hb1⟩; have hs1 : TwS c u w w1 := (by first | exact (show TwS c u w W0.drew from HS.out).up hb1 | exact hs2.up hb1); obtain ⟨k01, k11, r01, r11, f01, f11, hlt1⟩ := hs1.cells; have G1 := Lib.hid g1; have B1 := Lib.hid hb1; obtain ⟨p1, cp1, rfl, _⟩ := g1)
    | (refine (cloneE_any R x.2 u _ (HU.out.kept (Kept.below (by first | exact HB.out.drew | exact below_step HB.out HN.out hb1))) H2.out).mono ?_; rintro e w2 ⟨v2, rfl, g2, hb2⟩; have hs2 : TwS c u w w2 := (by first | exact (show TwS c u w W0.drew from HS.out).up hb2 | exact hs1.up hb2); obtain ⟨k02, k12, r02, r12, f02, f12, hlt2⟩ := hs2.cells; have G2 := Lib.hid g2; have B2 := Lib.hid hb2; obtain ⟨p2, cp2, rfl, _⟩ := g2))
  all_goals
    go_wp2
    refine bodyPost_ret (v := .agg #[.slice p1 x.1.length cp1, .slice p2 x.2.length cp2]) (by simp [results, Try.results28, go_sem, r02, r12, r01, r11, hlt1, hlt2]) rfl ?_
    have z1 := B1.out.size
    have z2 := B2.out.size
    have z0 := HZ.out
    simp only [World.size_drew] at z1 z2
    refine ⟨_, _, rfl, ?_, ?_, ?_⟩
    · exact G1.out.lf ((tw_kept (w := w) (by first | exact B2.out | exact Below.refl _ _)).sub (fun b hb => by have := hb.1; (try simp only [World.size_drew] at this); omega)) (by (try simp only [World.size_drew]); omega)
    · exact G2.out.lf ((tw_kept (w := w) (by first | exact B1.out | exact Below.refl _ _)).sub (fun b hb => by have := hb.1; (try simp only [World.size_drew] at this); omega)) (by (try simp only [World.size_drew]); omega)
    · refine Below.setCell (Below.setCell ?_ (Nat.le_succ _) _) (Nat.le_succ _) _
      first
        | exact (below_step HB.out HN.out B1.out).trans (B2.out.mono (by omega))
        | exact (below_step HB.out HN.out B2.out).trans (B1.out.mono (by omega))
end Go.Proofs.Ytcifoallahmjbaa
