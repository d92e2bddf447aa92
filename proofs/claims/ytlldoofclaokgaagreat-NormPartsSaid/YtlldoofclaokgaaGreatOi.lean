/- lecternlaw06: data, small. lecternref05.Runes, lecternref04.Scalar. lecternlaw06: small, awake. -/
import Derived.Test.YtlldoofclaokgaaGreatOe
import Derived.Test.YtlldoofclaokgaaGreatOh
import Derived.Test.YtlldoofclaokgaaGreatNaj
import Derived.Test.YtlldoofclaokgaaGreatNak
/-! lecternlaw06: data, small. -/
namespace Go.Proofs.YtlldoofclaokgaaGreat
open Go.RowKit

theorem two_cells {W : World} {b : Nat} {x y : Value} {t : TypeId} (h : W.heap[b]? = some (.cells #[x, y] t (0, 0))) :
    W.cell? ⟨b, 0, none⟩ = some x ∧ W.cell? ⟨b, 1, none⟩ = some y ∧ W.frozen? ⟨b, 0, none⟩ = false ∧ W.frozen? ⟨b, 1, none⟩ = false := by
  refine ⟨?_, ?_, ?_, ?_⟩ <;> simp [World.cell?, World.frozen?, h]
theorem two_put {W : World} {b : Nat} {x y : Value} {t : TypeId} (h : W.heap[b]? = some (.cells #[x, y] t (0, 0))) (x' y' : Value) :
    ((W.setCell ⟨b, 0, none⟩ x').setCell ⟨b, 1, none⟩ y').heap[b]? = some (.cells #[x', y'] t (0, 0)) := by
  unfold World.setCell
  simp [Array.getElem?_modify, h]
/-- what the law's data tells -/
def DataTold (c d : List T3) (u v : Value) (w : World) (e : Ending) (w' : World) : Prop :=
  Below w.heap.size w w' ∧ ((c.length ≤ 200 ∧ d.length ≤ 200 ∧ dataOk c d = true ∧ ∃ pb, e = .returned (.tuple #[.pointer (some ⟨pb, 0, none⟩), .agg #[u, v], .bool true]) ∧ Nrm (fun b => w.heap.size ≤ b) w' pb c d) ∨
    (¬ (c.length ≤ 200 ∧ d.length ≤ 200 ∧ dataOk c d = true) ∧ ∃ x, e = .returned (.tuple #[x, .agg #[.slice none 0 0, .slice none 0 0], .bool false])))
set_option maxHeartbeats 4000000 in
set_option maxRecDepth 1000000 in
theorem data_any (Rc Rd : Nat → Prop) (c d : List T3) (u v : Value) (w : World) (hu : TrisIn Rc .i64 w u c) (hv : TrisIn Rd .i32 w v d) :
    Calls Tryz.prog 20 #[u, v] w (DataTold c d u v w) := by
  have HU := Lib.hid hu
  have HV := Lib.hid hv
  obtain ⟨q, cq, rfl, hcq, _⟩ := hu
  obtain ⟨p, cp, rfl, hcp, _⟩ := hv
  obtain ⟨nc, hnc⟩ : ∃ n, n = c.length := ⟨_, rfl⟩
  obtain ⟨nd, hnd⟩ : ∃ n, n = d.length := ⟨_, rfl⟩
  rw [← hnc] at HU hcq ⊢
  rw [← hnd] at HV hcp ⊢
  have HNC := Lib.hid (And.intro hnc hnd)
  clear hnc hnd
  by_cases h1 : 200 < nc
  · have g1 : (200 : Int) < (nc : Int) := by omega
    go_enter Tryz.func20, Tryz.ntmps20
    go_wp2_with fail
    refine bodyPost_ret (v := .tuple #[.pointer none, .agg #[.slice none 0 0, .slice none 0 0], .bool false]) (by simp [results, Tryz.results20, go_sem]) rfl ?_
    exact ⟨(Below.refl _ w).alloc (Nat.le_refl _) _, .inr ⟨by have := HNC.out; omega, _, rfl⟩⟩
  · by_cases h2 : 200 < nd
    · have g1 : ¬ ((200 : Int) < (nc : Int)) := by omega
      have g2 : (200 : Int) < (nd : Int) := by omega
      go_enter Tryz.func20, Tryz.ntmps20
      go_wp2_with fail
      refine bodyPost_ret (v := .tuple #[.pointer none, .agg #[.slice none 0 0, .slice none 0 0], .bool false]) (by simp [results, Tryz.results20, go_sem]) rfl ?_
      exact ⟨(Below.refl _ w).alloc (Nat.le_refl _) _, .inr ⟨by have := HNC.out; omega, _, rfl⟩⟩
    · have g1 : ¬ ((200 : Int) < (nc : Int)) := by omega
      have g2 : ¬ ((200 : Int) < (nd : Int)) := by omega
      have hal : Below w.heap.size w (w.alloc (.cells #[.slice none 0 0, .slice none 0 0] 57)) := (Below.refl _ w).alloc (Nat.le_refl _) _
      have hrb := rbuild_any Rd Rc c d _ _ _ (HU.out.kept (Kept.below hal)) (HV.out.kept (Kept.below hal))
      have HAL := Lib.hid hal
      have hcell : (w.alloc (.cells #[.slice none 0 0, .slice none 0 0] 57)).heap[w.heap.size]? = some (.cells #[.slice none 0 0, .slice none 0 0] 57 (0, 0)) := World.alloc_heap_new _ _
      have hsz : w.heap.size < (w.alloc (.cells #[.slice none 0 0, .slice none 0 0] 57)).heap.size := by simp
      have HCELL := Lib.hid hcell
      have HSZ := Lib.hid hsz
      clear hal hcell hsz
      go_enter Tryz.func20, Tryz.ntmps20
      go_wp2_with fail
      refine hrb.mono ?_
      rintro e w1 ⟨hb1, hrr⟩
      have HB1 := Lib.hid hb1
      have HC1 : Hid (w1.heap[w.heap.size]? = some (.cells #[.slice none 0 0, .slice none 0 0] 57 (0, 0))) := (hb1.block _ HSZ.out).trans HCELL.out
      rcases hrr with ⟨hok, z, rfl, hz⟩ | ⟨hok, k, hk, rfl⟩
      · have hlo := load_nrm _ c d z w1 (ints_of_own hz) hok
        have HOK := Lib.hid hok
        clear hrb hz hok hb1
        go_wp2_with fail
        refine hlo.mono ?_
        rintro e w2 ⟨pb, rfl, hn2, _, hb2⟩
        have hc2 := (hb2.block w.heap.size (by have := HB1.out.size; have := HSZ.out; omega)).trans HC1.out
        obtain ⟨c0, c1, z0, z1⟩ := two_cells hc2
        have HC2 := Lib.hid hc2
        have HN2 := Lib.hid hn2
        have HB2 : Hid (Below w.heap.size w w2) := (HAL.out.trans (HB1.out.mono HAL.out.size)).trans (hb2.mono (by have := HB1.out.size; have := HSZ.out; omega))
        clear hlo hn2 hb2 hc2 HC1
        go_wp2_with fail
        have HF := Lib.hid (two_put HC2.out (.slice q nc cq) (.slice p nd cp))
        obtain ⟨f0, f1, _, _⟩ := two_cells HF.out
        refine bodyPost_ret (v := .tuple #[.pointer (some ⟨pb, 0, none⟩), .agg #[.slice q nc cq, .slice p nd cp], .bool true]) (by simp [results, Tryz.results20, go_sem, f0, f1]) rfl ?_
        refine ⟨(HB2.out.setCell (p := ⟨w.heap.size, 0, none⟩) (Nat.le_refl _) _).setCell (p := ⟨w.heap.size, 1, none⟩) (Nat.le_refl _) _, .inl ⟨by have := HNC.out; omega, by have := HNC.out; omega, HOK.out, pb, rfl, ?_⟩⟩
        have hk1 := HN2.out.kept (kept_setCell (R := fun b => w1.heap.size ≤ b) (W := w2) (pb := w.heap.size) (o := 0) (v := .slice q nc cq) (fun b hb e => by have := HB1.out.size; have := HSZ.out; omega))
        have hk2 := hk1.kept (kept_setCell (R := fun b => w1.heap.size ≤ b) (pb := w.heap.size) (o := 1) (v := .slice p nd cp) (fun b hb e => by have := HB1.out.size; have := HSZ.out; omega))
        exact hk2.mono (fun b hb => by have := HB1.out.size; have := HSZ.out; omega)
      · have g3 : ¬ ((k : Int) = 0) := by omega
        obtain ⟨c0, c1, z0, z1⟩ := two_cells HC1.out
        clear hrb hb1
        go_wp2_with fail
        have HF := Lib.hid (two_put HC1.out (.slice none 0 0) (.slice none 0 0))
        obtain ⟨f0, f1, _, _⟩ := two_cells HF.out
        refine bodyPost_ret (v := .tuple #[.pointer none, .agg #[.slice none 0 0, .slice none 0 0], .bool false]) (by simp [results, Tryz.results20, go_sem, f0, f1]) rfl ?_
        exact ⟨((HAL.out.trans (HB1.out.mono HAL.out.size)).setCell (p := ⟨w.heap.size, 0, none⟩) (Nat.le_refl _) _).setCell (p := ⟨w.heap.size, 1, none⟩) (Nat.le_refl _) _, .inr ⟨by rw [hok]; simp, _, rfl⟩⟩
end Go.Proofs.YtlldoofclaokgaaGreat
/-! lecternref05.Runes, lecternref04.Scalar. -/
namespace Go.Proofs.YtlldoofclaokgaaGreat
open Go.RowKit

set_option maxHeartbeats 400000 in
theorem r4scalar_any (r : Int) (w : World) :
    Calls Tryz.prog 23 #[.int .i32 r] w fun e w' => e = .returned (.bool (sc r)) ∧ w = w' := by
  go_enter Tryz.func23, Tryz.ntmps23
  go_wp2
  all_goals go_ret
  all_goals (refine ⟨?_, rfl⟩; simp_all [sc]; try omega)
set_option maxHeartbeats 4000000 in
set_option maxRecDepth 1000000 in
theorem runes5_any (R Q : Nat → Prop) (xs ys : List Int) (v u : Value) (w : World) (hv : IntsIn R .i32 w v xs) (hu : IntsIn Q .i32 w u ys) (hx : xs.length ≤ 1000000000) (hy : ys.length ≤ 1000000000) :
    Calls Tryz.prog 26 #[v, u] w fun e w' => e = .returned (.bool (decide (xs = ys))) ∧ Below w.heap.size w w' := by
  have HV := Lib.hid hv
  have HU := Lib.hid hu
  obtain ⟨p, cp, rfl, hcp, _⟩ := hv
  obtain ⟨q, cq, rfl, hcq, _⟩ := hu
  obtain ⟨n, hn⟩ : ∃ n, n = xs.length := ⟨_, rfl⟩
  obtain ⟨m, hm⟩ : ∃ m, m = ys.length := ⟨_, rfl⟩
  rw [← hn] at HV hcp hx ⊢
  rw [← hm] at HU hcq hy ⊢
  have HNM := Lib.hid (And.intro hn hm)
  clear hn hm
  by_cases hnm : n = m
  · subst hnm
    go_enter Tryz.func26, Tryz.ntmps26
    go_wp2_with fail
    go_loopw [5, 13] (fun _ iv wr => ∃ i : Nat, iv = .int .i64 i ∧ i ≤ n ∧ xs.take i = ys.take i ∧ Below w.heap.size w wr) (fun _ iv _ => n - (intOf iv).toNat)
    case atStart => exact ⟨0, rfl, Nat.zero_le _, rfl, Below.refl _ _⟩
    case round =>
      obtain ⟨i, rfl, hin, hsm, hb⟩ := hrel
      have HSM := Lib.hid hsm
      have HB := Lib.hid hb
      by_cases hlt : i < n
      · have g1 : (i : Int) < (n : Int) := by omega
        obtain ⟨x, hx1⟩ : ∃ x, xs[i]? = some x := ⟨xs[i]'(by rw [← HNM.out.1]; exact hlt), List.getElem?_eq_getElem _⟩
        obtain ⟨y, hy1⟩ : ∃ y, ys[i]? = some y := ⟨ys[i]'(by rw [← HNM.out.2]; exact hlt), List.getElem?_eq_getElem _⟩
        obtain ⟨p', cap', he, _, hc⟩ := HV.out.kept (Kept.below hb)
        injection he with he1 _ _
        obtain ⟨b, o, hp, _, hbl, c0⟩ := hc i x hx1
        subst he1 hp
        obtain ⟨p', cap', he, _, hc2⟩ := HU.out.kept (Kept.below hb)
        injection he with he1 _ _
        obtain ⟨b2, o2, hp, _, hbl2, c02⟩ := hc2 i y hy1
        subst he1 hp
        have HXY := Lib.hid (And.intro hx1 hy1)
        clear hc hc2 hx1 hy1 hsm hb
        by_cases hxy : x = y
        · have g2 : (x == y) = true := by simpa using hxy
          subst hxy
          go_wp2_with fail
          refine wp_region_over (by kernel_rfl) (by kernel_rfl) ?_; (repeat (go_big_quiet_step ((fail)))); refine wpQuiet_nil ?_; intro w1 hb1
          have HB1 := Lib.hid hb1
          clear hb1 c0 c02
          go_wp2_with fail
          go_roundw
          case rel => exact ⟨i + 1, by go_num, by omega, by rw [take_snoc HXY.out.1, take_snoc HXY.out.2, HSM.out], HB.out.trans (HB1.out.mono HB.out.size)⟩
          case measure => (show n - ((i : Int) + 1).toNat < n - (i : Int).toNat; omega)
        · have g2 : (x == y) = false := by simpa using hxy
          have HE : Hid (decide (xs = ys) = false) := by
            show _ = _
            refine decide_eq_false (fun e => hxy ?_)
            have h1 := HXY.out.1
            rw [e, HXY.out.2] at h1; cases h1; rfl
          go_wp2_with fail
          refine wp_region_over (by kernel_rfl) (by kernel_rfl) ?_; (repeat (go_big_quiet_step ((fail)))); refine wpQuiet_nil ?_; intro w1 hb1
          have HB1 := Lib.hid hb1
          clear hb1 c0 c02
          go_wp2_with fail
          go_ret
          exact ⟨by rw [HE.out]; rfl, HB.out.trans (HB1.out.mono HB.out.size)⟩
      · have g1 : ¬ ((i : Int) < (n : Int)) := by omega
        obtain rfl : i = n := by omega
        have HE : Hid (decide (xs = ys) = true) := by
          show _ = _
          refine decide_eq_true ?_
          rwa [List.take_of_length_le (by rw [← HNM.out.1]; exact Nat.le_refl _), List.take_of_length_le (by rw [← HNM.out.2]; exact Nat.le_refl _)] at hsm
        clear hsm hb
        go_wp2_with fail
        go_ret
        exact ⟨by rw [HE.out]; rfl, HB.out⟩
  · have g1 : ¬ ((n : Int) = (m : Int)) := by omega
    have HE : Hid (decide (xs = ys) = false) := decide_eq_false (fun e => hnm (by have := HNM.out; rw [this.1, this.2, e]))
    go_enter Tryz.func26, Tryz.ntmps26
    go_wp2_with fail
    go_ret
    exact ⟨by rw [HE.out]; rfl, Below.refl _ _⟩
end Go.Proofs.YtlldoofclaokgaaGreat
/-! lecternlaw06: small, awake. -/
namespace Go.Proofs.YtlldoofclaokgaaGreat
open Go.RowKit

set_option maxHeartbeats 4000000 in
set_option maxRecDepth 1000000 in
theorem small6_any (w : World) : Calls Tryz.prog 32 #[] w fun e w' =>
    ∃ pb u v, e = .returned (.tuple #[.pointer (some ⟨pb, 0, none⟩), .agg #[u, v]]) ∧ Nrm (fun b => w.heap.size ≤ b) w' pb smallC smallD ∧ TrisIn (fun b => w.heap.size ≤ b ∧ b ≠ pb) .i64 w' u smallC ∧ TrisIn (fun b => w.heap.size ≤ b ∧ b ≠ pb) .i32 w' v smallD ∧ Below w.heap.size w w' := by
  have hal : Below w.heap.size w (w.alloc (.cells #[.slice none 0 0, .slice none 0 0] 57)) := (Below.refl _ w).alloc (Nat.le_refl _) _
  have hcell : (w.alloc (.cells #[.slice none 0 0, .slice none 0 0] 57)).heap[w.heap.size]? = some (.cells #[.slice none 0 0, .slice none 0 0] 57 (0, 0)) := World.alloc_heap_new _ _
  have hsz : (w.alloc (.cells #[.slice none 0 0, .slice none 0 0] 57)).heap.size = w.heap.size + 1 := by simp
  have HAL := Lib.hid hal
  have HCELL := Lib.hid hcell
  have HSZ := Lib.hid hsz
  clear hal hcell hsz
  go_enter Tryz.func32, Tryz.ntmps32
  go_wp2_with fail
  refine (rsmall_any _).mono ?_
  rintro e w1 ⟨u, v, rfl, hu, hv, hb1⟩
  have HU : Hid (TrisIn (fun b => w.heap.size + 1 ≤ b ∧ b < w1.heap.size) .i64 w1 u smallC) := by rw [HSZ.out] at hu; exact hu.mono (fun b hb hl => ⟨hb, hl⟩)
  have HV : Hid (TrisIn (fun b => w.heap.size + 1 ≤ b ∧ b < w1.heap.size) .i32 w1 v smallD) := by rw [HSZ.out] at hv; exact hv.mono (fun b hb hl => ⟨hb, hl⟩)
  have HB1 : Hid (Below w.heap.size w w1) := HAL.out.trans (hb1.mono HAL.out.size)
  have HC1 : Hid (w1.heap[w.heap.size]? = some (.cells #[.slice none 0 0, .slice none 0 0] 57 (0, 0))) := (hb1.block _ (by rw [HSZ.out]; omega)).trans HCELL.out
  have hda := data_any _ _ smallC smallD u v w1 hu hv
  have hz1 : w.heap.size + 1 ≤ w1.heap.size := by have := hb1.size; rw [HSZ.out] at this; exact this
  obtain ⟨q, cq, rfl, _, _⟩ := hu
  obtain ⟨p, cp, rfl, _, _⟩ := hv
  clear hb1
  go_wp2_with fail
  refine hda.mono ?_
  rintro e w2 ⟨hb2, hh⟩
  have hok := small_ok
  obtain ⟨_, _, _, pb, rfl, hn⟩ : smallC.length ≤ 200 ∧ smallD.length ≤ 200 ∧ dataOk smallC smallD = true ∧ ∃ pb, e = .returned (.tuple #[.pointer (some ⟨pb, 0, none⟩), .agg #[_, _], .bool true]) ∧ Nrm (fun b => w1.heap.size ≤ b) w2 pb smallC smallD := by
    rcases hh with h | ⟨h, _⟩
    · exact h
    · exact absurd ⟨by rw [smallC_len]; decide, by rw [smallD_len]; decide, hok⟩ h
  have HN := Lib.hid hn
  have HB2 := Lib.hid hb2
  have HC2 : Hid (w2.heap[w.heap.size]? = some (.cells #[.slice none 0 0, .slice none 0 0] 57 (0, 0))) := (hb2.block _ (by omega)).trans HC1.out
  clear hda hn hb2 hh hok
  go_wp2_with fail
  have hn3 : (w2.alloc (.cells #[.slice q smallC.length cq, .slice p smallD.length cp] 57)).heap[w2.heap.size]? = some (.cells #[.slice q smallC.length cq, .slice p smallD.length cp] 57 (0, 0)) := World.alloc_heap_new _ _
  have hb3 : Below w2.heap.size w2 (w2.alloc (.cells #[.slice q smallC.length cq, .slice p smallD.length cp] 57)) := (Below.refl _ _).alloc (Nat.le_refl _) _
  have hlt : w.heap.size < w2.heap.size := by have := HB2.out.size; omega
  have HC3 := Lib.hid ((hb3.block _ hlt).trans HC2.out)
  have HB3 := Lib.hid hb3
  generalize hW3 : w2.alloc (.cells #[.slice q smallC.length cq, .slice p smallD.length cp] 57) = W3 at *
  obtain ⟨n0, n1, _, _⟩ := two_cells hn3
  obtain ⟨c0, c1, z0, z1⟩ := two_cells HC3.out
  obtain ⟨k, hk⟩ : ∃ k, k = w2.heap.size := ⟨_, rfl⟩
  rw [← hk] at n0 n1 hlt ⊢
  have HK := Lib.hid hk
  have hkl : k < W3.heap.size := by rw [← hW3, hk]; simp
  have hne : w.heap.size ≠ k := by omega
  clear hn3 hb3 hW3 hk
  go_region
  have HF := Lib.hid (two_put HC3.out (.slice q smallC.length cq) (.slice p smallD.length cp))
  have HZ : Hid (w.heap.size + 1 ≤ w1.heap.size ∧ w1.heap.size ≤ w2.heap.size ∧ w2.heap.size ≤ W3.heap.size) := ⟨hz1, HB2.out.size, HB3.out.size⟩
  have hput : ∀ (R : Nat → Prop), (∀ b, R b → b ≠ w.heap.size) → Kept R W3 ((W3.setCell ⟨w.heap.size, 0, none⟩ (.slice q smallC.length cq)).setCell ⟨w.heap.size, 1, none⟩ (.slice p smallD.length cp)).drew := fun R hR =>
    (kept_setCell hR).trans (kept_setCell hR)
  have HPUT := Lib.hid hput
  obtain ⟨f0, f1, _, _⟩ := two_cells HF.out
  have HF01 := Lib.hid (And.intro f0 f1)
  clear hput f0 f1
  all_goals go_wp2
  all_goals (
    obtain ⟨f0, f1⟩ := HF01.out
    obtain ⟨z1, z2, z3⟩ := HZ.out
    refine bodyPost_ret (v := .tuple #[.pointer (some ⟨pb, 0, none⟩), .agg #[.slice q smallC.length cq, .slice p smallD.length cp]]) (by simp [results, Tryz.results32, go_sem, f0, f1]) rfl ?_
    have hk12 : ∀ R : Nat → Prop, Kept R w1 W3 := fun R => (Kept.below HB2.out).trans (Kept.below HB3.out)
    have hpb1 : w1.heap.size ≤ pb := HN.out.1
    refine ⟨pb, _, _, rfl, ?_, ?_, ?_, ?_⟩
    · exact ((HN.out.kept (Kept.below HB3.out)).kept (HPUT.out _ (fun b hb e => by omega))).mono (fun b hb => by omega)
    · exact ((HU.out.kept (hk12 _)).kept (HPUT.out _ (fun b hb e => by have := hb.1; omega))).mono (fun b hb _ => ⟨by have := hb.1; omega, fun e => by have := hb.2; omega⟩)
    · exact ((HV.out.kept (hk12 _)).kept (HPUT.out _ (fun b hb e => by have := hb.1; omega))).mono (fun b hb _ => ⟨by have := hb.1; omega, fun e => by have := hb.2; omega⟩)
    · exact ((((HB1.out.trans (HB2.out.mono (by omega))).trans (HB3.out.mono (by omega))).setCell (p := ⟨w.heap.size, 0, none⟩) (Nat.le_refl _) _).setCell (p := ⟨w.heap.size, 1, none⟩) (Nat.le_refl _) _).drew)
def awk : List Int := [97, 204, 130, 204, 163]
theorem awk1 : nfdE [7853] = 0 ∧ nfdOf (clsOf smallC) (fun r => (deep smallD 4 r).1) [7853] = [97, 803, 770] := by decide +kernel
theorem awk2 : textE ⟨#[97, 204, 130, 204, 163]⟩ = 0 ∧ ecE (textL (clsOf smallC) (fun r => (deep smallD 4 r).1) ⟨#[97, 204, 130, 204, 163]⟩) = 0 ∧ textS (clsOf smallC) (fun r => (deep smallD 4 r).1) ⟨#[97, 204, 130, 204, 163]⟩ = ⟨#[97, 204, 163, 204, 130]⟩ := by decide +kernel
theorem awk3 : pushL (clsOf smallC) [] (deep smallD 4 97).1 = ([], [97]) ∧ sc 97 = true := by decide +kernel
theorem below_of_only {w W W' : World} {S : Nat → Prop} (h : Below w.heap.size w W) (k : Only S W W') (hS : ∀ b, S b → w.heap.size ≤ b) : Below w.heap.size w W' :=
  h.trans ⟨k.os, k.tape, k.output, k.size, fun i hi => k.block i (by have := h.size; omega) (fun hs => by have := hS i hs; omega)⟩
theorem new_at6 {w : World} {o : Obj} {n : Nat} (h : w.heap.size = n) : (w.alloc o).heap[n]? = some o := h ▸ World.alloc_heap_new w o
theorem ints_one {W : World} {b : Nat} {x : Int} {t : TypeId} (h : W.heap[b]? = some (.cells #[.int .i32 x] t (0, 0))) : IntsIn (fun k => k = b) .i32 W (.slice (some ⟨b, 0, none⟩) 1 1) [x] := by
  refine ⟨_, _, rfl, ⟨Nat.le_refl _, by decide⟩, fun i y hy => ⟨b, 0, rfl, rfl, (Array.getElem?_eq_some_iff.1 h).1, ?_⟩⟩
  match i, hy with
  | 0, hy =>
    simp at hy; subst hy
    simp [World.cell?, h]
set_option maxHeartbeats 4000000 in
set_option maxRecDepth 1000000 in
theorem awake6_any (w : World) : Calls Tryz.prog 19 #[] w fun e w' => e = .returned (.bool true) ∧ Below w.heap.size w w' := by
  go_enter Tryz.func19, Tryz.ntmps19
  go_wp2_with fail
  refine (small6_any _).mono ?_
  rintro e w1 ⟨pb, u, v, rfl, hn1, hu1, hv1, hb1⟩
  obtain ⟨q, cq, rfl, _, _⟩ := hu1
  obtain ⟨p, cp, rfl, _, _⟩ := hv1
  have HN1 := Lib.hid hn1
  have HB1 := Lib.hid hb1
  have hpb : w.heap.size ≤ pb := hn1.1
  clear hn1 hb1
  go_wp2_with fail
  have hba : Below w1.heap.size w1 ((w1.alloc (.cells #[.slice q smallC.length cq, .slice p smallD.length cp] 57)).alloc (.cells #[.int .i32 7853] 21)) := ((Below.refl _ w1).alloc (Nat.le_refl _) _).alloc (by simp) _
  have hia := ints_one (x := 7853) (new_at6 (w := w1.alloc (.cells #[.slice q smallC.length cq, .slice p smallD.length cp] 57)) (o := .cells #[.int .i32 7853] 21) (n := w1.heap.size + 1) (by simp))
  generalize (w1.alloc (.cells #[.slice q smallC.length cq, .slice p smallD.length cp] 57)).alloc (.cells #[.int .i32 7853] 21) = wa at *
  have hpl := HN1.out.lt
  have hN := norm_made pb smallC smallD small_ok
  have HN := Lib.hid hN
  have HBA : Hid (Below w.heap.size w wa) := HB1.out.trans (hba.mono HB1.out.size)
  have hnf := nfd_any (clsOf smallC) (fun r => (deep smallD 4 r).1) _ _ _ (fun b => w.heap.size ≤ b) _ [7853] _ wa hN (fun b hb => by have := HBA.out.size; omega) hia (fun b hb hs => by have h1 : b = w1.heap.size + 1 := hb; have h2 : b = pb := hs; omega) (by simp) (HN1.out.kept (Kept.below hba))
  unfold NfdTold at hnf
  rw [awk1.1, awk1.2] at hnf
  have hz1 := HB1.out.size
  have hza := hba.size
  clear hba hia hN
  with_reducible refine hnf.mono ?_
  rintro e w2 ⟨⟨l, rfl, hi2⟩, hj2, ho2⟩
  have HB2 : Hid (Below w.heap.size w w2) := below_of_only HBA.out ho2 (fun b hb => by have h2 : b = pb := hb; omega)
  have HI2 : Hid (IntsIn (fun b => wa.heap.size ≤ b ∧ b < w2.heap.size) .i32 w2 l [97, 803, 770]) := hi2.mono (fun b hb hl => ⟨hb, hl⟩)
  obtain ⟨lb, lo, lc, rfl, _, _, _⟩ := hi2.place (by decide)
  have hz2 := ho2.size
  have hte := text_any (clsOf smallC) (fun r => (deep smallD 4 r).1) _ _ _ (fun b => w.heap.size ≤ b) ⟨#[97, 204, 130, 204, 163]⟩ w2 HN.out (fun b hb => by omega) (by decide) hj2 (fun _ => awk2.2.1)
  rw [awk2.1, awk2.2.2] at hte
  clear hnf hi2 hj2 ho2
  go_wp2_with fail
  with_reducible refine hte.mono ?_
  rintro e w3 ⟨rfl, hj3, ho3⟩
  have HB3 : Hid (Below w.heap.size w w3) := below_of_only HB2.out ho3 (fun b hb => by have h2 : b = pb := hb; omega)
  have HI3 := Lib.hid (HI2.out.kept (Kept.only ho3 (fun b hb hs => by have h2 : b = pb := hs; omega)))
  have HJ3 := Lib.hid hj3
  have hz3 := ho3.size
  clear hte hj3 ho3 HI2
  go_wp2_with fail
  refine (snew_any _ _).mono ?_
  rintro e w4 ⟨rfl, hst4, hb4⟩
  have HB4 : Hid (Below w.heap.size w w4) := HB3.out.trans (hb4.mono HB3.out.size)
  have HI4 := Lib.hid (HI3.out.kept (Kept.below hb4))
  have hz4 := hb4.size
  have hlt4 := hst4.lt
  have HSO : Hid (StmOk (fun R W => Nrm R W pb smallC smallD) (fun b => w.heap.size ≤ b) (.pointer (some ⟨pb, 0, none⟩)) w3.heap.size w.heap.size [] (.slice none 0 0) w4) := by
    refine ⟨⟨rfl, .inl ⟨rfl, rfl⟩⟩, fun _ => rfl, hst4, fun e => (by cases e), ?_⟩
    exact (HJ3.out.bound.kept (Kept.below hb4)).mono (fun b hb => ⟨hb.1, by have := hb.2; omega, fun e => (by cases e)⟩)
  obtain ⟨sb, hsb⟩ : ∃ sb, sb = w3.heap.size := ⟨_, rfl⟩
  rw [← hsb] at HSO hst4 hlt4 ⊢
  have HSB := Lib.hid hsb
  have hpu := push_any (clsOf smallC) (fun r => (deep smallD 4 r).1) _ _ _ (fun b => w.heap.size ≤ b) sb w.heap.size _ [] 97 w4 HN.out (fun b hb => by omega) (by omega) HSO.out awk3.2 (by simp)
  unfold PushTold at hpu
  rw [awk3.1] at hpu
  clear hst4 hb4 hsb
  go_wp2_with fail
  with_reducible refine hpu.mono ?_
  rintro e w5 ⟨ov, hv, rfl, hi5, hso5, ho5, _⟩
  have HB5 : Hid (Below w.heap.size w w5) := below_of_only HB4.out ho5 (fun b hb => by
    rcases hb with h | h | h
    · have h2 : b = pb := h; omega
    · have := HSB.out; have := HB3.out.size; omega
    · cases h)
  have HI5 := HI4.out.kept (Kept.only ho5 (fun b hb hs => by
    rcases hs with h | h | h
    · have h2 : b = pb := h; omega
    · have := HSB.out; omega
    · cases h))
  obtain ⟨_, _, _, he5, _, _, hc5⟩ := HI5.place (by decide)
  injection he5 with he6 _ _
  injection he6 with he7
  injection he7 with he8 he9 _
  subst he8 he9
  have c1 := hc5 1 803 rfl
  obtain ⟨hp, hc, rfl⟩ : ∃ hp hc, hv = .slice hp 1 hc := by
    rcases hso5.row.2 with ⟨_, h⟩ | ⟨g, cap, cur, h, _⟩
    · cases h
    · exact ⟨_, _, h⟩
  obtain ⟨op, oc, rfl, _, _⟩ := hi5
  have hhe := held_any sb _ hp 1 hc w5 hso5.stm
  clear hpu hso5 ho5 hc5 HI5
  go_wp2_with fail
  refine hhe.mono ?_
  rintro e w6 ⟨rfl, rfl⟩
  go_wp2_with fail
  go_ret
  exact ⟨rfl, HB5.out⟩
end Go.Proofs.YtlldoofclaokgaaGreat
