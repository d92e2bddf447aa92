/- lecternref04.Scalar, lecternref05.Runes: walks. lecternref06: Data.Decomp, NFD. -/
import Derived.Test.YtnglhgogkemgbaaGreatDoorG01
import Derived.Test.YtnglhgogkemgbaaGreatDoorG34
import Derived.Test.YtnglhgogkemgbaaGreatDoorG17
import Derived.Deep.RegionHeld
namespace Go.Proofs.YtnglhgogkemgbaaGreatDoor
open Go.RowKit

set_option maxHeartbeats 400000 in
theorem r4scalar_any (r : Int) (w : World) :
    Calls Tryz.prog 106 #[.int .i32 r] w fun e w' => e = .returned (.bool (sc r)) ∧ w = w' := by
  go_enter Tryz.func106, Tryz.ntmps106
  go_wp2
  all_goals go_ret
  all_goals (refine ⟨?_, rfl⟩; simp_all [sc]; try omega)
end Go.Proofs.YtnglhgogkemgbaaGreatDoor
namespace Go.Proofs.YtnglhgogkemgbaaGreatDoor
open Go.RowKit

set_option maxHeartbeats 1000000 in
set_option maxRecDepth 100000 in
theorem rdecomp5_any (R : Nat → Prop) (d : List T3) (v : Value) (r : Int) (w : World) (hv : TrisIn R .i32 w v d) (hl : d.length ≤ 8000) :
    Calls Tryz.prog 143 #[v, .int .i32 r] w fun e w' => ∃ u, e = .returned u ∧ w'.ownsRow w.heap.size 21 1 u (deep d 4 r).1.length ((deep d 4 r).1.map (Value.int .i32)) ∧ Below w.heap.size w w' := by
  have hde := rdeep_any R d v hl 4 (Nat.le_refl _) r w hv
  obtain ⟨q, cq, rfl, _, _⟩ := hv
  unfold DeepTold at hde
  go_enter Tryz.func143, Tryz.ntmps143
  go_wp2_with fail
  refine hde.mono ?_
  rintro e w1 ⟨u, rfl, hr, hb⟩
  have HR := Lib.hid hr
  have HB := Lib.hid hb
  clear hde hr hb
  go_wp2_with fail
  go_ret
  exact ⟨_, rfl, HR.out, HB.out⟩
theorem ownsRow_weak' {W : World} {base base' : Nat} {e : TypeId} {size : Nat} {v : Value} {n : Nat} {xs : List Value} (h : W.ownsRow base e size v n xs) (hb : base' ≤ base) : W.ownsRow base' e size v n xs := by
  obtain ⟨h0, h⟩ := h
  rcases h with h | ⟨g, cap, cur, rfl, hg, h1⟩
  · exact ⟨h0, .inl h⟩
  · exact ⟨h0, .inr ⟨g, cap, cur, rfl, Nat.le_trans hb hg, h1⟩⟩
set_option maxHeartbeats 1000000 in
set_option maxRecDepth 100000 in
theorem ddecomp_any (R : Nat → Prop) (d : List T3) (up : Option Addr) (un uc : Nat) (v : Value) (r : Int) (w : World) (hv : TrisIn R .i32 w v d) (hl : d.length ≤ 8000) :
    Calls Tryz.prog 107 #[.agg #[.slice up un uc, v], .int .i32 r] w fun e w' => ∃ u, e = .returned u ∧ w'.ownsRow w.heap.size 21 1 u (deep d 4 r).1.length ((deep d 4 r).1.map (Value.int .i32)) ∧ Below w.heap.size w w' := by
  have HV := Lib.hid hv
  obtain ⟨q, cq, rfl, _, _⟩ := hv
  have hal : Below w.heap.size w (w.alloc (.cells #[.slice up un uc, .slice q d.length cq] 32)) := (Below.refl _ w).alloc (Nat.le_refl _) _
  have hca := rdecomp5_any R d _ r _ (HV.out.kept (Kept.below hal)) hl
  have HAL := Lib.hid hal
  clear hal
  go_enter Tryz.func107, Tryz.ntmps107
  go_wp2_with fail
  refine hca.mono ?_
  rintro e w1 ⟨u, rfl, hr, hb1⟩
  have HB1 := Lib.hid (HAL.out.trans (hb1.mono HAL.out.size))
  have HR := Lib.hid (ownsRow_weak' hr HAL.out.size)
  clear hca hb1 hr
  go_wp2_with fail
  go_ret
  exact ⟨_, rfl, HR.out, HB1.out⟩
/-- what the reference's NFD tells -/
def RNfdTold (f : Int → Int) (dc : Int → List Int) (L : List Int) (w : World) (e : Ending) (w' : World) : Prop :=
  (∃ v', e = .returned (.tuple #[v', .int .i64 (nfdE L)]) ∧ IntsIn (fun b => w.heap.size ≤ b) .i32 w' v' (nfdOf f dc L)) ∧ Below w.heap.size w w'
set_option maxHeartbeats 8000000 in
set_option maxRecDepth 1000000 in
theorem rnfd_any (R Rd Q : Nat → Prop) (c d : List T3) (u v : Value) (L : List Int) (lv : Value) (w : World) (hu : TrisIn R .i64 w u c) (hv : TrisIn Rd .i32 w v d) (ho : dataOk c d = true) (hL : IntsIn Q .i32 w lv L) (hll : L.length ≤ 1000000000) :
    Calls Tryz.prog 62 #[.agg #[u, v], lv] w (RNfdTold (clsOf c) (fun r => (deep d 4 r).1) L w) := by
  obtain ⟨i0, hi, hz0, hz1, hz2⟩ := info_parts Tryz.infoI32
  have HU := Lib.hid hu
  have HV := Lib.hid hv
  have HL := Lib.hid hL
  have HO := Lib.hid ho
  obtain ⟨q, cq, rfl, _, _⟩ := hu
  obtain ⟨p, cp, rfl, _, _⟩ := hv
  obtain ⟨lp, lc, rfl, hlc, _⟩ := hL
  obtain ⟨n, hn⟩ : ∃ n, n = L.length := ⟨_, rfl⟩
  rw [← hn] at HL hll hlc ⊢
  have HNL := Lib.hid hn
  have hal : Below w.heap.size w (w.alloc (.cells #[.slice q c.length cq, .slice p d.length cp] 32)) := (Below.refl _ w).alloc (Nat.le_refl _) _
  have hxd : (w.alloc (.cells #[.slice q c.length cq, .slice p d.length cp] 32)).heap[w.heap.size]? = some (.cells #[.slice q c.length cq, .slice p d.length cp] 32 (0, 0)) := World.alloc_heap_new _ _
  have HFX : Hid (Fx (w.alloc (.cells #[.slice q c.length cq, .slice p d.length cp] 32)) c L w.heap.size n (.slice q c.length cq) p d.length cp lp lc) :=
    ⟨hxd, (HU.out.kept (Kept.below hal)).mono (fun _ _ _ => trivial), (HL.out.kept (Kept.below hal)).mono (fun _ _ _ => trivial), (data_parts ho).1⟩
  have HDV : Hid (TrisIn (fun _ => True) .i32 (w.alloc (.cells #[.slice q c.length cq, .slice p d.length cp] 32)) (.slice p d.length cp) d) := (HV.out.kept (Kept.below hal)).mono (fun _ _ _ => trivial)
  have HAL := Lib.hid hal
  clear ho hn hal hxd
  go_enter Tryz.func62, Tryz.ntmps62
  go_wp2_with fail
  generalize w.alloc (.cells #[.slice q c.length cq, .slice p d.length cp] 32) = V0 at *
  obtain ⟨xb, hxb⟩ : ∃ xb, xb = w.heap.size := ⟨_, rfl⟩
  rw [← hxb] at HFX ⊢
  have HXB := Lib.hid hxb
  clear hxb
  go_loopw [6] (fun iv wr => ∃ i : Nat, iv = .int .i64 i ∧ i ≤ n ∧ (∀ (t : Nat) x, t < i → L[t]? = some x → sc x = true) ∧ Below V0.heap.size V0 wr) (fun iv _ => n - (intOf iv).toNat)
  case atStart => exact ⟨0, rfl, Nat.zero_le _, fun t x h => by omega, Below.refl _ _⟩
  case round =>
    obtain ⟨i, rfl, hin, hsc, hbw⟩ := hrel
    have HSC := Lib.hid hsc
    have HB := Lib.hid hbw
    have HBW : Hid (Below w.heap.size w wr) := HAL.out.trans (hbw.mono HAL.out.size)
    by_cases hlt : i < n
    · have g1 : (i : Int) < (n : Int) := by omega
      obtain ⟨x, hx⟩ : ∃ x, L[i]? = some x := ⟨L[i]'(by rw [← HNL.out]; exact hlt), List.getElem?_eq_getElem _⟩
      obtain ⟨lb, lo, e1, hbl, c0⟩ := (HFX.out.below hbw).atL hx
      subst e1
      have HX := Lib.hid hx
      clear hsc hbw hx
      by_cases hs : sc x = true
      · have hca : ∀ u, Calls Tryz.prog 106 #[.int .i32 x] u fun e w' => e = .returned (.bool true) ∧ u = w' := fun u => by have := r4scalar_any x u; rwa [hs] at this
        have HCA := Lib.hid hca
        have HSX := Lib.hid hs
        clear hca hs
        go_wp2_with fail
        refine (HCA.out _).mono ?_
        rintro e w1 ⟨rfl, rfl⟩
        go_wp2_with fail
        go_roundw
        case rel =>
          refine ⟨i + 1, by go_num, by omega, fun t y ht hy => ?_, HB.out⟩
          rcases Nat.lt_or_ge t i with h | h
          · exact HSC.out t y h hy
          · obtain rfl : t = i := by omega
            rw [HX.out] at hy; cases hy; exact HSX.out
        case measure => (show n - ((i : Int) + 1).toNat < n - (i : Int).toNat; omega)
      · have hs' : sc x = false := by simpa using hs
        have hca : ∀ u, Calls Tryz.prog 106 #[.int .i32 x] u fun e w' => e = .returned (.bool false) ∧ u = w' := fun u => by have := r4scalar_any x u; rwa [hs'] at this
        have HCA := Lib.hid hca
        have HE : Hid (nfdE L = 41) := nfdE_bad HX.out hs'
        clear hca hs hs'
        go_wp2_with fail
        refine (HCA.out _).mono ?_
        rintro e w1 ⟨rfl, rfl⟩
        go_wp2_with fail
        go_ret2
        have he := HE.out
        exact ⟨⟨_, by rw [he]; rfl, by unfold nfdOf; rw [he, if_neg (by decide)]; exact .nil _ _ _⟩, HBW.out⟩
    · have g1 : ¬ ((i : Int) < (n : Int)) := by omega
      have HE : Hid (nfdE L = if 4096 < n then 2 else 0) := by
        have := nfdE_all (L := L) (fun t x hx => hsc t x (by have := (List.getElem?_eq_some_iff.1 hx).1; have := HNL.out; omega) hx)
        rwa [← HNL.out] at this
      clear hsc hbw HSC
      by_cases hlong : 4096 < n
      · have g2 : (4096 : Int) < (n : Int) := by omega
        go_wp2_with fail
        go_ret2
        have he : nfdE L = 2 := by rw [HE.out, if_pos hlong]
        exact ⟨⟨_, by rw [he]; rfl, by unfold nfdOf; rw [he, if_neg (by decide)]; exact .nil _ _ _⟩, HBW.out⟩
      · have g2 : ¬ ((4096 : Int) < (n : Int)) := by omega
        have HE0 : Hid (nfdE L = 0) := by show _ = _; rw [HE.out, if_neg hlong]
        have hnl : n ≤ 4096 := by omega
        go_wp2_with fail
        go_loopw [7, 8] (fun ov iv W => ∃ k : Nat, iv = .int .i64 k ∧ k ≤ n ∧ W.ownsRow V0.heap.size 21 1 ov ((L.take k).flatMap (fun r => (deep d 4 r).1)).length (((L.take k).flatMap (fun r => (deep d 4 r).1)).map (Value.int .i32)) ∧ Below V0.heap.size V0 W) (fun _ iv _ => n - (intOf iv).toNat)
        case atStart => exact ⟨0, rfl, Nat.zero_le _, ⟨rfl, .inl ⟨rfl, rfl⟩⟩, HB.out⟩
        case round =>
          obtain ⟨k, rfl, hkn, hrow, hb⟩ := hrel
          have HB2 := Lib.hid hb
          have HROW := Lib.hid hrow
          have hdlen := fun r => (norm_made 0 c d HO.out).dlen r
          by_cases hlt2 : k < n
          · have g3 : (k : Int) < (n : Int) := by omega
            obtain ⟨x, hx⟩ : ∃ x, L[k]? = some x := ⟨L[k]'(by rw [← HNL.out]; exact hlt2), List.getElem?_eq_getElem _⟩
            have hfx := HFX.out.below hb
            obtain ⟨d0, d1, hxl⟩ := hfx.cells
            obtain ⟨lb, lo, e1, hbl, c0⟩ := hfx.atL hx
            subst e1
            have hdl : 0 < (deep d 4 x).1.length ∧ (deep d 4 x).1.length ≤ 7 := hdlen x
            have HX := Lib.hid (flat_step (dc := fun r => (deep d 4 r).1) hx)
            have HXK := Lib.hid hx
            obtain ⟨out, hout⟩ : ∃ out, (L.take k).flatMap (fun r => (deep d 4 r).1) = out := ⟨_, rfl⟩
            have hol : out.length ≤ 30000 := by
              have h1 := (flat_len (dc := fun r => (deep d 4 r).1) hdlen (L.take k)).2
              rw [hout, List.length_take] at h1
              omega
            rw [hout] at HROW HX
            have hde := ddecomp_any _ d q c.length cq _ x wr.drew (HDV.out.kept ((Kept.below hb).trans (Kept.below ((Below.refl _ wr).drew)))) (data_parts HO.out).2.1
            generalize (deep d 4 x).1 = dx at hdl hde HX
            have hS0 : (wr.drew.cell? ⟨xb, 0, none⟩ = some (.slice q c.length cq) ∧ wr.drew.cell? ⟨xb, 1, none⟩ = some (.slice p d.length cp)) ∧ wr.drew.cell? ⟨lb, lo + k, none⟩ = some (.int .i32 x) := ⟨⟨d0, d1⟩, c0⟩
            clear hrow hb hfx hx hout hdlen
            go_wp2_with fail
            refine wp_region_held_drew (S := fun u : World => (u.cell? ⟨xb, 0, none⟩ = some (.slice q c.length cq) ∧ u.cell? ⟨xb, 1, none⟩ = some (.slice p d.length cp)) ∧ u.cell? ⟨lb, lo + k, none⟩ = some (.int .i32 x)) (by kernel_rfl) hS0 (fun hH => ?_)
            refine wpAnyH_take (i := 0) (v := ?_) rfl (by kernel_rfl) (by kernel_rfl) (by kernel_rfl) (fun _ _ _ h => h) (Or.inl ⟨by rfl, ?_⟩) hH ?_; rotate_left 1; (first | (focus (intro w hSw; (try dsimp only at hSw); go_simp; done)) | (focus (intro w hSw; (try dsimp only at hSw); go_simp; with_reducible rfl))); (try simp only [Act.put])
            refine wpAnyH_take (i := 1) (v := ?_) rfl (by kernel_rfl) (by kernel_rfl) (by kernel_rfl) (fun _ _ _ h => h) (Or.inl ⟨by rfl, ?_⟩) hH ?_; rotate_left 1; (first | (focus (intro w hSw; (try dsimp only at hSw); go_simp; done)) | (focus (intro w hSw; (try dsimp only at hSw); go_simp; with_reducible rfl))); (try simp only [Act.put])
            refine wpAnyH_take (i := 2) (v := ?_) rfl (by kernel_rfl) (by kernel_rfl) (by kernel_rfl) (fun _ _ _ h => h) (Or.inl ⟨by rfl, ?_⟩) hH ?_; rotate_left 1; (first | (focus (intro w hSw; (try dsimp only at hSw); go_simp; done)) | (focus (intro w hSw; (try dsimp only at hSw); go_simp; with_reducible rfl))); (try simp only [Act.put])
            refine wpAnyH_take (i := 3) (v := ?_) rfl (by kernel_rfl) (by kernel_rfl) (by kernel_rfl) (fun _ _ _ h => h) (Or.inl ⟨by rfl, ?_⟩) hH ?_; rotate_left 1; (first | (focus (intro w hSw; (try dsimp only at hSw); go_simp; done)) | (focus (intro w hSw; (try dsimp only at hSw); go_simp; with_reducible rfl))); (try simp only [Act.put])
            refine wpAnyH_take (i := 4) (v := ?_) rfl (by kernel_rfl) (by kernel_rfl) (by kernel_rfl) (fun _ _ _ h => h) (Or.inl ⟨by rfl, ?_⟩) hH ?_; rotate_left 1; (first | (focus (intro w hSw; (try dsimp only at hSw); go_simp; done)) | (focus (intro w hSw; (try dsimp only at hSw); go_simp; with_reducible rfl))); (try simp only [Act.put])
            refine wpAnyH_take (i := 5) (v := ?_) rfl (by kernel_rfl) (by kernel_rfl) (by kernel_rfl) (fun _ _ _ h => h) (Or.inl ⟨by rfl, ?_⟩) hH ?_; rotate_left 1; (first | (focus (intro w hSw; (try dsimp only at hSw); go_simp; done)) | (focus (intro w hSw; (try dsimp only at hSw); go_simp; with_reducible rfl))); (try simp only [Act.put])
            refine wpAnyH_ready (rs := [6]) (by kernel_rfl) (by simp) ?_
            refine AllReadyH.cons rfl (fun K hK => ?_) AllReadyH.nil
            rw [if_pos (by rfl)]
            go_simp
            with_reducible refine hde.mono ?_
            rintro e w5 ⟨v5, rfl, hr5, hb5⟩
            obtain ⟨g5, o5, c5, rfl, _, _, hc5⟩ := (ints_of_own32 hr5).place hdl.1
            have hb5' : Below wr.heap.size wr w5 := ((Below.refl _ wr).drew).trans hb5
            have hrow5 := ownsRow_block HROW.out (W' := w5) (fun j _ hl => hb5'.block j hl)
            have hz5 : V0.heap.size ≤ w5.heap.size := by have := HB2.out.size; have := hb5'.size; omega
            obtain ⟨v6, w6, hr6, hrow6, hg6, _, _⟩ := run_append_own_at (P := Tryz.prog) w5 V0.heap.size 42 42 21 i0 (.int .i32 0) 1 4 Tryz.underlying42 hi hz0 hz1 hz2 rfl (by decide) _ out.length (out.map (Value.int .i32)) hrow5 ⟨g5, o5, none⟩ dx.length c5 (dx.map (Value.int .i32)) (by simp) (news_of hc5) (by simp [Value.oneCell']) (by unfold maxLen; omega) (by omega) hz5
            have hown6 : ∀ j, Value.ownBlock _ = some j → V0.heap.size ≤ j := fun j hj => (ownsRow_own hrow5 hj).1
            have HB6 : Hid (Below V0.heap.size V0 w6) := below_grown (HB2.out.trans (hb5'.mono HB2.out.size)) hg6 hz5 hown6
            have HROW6 : Hid (w6.ownsRow V0.heap.size 21 1 v6 (out ++ dx).length ((out ++ dx).map (Value.int .i32))) := by
              show World.ownsRow _ _ _ _ _ _ _
              rw [List.length_append, List.map_append]; exact hrow6
            have hfx5 := (HFX.out.below (HB2.out.trans (hb5'.mono HB2.out.size)))
            have hfx6 := HFX.out.below HB6.out
            have hS5 : (w5.cell? ⟨xb, 0, none⟩ = some (.slice q c.length cq) ∧ w5.cell? ⟨xb, 1, none⟩ = some (.slice p d.length cp)) ∧ w5.cell? ⟨lb, lo + k, none⟩ = some (.int .i32 x) := by
              obtain ⟨b, o, e, _, h⟩ := hfx5.atL HXK.out
              cases e
              exact ⟨⟨hfx5.cells.1, hfx5.cells.2.1⟩, h⟩
            have hS6 : (w6.cell? ⟨xb, 0, none⟩ = some (.slice q c.length cq) ∧ w6.cell? ⟨xb, 1, none⟩ = some (.slice p d.length cp)) ∧ w6.cell? ⟨lb, lo + k, none⟩ = some (.int .i32 x) := by
              obtain ⟨b, o, e, _, h⟩ := hfx6.atL HXK.out
              cases e
              exact ⟨⟨hfx6.cells.1, hfx6.cells.2.1⟩, h⟩
            clear hde hr5 hb5 hc5 hb5' hrow5 hz5 hrow6 hg6 hown6 hfx5 hfx6
            refine hK.out _ _ hS5 (fun hH5 => ?_)
            clear hK
            (try simp only [Act.put])
            refine wpAnyH_ready (rs := [7]) (by kernel_rfl) (by simp) ?_
            refine AllReadyH.cons rfl (fun K hK => ?_) AllReadyH.nil
            rw [if_pos (by rfl)]
            (try simp only [List.getElem_toArray, List.getElem_cons_succ, List.getElem_cons_zero])
            refine wp_append_run (.tmp 30) (.tmp 36) rfl rfl rfl hr6 ?_
            dsimp only [Act.put]
            refine hK.out _ _ hS6 (fun hH6 => ?_)
            clear hK
            (try simp only [Act.put])
            refine wpAnyH_take (i := 8) (v := ?_) rfl (by kernel_rfl) (by kernel_rfl) (by kernel_rfl) (fun _ _ _ h => h) (Or.inl ⟨by rfl, ?_⟩) hH6 ?_; rotate_left 1; (first | (focus (intro w hSw; (try dsimp only at hSw); go_simp; done)) | (focus (intro w hSw; (try dsimp only at hSw); go_simp; with_reducible rfl))); (try simp only [Act.put])
            refine wpAnyH_done (by kernel_rfl) ?_ _
            clear hr6 hH hH5 hH6 hS5 hS6 hS0
            go_wp2_with fail
            go_roundw
            case rel => exact ⟨k + 1, by go_num, by omega, by rw [HX.out]; exact HROW6.out, HB6.out⟩
            case measure => (show n - ((k : Int) + 1).toNat < n - (k : Int).toNat; omega)
          · have g3 : ¬ ((k : Int) < (n : Int)) := by omega
            obtain rfl : k = n := by omega
            have htk : L.take k = L := List.take_of_length_le (by rw [← HNL.out]; exact Nat.le_refl _)
            rw [htk] at HROW hrow
            have HF : Hid (nfdOf (clsOf c) (fun r => (deep d 4 r).1) L = ordL (clsOf c) (L.flatMap (fun r => (deep d 4 r).1))) := by show _ = _; unfold nfdOf; rw [if_pos HE0.out]
            have hfl := (flat_len (dc := fun r => (deep d 4 r).1) hdlen L).2
            rw [← HNL.out] at hfl
            have hfx := HFX.out.below hb
            obtain ⟨d0, d1, hxl⟩ := hfx.cells
            have hor := rorder_any _ _ c (.slice q c.length cq) p d.length cp _ _ wr hfx.cls hfx.clen (fun r => (clsOf_bound (data_parts HO.out).2.2.1 r).1) (ints_of_own32 hrow) (by omega)
            have HBW2 : Hid (Below w.heap.size w wr) := HAL.out.trans (HB2.out.mono HAL.out.size)
            clear hrow hb hfx htk hfl hdlen
            go_wp2_with fail
            with_reducible refine hor.mono ?_
            rintro e w5 ⟨⟨v5, rfl, hi5⟩, hb5⟩
            have HI5 := Lib.hid hi5
            have HB5 := Lib.hid (HBW2.out.trans (hb5.mono HBW2.out.size))
            have hsz5 := HBW2.out.size
            clear hor hi5 hb5
            go_wp2_with fail
            go_ret2
            exact ⟨⟨_, by rw [HE0.out]; rfl, by rw [HF.out]; exact HI5.out.mono (fun b hb _ => Nat.le_trans hsz5 hb)⟩, HB5.out⟩
end Go.Proofs.YtnglhgogkemgbaaGreatDoor
