/- The law NormsSmall, walked. -/
import Derived.Test.YtlldoofclaokgaaGreatNao
import Derived.Test.YtlldoofclaokgaaGreatHeldW
import Derived.Test.YtlldoofclaokgaaGreatRange2
import Derived.LoopNIn
import Derived.Shelf.Abstract
namespace Go.Proofs.YtlldoofclaokgaaGreat
open Go.RowKit
attribute [local go_sem] Oper.semAt_some

theorem row_string {P : Program} {w : World} {B : Nat} {v : Value} {l : List Int} {src e dst : TypeId} (hs : P.underlying src = some (.slice e)) (he : P.underlying e = some (.int .u8)) (hd : P.underlying dst = some .string)
    (h : w.ownsRow B e 1 v l.length (l.map (Value.int .u8))) : (convert src dst v).run P w = .ok (.string (strOfNums l)) w := by
  rcases h.2 with ⟨rfl, h0⟩ | ⟨g, cap, cur, rfl, hg, hr, hx⟩
  · obtain rfl := List.eq_nil_of_length_eq_zero h0
    exact run_convert_bytes_nil _ src e hs he 0 0 dst hd
  · refine run_convert_bytes_arg _ src e hs he g 0 l.length cap l rfl (fun i hi => ?_) dst hd
    have hc := h.cellAt i (by simpa using hi)
    rw [Nat.zero_add, hc, List.getElem?_map, List.getElem?_eq_getElem hi, List.getD_eq_getElem?_getD, List.getElem?_eq_getElem hi]; rfl
theorem cell_lit (w : World) (v : Value) (t : TypeId) : (w.alloc (.cells #[v] t)).cell? ⟨w.heap.size, 0, none⟩ = some v := by
  unfold World.cell?; rw [World.alloc_heap_new]; rfl
theorem new_at5 {w : World} {o : Obj} {n : Nat} (h : w.heap.size = n) : (w.alloc o).heap[n]? = some o := h ▸ World.alloc_heap_new w o
set_option maxHeartbeats 4000000 in
set_option maxRecDepth 100000 in
theorem law_small (r : Int) (w : World) :
    Calls Tryz.prog 3 #[.int .i32 r] w fun e w' => e = .returned (.bool true) ∧ Below w.heap.size w w' := by
  refine callsIn_wide (n := 0) |>.1 ?_
  refine callsIn_of_wp_marks Tryz.func3 rfl trivial ?_ rfl
  simp only [Tryz.ntmps3, List.size_toArray, List.length_cons, List.length_nil, Nat.reduceAdd, Nat.reduceSub, Array.replicate_succ, Array.replicate_zero, List.push_toArray, List.append_toArray, List.nil_append, List.cons_append]
  gi_wp2_with fail
  refine ⟨trivial, rfl, (callsIn_wide.2 (awake5_any _)).mono ?_⟩
  rintro e w1 ⟨rfl, hb1⟩
  have hb0 : Boxed w1 w.heap.size 4 (.bool false) := (hb1.block w.heap.size (by simp)).trans (Boxed.new w _ _)
  have HB1 : Hid (Below w.heap.size w w1) := ((Below.refl _ w).alloc (Nat.le_refl _) _).trans (hb1.mono (by simp))
  have HX0 := Lib.hid hb0
  clear hb1 hb0
  gi_wp2_with fail
  refine ⟨trivial, rfl, (callsIn_wide.2 (rsmall_any _)).mono ?_⟩
  rintro e w2 ⟨cv, dv, rfl, hc, hd, hb2⟩
  have hrb := rbuild_any _ _ smallC smallD cv dv w2 hc hd
  have HB2 : Hid (Below w.heap.size w w2) := HB1.out.trans (hb2.mono HB1.out.size)
  have HX2 : Hid (Boxed w2 w.heap.size 4 (.bool false)) := (hb2.block w.heap.size HX0.out.lt).trans HX0.out
  clear hb2 hc hd
  gi_wp2_with fail
  refine ⟨trivial, rfl, (callsIn_wide.2 hrb).mono ?_⟩
  rintro e w3 ⟨hb3, ⟨_, z, rfl, hz⟩ | ⟨hno, _⟩⟩
  case inr => rw [small_ok] at hno; cases hno
  have HB3 : Hid (Below w.heap.size w w3) := HB2.out.trans (hb3.mono HB2.out.size)
  have HX3 : Hid (Boxed w3 w.heap.size 4 (.bool false)) := (hb3.block w.heap.size HX2.out.lt).trans HX2.out
  have hcv : ∀ u, Below w3.heap.size w3 u → (convert 27 9 z).run Tryz.prog u = .ok (.string (strOfNums (frameOf (normBytes smallC smallD)))) u :=
    fun u hu => row_string (P := Tryz.prog) (src := 27) (dst := 9) Tryz.underlying27 Tryz.underlying5 Tryz.underlying9 (ownsRow_below hz hu)
  have HF : Hid (∃ F, F = frameOf (normBytes smallC smallD)) := ⟨_, rfl⟩
  clear hrb hb3 hz HB1 HB2 HX0 HX2
  gi_wp2
  have hS : Below w3.heap.size w3 w3.drew ∧ (convert 27 9 z).run Tryz.prog w3.drew = .ok (.string (strOfNums (frameOf (normBytes smallC smallD)))) w3.drew := ⟨(Below.refl _ _).drew, hcv _ (Below.refl _ _).drew⟩
  refine wpIn_region_hereK (fun u : World => Below w3.heap.size w3 u ∧ (convert 27 9 z).run Tryz.prog u = .ok (.string (strOfNums (frameOf (normBytes smallC smallD)))) u) (by kernel_rfl) (by kernel_rfl) hS ?walk
  case walk =>
    intro hH
    refine wpAnyH_take (i := 0) (v := ?_) rfl (by kernel_rfl) (by kernel_rfl) (by kernel_rfl) (fun _ _ _ h => h) (Or.inl ⟨by rfl, ?_⟩) hH ?_; rotate_left 1; (first | (focus (intro w hSw; (try dsimp only at hSw); go_simp; done)) | (focus (intro w hSw; (try dsimp only at hSw); go_simp; with_reducible rfl))); (try simp only [Act.put, List.setIfInBounds_toArray, List.set_cons_zero, List.set_cons_succ])
    refine wpAnyH_take (i := 1) (v := ?_) rfl (by kernel_rfl) (by kernel_rfl) (by kernel_rfl) (fun _ _ _ h => h) (Or.inl ⟨by rfl, ?_⟩) hH ?_; rotate_left 1; (first | (focus (intro w hSw; (try dsimp only at hSw); go_simp; done)) | (focus (intro w hSw; (try dsimp only at hSw); go_simp; with_reducible rfl))); (try simp only [Act.put, List.setIfInBounds_toArray, List.set_cons_zero, List.set_cons_succ])
    refine wpAnyH_take (i := 2) (v := ?_) rfl (by kernel_rfl) (by kernel_rfl) (by kernel_rfl) (fun _ _ _ h => h) (Or.inl ⟨by rfl, ?_⟩) hH ?_; rotate_left 1; (first | (focus (intro w hSw; (try dsimp only at hSw); go_simp; done)) | (focus (intro w hSw; (try dsimp only at hSw); go_simp; with_reducible rfl))); (try simp only [Act.put, List.setIfInBounds_toArray, List.set_cons_zero, List.set_cons_succ])
    refine wpAnyH_take (i := 5) (v := ?_) rfl (by kernel_rfl) (by kernel_rfl) (by kernel_rfl) (fun _ _ _ h => h) (Or.inl ⟨by rfl, ?_⟩) hH ?_; rotate_left 1; (first | (focus (intro w hSw; (try dsimp only at hSw); go_simp; done)) | (focus (intro w hSw; (try dsimp only at hSw); go_simp; with_reducible rfl))); (try simp only [Act.put, List.setIfInBounds_toArray, List.set_cons_zero, List.set_cons_succ])
    refine wpAnyH_take (i := 6) (v := ?_) rfl (by kernel_rfl) (by kernel_rfl) (by kernel_rfl) (fun _ _ _ h => h) (Or.inl ⟨by rfl, ?_⟩) hH ?_; rotate_left 1; (first | (focus (intro w hSw; (try dsimp only at hSw); go_simp; done)) | (focus (intro w hSw; (try dsimp only at hSw); go_simp; with_reducible rfl))); (try simp only [Act.put, List.setIfInBounds_toArray, List.set_cons_zero, List.set_cons_succ])
    refine wpAnyH_ready (rs := [3]) (by kernel_rfl) (by simp) ?_
    refine AllReadyH.cons rfl (fun K hK => ?_) AllReadyH.nil
    rw [if_pos (by rfl)]
    go_simp
    refine (small_any _).mono ?_
    rintro e w4 ⟨z2, rfl, hz2, hb4⟩
    have hb4' : Below w3.heap.size w3 w4 := (Below.refl _ w3).drew.trans hb4
    have hS4 : Below w3.heap.size w3 w4 ∧ (convert 27 9 z).run Tryz.prog w4 = .ok (.string (strOfNums (frameOf (normBytes smallC smallD)))) w4 := ⟨hb4', hcv _ hb4'⟩
    have hcv2 : (convert 27 9 z2).run Tryz.prog w4 = .ok (.string (strOfNums (frameOf (normBytes smallC smallD)))) w4 := row_string (P := Tryz.prog) (src := 27) (dst := 9) Tryz.underlying27 Tryz.underlying5 Tryz.underlying9 hz2
    generalize strOfNums (frameOf (normBytes smallC smallD)) = F at *
    have HB4 := Lib.hid hb4'
    clear hcv hz2 hb4 hb4' HF
    refine hK.out _ _ hS4 (fun hH1 => ?_)
    have hS4' := hS4
    clear hK hH hS hS4
    (try simp only [Act.put, List.setIfInBounds_toArray, List.set_cons_zero, List.set_cons_succ])
    refine wpAnyH_ready (rs := [4]) (by kernel_rfl) (by simp) ?_
    refine AllReadyH.cons rfl (fun K hK => ?_) AllReadyH.nil
    rw [if_pos (by rfl)]
    go_simp
    refine hK.out _ _ hS4' (fun hH2 => ?_)
    clear hK hH1
    (try simp only [Act.put, List.setIfInBounds_toArray, List.set_cons_zero, List.set_cons_succ])
    refine wpAnyH_take (i := 7) (v := ?_) rfl (by kernel_rfl) (by kernel_rfl) (by kernel_rfl) (fun _ _ _ h => h) (Or.inl ⟨by rfl, ?_⟩) hH2 ?_; rotate_left 1; (first | (focus (intro w hSw; (try dsimp only at hSw); go_simp; done)) | (focus (intro w hSw; (try dsimp only at hSw); go_simp; with_reducible rfl))); (try simp only [Act.put, List.setIfInBounds_toArray, List.set_cons_zero, List.set_cons_succ])
    refine wpAnyH_take (i := 8) (v := ?_) rfl (by kernel_rfl) (by kernel_rfl) (by kernel_rfl) (fun _ _ _ h => h) (Or.inl ⟨by rfl, ?_⟩) hH2 ?_; rotate_left 1; (first | (focus (intro w hSw; (try dsimp only at hSw); go_simp; done)) | (focus (intro w hSw; (try dsimp only at hSw); go_simp; with_reducible rfl))); (try simp only [Act.put, List.setIfInBounds_toArray, List.set_cons_zero, List.set_cons_succ])
    refine wpAnyH_done (by kernel_rfl) ?_ _
    have HX4 : Hid (Boxed w4 w.heap.size 4 (.bool false)) := (HB4.out.block w.heap.size HX3.out.lt).trans HX3.out
    have HB5 : Hid (Below w.heap.size w w4) := HB3.out.trans (HB4.out.mono HB3.out.size)
    clear hcv2 hS4' hH2 HB3 HX3 HB4
    simp only [Exit.then]
    gi_wp2_with fail
    generalize hV : ((w4.alloc (.cells #[.int .i64 0, .slice none 0 0, .slice none 0 0, .int .u32 0, .int .i32 0, .int .u32 0, .map none] 46)).alloc (.cells #[.pointer none, .pointer (some ⟨w4.heap.size, 0, none⟩)] 31)) = V
    have hzl : w4.heap.size < V.heap.size := by rw [← hV]; simp; omega
    have hzh : V.heap[w4.heap.size]? = some (.cells #[.int .i64 0, .slice none 0 0, .slice none 0 0, .int .u32 0, .int .i32 0, .int .u32 0, .map none] 46 (0, 0)) := by
      rw [← hV, Below.heap_alloc _ _ _ (by simp only [World.size_alloc]; omega)]; exact new_at5 rfl
    have hph : V.heap[w4.heap.size + 1]? = some (.cells #[.pointer none, .pointer (some ⟨w4.heap.size, 0, none⟩)] 31 (0, 0)) := by
      rw [← hV]; exact new_at5 (by simp only [World.size_alloc])
    have hz0 : V.cell? ⟨w4.heap.size, 0, none⟩ = some (.int .i64 0) := by simp [World.cell?, hzh]
    have hp0 : V.cell? ⟨w4.heap.size + 1, 0, none⟩ = some (.pointer none) := by simp [World.cell?, hph]
    have hp1 : V.cell? ⟨w4.heap.size + 1, 1, none⟩ = some (.pointer (some ⟨w4.heap.size, 0, none⟩)) := by simp [World.cell?, hph]
    have hbV : Below w4.heap.size w4 V := by rw [← hV]; exact ((Below.refl _ _).alloc (Nat.le_refl _) _).alloc (by simp) _
    have HXV : Hid (Boxed V w.heap.size 4 (.bool false)) := (hbV.block w.heap.size HX4.out.lt).trans HX4.out
    have HBV : Hid (Below w.heap.size w V) := HB5.out.trans (hbV.mono HB5.out.size)
    have hwz : w.heap.size ≤ w4.heap.size := HB5.out.size
    clear hbV hV HX4 HB5 hzh hph
    generalize hbe : w4.heap.size = be at *
    clear hbe
    refine wpIn_loop_rounds 3 ?_
    rw [roundsIn_succ]
    gi_wp2_with fail
    refine ⟨trivial, rfl, (callsIn_wide.2 (notDecomp _ _ _ (.inl rfl))).mono ?_⟩
    rintro e W1 ⟨rfl, hW1⟩
    have hal : W1.cell? ⟨V.heap.size, 0, none⟩ = some (.int .i32 97) := by
      rw [← hW1]; exact cell_lit V _ _
    have HB1 : Hid (Below V.heap.size V W1) := by show Below _ _ _; rw [← hW1]; exact (Below.refl _ _).alloc (Nat.le_refl _) _
    clear hW1
    gi_wp2_with fail
    refine ⟨trivial, rfl, (callsIn_wide.2 (notClass _ _ _ (.inl rfl))).mono ?_⟩
    rintro e w2 ⟨rfl, rfl⟩
    gi_wp2_with fail
    refine ⟨trivial, rfl, (callsIn_wide.2 (notStarter _ _ _ (.inl rfl))).mono ?_⟩
    rintro e w2 ⟨rfl, rfl⟩
    gi_wp2_with fail
    refine ⟨trivial, rfl, (callsIn_wide.2 (notClasses _ _ (.inl rfl))).mono ?_⟩
    rintro e w2 ⟨rfl, rfl⟩
    gi_wp2_with fail
    refine ⟨trivial, rfl, (callsIn_wide.2 (nDecomps_any _ _)).mono ?_⟩
    rintro e w2 ⟨rfl, hw2⟩
    have hnf : ∀ (cap : Array Value) (w : World), (binOp .neq 54 (.func (.func 54) #[] cap) .nilFunc).run Tryz.prog w = .ok (.bool true) w := fun _ _ => by kernel_rfl
    have b2 : Hid (Boxed w2 W1.heap.size 31 (.pointer none)) := by show _ = _; rw [← hw2]; exact new_at5 rfl
    have hb2 : Below W1.heap.size W1 w2 := by rw [← hw2]; exact (Below.refl _ _).alloc (Nat.le_refl _) _
    have HV2 : Hid (Below V.heap.size V w2) := HB1.out.trans (hb2.mono HB1.out.size)
    have HWV : Hid (V.heap.size ≤ W1.heap.size ∧ W1.heap.size < w2.heap.size) := ⟨HB1.out.size, by rw [← hw2]; simp⟩
    clear hw2 hb2 hal HB1
    gi_wp2_with fail
    refine wp_range2 2 (gf := 54) (lb := #[.pointer (some ⟨W1.heap.size, 0, none⟩)]) rfl (enters_of Tryz.func54 (by kernel_rfl) rfl) (notDecs_iter _ (.int .i64 0)) (fun _ => rfl)
      (fun _ W => Only (fun _ => False) w2 W) (fun _ => False) (fun _ => False) (fun _ => .only (Nat.le_refl _)) (.const _) (.const _) (fun a A h => ?pre) (Only.refl _ _)
      (fun _ => []) ?assign ?body ?after ?exit ?ret ?bad
    case assign =>
      intro l a W
      simp [roundFrame]
      gi_wp2
      exact ⟨trivial, trivial⟩
    case pre => exact ⟨_, (World.cell?_of_block (w := w2) (a := ⟨W1.heap.size, 0, none⟩) (h.block W1.heap.size b2.out.lt (by simp))).trans b2.out.cell, .inl rfl⟩
    case body => intro l a W hc; exact hc.elim
    case exit => intro a' W' h; exact h
    case ret => intro D W _ h _; exact h.elim
    case bad => intro D c s W _ h _ _; exact h.elim
    case after =>
      intro D W hD hI hK
      have ho : Only (fun _ => False) w2 W := (by rcases hI with ⟨_, _, h⟩ | h; (· exact h); exact h.elim)
      clear hI
      have HW : Hid (Below V.heap.size V W) := only_below2 HV2.out ho (fun i h => h.elim)
      have HD : Hid (D < W.heap.size ∧ W.heap[D]? = some (.deferred (some [])) ∧ w.heap.size ≤ D) := ⟨(Array.getElem?_eq_some_iff.1 hK).1, hK, by have := HBV.out.size; have := HWV.out; omega⟩
      have hz1 : W.cell? ⟨be, 0, none⟩ = some (.int .i64 0) := (HW.out.cell (p := ⟨be, 0, none⟩) hzl).trans hz0
      have hq0 : W.cell? ⟨be + 1, 1, none⟩ = some (.pointer (some ⟨be, 0, none⟩)) := (HW.out.cell (p := ⟨be + 1, 1, none⟩) (by show be + 1 < _; exact World.block_lt_of_cell? V ⟨be + 1, 1, none⟩ hp1)).trans hp1
      have HBW : Hid (Below w.heap.size w W) := HBV.out.trans (HW.out.mono HBV.out.size)
      have HXW : Hid (Boxed W w.heap.size 4 (.bool false)) := (HW.out.block w.heap.size HXV.out.lt).trans HXV.out
      clear ho b2 hD hK hp0 hp1 hz0 HV2 HW HXV HBV HWV hzl
      simp only [marked]
      gi_wp2_with fail
      rw [roundsIn_succ]
      gi_wp2_with fail
      refine ⟨trivial, rfl, (callsIn_wide.2 (notDecomp _ _ _ (.inr ⟨be, rfl, hz1⟩))).mono ?_⟩
      rintro e W2 ⟨rfl, hW2⟩
      have hal : W2.cell? ⟨W.heap.size, 0, none⟩ = some (.int .i32 97) := by
        rw [← hW2]; exact cell_lit W _ _
      have hb2 : Below W.heap.size W W2 := by rw [← hW2]; exact (Below.refl _ _).alloc (Nat.le_refl _) _
      have hz2 : W2.cell? ⟨be, 0, none⟩ = some (.int .i64 0) := (hb2.cell (p := ⟨be, 0, none⟩) (World.block_lt_of_cell? W ⟨be, 0, none⟩ hz1)).trans hz1
      have HB2 := Lib.hid hb2
      clear hW2 hb2
      gi_wp2_with fail
      refine ⟨trivial, rfl, (callsIn_wide.2 (notClass _ _ _ (.inr ⟨be, rfl, hz2⟩))).mono ?_⟩
      rintro e w2 ⟨rfl, rfl⟩
      gi_wp2_with fail
      refine ⟨trivial, rfl, (callsIn_wide.2 (notStarter _ _ _ (.inr ⟨be, rfl, hz2⟩))).mono ?_⟩
      rintro e w2 ⟨rfl, rfl⟩
      gi_wp2_with fail
      refine ⟨trivial, rfl, (callsIn_wide.2 (notClasses _ _ (.inr ⟨be, rfl, hz2⟩))).mono ?_⟩
      rintro e w2 ⟨rfl, rfl⟩
      gi_wp2_with fail
      refine ⟨trivial, rfl, (callsIn_wide.2 (nDecomps_any _ _)).mono ?_⟩
      rintro e w3 ⟨rfl, hw3⟩
      have hb3 : Below W2.heap.size W2 w3 := by rw [← hw3]; exact (Below.refl _ _).alloc (Nat.le_refl _) _
      have b3 : Hid (Boxed w3 W2.heap.size 31 (.pointer (some ⟨be, 0, none⟩))) := by show _ = _; rw [← hw3]; exact new_at5 rfl
      have hz3 : w3.cell? ⟨be, 0, none⟩ = some (.int .i64 0) := (hb3.cell (p := ⟨be, 0, none⟩) (World.block_lt_of_cell? W2 ⟨be, 0, none⟩ hz2)).trans hz2
      have HB3 : Hid (Below W.heap.size W w3) := HB2.out.trans (hb3.mono HB2.out.size)
      clear hw3 hb3 hal hz2 HB2 hq0
      gi_wp2_with fail
      refine wp_range2 2 (gf := 54) (lb := #[.pointer (some ⟨W2.heap.size, 0, none⟩)]) rfl (enters_of Tryz.func54 (by kernel_rfl) rfl) (notDecs_iter _ (.int .i64 0)) (fun _ => rfl)
        (fun _ W => Only (fun _ => False) w3 W) (fun _ => False) (fun _ => False) (fun _ => .only (Nat.le_refl _)) (.const _) (.const _) (fun a A h => ?pre) (Only.refl _ _)
        (fun _ => []) ?assign ?body ?after ?exit ?ret ?bad
      case assign =>
        intro l a W
        simp [roundFrame]
        gi_wp2
        exact ⟨trivial, trivial⟩
      case pre => exact ⟨_, (World.cell?_of_block (w := w3) (a := ⟨W2.heap.size, 0, none⟩) (h.block W2.heap.size b3.out.lt (by simp))).trans b3.out.cell, .inr ⟨be, rfl, (World.cell?_of_block (w := w3) (a := ⟨be, 0, none⟩) (h.block be (World.block_lt_of_cell? w3 ⟨be, 0, none⟩ hz3) (by simp))).trans hz3⟩⟩
      case body => intro l a W hc; exact hc.elim
      case exit => intro a' W' h; exact h
      case ret => intro D W _ h _; exact h.elim
      case bad => intro D c s W _ h _ _; exact h.elim
      case after =>
        intro D2 U hD2 hI hK2
        have ho : Only (fun _ => False) w3 U := (by rcases hI with ⟨_, _, h⟩ | h; (· exact h); exact h.elim)
        clear hI
        have HU : Hid (Below W.heap.size W U) := only_below2 HB3.out ho (fun i h => h.elim)
        have HBU : Hid (Below w.heap.size w U) := HBW.out.trans (HU.out.mono HBW.out.size)
        have HXU : Boxed U w.heap.size 4 (.bool false) := (HU.out.block w.heap.size HXW.out.lt).trans HXW.out
        have HD1 : Hid (D < U.heap.size ∧ U.heap[D]? = some (.deferred (some [])) ∧ w.heap.size ≤ D) := ⟨Nat.lt_of_lt_of_le HD.out.1 HU.out.size, (HU.out.block _ HD.out.1).trans HD.out.2.1, HD.out.2.2⟩
        have HD2 : Hid (D2 < U.heap.size ∧ U.heap[D2]? = some (.deferred (some [])) ∧ w.heap.size ≤ D2 ∧ D ≠ D2) := ⟨(Array.getElem?_eq_some_iff.1 hK2).1, hK2, (by have := HBW.out.size; have := HB3.out.size; omega), (by have := HD.out.1; have := HB3.out.size; omega)⟩
        have h1c := HXU.cell
        have h1f := HXU.frozen
        clear ho b3 hD2 hK2 HXW HBW HB3 hz1 hz3 HD
        simp only [marked]
        gi_wp2_with fail
        rw [roundsIn_succ]
        gi_wp2_with fail
        have hD := HD1.out
        have hD2 := HD2.out
        have hK1 := hD.2.1
        have hK2 := hD2.2.1
        have n1 : D ≠ w.heap.size := (fun e => by rw [e] at hK1; rw [show U.heap[w.heap.size]? = _ from HXU] at hK1; cases hK1)
        have n2 : D2 ≠ w.heap.size := (fun e => by rw [e] at hK2; rw [show U.heap[w.heap.size]? = _ from HXU] at hK2; cases hK2)
        have q1 : Boxed (U.setCell ⟨w.heap.size, 0, none⟩ (.bool true)) w.heap.size 4 (.bool true) := HXU.set _
        refine leave_mark2 (v := .bool true) ?_ ?_ hD2.2.2.2 ?_ ⟨rfl, ?_⟩
        · rw [Below.heap_setCell _ _ _ _ n2]; exact hK2
        · rw [Below.heap_setCell _ _ _ _ n1]; exact hK1
        · have q2 := (boxed_putObj (D := D) (boxed_putObj (D := D2) q1 (by omega) (.deferred none)) (by omega) (.deferred none)).cell
          simp [results, Tryz.results3, go_sem, q2]
        · exact below_putObj (below_putObj (HBU.out.setCell (Nat.le_refl _) _) hD2.2.2.1 _) hD.2.2 _
end Go.Proofs.YtlldoofclaokgaaGreat
