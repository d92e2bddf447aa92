/- Law 10: awake. -/
import Derived.Test.YtchjjfjjcdjjcaaDoorIj
import Derived.Test.YtchjjfjjcdjjcaaDoorGq
namespace Go.Proofs.YtchjjfjjcdjjcaaDoor
open Go.RowKit

theorem awk10_1 : (parV ⟨#[38, 97, 32, 60, 32, 98, 32, 60, 60, 32, 99]⟩).length = 3 ∧ parE ⟨#[38, 97, 32, 60, 32, 98, 32, 60, 60, 32, 99]⟩ = 0 := ⟨by kernel_rfl, by kernel_rfl⟩
theorem awk10_2 : parA ⟨#[38, 97, 32, 60]⟩ = 4 ∧ parE ⟨#[38, 97, 32, 60]⟩ = 100 := ⟨by kernel_rfl, by kernel_rfl⟩
def awE : List Ent := [([97], [(16, 32, 2, false)]), ([98], [(17, 32, 2, false)])]
theorem awk10_3 : behR awE [(16, 32, 2, false)] 1 = .inl (0, (16, 32, 2, false), (17, 32, 2, false)) := by kernel_rfl
theorem awk10_4 : awE.map (raiE (upU (upT 1 (16, 32, 2, false)))) = [([97], [(16, 32, 2, false)]), ([98], [(18, 32, 2, false)])] := by kernel_rfl
set_option maxHeartbeats 8000000 in
set_option maxRecDepth 100000 in
theorem awake10_any (w : World) : Calls Tryd.prog 5 #[] w fun e w' => e = .returned (.bool true) ∧ Below w.heap.size w w' := by
  have h1 := fun W => parse_any ⟨#[38, 97, 32, 60, 32, 98, 32, 60, 60, 32, 99]⟩ W (by decide)
  have h2 := fun W => parse_any ⟨#[38, 97, 32, 60]⟩ W (by decide)
  rw [awk10_1.2] at h1
  rw [awk10_2.1, awk10_2.2] at h2
  have H1 := Lib.hid h1
  have H2 := Lib.hid h2
  clear h1 h2
  go_enter Tryd.func5, Tryd.ntmps5
  go_wp2_with fail
  refine (H1.out _).mono ?_
  rintro e w1 ⟨lv1, rfl, hr1, hb1⟩
  have HB1 := Lib.hid hb1
  obtain ⟨p1, k1, rfl, _⟩ := hr1
  rw [awk10_1.1]
  clear hb1
  go_wp2_with fail
  refine (H2.out _).mono ?_
  rintro e w2 ⟨lv2, rfl, hr2, hb2⟩
  have HB2 := Lib.hid (HB1.out.trans (hb2.mono HB1.out.size))
  clear hb2 hr2
  generalize parA ⟨#[38, 97, 32, 60, 32, 98, 32, 60, 60, 32, 99]⟩ = pa at *
  go_upto_region 4 with fail
  obtain ⟨a0, a1, a2, a3, a4, a5, hz0, hb0⟩ := six_at w2 _ _ _ _ _ _ _ _ _ _ _ _ ((((((w2.alloc (.cells #[.int .i32 97] 21)).alloc (.cells #[.int .i64 16, .int .i64 32, .int .i64 2, .bool false] 42)).alloc (.cells #[.int .i32 98] 21)).alloc (.cells #[.int .i64 17, .int .i64 32, .int .i64 2, .bool false] 42)).alloc (.cells #[.slice (some ⟨w2.heap.size, 0, none⟩) 1 1, .slice (some ⟨w2.heap.size + 1, 0, none⟩) 1 1, .slice (some ⟨w2.heap.size + 1 + 1, 0, none⟩) 1 1, .slice (some ⟨w2.heap.size + 1 + 1 + 1, 0, none⟩) 1 1] 45)).alloc (.cells #[.string ⟨#[]⟩, .slice none 0 0, .slice (some ⟨w2.heap.size + 1 + 1 + 1 + 1, 0, none⟩) 2 2] 34)) rfl
  generalize ((((((w2.alloc (.cells #[.int .i32 97] 21)).alloc (.cells #[.int .i64 16, .int .i64 32, .int .i64 2, .bool false] 42)).alloc (.cells #[.int .i32 98] 21)).alloc (.cells #[.int .i64 17, .int .i64 32, .int .i64 2, .bool false] 42)).alloc (.cells #[.slice (some ⟨w2.heap.size, 0, none⟩) 1 1, .slice (some ⟨w2.heap.size + 1, 0, none⟩) 1 1, .slice (some ⟨w2.heap.size + 1 + 1, 0, none⟩) 1 1, .slice (some ⟨w2.heap.size + 1 + 1 + 1, 0, none⟩) 1 1] 45)).alloc (.cells #[.string ⟨#[]⟩, .slice none 0 0, .slice (some ⟨w2.heap.size + 1 + 1 + 1 + 1, 0, none⟩) 2 2] 34)) = W0 at *
  have hS : SrcAt W0 (w2.heap.size + 1 + 1 + 1 + 1 + 1) (.string ⟨#[]⟩) (.slice none 0 0) (.slice (some ⟨w2.heap.size + 1 + 1 + 1 + 1, 0, none⟩) 2 2) := a5
  have r0 : W0.cell? ⟨w2.heap.size + 1 + 1 + 1 + 1, 0, none⟩ = some (.slice (some ⟨w2.heap.size, 0, none⟩) 1 1) := by simp [World.cell?, a4]
  have r1 : W0.cell? ⟨w2.heap.size + 1 + 1 + 1 + 1, 1, none⟩ = some (.slice (some ⟨w2.heap.size + 1, 0, none⟩) 1 1) := by simp [World.cell?, a4]
  have r2 : W0.cell? ⟨w2.heap.size + 1 + 1 + 1 + 1, 2, none⟩ = some (.slice (some ⟨w2.heap.size + 1 + 1, 0, none⟩) 1 1) := by simp [World.cell?, a4]
  have r3 : W0.cell? ⟨w2.heap.size + 1 + 1 + 1 + 1, 3, none⟩ = some (.slice (some ⟨w2.heap.size + 1 + 1 + 1, 0, none⟩) 1 1) := by simp [World.cell?, a4]
  have hi1 : IntsIn (fun _ => True) .i32 W0 (.slice (some ⟨w2.heap.size, 0, none⟩) 1 1) [97] := by
    refine ⟨_, _, rfl, ⟨by decide, by unfold maxLen; decide⟩, fun i x hx => ?_⟩
    match i, hx with
    | 0, hx => cases hx; exact ⟨_, _, rfl, trivial, (Array.getElem?_eq_some_iff.1 a0).1, by simp [World.cell?, a0]⟩
  have hi2 : IntsIn (fun _ => True) .i32 W0 (.slice (some ⟨w2.heap.size + 1 + 1, 0, none⟩) 1 1) [98] := by
    refine ⟨_, _, rfl, ⟨by decide, by unfold maxLen; decide⟩, fun i x hx => ?_⟩
    match i, hx with
    | 0, hx => cases hx; exact ⟨_, _, rfl, trivial, (Array.getElem?_eq_some_iff.1 a2).1, by simp [World.cell?, a2]⟩
  have he1 : ElsIn (fun _ => True) W0 (.slice (some ⟨w2.heap.size + 1, 0, none⟩) 1 1) [(16, 32, 2, false)] := by
    refine ⟨_, _, rfl, fun i x hx => ?_⟩
    match i, hx with
    | 0, hx => cases hx; exact ⟨_, _, rfl, trivial, (Array.getElem?_eq_some_iff.1 a1).1, by simp [El4, World.cell?, a1]⟩
  have he2 : ElsIn (fun _ => True) W0 (.slice (some ⟨w2.heap.size + 1 + 1 + 1, 0, none⟩) 1 1) [(17, 32, 2, false)] := by
    refine ⟨_, _, rfl, fun i x hx => ?_⟩
    match i, hx with
    | 0, hx => cases hx; exact ⟨_, _, rfl, trivial, (Array.getElem?_eq_some_iff.1 a3).1, by simp [El4, World.cell?, a3]⟩
  have hen : EntsIn (fun _ => True) W0 (.slice (some ⟨w2.heap.size + 1 + 1 + 1 + 1, 0, none⟩) 2 2) awE := by
    refine ⟨_, _, rfl, fun i x hx => ?_⟩
    match i, hx with
    | 0, hx => cases hx; exact ⟨_, _, _, _, rfl, trivial, (Array.getElem?_eq_some_iff.1 a4).1, r0, r1, hi1, he1⟩
    | 1, hx => cases hx; exact ⟨_, _, _, _, rfl, trivial, (Array.getElem?_eq_some_iff.1 a4).1, r2, r3, hi2, he2⟩
  have HB0 : Hid (Below w.heap.size w W0) := Lib.hid (HB2.out.trans (hb0.mono HB2.out.size))
  have HSS : Hid (∀ V, Below W0.heap.size W0 V → (fun V : World => V.cell? ⟨w2.heap.size + 1 + 1 + 1 + 1 + 1, 0, none⟩ = some (.string ⟨#[]⟩) ∧ V.cell? ⟨w2.heap.size + 1 + 1 + 1 + 1 + 1, 1, none⟩ = some (.slice none 0 0) ∧ V.cell? ⟨w2.heap.size + 1 + 1 + 1 + 1 + 1, 2, none⟩ = some (.slice (some ⟨w2.heap.size + 1 + 1 + 1 + 1, 0, none⟩) 2 2) ∧ V.cell? ⟨w2.heap.size + 1 + 1 + 1 + 1, 1, none⟩ = some (.slice (some ⟨w2.heap.size + 1, 0, none⟩) 1 1)) V) := Lib.hid (fun V hb => by
    obtain ⟨q0, q1, q2, _, _⟩ := (hS.below hb).cells
    exact ⟨q0, q1, q2, (hb.cell (p := ⟨w2.heap.size + 1 + 1 + 1 + 1, 1, none⟩) (Array.getElem?_eq_some_iff.1 a4).1).trans r1⟩)
  have HCL : Hid (∀ V, Below W0.heap.size W0 V → Calls Tryd.prog 11 #[.agg #[.string ⟨#[]⟩, .slice none 0 0, .slice (some ⟨w2.heap.size + 1 + 1 + 1 + 1, 0, none⟩) 2 2], .slice (some ⟨w2.heap.size + 1, 0, none⟩) 1 1, .int .i64 1] V (BeEnd awE [(16, 32, 2, false)] 1 ⟨#[]⟩ 0 V)) := Lib.hid (fun V hb =>
    tbehind_any (fun _ => True) (fun _ => True) awE [(16, 32, 2, false)] 1 ⟨#[]⟩ 0 _ _ _ V (CellsIn.nil V 4) (hen.kept (Kept.below hb)) (he1.kept (Kept.below hb)) (by decide) (by decide) (by decide) (by decide) (by unfold ElB inI; decide) (by unfold ElB inI; decide))
  clear hi1 hi2 he1 he2 hen r0 r1 r2 r3 a0 a1 a2 a3 a4 a5 hS hz0 hb0
  go_cut [8, 9, 10] from 31 to 41 (fun s8 s9 s10 wx => ∃ (ob : Nat) (p : Option Addr) (c : Nat) (v : Value) (ts : List Tri3) (cs : List (Value × Value)), s8 = .pointer (some ⟨ob, 0, none⟩) ∧ s10 = .int .i64 0 ∧ SrcAt wx ob (.string ⟨#[]⟩) (.slice p 0 c) v ∧
    EntsOwnC W0.heap.size wx v [([97], [(16, 32, 2, false)]), ([98], [(18, 32, 2, false)])] ts cs ∧ ElsIn (fun _ => True) wx s9 [(17, 32, 2, false)] ∧ Below W0.heap.size W0 wx)
  case first =>
    refine wp_region_held_drew (S := (fun V : World => V.cell? ⟨w2.heap.size + 1 + 1 + 1 + 1 + 1, 0, none⟩ = some (.string ⟨#[]⟩) ∧ V.cell? ⟨w2.heap.size + 1 + 1 + 1 + 1 + 1, 1, none⟩ = some (.slice none 0 0) ∧ V.cell? ⟨w2.heap.size + 1 + 1 + 1 + 1 + 1, 2, none⟩ = some (.slice (some ⟨w2.heap.size + 1 + 1 + 1 + 1, 0, none⟩) 2 2) ∧ V.cell? ⟨w2.heap.size + 1 + 1 + 1 + 1, 1, none⟩ = some (.slice (some ⟨w2.heap.size + 1, 0, none⟩) 1 1))) (by kernel_rfl) (HSS.out _ (Below.refl _ W0).drew) (fun hH => ?_)
    refine gTakeL (i := 0) (v := ?_) rfl (by kernel_rfl) (by kernel_rfl) (by kernel_rfl) (fun _ _ _ h => h) (Or.inl ⟨by first | rfl | kernel_rfl, ?_⟩) hH ?_; rotate_left 1; (first | (focus (intro w hSw; (try dsimp only at hSw); go_simp; done)) | (focus (intro w hSw; (try dsimp only at hSw); go_simp; with_reducible rfl)) | (focus (intro w hSw; (try dsimp only at hSw); simp [hSw, go_sem]; done))); (try simp only [Act.put, List.setIfInBounds_toArray, List.set_cons_zero, List.set_cons_succ])
    refine gTakeL (i := 1) (v := ?_) rfl (by kernel_rfl) (by kernel_rfl) (by kernel_rfl) (fun _ _ _ h => h) (Or.inl ⟨by first | rfl | kernel_rfl, ?_⟩) hH ?_; rotate_left 1; (first | (focus (intro w hSw; (try dsimp only at hSw); go_simp; done)) | (focus (intro w hSw; (try dsimp only at hSw); go_simp; with_reducible rfl)) | (focus (intro w hSw; (try dsimp only at hSw); simp [hSw, go_sem]; done))); (try simp only [Act.put, List.setIfInBounds_toArray, List.set_cons_zero, List.set_cons_succ])
    refine gTakeL (i := 2) (v := ?_) rfl (by kernel_rfl) (by kernel_rfl) (by kernel_rfl) (fun _ _ _ h => h) (Or.inl ⟨by first | rfl | kernel_rfl, ?_⟩) hH ?_; rotate_left 1; (first | (focus (intro w hSw; (try dsimp only at hSw); go_simp; done)) | (focus (intro w hSw; (try dsimp only at hSw); go_simp; with_reducible rfl)) | (focus (intro w hSw; (try dsimp only at hSw); simp [hSw, go_sem]; done))); (try simp only [Act.put, List.setIfInBounds_toArray, List.set_cons_zero, List.set_cons_succ])
    refine gTakeL (i := 3) (v := ?_) rfl (by kernel_rfl) (by kernel_rfl) (by kernel_rfl) (fun _ _ _ h => h) (Or.inl ⟨by first | rfl | kernel_rfl, ?_⟩) hH ?_; rotate_left 1; (first | (focus (intro w hSw; (try dsimp only at hSw); go_simp; done)) | (focus (intro w hSw; (try dsimp only at hSw); go_simp; with_reducible rfl)) | (focus (intro w hSw; (try dsimp only at hSw); simp [hSw, go_sem]; done))); (try simp only [Act.put, List.setIfInBounds_toArray, List.set_cons_zero, List.set_cons_succ])
    refine gTakeL (i := 4) (v := ?_) rfl (by kernel_rfl) (by kernel_rfl) (by kernel_rfl) (fun _ _ _ h => h) (Or.inl ⟨by first | rfl | kernel_rfl, ?_⟩) hH ?_; rotate_left 1; (first | (focus (intro w hSw; (try dsimp only at hSw); go_simp; done)) | (focus (intro w hSw; (try dsimp only at hSw); go_simp; with_reducible rfl)) | (focus (intro w hSw; (try dsimp only at hSw); simp [hSw, go_sem]; done))); (try simp only [Act.put, List.setIfInBounds_toArray, List.set_cons_zero, List.set_cons_succ])
    refine gTakeL (i := 5) (v := ?_) rfl (by kernel_rfl) (by kernel_rfl) (by kernel_rfl) (fun _ _ _ h => h) (Or.inl ⟨by first | rfl | kernel_rfl, ?_⟩) hH ?_; rotate_left 1; (first | (focus (intro w hSw; (try dsimp only at hSw); go_simp; done)) | (focus (intro w hSw; (try dsimp only at hSw); go_simp; with_reducible rfl)) | (focus (intro w hSw; (try dsimp only at hSw); simp [hSw, go_sem]; done))); (try simp only [Act.put, List.setIfInBounds_toArray, List.set_cons_zero, List.set_cons_succ])
    refine gTwoL (i := 6) (j := 11) (by kernel_rfl) rfl rfl (by rfl) (by rfl) (fun K hK => ?_) (fun K hK => ?_)
    · have HK := Lib.hid hK
      clear hK
      go_simp
      refine (HCL.out _ (Below.refl _ W0).drew).mono ?_
      rintro e w5 ⟨hb5, ⟨a, x, nx, p, c, v, ts, cs, ov, hbr, rfl, hen, hov⟩ | ⟨z, hbr, _⟩⟩
      · skip
        rw [awk10_3] at hbr
        cases hbr
        rw [awk10_4] at hen
        have hov' : ElsIn (fun _ => True) w5 ov [(17, 32, 2, false)] := ElsIn.mono hov (fun _ _ _ => trivial)
        have HB5 : Hid (Below W0.heap.size W0 w5) := Lib.hid ((Below.refl _ W0).drew.trans hb5)
        have HEN := Lib.hid (hen.weak (B' := W0.heap.size) (Nat.le_refl _))
        have HOV := Lib.hid hov'
        obtain ⟨lp, lcap, rfl⟩ := id hen.form
        obtain ⟨vp, vcap, rfl, _⟩ := id hov'
        clear hov hov' hb5
        clear hen
        have HBA : Hid (Below W0.heap.size W0 (w5.alloc (.cells #[.string ⟨#[]⟩, .slice none 0 0, .slice none 0 0] 34))) := Lib.hid (HB5.out.alloc HB5.out.size _)
        have HBF : Hid (Below W0.heap.size W0 (w5.alloc (.cells #[.string ⟨#[]⟩, .slice p 0 c, .slice lp 2 lcap] 34))) := Lib.hid (HB5.out.alloc HB5.out.size _)
        have HEF : Hid (EntsOwnC W0.heap.size (w5.alloc (.cells #[.string ⟨#[]⟩, .slice p 0 c, .slice lp 2 lcap] 34)) (.slice lp 2 lcap) [([97], [(16, 32, 2, false)]), ([98], [(18, 32, 2, false)])] ts cs) := Lib.hid (HEN.out.below ((Below.refl _ w5).alloc (Nat.le_refl _) _))
        have HOF : Hid (ElsIn (fun _ => True) (w5.alloc (.cells #[.string ⟨#[]⟩, .slice p 0 c, .slice lp 2 lcap] 34)) (.slice vp 1 vcap) [(17, 32, 2, false)]) := Lib.hid (HOV.out.kept (Kept.below ((Below.refl _ w5).alloc (Nat.le_refl _) _)))
        refine HK.out _ _ (HSS.out _ HB5.out) ?_
        clear HK
        (try simp only [Act.put, List.setIfInBounds_toArray, List.set_cons_zero, List.set_cons_succ])
        refine gTakeL (i := 7) (v := ?_) rfl (by kernel_rfl) (by kernel_rfl) (by kernel_rfl) (fun _ _ _ h => h) (Or.inl ⟨by first | rfl | kernel_rfl, ?_⟩) (HSS.out _ HB5.out) ?_; rotate_left 1; (first | (focus (intro w hSw; (try dsimp only at hSw); go_simp; done)) | (focus (intro w hSw; (try dsimp only at hSw); go_simp; with_reducible rfl)) | (focus (intro w hSw; (try dsimp only at hSw); simp [hSw, go_sem]; done))); (try simp only [Act.put, List.setIfInBounds_toArray, List.set_cons_zero, List.set_cons_succ])
        refine gTakeL (i := 8) (v := ?_) rfl (by kernel_rfl) (by kernel_rfl) (by kernel_rfl) (fun _ _ _ h => h) (Or.inl ⟨by first | rfl | kernel_rfl, ?_⟩) (HSS.out _ HB5.out) ?_; rotate_left 1; (first | (focus (intro w hSw; (try dsimp only at hSw); go_simp; done)) | (focus (intro w hSw; (try dsimp only at hSw); go_simp; with_reducible rfl)) | (focus (intro w hSw; (try dsimp only at hSw); simp [hSw, go_sem]; done))); (try simp only [Act.put, List.setIfInBounds_toArray, List.set_cons_zero, List.set_cons_succ])
        refine gTakeL (i := 9) (v := ?_) rfl (by kernel_rfl) (by kernel_rfl) (by kernel_rfl) (fun _ _ _ h => h) (Or.inl ⟨by first | rfl | kernel_rfl, ?_⟩) (HSS.out _ HB5.out) ?_; rotate_left 1; (first | (focus (intro w hSw; (try dsimp only at hSw); go_simp; done)) | (focus (intro w hSw; (try dsimp only at hSw); go_simp; with_reducible rfl)) | (focus (intro w hSw; (try dsimp only at hSw); simp [hSw, go_sem]; done))); (try simp only [Act.put, List.setIfInBounds_toArray, List.set_cons_zero, List.set_cons_succ])
        refine gTakeL (i := 10) (v := ?_) rfl (by kernel_rfl) (by kernel_rfl) (by kernel_rfl) (fun _ _ _ h => h) (Or.inl ⟨by first | rfl | kernel_rfl, ?_⟩) (HSS.out _ HB5.out) ?_; rotate_left 1; (first | (focus (intro w hSw; (try dsimp only at hSw); go_simp; done)) | (focus (intro w hSw; (try dsimp only at hSw); go_simp; with_reducible rfl)) | (focus (intro w hSw; (try dsimp only at hSw); simp [hSw, go_sem]; done))); (try simp only [Act.put, List.setIfInBounds_toArray, List.set_cons_zero, List.set_cons_succ])
        refine gOneL (i := 11) (by kernel_rfl) rfl (by rfl) (fun K hK => ?_)
        have HK := Lib.hid hK
        clear hK
        go_simp
        refine HK.out _ _ (HSS.out _ HBA.out) ?_
        clear HK
        (try simp only [Act.put, List.setIfInBounds_toArray, List.set_cons_zero, List.set_cons_succ])
        refine gOneL (i := 12) (by kernel_rfl) rfl (by rfl) (fun K hK => ?_)
        have HK := Lib.hid hK
        clear hK
        go_simp
        refine HK.out _ _ (HSS.out _ HBF.out) ?_
        clear HK
        (try simp only [Act.put, List.setIfInBounds_toArray, List.set_cons_zero, List.set_cons_succ])
        refine gOneL (i := 13) (by kernel_rfl) rfl (by rfl) (fun K hK => ?_)
        have HK := Lib.hid hK
        clear hK
        go_simp
        refine HK.out _ _ (HSS.out _ HBF.out) ?_
        clear HK
        (try simp only [Act.put, List.setIfInBounds_toArray, List.set_cons_zero, List.set_cons_succ])
        refine gOneL (i := 14) (by kernel_rfl) rfl (by rfl) (fun K hK => ?_)
        have HK := Lib.hid hK
        clear hK
        go_simp
        refine HK.out _ _ (HSS.out _ HBF.out) ?_
        clear HK
        (try simp only [Act.put, List.setIfInBounds_toArray, List.set_cons_zero, List.set_cons_succ])
        refine wpAnyH_done (by kernel_rfl) ?_ _
        go_wp2_with fail
        go_meet
        case rel => exact ⟨w5.heap.size, p, c, _, ts, cs, rfl, rfl, World.alloc_heap_new _ _, HEF.out, HOF.out, HBF.out⟩
      · rw [awk10_3] at hbr; cases hbr
    · have HK := Lib.hid hK
      clear hK
      have HBA : Hid (Below W0.heap.size W0 (W0.drew.alloc (.cells #[.string ⟨#[]⟩, .slice none 0 0, .slice none 0 0] 34))) := Lib.hid ((Below.refl _ W0).drew.alloc (Nat.le_refl _) _)
      have HSA : Hid (SrcAt (W0.drew.alloc (.cells #[.string ⟨#[]⟩, .slice none 0 0, .slice none 0 0] 34)) W0.heap.size (.string ⟨#[]⟩) (.slice none 0 0) (.slice none 0 0)) := Lib.hid (World.alloc_heap_new _ _)
      have HZA : Hid (W0.heap.size + 1 = (W0.drew.alloc (.cells #[.string ⟨#[]⟩, .slice none 0 0, .slice none 0 0] 34)).heap.size) := Lib.hid (by simp)
      go_simp
      refine HK.out _ _ (HSS.out _ HBA.out) ?_
      clear HK
      (try simp only [Act.put, List.setIfInBounds_toArray, List.set_cons_zero, List.set_cons_succ])
      refine gOneL (i := 6) (by kernel_rfl) rfl (by rfl) (fun K hK => ?_)
      have HK := Lib.hid hK
      clear hK
      go_simp
      refine (HCL.out _ HBA.out).mono ?_
      rintro e w5 ⟨hb5, ⟨a, x, nx, p, c, v, ts, cs, ov, hbr, rfl, hen, hov⟩ | ⟨z, hbr, _⟩⟩
      · skip
        rw [awk10_3] at hbr
        cases hbr
        rw [awk10_4] at hen
        have hov' : ElsIn (fun _ => True) w5 ov [(17, 32, 2, false)] := ElsIn.mono hov (fun _ _ _ => trivial)
        have HB5 : Hid (Below W0.heap.size W0 w5) := Lib.hid (HBA.out.trans (hb5.mono HBA.out.size))
        have hsa := HSA.out.below hb5
        have HSF0 := Lib.hid hsa
        have HO5 : Hid (ElsIn (fun b => W0.heap.size + 1 ≤ b) w5 ov [(17, 32, 2, false)]) := Lib.hid (ElsIn.mono hov (fun b hb _ => by have h1 : _ ≤ b := hb; have := HZA.out; omega))
        obtain ⟨lp, lcap, rfl⟩ := id hen.form
        obtain ⟨vp, vcap, rfl, _⟩ := id hov'
        clear hov hov' hb5
        obtain ⟨_, _, _, df, dl⟩ := hsa.cells
        have f0 := df 0
        have f1 := df 1
        have f2 := df 2
        have hoF : Only (fun b => b = W0.heap.size) w5 (((w5.setCell ⟨W0.heap.size, 0, none⟩ (.string ⟨#[]⟩)).setCell ⟨W0.heap.size, 1, none⟩ (.slice p 0 c)).setCell ⟨W0.heap.size, 2, none⟩ (.slice lp 2 lcap)) := (((Only.refl (fun b => b = W0.heap.size) w5).setCell (p := ⟨W0.heap.size, 0, none⟩) rfl _).setCell (p := ⟨W0.heap.size, 1, none⟩) rfl _).setCell (p := ⟨W0.heap.size, 2, none⟩) rfl _
        have HBF : Hid (Below W0.heap.size W0 (((w5.setCell ⟨W0.heap.size, 0, none⟩ (.string ⟨#[]⟩)).setCell ⟨W0.heap.size, 1, none⟩ (.slice p 0 c)).setCell ⟨W0.heap.size, 2, none⟩ (.slice lp 2 lcap))) := Lib.hid (Only.toBelow HB5.out (Nat.le_refl _) hoF (fun i hi => by omega))
        have HEF : Hid (EntsOwnC W0.heap.size (((w5.setCell ⟨W0.heap.size, 0, none⟩ (.string ⟨#[]⟩)).setCell ⟨W0.heap.size, 1, none⟩ (.slice p 0 c)).setCell ⟨W0.heap.size, 2, none⟩ (.slice lp 2 lcap)) (.slice lp 2 lcap) [([97], [(16, 32, 2, false)]), ([98], [(18, 32, 2, false)])] ts cs) := Lib.hid ((hen.only hoF (fun b hb => .inl (by have := HZA.out; omega))).weak (B' := W0.heap.size) (by have := HZA.out; omega))
        have HOF : Hid (ElsIn (fun _ => True) (((w5.setCell ⟨W0.heap.size, 0, none⟩ (.string ⟨#[]⟩)).setCell ⟨W0.heap.size, 1, none⟩ (.slice p 0 c)).setCell ⟨W0.heap.size, 2, none⟩ (.slice lp 2 lcap)) (.slice vp 1 vcap) [(17, 32, 2, false)]) := Lib.hid (HO5.out.kept (Kept.only hoF (fun b hb hs => by have := HZA.out; omega)) |>.mono (fun _ _ _ => trivial))
        have HSF := Lib.hid (HSF0.out.put3 (.string ⟨#[]⟩) (.slice p 0 c) (.slice lp 2 lcap))
        clear hen hsa df hoF
        refine HK.out _ _ (HSS.out _ HB5.out) ?_
        clear HK
        (try simp only [Act.put, List.setIfInBounds_toArray, List.set_cons_zero, List.set_cons_succ])
        refine gTakeL (i := 7) (v := ?_) rfl (by kernel_rfl) (by kernel_rfl) (by kernel_rfl) (fun _ _ _ h => h) (Or.inl ⟨by first | rfl | kernel_rfl, ?_⟩) (HSS.out _ HB5.out) ?_; rotate_left 1; (first | (focus (intro w hSw; (try dsimp only at hSw); go_simp; done)) | (focus (intro w hSw; (try dsimp only at hSw); go_simp; with_reducible rfl)) | (focus (intro w hSw; (try dsimp only at hSw); simp [hSw, go_sem]; done))); (try simp only [Act.put, List.setIfInBounds_toArray, List.set_cons_zero, List.set_cons_succ])
        refine gTakeL (i := 8) (v := ?_) rfl (by kernel_rfl) (by kernel_rfl) (by kernel_rfl) (fun _ _ _ h => h) (Or.inl ⟨by first | rfl | kernel_rfl, ?_⟩) (HSS.out _ HB5.out) ?_; rotate_left 1; (first | (focus (intro w hSw; (try dsimp only at hSw); go_simp; done)) | (focus (intro w hSw; (try dsimp only at hSw); go_simp; with_reducible rfl)) | (focus (intro w hSw; (try dsimp only at hSw); simp [hSw, go_sem]; done))); (try simp only [Act.put, List.setIfInBounds_toArray, List.set_cons_zero, List.set_cons_succ])
        refine gTakeL (i := 9) (v := ?_) rfl (by kernel_rfl) (by kernel_rfl) (by kernel_rfl) (fun _ _ _ h => h) (Or.inl ⟨by first | rfl | kernel_rfl, ?_⟩) (HSS.out _ HB5.out) ?_; rotate_left 1; (first | (focus (intro w hSw; (try dsimp only at hSw); go_simp; done)) | (focus (intro w hSw; (try dsimp only at hSw); go_simp; with_reducible rfl)) | (focus (intro w hSw; (try dsimp only at hSw); simp [hSw, go_sem]; done))); (try simp only [Act.put, List.setIfInBounds_toArray, List.set_cons_zero, List.set_cons_succ])
        refine gTakeL (i := 10) (v := ?_) rfl (by kernel_rfl) (by kernel_rfl) (by kernel_rfl) (fun _ _ _ h => h) (Or.inl ⟨by first | rfl | kernel_rfl, ?_⟩) (HSS.out _ HB5.out) ?_; rotate_left 1; (first | (focus (intro w hSw; (try dsimp only at hSw); go_simp; done)) | (focus (intro w hSw; (try dsimp only at hSw); go_simp; with_reducible rfl)) | (focus (intro w hSw; (try dsimp only at hSw); simp [hSw, go_sem]; done))); (try simp only [Act.put, List.setIfInBounds_toArray, List.set_cons_zero, List.set_cons_succ])
        refine gOneL (i := 12) (by kernel_rfl) rfl (by rfl) (fun K hK => ?_)
        have HK := Lib.hid hK
        clear hK
        go_simp
        refine HK.out _ _ (HSS.out _ HBF.out) ?_
        clear HK
        (try simp only [Act.put, List.setIfInBounds_toArray, List.set_cons_zero, List.set_cons_succ])
        refine gOneL (i := 13) (by kernel_rfl) rfl (by rfl) (fun K hK => ?_)
        have HK := Lib.hid hK
        clear hK
        go_simp
        refine HK.out _ _ (HSS.out _ HBF.out) ?_
        clear HK
        (try simp only [Act.put, List.setIfInBounds_toArray, List.set_cons_zero, List.set_cons_succ])
        refine gOneL (i := 14) (by kernel_rfl) rfl (by rfl) (fun K hK => ?_)
        have HK := Lib.hid hK
        clear hK
        go_simp
        refine HK.out _ _ (HSS.out _ HBF.out) ?_
        clear HK
        (try simp only [Act.put, List.setIfInBounds_toArray, List.set_cons_zero, List.set_cons_succ])
        refine wpAnyH_done (by kernel_rfl) ?_ _
        go_wp2_with fail
        go_meet
        case rel => exact ⟨W0.heap.size, p, c, _, ts, cs, rfl, rfl, HSF.out, HEF.out, HOF.out, HBF.out⟩
      · rw [awk10_3] at hbr; cases hbr
  case rest =>
  obtain ⟨ob, p, c, v, ts, cs, rfl, rfl, hs, hen, hov, hb⟩ := hcut
  obtain ⟨cc, tt, _, _, _, he, g, cap, rfl, _, hgl, _, g1⟩ := hen.get (i := 1) (e := ([98], [(18, 32, 2, false)])) rfl
  obtain ⟨p4, c4, hcc, _⟩ := id he
  rw [hcc] at g1 he
  obtain ⟨q4, o4, hq4, _, hql4, e4, _, _, _⟩ := he.at 0 (18, 32, 2, false) rfl
  subst hq4
  obtain ⟨p5, c5, rfl, _⟩ := id hov
  obtain ⟨q5, o5, hq5, _, hql5, e5, _, _, _⟩ := hov.at 0 (17, 32, 2, false) rfl
  subst hq5
  obtain ⟨_, _, s2, _, sl⟩ := hs.cells
  have HBX : Hid (Below w.heap.size w wc) := Lib.hid (HB0.out.trans (hb.mono HB0.out.size))
  simp only [Nat.zero_mul, Nat.one_mul, Nat.add_zero, List.length_cons, List.length_nil, Nat.reduceAdd, Nat.reduceMul] at e4 e5 g1 s2
  clear hs hen hov hb he hcc HCL HSS HB0 HB2 HB1 H1 H2
  simp only [List.length_cons, List.length_nil, Nat.reduceAdd]
  go_wp2_with fail
  go_ret
  exact ⟨rfl, HBX.out⟩
end Go.Proofs.YtchjjfjjcdjjcaaDoor
