/- norm.Parts's own function: it tells the pieces. -/
import Derived.Test.YtlldoofclaokgaaGreatQb
import Derived.Test.YtlldoofclaokgaaGreatHeldW
import Derived.Test.YtlldoofclaokgaaGreatOe
import Derived.Test.YtlldoofclaokgaaGreatOw
namespace Go.Proofs.YtlldoofclaokgaaGreat
open Go.RowKit

theorem cutLen_at {f : Int → Int} {X : List Int} {e : Nat} (h1 : 1 ≤ e) (he : e ≤ X.length) (h2 : ∀ (t : Nat) y, 1 ≤ t → t < e → X[t]? = some y → f y ≠ 0) (h3 : ∀ y, X[e]? = some y → f y = 0) : cutLen f X = e := by
  cases X with
  | nil => simp at he; omega
  | cons x xs =>
    obtain ⟨j, rfl⟩ : ∃ j, e = j + 1 := ⟨e - 1, by omega⟩
    have : (xs.takeWhile (nst f)).length = j := by
      have hsplit : xs = xs.take j ++ xs.drop j := (List.take_append_drop j xs).symm
      rw [hsplit, takeWhile_append_all]
      · rw [List.length_take]; simp at he; omega
      · intro y hy
        obtain ⟨t, ht⟩ := List.mem_iff_getElem?.1 hy
        have htl := (List.getElem?_eq_some_iff.1 ht).1
        rw [List.length_take] at htl
        rw [List.getElem?_take_of_lt (by omega)] at ht
        have := h2 (t + 1) y (by omega) (by omega) (by simpa using ht)
        unfold nst; simpa using this
      · intro y hy
        have := h3 y (by simpa using head_drop hy)
        unfold nst; simp [this]
    simp only [cutLen, this]; omega
theorem slice_to32 (w : World) (p : Option Addr) (len cap j : Nat) (hj : j ≤ cap) : (Instr.sliceAt 48 (.slice p len cap) none (some (.int .i64 j)) none).run Tryz.prog w = .ok (sliced p 0 j cap 1) w := by
  have he : Tryz.prog.elem 48 = 21 := by kernel_rfl
  rw [run_sliceAt_slice w 48 _ _ _ _ (by rw [he]; exact Tryz.underlying48), run_slice_h w 48 p len cap (by rw [he]; exact Tryz.underlying48) .i64 j (by omega) (by omega), he]
  have hz : (sizeOf 21).run Tryz.prog w = .ok 1 w := by kernel_rfl
  rw [hz]
  simp [Result.andThen]
/-- what the function may turn -/
def Turn6 (R : Nat → Prop) (pb : Nat) (c d : List T3) (A B : World) : Prop := Only (fun k => k = pb) A B ∧ (Nrm R A pb c d → Nrm R B pb c d)
theorem turn_below {R : Nat → Prop} {pb : Nat} {c d : List T3} {A B : World} (h : Below A.heap.size A B) : Turn6 R pb c d A B := ⟨(Only.refl _ A).below h, fun hn => hn.kept (Kept.below h)⟩
set_option maxHeartbeats 8000000 in
set_option maxRecDepth 1000000 in
theorem parts_iter (R : Nat → Prop) (pb B1 B2 N n : Nat) (c d : List T3) (L : List Int) (lp : Option Addr) (lc : Nat) (Q : Nat → Prop) (hRN : ∀ b, N ≤ b → R b) (hQ : ∀ b, Q b → b ≠ pb) (hn : L.length = n) (hl : n ≤ 1000000000) (ho : dataOk c d = true) :
    IterV Tryz.prog 64 #[.pointer (some ⟨B1, 0, none⟩), .pointer (some ⟨B2, 0, none⟩)] N (Turn6 R pb c d)
      (fun (a : Nat) A v => IntsIn (fun b => N ≤ b) .i32 A v (((nfdOf (clsOf c) (fun r => (deep d 4 r).1) L).drop a).take (cutLen (clsOf c) ((nfdOf (clsOf c) (fun r => (deep d 4 r).1) L).drop a))))
      (fun a => a + cutLen (clsOf c) ((nfdOf (clsOf c) (fun r => (deep d 4 r).1) L).drop a)) (fun a => a < (nfdOf (clsOf c) (fun r => (deep d 4 r).1) L).length) (fun a => (nfdOf (clsOf c) (fun r => (deep d 4 r).1) L).length ≤ a) 0
      (fun W => W.cell? ⟨B1, 0, none⟩ = some (.pointer (some ⟨pb, 0, none⟩)) ∧ W.cell? ⟨B2, 0, none⟩ = some (.slice lp n lc) ∧ Nrm R W pb c d ∧ IntsIn Q .i32 W (.slice lp n lc) L) := by
  intro l J Jx W hNW hJ hJx hPre hY h0
  obtain ⟨c1, c2, hnr, hli⟩ := hPre _ _ h0
  have hN := norm_made pb c d ho
  have hnf := nfd_any (clsOf c) (fun r => (deep d 4 r).1) (.pointer (some ⟨pb, 0, none⟩)) _ _ R Q L _ W hN (fun b hb => hRN b (Nat.le_trans hNW hb)) hli (fun b hb e => hQ b hb e) (by omega) hnr
  unfold NfdTold at hnf
  have HPRE := Lib.hid hPre
  have HJ := Lib.hid hJ
  have HY := Lib.hid hY
  have H0 := Lib.hid h0
  clear hnr hli hPre hJ hY h0
  refine callsIn_wide (n := 0) |>.1 ?_
  refine callsIn_of_wp Tryz.func64 rfl trivial ?_ rfl
  simp only [Tryz.ntmps64, List.size_toArray, List.length_cons, List.length_nil, Nat.reduceAdd, Nat.reduceSub, Array.replicate_succ, Array.replicate_zero, List.push_toArray, List.append_toArray, List.nil_append, List.cons_append]
  gi_wp2_with fail
  refine ⟨trivial, rfl, (callsIn_wide.2 hnf).mono ?_⟩
  rintro e w1 ⟨⟨v1, rfl, hi1⟩, hn1, ho1⟩
  have HJ1 : Hid (J 0 w1) := HJ.out 0 _ _ H0.out ⟨ho1, fun _ => hn1⟩
  have HN1 : Hid (N ≤ w1.heap.size) := by show N ≤ _; have := ho1.size; omega
  have HLEN : Hid (((nfdOf (clsOf c) (fun r => (deep d 4 r).1) L).length ≤ 100000000) = True) := by
    show _ = True
    refine eq_true ?_
    unfold nfdOf
    split
    · rename_i h
      rw [ordL_len]
      have h1 := (flat_len hN.dlen L).2
      have h2 : L.length ≤ 4096 := by unfold nfdE at h; split at h <;> (try split at h) <;> omega
      omega
    · simp
  have HX1 : Hid (IntsIn (fun b => N ≤ b) .i32 w1 v1 (nfdOf (clsOf c) (fun r => (deep d 4 r).1) L)) := hi1.mono (fun b hb _ => by omega)
  generalize hDD : nfdOf (clsOf c) (fun r => (deep d 4 r).1) L = D at *
  have HDD := Lib.hid hDD
  clear hDD
  generalize nfdE L = ee at *
  clear hnf hi1 hn1 ho1 c1 c2 H0
  gi_wp2_with fail
  gi_loopw [4, 6] (fun xv _ wr => ∃ a : Nat, a ≤ D.length ∧ N ≤ wr.heap.size ∧ J a wr ∧ IntsIn (fun b => N ≤ b) .i32 wr xv (D.drop a)) (fun xv _ _ => (match xv with | .slice _ m _ => m | _ => 0))
  case atStart => exact ⟨0, Nat.zero_le _, HN1.out, HJ1.out, by rw [List.drop_zero]; exact HX1.out⟩
  case round =>
    obtain ⟨a, ha, hNr, hj, hx⟩ := hrel
    obtain ⟨X, hXD⟩ : ∃ X, X = D.drop a := ⟨_, rfl⟩
    obtain ⟨m, hmX⟩ : ∃ m, m = X.length := ⟨_, rfl⟩
    rw [← hXD] at hx
    obtain ⟨xp, xc, rfl, hcap, _⟩ := id hx
    rw [← hmX] at hx hcap ⊢
    have HXD := Lib.hid hXD
    have HXL : Hid (X.length = m) := hmX.symm
    have hml : m = D.length - a := by rw [hmX, hXD, List.length_drop]
    have HY : Hid (∀ (s : Nat) A v, J s A → s < D.length → IntsIn (fun b => N ≤ b) .i32 A v ((D.drop s).take (cutLen (clsOf c) (D.drop s))) → YieldAt Fence.wide 0 Tryz.prog l #[v] A fun e B => Above N A B ∧ ((e = .returned (.bool true) ∧ J (s + cutLen (clsOf c) (D.drop s)) B) ∨ (e = .returned (.bool false) ∧ Jx B))) := HY.out
    have HYA : Hid (∀ A v, J a A → a < D.length → IntsIn (fun b => N ≤ b) .i32 A v (X.take (cutLen (clsOf c) X)) → YieldAt Fence.wide 0 Tryz.prog l #[v] A fun e B => Above N A B ∧ ((e = .returned (.bool true) ∧ J (a + cutLen (clsOf c) X) B) ∨ (e = .returned (.bool false) ∧ Jx B))) := by
      intro A v h1 h2 h3
      have := HY.out a A v h1 h2 (by rw [← hXD]; exact h3)
      rwa [← hXD] at this
    have HJR := Lib.hid hj
    have HXR := Lib.hid hx
    have HNR := Lib.hid hNr
    have HPR := Lib.hid (HPRE.out a wr hj)
    have HML := Lib.hid hml
    clear hXD hmX hj hx hNr hml
    by_cases hm : 0 < m
    · have g1 : (0 : Int) < (m : Int) := by omega
      have halt : a < D.length := by have := HML.out; omega
      have hmm : m ≤ 100000000 := by have := of_eq_true HLEN.out; have := HML.out; omega
      gi_wp2_with fail
      gi_loopw [6] (fun ev W2 => ∃ e : Nat, ev = .int .i64 e ∧ 1 ≤ e ∧ e ≤ m ∧ (∀ (t : Nat) y, 1 ≤ t → t < e → X[t]? = some y → clsOf c y ≠ 0) ∧ J a W2 ∧ IntsIn (fun b => N ≤ b) .i32 W2 (.slice xp m xc) X ∧ N ≤ W2.heap.size) (fun ev _ => m - (intOf ev).toNat)
      case atStart => exact ⟨1, rfl, Nat.le_refl _, hm, fun t y h1 h2 => by omega, HJR.out, HXR.out, HNR.out⟩
      case round =>
        obtain ⟨e, rfl, he1, hem, hne, hj2, hx2, hn2⟩ := hrel
        have HNE := Lib.hid hne
        have HJ2 := Lib.hid hj2
        have HX2 := Lib.hid hx2
        have HN2 := Lib.hid hn2
        obtain ⟨k1, k2, hnr2, _⟩ := HPRE.out a _ hj2
        by_cases hlt : e < m
        · have g2 : (e : Int) < (m : Int) := by omega
          have g2d : decide ((e : Int) < (m : Int)) = true := decide_eq_true g2
          obtain ⟨y, hyx⟩ : ∃ y, X[e]? = some y := ⟨X[e]'(by rw [HXL.out]; exact hlt), List.getElem?_eq_getElem _⟩
          obtain ⟨xb, xo, e2, hbx, c3⟩ := hx2.atC hyx
          subst e2
          have hcc := nClass_any _ pb c d y wr.drew (hnr2.kept (Kept.below ((Below.refl _ wr).drew)))
          obtain ⟨z, hz⟩ : ∃ z, z = clsOf c y := ⟨_, rfl⟩
          rw [← hz] at hcc
          have HZY := Lib.hid (And.intro hz hyx)
          have hbl : B1 < wr.heap.size := by
            rcases Nat.lt_or_ge B1 wr.heap.size with h | h
            · exact h
            · simp [World.cell?, Array.getElem?_eq_none h] at k1
          have hS0 : wr.drew.cell? ⟨B1, 0, none⟩ = some (.pointer (some ⟨pb, 0, none⟩)) ∧ wr.drew.cell? ⟨xb, xo + e, none⟩ = some (.int .i32 y) := ⟨k1, c3⟩
          clear hne hj2 hx2 hn2 hnr2 hz hyx k1 k2 c3
          gi_wp2_with fail
          refine wpIn_region_hereK (fun u : World => u.cell? ⟨B1, 0, none⟩ = some (.pointer (some ⟨pb, 0, none⟩)) ∧ u.cell? ⟨xb, xo + e, none⟩ = some (.int .i32 y)) (by kernel_rfl) (by kernel_rfl) hS0 ?walk
          case walk =>
            intro hH
            refine wpAnyH_take (i := 0) (v := ?_) rfl (by kernel_rfl) (by kernel_rfl) (by kernel_rfl) (fun _ _ _ h => h) (Or.inl ⟨by first | kernel_rfl | rfl, ?_⟩) hH ?_; rotate_left 1; (first | (focus (intro w hSw; (try dsimp only at hSw); go_simp; done)) | (focus (intro w hSw; (try dsimp only at hSw); go_simp; with_reducible rfl))); (try simp only [Act.put])
            refine wpAnyH_take (i := 1) (v := ?_) rfl (by kernel_rfl) (by kernel_rfl) (by kernel_rfl) (fun _ _ _ h => h) (Or.inl ⟨by first | kernel_rfl | rfl, ?_⟩) hH ?_; rotate_left 1; (first | (focus (intro w hSw; (try dsimp only at hSw); go_simp; done)) | (focus (intro w hSw; (try dsimp only at hSw); go_simp; with_reducible rfl))); (try simp only [Act.put])
            refine wpAnyH_take (i := 2) (v := ?_) rfl (by kernel_rfl) (by kernel_rfl) (by kernel_rfl) (fun _ _ _ h => h) (Or.inl ⟨by first | kernel_rfl | rfl, ?_⟩) hH ?_; rotate_left 1; (first | (focus (intro w hSw; (try dsimp only at hSw); go_simp; done)) | (focus (intro w hSw; (try dsimp only at hSw); go_simp; with_reducible rfl))); (try simp only [Act.put])
            refine wpAnyH_take (i := 3) (v := ?_) rfl (by kernel_rfl) (by kernel_rfl) (by kernel_rfl) (fun _ _ _ h => h) (Or.inl ⟨by first | kernel_rfl | rfl, ?_⟩) hH ?_; rotate_left 1; (first | (focus (intro w hSw; (try dsimp only at hSw); go_simp; done)) | (focus (intro w hSw; (try dsimp only at hSw); go_simp; with_reducible rfl))); (try simp only [Act.put])
            refine wpAnyH_take (i := 4) (v := ?_) rfl (by kernel_rfl) (by kernel_rfl) (by kernel_rfl) (fun _ _ _ h => h) (Or.inl ⟨by first | kernel_rfl | rfl, ?_⟩) hH ?_; rotate_left 1; (first | (focus (intro w hSw; (try dsimp only at hSw); go_simp; done)) | (focus (intro w hSw; (try dsimp only at hSw); go_simp; with_reducible rfl))); (try simp only [Act.put])
            refine wpAnyH_take (i := 5) (v := ?_) rfl (by kernel_rfl) (by kernel_rfl) (by kernel_rfl) (fun _ _ _ h => h) (Or.inl ⟨by first | kernel_rfl | rfl, ?_⟩) hH ?_; rotate_left 1; (first | (focus (intro w hSw; (try dsimp only at hSw); go_simp; done)) | (focus (intro w hSw; (try dsimp only at hSw); go_simp; with_reducible rfl))); (try simp only [Act.put])
            refine wpAnyH_take (i := 6) (v := ?_) rfl (by kernel_rfl) (by kernel_rfl) (by kernel_rfl) (fun _ _ _ h => h) (Or.inl ⟨by first | kernel_rfl | rfl, ?_⟩) hH ?_; rotate_left 1; (first | (focus (intro w hSw; (try dsimp only at hSw); go_simp; done)) | (focus (intro w hSw; (try dsimp only at hSw); go_simp; with_reducible rfl))); (try simp only [Act.put])
            refine wpAnyH_take (i := 7) (v := ?_) rfl (by kernel_rfl) (by kernel_rfl) (by kernel_rfl) (fun _ _ _ h => h) (Or.inl ⟨by first | kernel_rfl | rfl, ?_⟩) hH ?_; rotate_left 1; (first | (focus (intro w hSw; (try dsimp only at hSw); go_simp; done)) | (focus (intro w hSw; (try dsimp only at hSw); go_simp; with_reducible rfl))); (try simp only [Act.put])
            refine wpAnyH_take (i := 8) (v := ?_) rfl (by kernel_rfl) (by kernel_rfl) (by kernel_rfl) (fun _ _ _ h => h) (Or.inl ⟨by first | kernel_rfl | rfl, ?_⟩) hH ?_; rotate_left 1; (first | (focus (intro w hSw; (try dsimp only at hSw); go_simp; done)) | (focus (intro w hSw; (try dsimp only at hSw); go_simp; with_reducible rfl))); (try simp only [Act.put])
            refine wpAnyH_take (i := 9) (v := ?_) rfl (by kernel_rfl) (by kernel_rfl) (by kernel_rfl) (fun _ _ _ h => h) (Or.inl ⟨by first | kernel_rfl | rfl, ?_⟩) hH ?_; rotate_left 1; (first | (focus (intro w hSw; (try dsimp only at hSw); go_simp; done)) | (focus (intro w hSw; (try dsimp only at hSw); go_simp; with_reducible rfl))); (try simp only [Act.put])
            refine wpAnyH_ready (rs := [10]) (by kernel_rfl) (by simp) ?_
            refine AllReadyH.cons rfl (fun K hK => ?_) AllReadyH.nil
            rw [if_pos (by first | kernel_rfl | rfl)]
            go_simp
            with_reducible refine hcc.mono ?_
            rintro e5 w5 ⟨rfl, hb5⟩
            have hb5' : Below wr.heap.size wr w5 := ((Below.refl _ wr).drew).trans hb5
            have hS5 : w5.cell? ⟨B1, 0, none⟩ = some (.pointer (some ⟨pb, 0, none⟩)) ∧ w5.cell? ⟨xb, xo + e, none⟩ = some (.int .i32 y) :=
              ⟨(hb5'.cell (p := ⟨B1, 0, none⟩) hbl).trans hS0.1, (hb5'.cell (p := ⟨xb, xo + e, none⟩) hbx).trans hS0.2⟩
            have HJ5 := Lib.hid (HJ.out a _ _ HJ2.out (turn_below hb5'))
            have HX5 := Lib.hid (HX2.out.kept (Kept.below hb5'))
            have HN5 : Hid (N ≤ w5.heap.size) := Nat.le_trans HN2.out hb5'.size
            clear hb5 hb5' hcc
            refine hK.out _ _ hS5 (fun hH5 => ?_)
            clear hK
            (try simp only [Act.put])
            refine wpAnyH_take (i := 11) (v := ?_) rfl (by kernel_rfl) (by kernel_rfl) (by kernel_rfl) (fun _ _ _ h => h) (Or.inl ⟨by first | kernel_rfl | rfl, ?_⟩) hH5 ?_; rotate_left 1; (first | (focus (intro w hSw; (try dsimp only at hSw); go_simp; done)) | (focus (intro w hSw; (try dsimp only at hSw); go_simp; with_reducible rfl))); (try simp only [Act.put])
            refine wpAnyH_take (i := 12) (v := ?_) rfl (by kernel_rfl) (by kernel_rfl) (by kernel_rfl) (fun _ _ _ h => h) (Or.inl ⟨by first | kernel_rfl | rfl, ?_⟩) hH5 ?_; rotate_left 1; (first | (focus (intro w hSw; (try dsimp only at hSw); go_simp; done)) | (focus (intro w hSw; (try dsimp only at hSw); go_simp; with_reducible rfl))); (try simp only [Act.put])
            refine wpAnyH_done (by kernel_rfl) ?_ _
            clear hH hH5 hS5 hS0
            by_cases hz0 : z = 0
            · have hz1 : (z != 0) = false := by simp [hz0]
              have hzero : ∀ y', X[e]? = some y' → clsOf c y' = 0 := fun y' h => by
                rw [HZY.out.2] at h; cases h; rw [← HZY.out.1]; exact hz0
              have hcut : cutLen (clsOf c) X = e := cutLen_at he1 (by rw [HXL.out]; exact hem) HNE.out hzero
              obtain ⟨p5, n5, c5, h5⟩ : ∃ p5 n5 c5, sliced (some ⟨xb, xo, none⟩) 0 e xc 1 = .slice p5 n5 c5 := ⟨_, _, _, rfl⟩
              have hsl5 : ∀ w, (Instr.sliceAt 48 (.slice (some ⟨xb, xo, none⟩) m xc) none (some (.int .i64 e)) none).run Tryz.prog w = .ok (.slice p5 n5 c5) w := fun w => by rw [← h5]; exact slice_to32 w (some ⟨xb, xo, none⟩) m xc e (by omega)
              have hx5 : IntsIn (fun b => N ≤ b) .i32 w5 (.slice p5 n5 c5) (X.take e) := by
                have := HX5.out.mid 0 e (Nat.zero_le _) (by rw [HXL.out]; exact hem)
                rw [h5, List.drop_zero, Nat.sub_zero] at this
                exact this
              have hcl5 := rclone_ok _ (X.take e) _ w5 hx5 (by rw [List.length_take, HXL.out]; omega) (by rw [List.length_take, HXL.out]; omega)
              have HCUT := Lib.hid hcut
              clear hx5 h5 hcut hzero
              gi_wp2_with fail
              refine ⟨trivial, rfl, (callsIn_wide.2 hcl5).mono ?_⟩
              rintro e6 w6 ⟨⟨v6, rfl, hr6⟩, hb6⟩
              have hj6 : J a w6 := HJ.out a _ _ HJ5.out (turn_below hb6)
              have HX6 := Lib.hid (HX5.out.kept (Kept.below hb6))
              have hnw : N ≤ w5.heap.size := HN5.out
              have hnw6 : N ≤ w6.heap.size := by have := hb6.size; omega
              have henc : IntsIn (fun b => N ≤ b) .i32 w6 v6 (X.take (cutLen (clsOf c) X)) := by
                rw [HCUT.out]
                exact (ints_of_own32 hr6).mono (fun b hb _ => by have := hb.1; omega)
              obtain ⟨fn, tmps, assign, body, hy, hR⟩ := HYA.out w6 v6 hj6 halt henc
              clear hcl5 hr6 hb6 hj6 henc
              gi_wp2
              refine ⟨rfl, hR.mono ?_⟩
              rintro e7 w7 ⟨hab, ⟨rfl, hj7⟩ | ⟨rfl, hjx⟩⟩
              · obtain ⟨p8, n8, c8, h8⟩ : ∃ p8 n8 c8, sliced (some ⟨xb, xo, none⟩) e m xc 1 = .slice p8 n8 c8 := ⟨_, _, _, rfl⟩
                have hsl8 : ∀ w, (Instr.sliceAt 48 (.slice (some ⟨xb, xo, none⟩) m xc) (some (.int .i64 e)) none none).run Tryz.prog w = .ok (.slice p8 n8 c8) w := fun w => by rw [← h8]; exact slice_from32 w (some ⟨xb, xo, none⟩) m xc e hem
                have hx8 : IntsIn (fun b => N ≤ b) .i32 w7 (.slice p8 n8 c8) (D.drop (a + e)) := by
                  have h1 := (HX6.out.kept (w' := w7) ⟨hab.1, fun b hb hl => hab.2 b hb hl⟩).dropped e (by rw [HXL.out]; exact hem)
                  rw [h8, HXD.out, List.drop_drop] at h1
                  exact h1
                have hn8 : n8 = m - e := by
                  have := h8
                  unfold sliced at this
                  injection this with _ h _
                  exact h.symm
                have HE8 : Hid (J (a + e) w7 ∧ IntsIn (fun b => N ≤ b) .i32 w7 (.slice p8 n8 c8) (D.drop (a + e)) ∧ N ≤ w7.heap.size ∧ a + e ≤ D.length ∧ n8 < m) := by
                  refine ⟨by rw [HCUT.out] at hj7; exact hj7, hx8, by have := hab.1; omega, by have := HML.out; omega, by omega⟩
                clear hx8 h8 hab hj7 hn8
                gi_wp2
                exact ⟨⟨a + e, HE8.out.2.2.2.1, HE8.out.2.2.1, HE8.out.1, HE8.out.2.1⟩, HE8.out.2.2.2.2⟩
              · gi_wp2
                refine bodyPost_ret (results_none rfl _ _ _) rfl ?_
                exact .inr ⟨⟨_, rfl⟩, hjx⟩
            · have hz1 : (z != 0) = true := by simpa using hz0
              gi_wp2_with fail
              go_roundw
              case rel =>
                refine ⟨e + 1, by go_num, by omega, by omega, fun t y' h1 h2 h3 => ?_, HJ5.out, HX5.out, HN5.out⟩
                rcases Nat.lt_or_ge t e with h | h
                · exact HNE.out t y' h1 h h3
                · obtain rfl : t = e := by omega
                  rw [HZY.out.2] at h3; cases h3; rw [← HZY.out.1]; exact hz0
              case measure => (show m - ((e : Int) + 1).toNat < m - (e : Int).toNat; omega)
        · have g2 : ¬ ((e : Int) < (m : Int)) := by omega
          have g2d : decide ((e : Int) < (m : Int)) = false := decide_eq_false g2
          have hS0 : True := trivial
          obtain ⟨xb, xo, hxe1, _, _, _⟩ := hx2.at 0 (by rw [HXL.out]; exact hm)
          subst hxe1
          have hzero : ∀ y', X[e]? = some y' → clsOf c y' = 0 := fun y' h => by
            have := (List.getElem?_eq_some_iff.1 h).1
            have := HXL.out
            omega
          have HJ5 := Lib.hid (HJ.out a _ _ HJ2.out (turn_below ((Below.refl _ wr).drew)))
          have HX5 : Hid (IntsIn (fun b => N ≤ b) .i32 wr.drew _ X) := HX2.out.kept (Kept.below ((Below.refl _ wr).drew))
          have HN5 : Hid (N ≤ wr.drew.heap.size) := HN2.out
          clear hne hj2 hx2 hn2 hnr2 k1 k2
          gi_wp2_with fail
          refine wpIn_region_hereK (fun u : World => True) (by kernel_rfl) (by kernel_rfl) hS0 ?walk
          case walk =>
            intro hH
            refine wpAnyH_take (i := 0) (v := ?_) rfl (by kernel_rfl) (by kernel_rfl) (by kernel_rfl) (fun _ _ _ h => h) (Or.inl ⟨by first | kernel_rfl | rfl, ?_⟩) hH ?_; rotate_left 1; (first | (focus (intro w hSw; (try dsimp only at hSw); go_simp; done)) | (focus (intro w hSw; (try dsimp only at hSw); go_simp; with_reducible rfl))); (try simp only [Act.put])
            refine wpAnyH_take (i := 1) (v := ?_) rfl (by kernel_rfl) (by kernel_rfl) (by kernel_rfl) (fun _ _ _ h => h) (Or.inl ⟨by first | kernel_rfl | rfl, ?_⟩) hH ?_; rotate_left 1; (first | (focus (intro w hSw; (try dsimp only at hSw); go_simp; done)) | (focus (intro w hSw; (try dsimp only at hSw); go_simp; with_reducible rfl))); (try simp only [Act.put])
            refine wpAnyH_take (i := 2) (v := ?_) rfl (by kernel_rfl) (by kernel_rfl) (by kernel_rfl) (fun _ _ _ h => h) (Or.inl ⟨by first | kernel_rfl | rfl, ?_⟩) hH ?_; rotate_left 1; (first | (focus (intro w hSw; (try dsimp only at hSw); go_simp; done)) | (focus (intro w hSw; (try dsimp only at hSw); go_simp; with_reducible rfl))); (try simp only [Act.put])
            refine wpAnyH_take (i := 3) (v := ?_) rfl (by kernel_rfl) (by kernel_rfl) (by kernel_rfl) (fun _ _ _ h => h) (Or.inl ⟨by first | kernel_rfl | rfl, ?_⟩) hH ?_; rotate_left 1; (first | (focus (intro w hSw; (try dsimp only at hSw); go_simp; done)) | (focus (intro w hSw; (try dsimp only at hSw); go_simp; with_reducible rfl))); (try simp only [Act.put])
            refine wpAnyH_take (i := 4) (v := ?_) rfl (by kernel_rfl) (by kernel_rfl) (by kernel_rfl) (fun _ _ _ h => h) (Or.inl ⟨by first | kernel_rfl | rfl, ?_⟩) hH ?_; rotate_left 1; (first | (focus (intro w hSw; (try dsimp only at hSw); go_simp; done)) | (focus (intro w hSw; (try dsimp only at hSw); go_simp; with_reducible rfl))); (try simp only [Act.put])
            refine wpAnyH_take (i := 5) (v := undef) rfl (by kernel_rfl) (by kernel_rfl) (by kernel_rfl) (fun _ _ _ h => h) (Or.inr ⟨by first | kernel_rfl | rfl, rfl⟩) hH ?_; (try simp only [Act.put])
            refine wpAnyH_take (i := 6) (v := undef) rfl (by kernel_rfl) (by kernel_rfl) (by kernel_rfl) (fun _ _ _ h => h) (Or.inr ⟨by first | kernel_rfl | rfl, rfl⟩) hH ?_; (try simp only [Act.put])
            refine wpAnyH_take (i := 7) (v := undef) rfl (by kernel_rfl) (by kernel_rfl) (by kernel_rfl) (fun _ _ _ h => h) (Or.inr ⟨by first | kernel_rfl | rfl, rfl⟩) hH ?_; (try simp only [Act.put])
            refine wpAnyH_take (i := 8) (v := undef) rfl (by kernel_rfl) (by kernel_rfl) (by kernel_rfl) (fun _ _ _ h => h) (Or.inr ⟨by first | kernel_rfl | rfl, rfl⟩) hH ?_; (try simp only [Act.put])
            refine wpAnyH_take (i := 9) (v := undef) rfl (by kernel_rfl) (by kernel_rfl) (by kernel_rfl) (fun _ _ _ h => h) (Or.inr ⟨by first | kernel_rfl | rfl, rfl⟩) hH ?_; (try simp only [Act.put])
            refine wpAnyH_take (i := 10) (v := undef) rfl (by kernel_rfl) (by kernel_rfl) (by kernel_rfl) (fun _ _ _ h => h) (Or.inr ⟨by first | kernel_rfl | rfl, rfl⟩) hH ?_; (try simp only [Act.put])
            refine wpAnyH_take (i := 11) (v := undef) rfl (by kernel_rfl) (by kernel_rfl) (by kernel_rfl) (fun _ _ _ h => h) (Or.inr ⟨by first | kernel_rfl | rfl, rfl⟩) hH ?_; (try simp only [Act.put])
            refine wpAnyH_take (i := 12) (v := ?_) rfl (by kernel_rfl) (by kernel_rfl) (by kernel_rfl) (fun _ _ _ h => h) (Or.inl ⟨by first | kernel_rfl | rfl, ?_⟩) hH ?_; rotate_left 1; (first | (focus (intro w hSw; (try dsimp only at hSw); go_simp; done)) | (focus (intro w hSw; (try dsimp only at hSw); go_simp; with_reducible rfl))); (try simp only [Act.put])
            refine wpAnyH_done (by kernel_rfl) ?_ _
            go_simp
            clear hH hS0
            have hcut : cutLen (clsOf c) X = e := cutLen_at he1 (by rw [HXL.out]; exact hem) HNE.out hzero
            obtain ⟨p5, n5, c5, h5⟩ : ∃ p5 n5 c5, sliced (some ⟨xb, xo, none⟩) 0 e xc 1 = .slice p5 n5 c5 := ⟨_, _, _, rfl⟩
            have hsl5 : ∀ w, (Instr.sliceAt 48 (.slice (some ⟨xb, xo, none⟩) m xc) none (some (.int .i64 e)) none).run Tryz.prog w = .ok (.slice p5 n5 c5) w := fun w => by rw [← h5]; exact slice_to32 w (some ⟨xb, xo, none⟩) m xc e (by omega)
            have hx5 : IntsIn (fun b => N ≤ b) .i32 wr.drew (.slice p5 n5 c5) (X.take e) := by
              have := HX5.out.mid 0 e (Nat.zero_le _) (by rw [HXL.out]; exact hem)
              rw [h5, List.drop_zero, Nat.sub_zero] at this
              exact this
            have hcl5 := rclone_ok _ (X.take e) _ wr.drew hx5 (by rw [List.length_take, HXL.out]; omega) (by rw [List.length_take, HXL.out]; omega)
            have HCUT := Lib.hid hcut
            clear hx5 h5 hcut hzero
            gi_wp2_with fail
            refine ⟨trivial, rfl, (callsIn_wide.2 hcl5).mono ?_⟩
            rintro e6 w6 ⟨⟨v6, rfl, hr6⟩, hb6⟩
            have hj6 : J a w6 := HJ.out a _ _ HJ5.out (turn_below hb6)
            have HX6 := Lib.hid (HX5.out.kept (Kept.below hb6))
            have hnw : N ≤ wr.drew.heap.size := HN5.out
            have hnw6 : N ≤ w6.heap.size := by have := hb6.size; omega
            have henc : IntsIn (fun b => N ≤ b) .i32 w6 v6 (X.take (cutLen (clsOf c) X)) := by
              rw [HCUT.out]
              exact (ints_of_own32 hr6).mono (fun b hb _ => by have := hb.1; omega)
            obtain ⟨fn, tmps, assign, body, hy, hR⟩ := HYA.out w6 v6 hj6 halt henc
            clear hcl5 hr6 hb6 hj6 henc
            gi_wp2
            refine ⟨rfl, hR.mono ?_⟩
            rintro e7 w7 ⟨hab, ⟨rfl, hj7⟩ | ⟨rfl, hjx⟩⟩
            · obtain ⟨p8, n8, c8, h8⟩ : ∃ p8 n8 c8, sliced (some ⟨xb, xo, none⟩) e m xc 1 = .slice p8 n8 c8 := ⟨_, _, _, rfl⟩
              have hsl8 : ∀ w, (Instr.sliceAt 48 (.slice (some ⟨xb, xo, none⟩) m xc) (some (.int .i64 e)) none none).run Tryz.prog w = .ok (.slice p8 n8 c8) w := fun w => by rw [← h8]; exact slice_from32 w (some ⟨xb, xo, none⟩) m xc e hem
              have hx8 : IntsIn (fun b => N ≤ b) .i32 w7 (.slice p8 n8 c8) (D.drop (a + e)) := by
                have h1 := (HX6.out.kept (w' := w7) ⟨hab.1, fun b hb hl => hab.2 b hb hl⟩).dropped e (by rw [HXL.out]; exact hem)
                rw [h8, HXD.out, List.drop_drop] at h1
                exact h1
              have hn8 : n8 = m - e := by
                have := h8
                unfold sliced at this
                injection this with _ h _
                exact h.symm
              have HE8 : Hid (J (a + e) w7 ∧ IntsIn (fun b => N ≤ b) .i32 w7 (.slice p8 n8 c8) (D.drop (a + e)) ∧ N ≤ w7.heap.size ∧ a + e ≤ D.length ∧ n8 < m) := by
                refine ⟨by rw [HCUT.out] at hj7; exact hj7, hx8, by have := hab.1; omega, by have := HML.out; omega, by omega⟩
              clear hx8 h8 hab hj7 hn8
              gi_wp2
              exact ⟨⟨a + e, HE8.out.2.2.2.1, HE8.out.2.2.1, HE8.out.1, HE8.out.2.1⟩, HE8.out.2.2.2.2⟩
            · gi_wp2
              refine bodyPost_ret (results_none rfl _ _ _) rfl ?_
              exact .inr ⟨⟨_, rfl⟩, hjx⟩
    · have g1 : ¬ ((0 : Int) < (m : Int)) := by omega
      have hge : D.length ≤ a := by have := HML.out; omega
      gi_wp2_with fail
      go_end0
      exact .inl ⟨⟨_, rfl⟩, a, by rw [HDD.out]; exact hge, HJR.out⟩
end Go.Proofs.YtlldoofclaokgaaGreat
