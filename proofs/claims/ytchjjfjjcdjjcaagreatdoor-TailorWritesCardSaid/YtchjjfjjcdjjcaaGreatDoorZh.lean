/- Package tailor: Write: walked. -/
import Derived.Test.YtchjjfjjcdjjcaaGreatDoorZg
namespace Go.Proofs.YtchjjfjjcdjjcaaGreatDoor
open Go.RowKit

/-- rules that may be -/
theorem may_zero {l : List Rul} (h : mayT l = 0) : (∀ i x, l[i]? = some x → badR i x = false) ∧ l.length ≤ 2000 := by
  have hb : ∀ i x, l[i]? = some x → badR i x = false := fun i x hx => by
    cases hb : badR i x
    · rfl
    · rw [may_bad hx hb] at h; cases h
  rw [may_ok hb] at h
  refine ⟨hb, ?_⟩
  by_cases hc : 2000 < l.length
  · rw [if_pos hc] at h; cases h
  · omega
theorem bad_parts {i : Nat} {x : Rul} (h : badR i x = false) : 0 ≤ x.1 ∧ x.1 ≤ 4 ∧ (i = 0 → x.1 = 0) ∧ x.2.1 ≠ [] ∧ (x.1 = 0 → x.2.2 = []) ∧ (∀ r ∈ x.2.1, sc r = true) ∧ ∀ r ∈ x.2.2, sc r = true := by
  unfold badR at h
  simp only [Bool.or_eq_false_iff, decide_eq_false_iff_not, Bool.and_eq_false_iff, Bool.not_eq_false', List.all_eq_true] at h
  obtain ⟨⟨⟨⟨⟨⟨h1, h2⟩, h3⟩, h4⟩, h5⟩, h6⟩, h7⟩ := h
  refine ⟨by omega, by omega, fun hi => ?_, fun e => h4 (by rw [e]; rfl), fun hk => ?_, h6, h7⟩
  · rcases h3 with h3 | h3
    · exact absurd hi h3
    · exact Decidable.not_not.1 h3
  · rcases h5 with h5 | h5
    · exact absurd hk h5
    · cases hx : x.2.2 with
      | nil => rfl
      | cons a b => rw [hx] at h5; simp at h5
theorem sign_at (k : Int) (h0 : 0 ≤ k) (h4 : k ≤ 4) : ([Value.string ⟨#[38]⟩, .string ⟨#[60]⟩, .string ⟨#[60, 60]⟩, .string ⟨#[60, 60, 60]⟩, .string ⟨#[61]⟩] : List Value)[k.toNat]? = some (.string (strOfNums (signW k))) := by
  have : k = 0 ∨ k = 1 ∨ k = 2 ∨ k = 3 ∨ k = 4 := by omega
  rcases this with rfl | rfl | rfl | rfl | rfl <;> rfl
def SgnAt (W : World) (sb : Nat) : Prop := W.heap[sb]? = some (.cells #[.string ⟨#[38]⟩, .string ⟨#[60]⟩, .string ⟨#[60, 60]⟩, .string ⟨#[60, 60, 60]⟩, .string ⟨#[61]⟩] 9 (0, 0))
theorem SgnAt.cell {W : World} {sb : Nat} (h : SgnAt W sb) (k : Nat) (hk : k < 5) : W.cell? ⟨sb, k, none⟩ = some (.string (strOfNums (signW k))) := by
  have h1 := sign_at k (by omega) (by omega)
  rw [Int.toNat_natCast] at h1
  unfold SgnAt at h
  simp only [World.cell?, h]
  rw [← Array.getElem?_toList]
  exact h1
def WrRel (l : List Rul) (w : World) (sb k : Nat) (W : World) : Prop :=
  k ≤ l.length ∧ Bld (sb + 1) (sb + 1) (u8s (writeT (l.take k))) W ∧ Below w.heap.size w W ∧ SgnAt W sb ∧ sb + 1 < W.heap.size
theorem sumR_take (l : List Rul) (k : Nat) : sumR (l.take k) ≤ sumR l := by
  induction l generalizing k with
  | nil => simp [sumR]
  | cons x xs ih =>
    cases k with
    | zero => simp [sumR]
    | succ k =>
      have := ih k
      unfold sumR at *
      simp only [List.take_succ_cons, List.map_cons, List.sum_cons]
      omega
theorem kept_block {b i : Nat} {W W' : World} {c : Array Value} {t : TypeId} {f : Nat × Nat} (h : BldK b W W') (hi : W.heap[i]? = some (.cells c t f)) (hne : i ≠ b) (ht : t ≠ 5) : W'.heap[i]? = some (.cells c t f) :=
  h i _ hi (fun e => hne (by cases e; rfl)) (fun c' f' e => by cases e; exact ht rfl)
set_option maxHeartbeats 8000000 in
set_option maxRecDepth 100000 in
theorem write_bad (R : Nat → Prop) (l : List Rul) (v : Value) (w : World) (hv : RulsIn R w v l) (hl : l.length ≤ 140737488351232) (hm : mayT l ≠ 0) :
    Calls Tryz.prog 8 #[v] w fun e w' => e = .returned (.tuple #[.string ⟨#[]⟩, .int .i64 (mayT l)]) ∧ Below w.heap.size w w' := by
  have HM := Lib.hid (may_any R l v w hv hl)
  obtain ⟨p, cp, rfl, _⟩ := hv
  have hne : (mayT l != 0) = true := by simpa using hm
  generalize mayT l = z at *
  clear hm hl
  go_enter Tryz.func8, Tryz.ntmps8
  go_wp2_with fail
  refine HM.out.mono ?_
  rintro e w1 ⟨rfl, hb1⟩
  have HB1 := Lib.hid hb1
  clear hb1
  go_wp2_with fail
  go_ret2
  exact ⟨rfl, HB1.out⟩
set_option maxHeartbeats 8000000 in
set_option maxRecDepth 100000 in
theorem write_any (R : Nat → Prop) (l : List Rul) (v : Value) (w : World) (hv : RulsIn R w v l) (hm : mayT l = 0) (hs : l.length + sumR l ≤ 600) (hR : ∀ b, R b → b < w.heap.size) :
    Calls Tryz.prog 8 #[v] w fun e w' => e = .returned (.tuple #[.string (strOfNums (writeT l)), .int .i64 0]) ∧ Below w.heap.size w w' := by
  have HV := Lib.hid hv
  have HM := Lib.hid (may_any R l v w hv (by omega))
  rw [hm] at HM
  have HMZ := Lib.hid (may_zero hm)
  have HS := Lib.hid hs
  obtain ⟨p, cp, rfl, _⟩ := hv
  obtain ⟨n, hn⟩ : ∃ n, n = l.length := ⟨_, rfl⟩
  have HN := Lib.hid hn
  have hn6 : n ≤ 600 := by omega
  rw [← hn] at HV HM ⊢
  clear hm hs hn
  go_enter Tryz.func8, Tryz.ntmps8
  go_wp2_with fail
  refine HM.out.mono ?_
  rintro e w1 ⟨rfl, hb1⟩
  have HB1 := Lib.hid hb1
  clear hb1
  go_wp2_with fail
  have hsg0 : SgnAt ((w1.alloc (.cells #[.string ⟨#[38]⟩, .string ⟨#[60]⟩, .string ⟨#[60, 60]⟩, .string ⟨#[60, 60, 60]⟩, .string ⟨#[61]⟩] 9)).alloc (.cells #[.pointer none, .slice none 0 0] 56)) w1.heap.size :=
    (Below.heap_alloc _ _ _ (by simp)).trans (World.alloc_heap_new _ _)
  have hbl0 : Bld (w1.heap.size + 1) (w1.heap.size + 1) [] ((w1.alloc (.cells #[.string ⟨#[38]⟩, .string ⟨#[60]⟩, .string ⟨#[60, 60]⟩, .string ⟨#[60, 60, 60]⟩, .string ⟨#[61]⟩] 9)).alloc (.cells #[.pointer none, .slice none 0 0] 56)) := by
    have h := bld_new (w1.alloc (.cells #[.string ⟨#[38]⟩, .string ⟨#[60]⟩, .string ⟨#[60, 60]⟩, .string ⟨#[60, 60, 60]⟩, .string ⟨#[61]⟩] 9))
    rwa [show (w1.alloc (.cells #[.string ⟨#[38]⟩, .string ⟨#[60]⟩, .string ⟨#[60, 60]⟩, .string ⟨#[60, 60, 60]⟩, .string ⟨#[61]⟩] 9)).heap.size = w1.heap.size + 1 by simp] at h
  have hbw0 : Below w.heap.size w ((w1.alloc (.cells #[.string ⟨#[38]⟩, .string ⟨#[60]⟩, .string ⟨#[60, 60]⟩, .string ⟨#[60, 60, 60]⟩, .string ⟨#[61]⟩] 9)).alloc (.cells #[.pointer none, .slice none 0 0] 56)) := (HB1.out.alloc HB1.out.size _).alloc (by have := HB1.out.size; simp; omega) _
  have hsz0 : w1.heap.size + 1 < ((w1.alloc (.cells #[.string ⟨#[38]⟩, .string ⟨#[60]⟩, .string ⟨#[60, 60]⟩, .string ⟨#[60, 60, 60]⟩, .string ⟨#[61]⟩] 9)).alloc (.cells #[.pointer none, .slice none 0 0] 56)).heap.size := by simp
  generalize (w1.alloc (.cells #[.string ⟨#[38]⟩, .string ⟨#[60]⟩, .string ⟨#[60, 60]⟩, .string ⟨#[60, 60, 60]⟩, .string ⟨#[61]⟩] 9)).alloc (.cells #[.pointer none, .slice none 0 0] 56) = W0 at *
  obtain ⟨sb, hsb⟩ : ∃ sb, sb = w1.heap.size := ⟨_, rfl⟩
  have HWS : Hid (w.heap.size ≤ sb) := by show _ ≤ _; rw [hsb]; exact HB1.out.size
  rw [← hsb] at hsg0 hbl0 hsz0 ⊢
  have H0 : Hid (WrRel l w sb 0 W0) := ⟨Nat.zero_le _, hbl0, hbw0, hsg0, hsz0⟩
  clear hsg0 hbl0 hbw0 hsz0 hsb HB1
  go_loopw [17] (fun iv W => ∃ k : Nat, iv = .int .i64 k ∧ WrRel l w sb k W) (fun iv _ => n - (intOf iv).toNat)
  case atStart => exact ⟨0, rfl, H0.out⟩
  case round =>
    obtain ⟨k, rfl, hk, hbl, hbw, hsg, hsz⟩ := hrel
    have HBL := Lib.hid hbl
    have HBW := Lib.hid hbw
    have HSG := Lib.hid hsg
    have HNC : Hid (k ≤ n) := by show _ ≤ _; rw [HN.out]; exact hk
    have HL6 : Hid ((u8s (writeT (l.take k))).length ≤ 6000) := by
      show _ ≤ _
      rw [u8s_len]
      have h1 := writeT_len (l.take k)
      have h2 := sumR_take l k
      have h3 : (l.take k).length ≤ l.length := by rw [List.length_take]; omega
      have := HS.out
      omega
    clear hbl hsg hk
    by_cases hlt : k < n
    · have g1 : (k : Int) < (n : Int) := by omega
      obtain ⟨⟨kd, tx, ex⟩, hr⟩ : ∃ r, l[k]? = some r := ⟨l[k]'(by rw [← HN.out]; exact hlt), List.getElem?_eq_getElem _⟩
      have hpt := bad_parts (HMZ.out.1 k _ hr)
      have hsm := sumR_mem (List.mem_of_getElem? hr)
      have HST := Lib.hid (writeT_snoc hr)
      obtain ⟨ab, ao, tv, xv, rfl, _, abl, c0', c1', c2', hti, hxi⟩ := HV.out.at' k _ hr
      have c0 := (hbw.cell (p := ⟨ab, ao + k * 3, none⟩) abl).trans c0'
      have c1 := (hbw.cell (p := ⟨ab, ao + k * 3 + 1, none⟩) abl).trans c1'
      have c2 := (hbw.cell (p := ⟨ab, ao + k * 3 + 2, none⟩) abl).trans c2'
      simp only at hpt hsm c0 c1 c2 hti hxi
      obtain ⟨kn, rfl⟩ : ∃ kn : Nat, kd = kn := ⟨kd.toNat, by omega⟩
      have hkn5 : kn < 5 := by omega
      have hkn5' : (kn : Int) < 5 := by omega
      have htl : tx.length ≤ 600 := by have := HS.out; omega
      have hxl : ex.length ≤ 600 := by have := HS.out; omega
      have HT := Lib.hid (fun W (h : Below w.heap.size w W) => short_any R tx tv W (hti.kept (Kept.below h)) hpt.2.2.2.2.2.1 (by omega))
      have HX := Lib.hid (fun W (h : Below w.heap.size w W) => short_any R ex xv W (hxi.kept (Kept.below h)) hpt.2.2.2.2.2.2 (by omega))
      have hst := shortT_len tx
      have hsx := shortT_len ex
      have hsl : ∀ {R : Nat → Prop} {W v} {l : List Int}, IntsIn R .i32 W v l → ∃ p c, v = .slice p l.length c := fun h => ⟨_, _, h.choose_spec.choose_spec.1⟩
      obtain ⟨tp, tc, rfl⟩ := hsl hti
      obtain ⟨xp, xc, rfl⟩ := hsl hxi
      have HRW : Hid (ruleW ((kn : Int), tx, ex) = signW kn ++ shortT tx ++ (if ex = [] then [] else 47 :: shortT ex)) := rfl
      have hsw := signW_len kn
      have HSC : Hid (∀ W, SgnAt W sb → W.cell? ⟨sb, kn, none⟩ = some (.string (strOfNums (signW kn)))) := fun W h => h.cell kn hkn5
      have hxb : (wr.alloc (.cells #[.int .i64 kn, .slice tp tx.length tc, .slice xp ex.length xc] 47)).heap[wr.heap.size]? = some (.cells #[.int .i64 kn, .slice tp tx.length tc, .slice xp ex.length xc] 47 (0, 0)) := World.alloc_heap_new _ _
      have hb1 : Below wr.heap.size wr (wr.alloc (.cells #[.int .i64 kn, .slice tp tx.length tc, .slice xp ex.length xc] 47)) := (Below.refl _ wr).alloc (Nat.le_refl _) _
      have HEX : Hid (ex = [] ↔ ex.length = 0) := ⟨fun h => by rw [h]; rfl, fun h => List.eq_nil_of_length_eq_zero h⟩
      generalize signW kn = sg at *
      generalize shortT tx = st at *
      generalize shortT ex = sx at *
      generalize ruleW ((kn : Int), tx, ex) = rw1 at *
      generalize tx.length = tl at *
      generalize ex.length = xl at *
      clear hr hpt hsm hti hxi hsl c0' c1' c2' hbw hlt
      go_upto_region 9 with fail
      generalize wr.alloc (.cells #[.int .i64 kn, .slice tp tl tc, .slice xp xl xc] 47) = W1 at *
      have HB1 : Hid (Below w.heap.size w W1) := HBW.out.trans (hb1.mono HBW.out.size)
      have HBL1 := Lib.hid (bld_old HBL.out hb1)
      have HSG1 : Hid (SgnAt W1 sb) := (hb1.block sb (by omega)).trans HSG.out
      obtain ⟨xb, hxb'⟩ : ∃ xb, xb = wr.heap.size := ⟨_, rfl⟩
      rw [← hxb'] at hxb ⊢
      have HXB := Lib.hid hxb
      have HXN : Hid (xb ≠ sb + 1 ∧ sb ≠ sb + 1 ∧ sb + 1 < W1.heap.size) := ⟨by omega, by omega, by have := hb1.size; omega⟩
      have HSS : Hid (∀ W, W.heap[xb]? = some (.cells #[.int .i64 kn, .slice tp tl tc, .slice xp xl xc] 47 (0, 0)) → SgnAt W sb → W.cell? ⟨xb, 0, none⟩ = some (.int .i64 kn) ∧ W.cell? ⟨xb, 1, none⟩ = some (.slice tp tl tc) ∧ W.cell? ⟨sb, kn, none⟩ = some (.string (strOfNums sg))) := fun W h1 h2 =>
        ⟨by simp [World.cell?, h1], by simp [World.cell?, h1], HSC.out W h2⟩
      have hS0 := HSS.out W1.drew hxb HSG1.out
      clear hxb hb1 hsz hxb'
      refine wp_region_held_drew (S := (fun V : World => V.cell? ⟨xb, 0, none⟩ = some (.int .i64 kn) ∧ V.cell? ⟨xb, 1, none⟩ = some (.slice tp tl tc) ∧ V.cell? ⟨sb, kn, none⟩ = some (.string (strOfNums sg)))) (by kernel_rfl) hS0 (fun hH => ?_)
      refine gTakeL (i := 0) (v := ?_) rfl (by kernel_rfl) (by kernel_rfl) (by kernel_rfl) (fun _ _ _ h => h) (Or.inl ⟨by first | rfl | kernel_rfl, ?_⟩) hH ?_; rotate_left 1; (first | (focus (intro w hSw; (try dsimp only at hSw); go_simp; done)) | (focus (intro w hSw; (try dsimp only at hSw); go_simp; with_reducible rfl)) | (focus (intro w hSw; (try dsimp only at hSw); simp [hSw, go_sem]; done))); (try simp only [Act.put, List.setIfInBounds_toArray, List.set_cons_zero, List.set_cons_succ])
      refine gTakeL (i := 1) (v := ?_) rfl (by kernel_rfl) (by kernel_rfl) (by kernel_rfl) (fun _ _ _ h => h) (Or.inl ⟨by first | rfl | kernel_rfl, ?_⟩) hH ?_; rotate_left 1; (first | (focus (intro w hSw; (try dsimp only at hSw); go_simp; done)) | (focus (intro w hSw; (try dsimp only at hSw); go_simp; with_reducible rfl)) | (focus (intro w hSw; (try dsimp only at hSw); simp [hSw, go_sem]; done))); (try simp only [Act.put, List.setIfInBounds_toArray, List.set_cons_zero, List.set_cons_succ])
      refine gTakeL (i := 2) (v := ?_) rfl (by kernel_rfl) (by kernel_rfl) (by kernel_rfl) (fun _ _ _ h => h) (Or.inl ⟨by first | rfl | kernel_rfl, ?_⟩) hH ?_; rotate_left 1; (first | (focus (intro w hSw; (try dsimp only at hSw); go_simp; done)) | (focus (intro w hSw; (try dsimp only at hSw); go_simp; with_reducible rfl)) | (focus (intro w hSw; (try dsimp only at hSw); simp [hSw, go_sem]; done))); (try simp only [Act.put, List.setIfInBounds_toArray, List.set_cons_zero, List.set_cons_succ])
      refine gTakeL (i := 3) (v := ?_) rfl (by kernel_rfl) (by kernel_rfl) (by kernel_rfl) (fun _ _ _ h => h) (Or.inl ⟨by first | rfl | kernel_rfl, ?_⟩) hH ?_; rotate_left 1; (first | (focus (intro w hSw; (try dsimp only at hSw); go_simp; done)) | (focus (intro w hSw; (try dsimp only at hSw); go_simp; with_reducible rfl)) | (focus (intro w hSw; (try dsimp only at hSw); simp [hSw, go_sem]; done))); (try simp only [Act.put, List.setIfInBounds_toArray, List.set_cons_zero, List.set_cons_succ])
      refine gTakeL (i := 4) (v := ?_) rfl (by kernel_rfl) (by kernel_rfl) (by kernel_rfl) (fun _ _ _ h => h) (Or.inl ⟨by first | rfl | kernel_rfl, ?_⟩) hH ?_; rotate_left 1; (first | (focus (intro w hSw; (try dsimp only at hSw); go_simp; done)) | (focus (intro w hSw; (try dsimp only at hSw); go_simp; with_reducible rfl)) | (focus (intro w hSw; (try dsimp only at hSw); simp [hSw, go_sem]; done))); (try simp only [Act.put, List.setIfInBounds_toArray, List.set_cons_zero, List.set_cons_succ])
      refine gTakeL (i := 5) (v := ?_) rfl (by kernel_rfl) (by kernel_rfl) (by kernel_rfl) (fun _ _ _ h => h) (Or.inl ⟨by first | rfl | kernel_rfl, ?_⟩) hH ?_; rotate_left 1; (first | (focus (intro w hSw; (try dsimp only at hSw); go_simp; done)) | (focus (intro w hSw; (try dsimp only at hSw); go_simp; with_reducible rfl)) | (focus (intro w hSw; (try dsimp only at hSw); simp [hSw, go_sem]; done))); (try simp only [Act.put, List.setIfInBounds_toArray, List.set_cons_zero, List.set_cons_succ])
      refine gTakeL (i := 6) (v := ?_) rfl (by kernel_rfl) (by kernel_rfl) (by kernel_rfl) (fun _ _ _ h => h) (Or.inl ⟨by first | rfl | kernel_rfl, ?_⟩) hH ?_; rotate_left 1; (first | (focus (intro w hSw; (try dsimp only at hSw); go_simp; done)) | (focus (intro w hSw; (try dsimp only at hSw); go_simp; with_reducible rfl)) | (focus (intro w hSw; (try dsimp only at hSw); simp [hSw, go_sem]; done))); (try simp only [Act.put, List.setIfInBounds_toArray, List.set_cons_zero, List.set_cons_succ])
      refine gOneL (i := 7) (by kernel_rfl) rfl (by rfl) (fun K hK => ?_)
      have HK := Lib.hid hK
      clear hK hH hS0
      go_simp
      refine (HT.out _ HB1.out.drew).mono ?_
      rintro e w2 ⟨rfl, hb2⟩
      have HB2 : Hid (Below w.heap.size w w2) := HB1.out.drew.trans (hb2.mono HB1.out.size)
      have HBL2 := Lib.hid (bld_old (w := W1.drew) HBL1.out hb2)
      have hz2 : W1.heap.size ≤ w2.heap.size := hb2.size
      have HXB2 : Hid (w2.heap[xb]? = some (.cells #[.int .i64 kn, .slice tp tl tc, .slice xp xl xc] 47 (0, 0))) := (hb2.block xb (Array.getElem?_eq_some_iff.1 HXB.out).1).trans HXB.out
      have HSG2 : Hid (SgnAt w2 sb) := (hb2.block sb (Array.getElem?_eq_some_iff.1 HSG1.out).1).trans HSG1.out
      have hS2 := HSS.out w2 HXB2.out HSG2.out
      refine HK.out _ _ hS2 ?_
      clear HK hb2
      (try simp only [Act.put, List.setIfInBounds_toArray, List.set_cons_zero, List.set_cons_succ])
      refine gOneL (i := 8) (by kernel_rfl) rfl (by rfl) (fun K hK => ?_)
      have HK := Lib.hid hK
      clear hK
      have hno1 : ¬ 9223372036854775807 < sg.length + st.length := by omega
      go_simp
      refine HK.out _ _ hS2 ?_
      clear HK
      (try simp only [Act.put, List.setIfInBounds_toArray, List.set_cons_zero, List.set_cons_succ])
      refine gOneL (i := 9) (by kernel_rfl) rfl (by rfl) (fun K hK => ?_)
      have HK := Lib.hid hK
      clear hK
      go_simp
      refine (bldWriteString_any _ _ _ _ _ HBL2.out (by have := HL6.out; rw [strOfNums_len]; simp; omega) (by have := HXN.out.2.2; omega)).mono ?_
      rintro e w3 ⟨rfl, h1, h2, h3, h4⟩
      have HB3 : Hid (Below w.heap.size w w3) := HB2.out.trans (h2.mono (by have := HWS.out; omega))
      have HBL3 : Hid (Bld (sb + 1) (sb + 1) (u8s (writeT (l.take k) ++ (sg ++ st))) w3) := by show Bld _ _ _ _; rw [u8s_app]; exact h1
      have HXB3 := Lib.hid (kept_block h3 HXB2.out HXN.out.1 (by decide))
      have HSG3 : Hid (SgnAt w3 sb) := kept_block h3 HSG2.out HXN.out.2.1 (by decide)
      have hz3 : w2.heap.size ≤ w3.heap.size := h4
      refine HK.out _ _ (HSS.out w3 HXB3.out HSG3.out) ?_
      clear HK h1 h2 h3 h4 hS2
      refine wpAnyH_done (by kernel_rfl) ?_ _
      have x2 : w3.cell? ⟨xb, 2, none⟩ = some (.slice xp xl xc) := by have h := HXB3.out; simp [World.cell?, h]
      have xlt : xb < w3.heap.size := (Array.getElem?_eq_some_iff.1 HXB3.out).1
      go_simp
      by_cases he : xl = 0
      · have d1 : ¬ (0 : Int) < (xl : Int) := by omega
        have d2 : ¬ 0 < xl := by omega
        have HRR : Hid (rw1 = sg ++ st) := by show _ = _; rw [HRW.out, if_pos (HEX.out.2 he)]; simp
        clear he
        go_wp2_with fail
        go_roundw
        case rel => exact ⟨k + 1, by go_num, by rw [← HN.out]; omega, by rw [HST.out, HRR.out]; exact HBL3.out, HB3.out, HSG3.out, by have := HXN.out.2.2; omega⟩
        case measure => (show n - ((k : Int) + 1).toNat < n - (k : Int).toNat; omega)
      · have d1 : (0 : Int) < (xl : Int) := by omega
        have d2 : 0 < xl := by omega
        have HRR : Hid (rw1 = sg ++ st ++ (47 :: sx)) := by show _ = _; rw [HRW.out, if_neg (fun h => he (HEX.out.1 h))]
        clear he
        go_wp2_with fail
        refine (HX.out _ HB3.out).mono ?_
        rintro e w4 ⟨rfl, hb4⟩
        have HB4 : Hid (Below w.heap.size w w4) := HB3.out.trans (hb4.mono HB3.out.size)
        have HBL4 := Lib.hid (bld_old HBL3.out hb4)
        have HSG4 : Hid (SgnAt w4 sb) := (hb4.block sb (Array.getElem?_eq_some_iff.1 HSG3.out).1).trans HSG3.out
        have hz4 : w3.heap.size ≤ w4.heap.size := hb4.size
        have hba := byte_app 47 sx
        clear hb4
        go_wp2_with fail
        refine (bldWriteString_any _ _ _ _ _ HBL4.out (by have := HL6.out; rw [strOfNums_len]; rw [u8s_len] at this ⊢; simp; omega) (by have := HXN.out.2.2; omega)).mono ?_
        rintro e w5 ⟨rfl, h1, h2, h3, h4⟩
        have HB5 : Hid (Below w.heap.size w w5) := HB4.out.trans (h2.mono (by have := HWS.out; omega))
        have HBL5 : Hid (Bld (sb + 1) (sb + 1) (u8s (writeT (l.take k) ++ (sg ++ st) ++ (47 :: sx))) w5) := by show Bld _ _ _ _; rw [u8s_app]; exact h1
        have HSG5 : Hid (SgnAt w5 sb) := kept_block h3 HSG4.out HXN.out.2.1 (by decide)
        have hz5 : w4.heap.size ≤ w5.heap.size := h4
        clear h1 h2 h3 h4 hba
        go_wp2_with fail
        go_roundw
        case rel => exact ⟨k + 1, by go_num, by rw [← HN.out]; omega, by rw [HST.out, HRR.out, ← List.append_assoc]; exact HBL5.out, HB5.out, HSG5.out, by have := HXN.out.2.2; omega⟩
        case measure => (show n - ((k : Int) + 1).toNat < n - (k : Int).toNat; omega)
    · obtain rfl : k = n := by have := HNC.out; omega
      have g1 : ¬ ((k : Int) < (k : Int)) := by omega
      have HTK : Hid (l.take k = l) := List.take_of_length_le (by rw [← HN.out]; exact Nat.le_refl _)
      rw [HTK.out] at HBL HL6
      have HLE := HL6.out
      clear hlt
      go_wp2_with fail
      refine (bldLen_any _ _ _ _ HBL.out).mono ?_
      rintro e w2 ⟨rfl, rfl⟩
      go_wp2_with fail
      refine (bldString_any _ _ _ _ HBL.out (by omega)).mono ?_
      rintro e w3 ⟨rfl, hb3⟩
      have HB3 : Hid (Below w.heap.size w w3) := HBW.out.trans (hb3.mono (by have := HWS.out; omega))
      rw [u8s_str]
      clear hb3
      go_wp2_with fail
      go_ret2
      exact ⟨rfl, HB3.out⟩
end Go.Proofs.YtchjjfjjcdjjcaaGreatDoor
