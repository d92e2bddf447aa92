/- UTF-8 in plain words: the reference's way to say which scalar's form stands at a place. Texts in order of their bytes are in order of their scalars: in plain words. put of package utf: a scalar's form is appended. Encode of package utf and of the reference: walked. -/
import Derived.Test.YtchjjfjjcdjjcaaGreatDoorVh
import Derived.Test.YtchjjfjjcdjjcaaGreatDoorBase
import Derived.Lib.Bytealg
namespace Go.Proofs.YtchjjfjjcdjjcaaGreatDoor
open Go.RowKit
open PlainAid (bt)

theorem Tryz.info5 : (Tryz.prog.info? 5).map (fun i => (i.zero, i.size, i.bytes)) = some (some (.int .u8 0), 1, 1) := by kernel_rfl

theorem ucells_new (w : World) (l : List Value) (t : TypeId) : ∀ (j : Nat) u, l[j]? = some u → (w.alloc (.cells l.toArray t)).cell? ((⟨w.heap.size, 0, none⟩ : Addr).add j) = some u := by
  intro j u hj
  have : ((⟨w.heap.size, 0, none⟩ : Addr).add j) = ⟨w.heap.size, j, none⟩ := by
    unfold Addr.add; split
    · rename_i h; rw [h]
    · simp
  rw [this]
  unfold World.cell?
  rw [World.alloc_heap_new]
  simpa using hj
/-- behind put -/
def PutEnd (B : Nat) (r : Int) (xs : List Int) (w : World) (e : Ending) (w' : World) : Prop :=
  ∃ v, e = .returned v ∧ w'.ownsRow B 5 1 v (xs ++ enc r).length ((xs ++ enc r).map (Value.int .u8)) ∧ Below B w w'

theorem and63_256 (x : Int) (h₀ : 0 ≤ x) (h₁ : x ≤ 2147483647) : bits .or .u8 128 (bits .and .i32 x 63 % 256) = 128 + x % 64 := by
  rw [show bits .and .i32 x 63 = x % 64 from and_i32 6 (by decide) x h₀ h₁, show x % 64 % 256 = x % 64 by omega]; exact u8_or128 _ (by omega) (by omega)
theorem and63_u8 (x : Int) (h₀ : 0 ≤ x) (h₁ : x ≤ 2147483647) : bits .or .u8 128 (IntKind.u8.wrap (bits .and .i32 x 63)) = 128 + x % 64 := by
  rw [show bits .and .i32 x 63 = x % 64 from and_i32 6 (by decide) x h₀ h₁, IntKind.wrap_u8, show x % 64 % 256 = x % 64 by omega]; exact u8_or128 _ (by omega) (by omega)

set_option maxHeartbeats 2000000 in
set_option maxRecDepth 100000 in
theorem put_1 (B : Nat) (r : Int) (v : Value) (xs : List Int) (w : World) (h0 : 0 ≤ r) (h1 : r < 128) (hB : B ≤ w.heap.size) (hv : w.ownsRow B 5 1 v xs.length (xs.map (Value.int .u8))) (hx : xs.length ≤ 35184372088000) :
    Calls Tryz.prog 66 #[v, .int .i32 r] w (PutEnd B r xs w) := by
  have HV := Lib.hid hv
  have HX := Lib.hid hx
  have HB := Lib.hid hB
  obtain ⟨i0, hi, hz0, hz1, hz2⟩ := info_parts Tryz.info5
  have hl : Calls Tryz.prog 82 #[.int .i32 r] w fun e w' => e = .returned (.int .i64 1) ∧ w = w' := by
    have := long_any r w; rwa [show lg r = 1 from by unfold lg; rw [if_pos h1]] at this
  have HE : Hid (enc r = [r]) := by show _ = _; unfold enc; rw [if_pos h1]
  clear hv hB
  go_enter Tryz.func66, Tryz.ntmps66
  go_wp2_with fail
  refine hl.mono ?_
  rintro e w1 ⟨rfl, rfl⟩
  clear hl
  go_wp2_with (at_builtin; refine wpList_append_own _ rfl _ _ 54 rfl B 5 i0 (.int .u8 0) 1 1 Tryz.underlying54 hi hz0 hz1 hz2 rfl (by decide) _ _ _ rfl (HV.out.alloc _) ⟨w.heap.size, 0, none⟩ 1 1 _ rfl (by rfl) (ucells_new _ _ _) (by simp [Value.oneCell']) (by unfold maxLen; have := HX.out; omega) (by have := HX.out; omega) (by have := HB.out; simp; omega) ?_; intro v' w1 hown' hgrow _)
  refine bodyPost_ret (v := v') (by simp [results, Tryz.results66, go_sem]) rfl ⟨v', rfl, ?_, ?_⟩
  · rw [HE.out]
    simpa [List.map_append] using hown'
  · exact (Below.alloc (Below.refl _ _) HB.out _).grown hgrow (by have := HB.out; simp; omega) (fun j hj => (HV.out.lt j hj).1)

set_option maxHeartbeats 2000000 in
set_option maxRecDepth 100000 in
theorem put_2 (B : Nat) (r : Int) (v : Value) (xs : List Int) (w : World) (h0 : 128 ≤ r) (h1 : r < 2048) (hB : B ≤ w.heap.size) (hv : w.ownsRow B 5 1 v xs.length (xs.map (Value.int .u8))) (hx : xs.length ≤ 35184372088000) :
    Calls Tryz.prog 66 #[v, .int .i32 r] w (PutEnd B r xs w) := by
  have HV := Lib.hid hv
  have HX := Lib.hid hx
  have HB := Lib.hid hB
  obtain ⟨i0, hi, hz0, hz1, hz2⟩ := info_parts Tryz.info5
  have hl : Calls Tryz.prog 82 #[.int .i32 r] w fun e w' => e = .returned (.int .i64 2) ∧ w = w' := by
    have := long_any r w; rwa [show lg r = 2 from by unfold lg; rw [if_neg (by omega), if_pos h1]] at this
  have HE : Hid (enc r = [192 + r / 64, 128 + r % 64]) := by show _ = _; unfold enc; rw [if_neg (by omega), if_pos h1]
  clear hv hB
  go_enter Tryz.func66, Tryz.ntmps66
  go_wp2_with fail
  refine hl.mono ?_
  rintro e w1 ⟨rfl, rfl⟩
  clear hl
  go_wp2_with (at_builtin; refine wpList_append_own _ rfl _ _ 54 rfl B 5 i0 (.int .u8 0) 1 1 Tryz.underlying54 hi hz0 hz1 hz2 rfl (by decide) _ _ _ rfl (HV.out.alloc _) ⟨w.heap.size, 0, none⟩ 2 2 _ rfl (by rfl) (ucells_new _ _ _) (by simp [Value.oneCell']) (by unfold maxLen; have := HX.out; omega) (by have := HX.out; omega) (by have := HB.out; simp; omega) ?_; intro v' w1 hown' hgrow _)
  refine bodyPost_ret (v := v') (by simp [results, Tryz.results66, go_sem]) rfl ⟨v', rfl, ?_, ?_⟩
  · rw [HE.out]
    try rw [and63_256 (r) (by omega) (by omega)] at hown'
    try rw [and63_u8 (r) (by omega) (by omega)] at hown'
    simpa [List.map_append] using hown'
  · exact (Below.alloc (Below.refl _ _) HB.out _).grown hgrow (by have := HB.out; simp; omega) (fun j hj => (HV.out.lt j hj).1)

set_option maxHeartbeats 2000000 in
set_option maxRecDepth 100000 in
theorem put_3 (B : Nat) (r : Int) (v : Value) (xs : List Int) (w : World) (h0 : 2048 ≤ r) (h1 : r < 65536) (hB : B ≤ w.heap.size) (hv : w.ownsRow B 5 1 v xs.length (xs.map (Value.int .u8))) (hx : xs.length ≤ 35184372088000) :
    Calls Tryz.prog 66 #[v, .int .i32 r] w (PutEnd B r xs w) := by
  have HV := Lib.hid hv
  have HX := Lib.hid hx
  have HB := Lib.hid hB
  obtain ⟨i0, hi, hz0, hz1, hz2⟩ := info_parts Tryz.info5
  have hl : Calls Tryz.prog 82 #[.int .i32 r] w fun e w' => e = .returned (.int .i64 3) ∧ w = w' := by
    have := long_any r w; rwa [show lg r = 3 from by unfold lg; rw [if_neg (by omega), if_neg (by omega), if_pos h1]] at this
  have HE : Hid (enc r = [224 + r / 4096, 128 + r / 64 % 64, 128 + r % 64]) := by show _ = _; unfold enc; rw [if_neg (by omega), if_neg (by omega), if_pos h1]
  clear hv hB
  go_enter Tryz.func66, Tryz.ntmps66
  go_wp2_with fail
  refine hl.mono ?_
  rintro e w1 ⟨rfl, rfl⟩
  clear hl
  go_wp2_with (at_builtin; refine wpList_append_own _ rfl _ _ 54 rfl B 5 i0 (.int .u8 0) 1 1 Tryz.underlying54 hi hz0 hz1 hz2 rfl (by decide) _ _ _ rfl (HV.out.alloc _) ⟨w.heap.size, 0, none⟩ 3 3 _ rfl (by rfl) (ucells_new _ _ _) (by simp [Value.oneCell']) (by unfold maxLen; have := HX.out; omega) (by have := HX.out; omega) (by have := HB.out; simp; omega) ?_; intro v' w1 hown' hgrow _)
  refine bodyPost_ret (v := v') (by simp [results, Tryz.results66, go_sem]) rfl ⟨v', rfl, ?_, ?_⟩
  · rw [HE.out]
    try rw [and63_256 (r / 64) (by omega) (by omega)] at hown'
    try rw [and63_u8 (r / 64) (by omega) (by omega)] at hown'
    try rw [and63_256 (r) (by omega) (by omega)] at hown'
    try rw [and63_u8 (r) (by omega) (by omega)] at hown'
    simpa [List.map_append] using hown'
  · exact (Below.alloc (Below.refl _ _) HB.out _).grown hgrow (by have := HB.out; simp; omega) (fun j hj => (HV.out.lt j hj).1)

set_option maxHeartbeats 2000000 in
set_option maxRecDepth 100000 in
theorem put_4 (B : Nat) (r : Int) (v : Value) (xs : List Int) (w : World) (h0 : 65536 ≤ r) (h1 : r ≤ 1114111) (hB : B ≤ w.heap.size) (hv : w.ownsRow B 5 1 v xs.length (xs.map (Value.int .u8))) (hx : xs.length ≤ 35184372088000) :
    Calls Tryz.prog 66 #[v, .int .i32 r] w (PutEnd B r xs w) := by
  have HV := Lib.hid hv
  have HX := Lib.hid hx
  have HB := Lib.hid hB
  obtain ⟨i0, hi, hz0, hz1, hz2⟩ := info_parts Tryz.info5
  have hl : Calls Tryz.prog 82 #[.int .i32 r] w fun e w' => e = .returned (.int .i64 4) ∧ w = w' := by
    have := long_any r w; rwa [show lg r = 4 from by unfold lg; rw [if_neg (by omega), if_neg (by omega), if_neg (by omega)]] at this
  have HE : Hid (enc r = [240 + r / 262144, 128 + r / 4096 % 64, 128 + r / 64 % 64, 128 + r % 64]) := by show _ = _; unfold enc; rw [if_neg (by omega), if_neg (by omega), if_neg (by omega)]
  clear hv hB
  go_enter Tryz.func66, Tryz.ntmps66
  go_wp2_with fail
  refine hl.mono ?_
  rintro e w1 ⟨rfl, rfl⟩
  clear hl
  go_wp2_with (at_builtin; refine wpList_append_own _ rfl _ _ 54 rfl B 5 i0 (.int .u8 0) 1 1 Tryz.underlying54 hi hz0 hz1 hz2 rfl (by decide) _ _ _ rfl (HV.out.alloc _) ⟨w.heap.size, 0, none⟩ 4 4 _ rfl (by rfl) (ucells_new _ _ _) (by simp [Value.oneCell']) (by unfold maxLen; have := HX.out; omega) (by have := HX.out; omega) (by have := HB.out; simp; omega) ?_; intro v' w1 hown' hgrow _)
  refine bodyPost_ret (v := v') (by simp [results, Tryz.results66, go_sem]) rfl ⟨v', rfl, ?_, ?_⟩
  · rw [HE.out]
    try rw [and63_256 (r / 4096) (by omega) (by omega)] at hown'
    try rw [and63_u8 (r / 4096) (by omega) (by omega)] at hown'
    try rw [and63_256 (r / 64) (by omega) (by omega)] at hown'
    try rw [and63_u8 (r / 64) (by omega) (by omega)] at hown'
    try rw [and63_256 (r) (by omega) (by omega)] at hown'
    try rw [and63_u8 (r) (by omega) (by omega)] at hown'
    simpa [List.map_append] using hown'
  · exact (Below.alloc (Below.refl _ _) HB.out _).grown hgrow (by have := HB.out; simp; omega) (fun j hj => (HV.out.lt j hj).1)

theorem uput_any (B : Nat) (r : Int) (v : Value) (xs : List Int) (w : World) (h : sc r = true) (hB : B ≤ w.heap.size) (hv : w.ownsRow B 5 1 v xs.length (xs.map (Value.int .u8))) (hx : xs.length ≤ 35184372088000) :
    Calls Tryz.prog 66 #[v, .int .i32 r] w (PutEnd B r xs w) := by
  have hb := sc_bd h
  by_cases h1 : r < 128
  · exact put_1 B r v xs w hb.1 h1 hB hv hx
  by_cases h2 : r < 2048
  · exact put_2 B r v xs w (by omega) h2 hB hv hx
  by_cases h3 : r < 65536
  · exact put_3 B r v xs w (by omega) h3 hB hv hx
  exact put_4 B r v xs w (by omega) hb.2 hB hv hx
end Go.Proofs.YtchjjfjjcdjjcaaGreatDoor
namespace Go.Proofs.YtchjjfjjcdjjcaaGreatDoor
open Go.RowKit
open PlainAid (bt)

theorem urow_string {P : Program} {w : World} {B : Nat} {v : Value} {l : List Int} {src e dst : TypeId} (hs : P.underlying src = some (.slice e)) (he : P.underlying e = some (.int .u8)) (hd : P.underlying dst = some .string)
    (h : w.ownsRow B e 1 v l.length (l.map (Value.int .u8))) : (convert src dst v).run P w = .ok (.string (strOfNums l)) w := by
  rcases h.2 with ⟨rfl, h0⟩ | ⟨g, cap, cur, rfl, hg, hr, hx⟩
  · obtain rfl := List.eq_nil_of_length_eq_zero h0
    exact run_convert_bytes_nil _ src e hs he 0 0 dst hd
  · refine run_convert_bytes_arg _ src e hs he g 0 l.length cap l rfl (fun i hi => ?_) dst hd
    have hc := h.cellAt i (by simpa using hi)
    rw [Nat.zero_add, hc, List.getElem?_map, List.getElem?_eq_getElem hi, List.getD_eq_getElem?_getD, List.getElem?_eq_getElem hi]; rfl

/-- between two rounds -/
def EnRel (xs : List Int) (w : World) (k : Nat) (v : Value) (W : World) : Prop :=
  (k ≤ xs.length ∧ ∀ r ∈ xs.take k, sc r = true) ∧ W.ownsRow w.heap.size 5 1 v ((xs.take k).flatMap enc).length (((xs.take k).flatMap enc).map (Value.int .u8)) ∧ Below w.heap.size w W
theorem enRel_step {xs : List Int} {w W w1 : World} {k : Nat} {v v' : Value} (h : EnRel xs w k v W) (hk : k < xs.length) (hr : sc (xs.getD k 0) = true)
    (hown : w1.ownsRow w.heap.size 5 1 v' ((xs.take k).flatMap enc ++ enc (xs.getD k 0)).length (((xs.take k).flatMap enc ++ enc (xs.getD k 0)).map (Value.int .u8))) (hb : Below w.heap.size W w1) : EnRel xs w (k + 1) v' w1 := by
  obtain ⟨⟨_, h2⟩, _, h4⟩ := h
  have e1 : (xs.take (k + 1)).flatMap enc = (xs.take k).flatMap enc ++ enc (xs.getD k 0) := by rw [take_step xs k hk, List.flatMap_append]; simp
  refine ⟨⟨hk, ?_⟩, by rw [e1]; exact hown, h4.trans hb⟩
  rw [take_step xs k hk]
  intro r hm
  rcases List.mem_append.1 hm with hm | hm
  · exact h2 r hm
  · simp at hm; rw [hm]; simpa using hr

def EncPost (xs : List Int) (w : World) (e : Ending) (w' : World) : Prop := e = .returned (.tuple #[.string (ecS xs), .int .i64 (ecA xs), .int .i64 (ecE xs)]) ∧ Below w.heap.size w w'

set_option maxHeartbeats 2000000 in
set_option maxRecDepth 100000 in
theorem uEncode_any (xs : List Int) (u : Value) (w : World) (hu : IntsAt 0 .i32 w u xs) (hx : xs.length ≤ 8796093022000) :
    Calls Tryz.prog 41 #[u] w (EncPost xs w) := by
  obtain ⟨p, cp, rfl, hu2⟩ := hu
  have HU : Hid (IntsAt 0 .i32 w (.slice p xs.length cp) xs) := ⟨_, _, rfl, hu2⟩
  have HX := Lib.hid hx
  clear hu2
  go_enter Tryz.func41, Tryz.ntmps41
  go_wp2
  go_loopw [5, 10] (fun v i wr => ∃ k : Nat, i = .int .i64 k ∧ EnRel xs w k v wr) (fun _ i _ => xs.length - (intOf i).toNat)
  case atStart => exact ⟨0, rfl, ⟨Nat.zero_le _, by simp⟩, World.ownsRow_nil _ _ _ _, Below.refl _ _⟩
  case round =>
    obtain ⟨k, rfl, hr⟩ := hrel
    have HR := Lib.hid hr
    clear hr
    by_cases hlt : k < xs.length
    · have hlt' : decide (k < xs.length) = true := decide_eq_true hlt
      obtain ⟨b, o, rfl, _, hb, hc⟩ := (HU.out.below HR.out.2.2).at k hlt
      have HL := Lib.hid hlt
      have HF := Lib.hid (fun h => fb_here (xs := xs) (k := k) hlt HR.out.1.2 h)
      have HG : Hid (((xs.take k).flatMap enc).length ≤ 35184372088000) := by
        show _ ≤ _; have := enc_flat_len (xs.take k); have := HX.out; have : (xs.take k).length ≤ xs.length := List.length_take_le' _ _; omega
      obtain ⟨x, hxe⟩ : ∃ x, x = xs.getD k 0 := ⟨_, rfl⟩
      rw [← hxe] at hc HF
      have HXE := Lib.hid hxe
      clear hxe
      cases hsc : sc x
      · have HB := Lib.hid (ec_some (HF.out hsc))
        clear hlt HF
        go_wp2_with fail
        refine (scalar_any _ _).mono ?_
        rw [hsc]
        rintro e w1 ⟨rfl, rfl⟩
        clear hsc
        go_wp2_with fail
        go_ret3
        exact ⟨by rw [HB.out.1, HB.out.2.1, HB.out.2.2]; rfl, HR.out.2.2⟩
      · have HC := Lib.hid hsc
        clear hlt HF
        go_wp2_with fail
        refine (scalar_any _ _).mono ?_
        rw [hsc]
        rintro e w1 ⟨rfl, rfl⟩
        clear hsc
        go_wp2_with fail
        refine (uput_any w.heap.size x u5 _ _ HC.out HR.out.2.2.size HR.out.2.1 HG.out).mono ?_
        rintro e w1 ⟨v', rfl, hown, hb1⟩
        have HN := Lib.hid (enRel_step HR.out HL.out (by rw [← HXE.out]; exact HC.out) (by rw [← HXE.out]; exact hown) hb1)
        clear hown hb1
        go_wp2_with fail
        go_roundw
        case rel => exact ⟨k + 1, by go_num, HN.out⟩
        case measure => (have hq := HL.out; simp [intOf]; omega)
    · have hlt' : decide (k < xs.length) = false := decide_eq_false hlt
      have hk : k = xs.length := by have := HR.out.1.1; omega
      have HT : Hid (xs.take k = xs) := by show _ = _; rw [hk, List.take_length]
      have HB := Lib.hid (ec_none (fb_nowhere (xs := xs) (by have := HR.out.1.2; rw [HT.out] at this; exact this)))
      have hcv := urow_string (P := Tryz.prog) Tryz.underlying54 Tryz.underlying5 Tryz.underlying9 HR.out.2.1
      rw [HT.out] at hcv
      clear hlt hk
      go_wp2_with fail
      go_ret3
      exact ⟨by rw [HB.out.1, HB.out.2.1, HB.out.2.2]; rfl, HR.out.2.2⟩

end Go.Proofs.YtchjjfjjcdjjcaaGreatDoor
