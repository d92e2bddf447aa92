/- Encode of package utf and of the reference: walked. -/
import Derived.Test.YtafocgnhmdhemaaUD
import Derived.Test.YtafocgnhmdhemaaUc
namespace Go.Proofs.Ytafocgnhmdhemaa
open Go.RowKit
open PlainAid (bt)

/-- the first number that is no scalar -/
def fb (xs : List Int) : Option Nat := xs.findIdx? fun r => !sc r
def ecS (xs : List Int) : ByteArray := match fb xs with | none => strOfNums (xs.flatMap enc) | some _ => ⟨#[]⟩
def ecA (xs : List Int) : Int := match fb xs with | none => 0 | some k => k
def ecE (xs : List Int) : Int := match fb xs with | none => 0 | some _ => 41
theorem ec_none {xs : List Int} (h : fb xs = none) : ecS xs = strOfNums (xs.flatMap enc) ∧ ecA xs = 0 ∧ ecE xs = 0 := by unfold ecS ecA ecE; rw [h]; exact ⟨rfl, rfl, rfl⟩
theorem ec_some {xs : List Int} {k : Nat} (h : fb xs = some k) : ecS xs = ⟨#[]⟩ ∧ ecA xs = k ∧ ecE xs = 41 := by unfold ecS ecA ecE; rw [h]; exact ⟨rfl, rfl, rfl⟩
theorem fb_here {xs : List Int} {k : Nat} (hk : k < xs.length) (h : ∀ r ∈ xs.take k, sc r = true) (hb : sc (xs.getD k 0) = false) : fb xs = some k := by
  unfold fb
  rw [List.findIdx?_eq_some_iff_getElem]
  refine ⟨hk, ?_, fun j hj => ?_⟩
  · rw [List.getD_eq_getElem?_getD, List.getElem?_eq_getElem hk] at hb; simp at hb; simp [hb]
  · have : xs[j] ∈ xs.take k := by rw [List.mem_take_iff_getElem]; exact ⟨j, by omega, rfl⟩
    simp [h _ this]
theorem fb_nowhere {xs : List Int} (h : ∀ r ∈ xs, sc r = true) : fb xs = none := by
  unfold fb; rw [List.findIdx?_eq_none_iff]; intro x hx; simp [h x hx]
theorem enc_flat_len (xs : List Int) : (xs.flatMap enc).length ≤ xs.length * 4 := by
  induction xs with
  | nil => simp
  | cons x xs ih => have := enc_len x; have := enc_pos x; simp only [List.flatMap_cons, List.length_append, List.length_cons]; omega
theorem take_step (xs : List Int) (k : Nat) (h : k < xs.length) : xs.take (k + 1) = xs.take k ++ [xs.getD k 0] := by
  rw [List.take_add_one, List.getElem?_eq_getElem h, List.getD_eq_getElem?_getD, List.getElem?_eq_getElem h]; rfl

theorem row_string {P : Program} {w : World} {B : Nat} {v : Value} {l : List Int} {src e dst : TypeId} (hs : P.underlying src = some (.slice e)) (he : P.underlying e = some (.int .u8)) (hd : P.underlying dst = some .string)
    (h : w.ownsRow B e 1 v l.length (l.map (Value.int .u8))) : (convert src dst v).run P w = .ok (.string (strOfNums l)) w := by
  rcases h.2 with ⟨rfl, h0⟩ | ⟨g, cap, cur, rfl, hg, hr, hx⟩
  · obtain rfl := List.eq_nil_of_length_eq_zero h0
    exact run_convert_bytes_nil _ src e hs he 0 0 dst hd
  · refine run_convert_bytes_arg _ src e hs he g 0 l.length cap l rfl (fun i hi => ?_) dst hd
    have hc := h.cellAt i (by simpa using hi)
    rw [Nat.zero_add, hc, List.getElem?_map, List.getElem?_eq_getElem hi, List.getD_eq_getElem?_getD, List.getElem?_eq_getElem hi]; rfl

/-- between two rounds -/
def EnRel (xs : List Int) (w : World) (k : Nat) (v : Value) (W : World) : Prop :=
  (k ≤ xs.length ∧ ∀ r ∈ xs.take k, sc r = true) ∧ W.ownsRow w.heap.size 5 1 v ((xs.take k).flatMap enc).length (((xs.take k).flatMap enc).map (Value.int .u8)) ∧ Below w.heap.size w W
theorem enRel_step {xs : List Int} {w W w1 : World} {k : Nat} {v v' : Value} (h : EnRel xs w k v W) (hk : k < xs.length) (hr : sc (xs.getD k 0) = true)
    (hown : w1.ownsRow w.heap.size 5 1 v' ((xs.take k).flatMap enc ++ enc (xs.getD k 0)).length (((xs.take k).flatMap enc ++ enc (xs.getD k 0)).map (Value.int .u8))) (hb : Below w.heap.size W w1) : EnRel xs w (k + 1) v' w1 := by
  obtain ⟨⟨_, h2⟩, _, h4⟩ := h
  have e1 : (xs.take (k + 1)).flatMap enc = (xs.take k).flatMap enc ++ enc (xs.getD k 0) := by rw [take_step xs k hk, List.flatMap_append]; simp
  refine ⟨⟨hk, ?_⟩, by rw [e1]; exact hown, h4.trans hb⟩
  rw [take_step xs k hk]
  intro r hm
  rcases List.mem_append.1 hm with hm | hm
  · exact h2 r hm
  · simp at hm; rw [hm]; simpa using hr

def EncPost (xs : List Int) (w : World) (e : Ending) (w' : World) : Prop := e = .returned (.tuple #[.string (ecS xs), .int .i64 (ecA xs), .int .i64 (ecE xs)]) ∧ Below w.heap.size w w'

set_option maxHeartbeats 2000000 in
set_option maxRecDepth 100000 in
theorem uEncode_any (xs : List Int) (u : Value) (w : World) (hu : IntsAt 0 .i32 w u xs) (hx : xs.length ≤ 8796093022000) :
    Calls Try.prog 16 #[u] w (EncPost xs w) := by
  obtain ⟨p, cp, rfl, hu2⟩ := hu
  have HU : Hid (IntsAt 0 .i32 w (.slice p xs.length cp) xs) := ⟨_, _, rfl, hu2⟩
  have HX := Lib.hid hx
  clear hu2
  go_enter Try.func16, Try.ntmps16
  go_wp2
  go_loopw [5, 10] (fun v i wr => ∃ k : Nat, i = .int .i64 k ∧ EnRel xs w k v wr) (fun _ i _ => xs.length - (intOf i).toNat)
  case atStart => exact ⟨0, rfl, ⟨Nat.zero_le _, by simp⟩, World.ownsRow_nil _ _ _ _, Below.refl _ _⟩
  case round =>
    obtain ⟨k, rfl, hr⟩ := hrel
    have HR := Lib.hid hr
    clear hr
    by_cases hlt : k < xs.length
    · have hlt' : decide (k < xs.length) = true := decide_eq_true hlt
      obtain ⟨b, o, rfl, _, hb, hc⟩ := (HU.out.below HR.out.2.2).at k hlt
      have HL := Lib.hid hlt
      have HF := Lib.hid (fun h => fb_here (xs := xs) (k := k) hlt HR.out.1.2 h)
      have HG : Hid (((xs.take k).flatMap enc).length ≤ 35184372088000) := by
        show _ ≤ _; have := enc_flat_len (xs.take k); have := HX.out; have : (xs.take k).length ≤ xs.length := List.length_take_le' _ _; omega
      obtain ⟨x, hxe⟩ : ∃ x, x = xs.getD k 0 := ⟨_, rfl⟩
      rw [← hxe] at hc HF
      have HXE := Lib.hid hxe
      clear hxe
      cases hsc : sc x
      · have HB := Lib.hid (ec_some (HF.out hsc))
        clear hlt HF
        go_wp2_with fail
        refine (scalar_any _ _).mono ?_
        rw [hsc]
        rintro e w1 ⟨rfl, rfl⟩
        clear hsc
        go_wp2_with fail
        go_ret3
        exact ⟨by rw [HB.out.1, HB.out.2.1, HB.out.2.2]; rfl, HR.out.2.2⟩
      · have HC := Lib.hid hsc
        clear hlt HF
        go_wp2_with fail
        refine (scalar_any _ _).mono ?_
        rw [hsc]
        rintro e w1 ⟨rfl, rfl⟩
        clear hsc
        go_wp2_with fail
        refine (put_any w.heap.size x u5 _ _ HC.out HR.out.2.2.size HR.out.2.1 HG.out).mono ?_
        rintro e w1 ⟨v', rfl, hown, hb1⟩
        have HN := Lib.hid (enRel_step HR.out HL.out (by rw [← HXE.out]; exact HC.out) (by rw [← HXE.out]; exact hown) hb1)
        clear hown hb1
        go_wp2_with fail
        go_roundw
        case rel => exact ⟨k + 1, by go_num, HN.out⟩
        case measure => (have hq := HL.out; simp [intOf]; omega)
    · have hlt' : decide (k < xs.length) = false := decide_eq_false hlt
      have hk : k = xs.length := by have := HR.out.1.1; omega
      have HT : Hid (xs.take k = xs) := by show _ = _; rw [hk, List.take_length]
      have HB := Lib.hid (ec_none (fb_nowhere (xs := xs) (by have := HR.out.1.2; rw [HT.out] at this; exact this)))
      have hcv := row_string (P := Try.prog) Try.underlying64 Try.underlying5 Try.underlying9 HR.out.2.1
      rw [HT.out] at hcv
      clear hlt hk
      go_wp2_with fail
      go_ret3
      exact ⟨by rw [HB.out.1, HB.out.2.1, HB.out.2.2]; rfl, HR.out.2.2⟩

set_option maxHeartbeats 2000000 in
set_option maxRecDepth 100000 in
theorem rEncode_any (xs : List Int) (u : Value) (w : World) (hu : IntsAt 0 .i32 w u xs) (hx : xs.length ≤ 8796093022000) :
    Calls Try.prog 17 #[u] w (EncPost xs w) := by
  obtain ⟨p, cp, rfl, hu2⟩ := hu
  have HU : Hid (IntsAt 0 .i32 w (.slice p xs.length cp) xs) := ⟨_, _, rfl, hu2⟩
  have HX := Lib.hid hx
  obtain ⟨i0, hi, hz0, hz1, hz2⟩ := info_parts Try.info5
  clear hu2
  go_enter Try.func17, Try.ntmps17
  go_wp2
  go_loopw [5, 6] (fun v i wr => ∃ k : Nat, i = .int .i64 k ∧ EnRel xs w k v wr) (fun _ i _ => xs.length - (intOf i).toNat)
  case atStart => exact ⟨0, rfl, ⟨Nat.zero_le _, by simp⟩, World.ownsRow_nil _ _ _ _, Below.refl _ _⟩
  case round =>
    obtain ⟨k, rfl, hr⟩ := hrel
    have HR := Lib.hid hr
    clear hr
    by_cases hlt : k < xs.length
    · have hlt' : decide (k < xs.length) = true := decide_eq_true hlt
      obtain ⟨b, o, rfl, _, hb, hc⟩ := (HU.out.below HR.out.2.2).at k hlt
      have HL := Lib.hid hlt
      have HF := Lib.hid (fun h => fb_here (xs := xs) (k := k) hlt HR.out.1.2 h)
      have HG : Hid (((xs.take k).flatMap enc).length ≤ 35184372088000) := by
        show _ ≤ _; have := enc_flat_len (xs.take k); have := HX.out; have : (xs.take k).length ≤ xs.length := List.length_take_le' _ _; omega
      obtain ⟨x, hxe⟩ : ∃ x, x = xs.getD k 0 := ⟨_, rfl⟩
      rw [← hxe] at hc HF
      have HXE := Lib.hid hxe
      clear hxe
      cases hsc : sc x
      · have HB := Lib.hid (ec_some (HF.out hsc))
        clear HF
        go_wp2_with fail
        refine (rscalar_any _ _).mono ?_
        rw [hsc]
        rintro e w1 ⟨rfl, rfl⟩
        clear hsc
        go_wp2_with fail
        go_ret3
        exact ⟨by rw [HB.out.1, HB.out.2.1, HB.out.2.2]; rfl, HR.out.2.2⟩
      · have HC := Lib.hid hsc
        clear HF
        go_wp2_with fail
        refine (rscalar_any _ _).mono ?_
        rw [hsc]
        rintro e w1 ⟨rfl, rfl⟩
        clear hsc
        go_wp2_with fail
        refine (rform_any _ _ HC.out).mono ?_
        rintro e w1 ⟨rfl, hw1⟩
        have OW : Hid (w1.ownsRow w.heap.size 5 1 u5 ((xs.take k).flatMap enc).length (((xs.take k).flatMap enc).map (Value.int .u8))) := by rw [← hw1]; exact HR.out.2.1.alloc _
        have NW : Hid (∀ (j : Nat) u, ((enc x).map (Value.int .u8))[j]? = some u → w1.cell? ((⟨wr.heap.size, 0, none⟩ : Addr).add j) = some u) := by rw [← hw1]; exact cells_new _ _ _
        have BW : Hid (Below w.heap.size wr w1) := by rw [← hw1]; exact (Below.refl _ _).alloc HR.out.2.2.size _
        have hlx := enc_pos x
        have HLX := Lib.hid hlx
        clear hw1 hlx
        go_wp2_with (at_builtin; refine wpList_append_own _ rfl _ _ 64 rfl w.heap.size 5 i0 (.int .u8 0) 1 1 Try.underlying64 hi hz0 hz1 hz2 rfl (by decide) _ _ _ rfl OW.out ⟨wr.heap.size, 0, none⟩ (lg x) (lg x) ((enc x).map (Value.int .u8)) rfl (by simp [enc_len]) NW.out (by simp [Value.oneCell']) (by unfold maxLen; have := HG.out; have := HLX.out; omega) (by have := HG.out; have := HLX.out; omega) (Nat.le_trans HR.out.2.2.size BW.out.size) ?_; intro v' w2 hown' hgrow _)
        have HN := Lib.hid (enRel_step (v' := v') HR.out HL.out (by rw [← HXE.out]; exact HC.out) (by rw [← HXE.out]; simpa [enc_len] using hown') (BW.out.grown hgrow (Nat.le_trans HR.out.2.2.size BW.out.size) (fun j hj => (OW.out.lt j hj).1)))
        clear hown' hgrow
        go_wp2_with fail
        go_roundw
        case rel => exact ⟨k + 1, by go_num, HN.out⟩
        case measure => (have hq := HL.out; simp [intOf]; omega)
    · have hlt' : decide (k < xs.length) = false := decide_eq_false hlt
      have hk : k = xs.length := by have := HR.out.1.1; omega
      have HT : Hid (xs.take k = xs) := by show _ = _; rw [hk, List.take_length]
      have HB := Lib.hid (ec_none (fb_nowhere (xs := xs) (by have := HR.out.1.2; rw [HT.out] at this; exact this)))
      have hcv := row_string (P := Try.prog) Try.underlying64 Try.underlying5 Try.underlying9 HR.out.2.1
      rw [HT.out] at hcv
      clear hlt hk
      go_wp2_with fail
      go_ret3
      exact ⟨by rw [HB.out.1, HB.out.2.1, HB.out.2.2]; rfl, HR.out.2.2⟩
end Go.Proofs.Ytafocgnhmdhemaa
