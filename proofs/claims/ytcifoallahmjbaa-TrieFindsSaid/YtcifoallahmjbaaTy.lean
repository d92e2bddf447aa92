/- What is found is what the entries say: the law's walk. -/
import Derived.Test.YtcifoallahmjbaaTx
import Derived.Test.YtcifoallahmjbaaTt
import Derived.Deep.RegionHeld
namespace Go.Proofs.Ytcifoallahmjbaa
open Go.RowKit

/-- the end of a slice -/
theorem IntsIn.drop {R : Nat → Prop} {k : IntKind} {w : World} {p : Option Addr} {len cap : Nat} {xs : List Int} (h : IntsIn R k w (.slice p len cap) xs) (i : Nat) (hi : i ≤ xs.length) : IntsIn R k w (sliced p i len cap 1) (xs.drop i) := by
  obtain ⟨p', cap', h1, h0, h2⟩ := h
  cases h1
  unfold sliced
  refine ⟨_, _, by rw [List.length_drop], ⟨by rw [List.length_drop]; omega, by omega⟩, fun j x hx => ?_⟩
  rw [List.getElem?_drop] at hx
  have hl := (List.getElem?_eq_some_iff.1 hx).1
  obtain ⟨b, o, e1, e2, e3, e4⟩ := h2 (i + j) x hx
  refine ⟨b, o + i, ?_, e2, e3, by rw [Nat.add_assoc]; exact e4⟩
  rw [if_neg (by omega), e1, Nat.mul_one]
  show some ((⟨b, o, none⟩ : Addr).add i) = _
  rw [addr_add]
theorem slice_from (w : World) (p : Option Addr) (len cap i : Nat) (hi : i ≤ len) : (Instr.sliceAt 32 (.slice p len cap) (some (.int .i64 i)) none none).run Try.prog w = .ok (sliced p i len cap 1) w := by
  have he : Try.prog.elem 32 = 21 := by kernel_rfl
  rw [run_sliceAt_slice w 32 _ _ _ _ (by rw [he]; exact Try.underlying32), run_slice_l w 32 p len cap (by rw [he]; exact Try.underlying32) .i64 i (by omega) (by omega), he]
  have hz : (sizeOf 21).run Try.prog w = .ok 1 w := by kernel_rfl
  rw [hz]
  simp [Result.andThen]
theorem ref_found {es : List Ent} (h : ckE es = 0) (codes : List Int) : (rlg es codes).1 = lenOf es (lgo es codes codes.length) ∧ (rlg es codes).2 = elsOf es (lgo es codes codes.length) := by
  obtain ⟨_, hap, hz, _⟩ := ck_zero h
  have := rlg_lgo (es := es) codes (fun a ha e => by have := (eErr_zero (hz a ha)).1; rw [e] at this; simp at this) hap
  rw [this]
  unfold lenOf elsOf
  cases lgo es codes codes.length with
  | none => simp
  | some i => cases hx : es[i]? <;> simp [hx]
theorem els_len {es : List Ent} (hok : ∀ x ∈ es, EntOk x) (o : Option Nat) : (elsOf es o).length ≤ maxLen := by
  unfold elsOf maxLen
  cases o with
  | none => simp
  | some i =>
    cases hx : es[i]? with
    | none => simp [hx]
    | some x => simp only [hx]; have := (hok x (List.mem_of_getElem? hx)).2.1; omega
theorem Lf.keep' {A : Nat} {w w' : World} {b : Nat} (h : Lf A w b) (hb : Below w.heap.size w w') : Lf A w' b := by
  obtain ⟨h1, c, t, h2, h3⟩ := h
  exact ⟨h1, c, t, (hb.block b (Array.getElem?_eq_some_iff.1 h2).1).trans h2, h3⟩
/-- the law's rounds -/
def FdRel (es : List Ent) (codes : List Int) (w : World) (B tb : Nat) (N : NMap) (root : Nat) (lv : Value) (n : Nat) (vs : List (Value × Value)) (i : Nat) (W : World) : Prop :=
  i ≤ 20 ∧ i ≤ codes.length + 1 ∧ Below w.heap.size w W ∧ ∃ a : Int, a = 2 * (i : Int) ∧ NewAt B W tb es es (es.map (·.1)) N root lv n a vs

set_option maxHeartbeats 8000000 in
set_option maxRecDepth 100000 in
theorem finds_any (es : List Ent) (codes : List Int) (v u : Value) (w : World) (hv : EntsIn (· < w.heap.size) w v es) (hu : IntsIn (· < w.heap.size) .i32 w u codes) (hok : ∀ x ∈ es, EntOk x) (hl : es.length ≤ 140737488351232)
    (hcw : ∀ r ∈ codes, (Lit.int .i32 r).wf = true) (hcl : codes.length * 4 ≤ 140737488351232) :
    Calls Try.prog 4 #[v, u] w fun e w' => e = .returned (.bool true) ∧ Below w.heap.size w w' := by
  have HV := Lib.hid hv
  have HU := Lib.hid hu
  obtain ⟨p, cp, rfl, _⟩ := hv
  obtain ⟨q, cq, rfl, _⟩ := hu
  have HOK := Lib.hid hok
  have HL := Lib.hid hl
  have HCW := Lib.hid hcw
  have hcl1 : codes.length ≤ 35184372087808 := by omega
  clear hok hcw hcl
  go_enter Try.func4, Try.ntmps4
  go_wp2_with fail
  refine (awake_any _).mono ?_
  rintro e w1 ⟨rfl, hb1⟩
  have HB1 := Lib.hid hb1
  clear hb1
  go_wp2_with fail
  refine (rCheck_any _ es _ _ (HV.out.kept (Kept.below HB1.out)) HOK.out HL.out).mono ?_
  rintro e w2 ⟨rfl, hb2⟩
  have HB2 : Hid (Below w.heap.size w w2) := HB1.out.trans (hb2.mono HB1.out.size)
  clear hb2
  go_wp2_with fail
  refine (few_any _ es _ _ (HV.out.kept (Kept.below HB2.out)) HOK.out HL.out).mono ?_
  rintro e w3 ⟨bf, rfl, hb3⟩
  have HB3 : Hid (Below w.heap.size w w3) := HB2.out.trans (hb3.mono HB2.out.size)
  clear hb3
  cases bf
  · go_wp2_with fail
    go_ret
    exact ⟨rfl, HB3.out⟩
  by_cases hE : ckE es ≠ 0
  · have hne : (ckE es != 0) = true := by simpa using hE
    clear hE
    go_wp2_with fail
    go_ret
    exact ⟨rfl, HB3.out⟩
  obtain ⟨h4, _, _, hA0⟩ := ck_zero (Decidable.not_not.1 hE)
  have hE0 : ckE es = 0 := Decidable.not_not.1 hE
  have HE := Lib.hid hE0
  have hne : (ckE es != 0) = false := by rw [hE0]; rfl
  clear hE hA0 hE0
  by_cases h5 : 500 < codes.length
  · have d1 : decide ((500 : Int) < (codes.length : Int)) = true := decide_eq_true (by omega)
    have d2 : decide (500 < codes.length) = true := decide_eq_true h5
    clear h5
    go_wp2_with fail
    go_ret
    exact ⟨rfl, HB3.out⟩
  have d1 : decide ((500 : Int) < (codes.length : Int)) = false := decide_eq_false (by omega)
  have d2 : decide (500 < codes.length) = false := decide_eq_false h5
  go_wp2_with fail
  refine (new_any es _ _ ((HV.out.kept (Kept.below HB3.out)).mono (fun b _ hb => hb)) HOK.out HL.out).mono ?_
  rintro e w4 ⟨hb4, h⟩
  obtain ⟨_, tb, N, root, lv, n, vs, rfl, hN⟩ := h.resolve_right (fun h => h.1 HE.out)
  have HB4 : Hid (Below w.heap.size w w4) := HB3.out.trans (hb4.mono HB3.out.size)
  have HN := Lib.hid hN
  clear hb4 h hN d1 d2 h5 hne
  go_wp2_with fail
  go_loopw [10] (fun iv wr => ∃ i : Nat, iv = .int .i64 i ∧ FdRel es codes w w3.heap.size tb N root lv n vs i wr) (fun iv _ => 20 - (intOf iv).toNat)
  case atStart => exact ⟨0, rfl, Nat.zero_le _, Nat.zero_le _, HB4.out, 0, rfl, HN.out⟩
  case round =>
    obtain ⟨i, rfl, hr⟩ := hrel
    obtain ⟨hi20, hi, hbw, a, ha, hN⟩ := hr
    have HBW := Lib.hid hbw
    have HNA := Lib.hid hN
    have HAA := Lib.hid ha
    clear hi hbw hN ha
    obtain ⟨wo, rfl⟩ : ∃ wo : World, wo = wr := ⟨_, rfl⟩
    by_cases hlt : i ≤ codes.length
    · have e1 : decide ((i : Int) ≤ (codes.length : Int)) = true := decide_eq_true (by omega)
      have e2 : decide (i ≤ codes.length) = true := decide_eq_true hlt
      by_cases hlt2 : i < 20
      · have e3 : decide ((i : Int) < 20) = true := decide_eq_true (by omega)
        have e4 : decide (i < 20) = true := decide_eq_true hlt2
        have HLT := Lib.hid hlt
        have HLT2 := Lib.hid hlt2
        have hsl : ∀ w, (Instr.sliceAt 32 (.slice q codes.length cq) (some (.int .i64 i)) none none).run Try.prog w = .ok (sliced q i codes.length cq 1) w := fun w => slice_from w q codes.length cq i hlt
        have HD := Lib.hid (HU.out.drop i hlt)
        have HDL : Hid ((codes.drop i).length ≤ 35184372087808) := by show _ ≤ _; rw [List.length_drop]; omega
        have HDW : Hid (∀ r ∈ codes.drop i, (Lit.int .i32 r).wf = true) := fun r hr => HCW.out r (List.mem_of_mem_drop hr)
        obtain ⟨SL, hSL⟩ : ∃ SL, SL = sliced q i codes.length cq 1 := ⟨_, rfl⟩
        obtain ⟨CS, hCS⟩ : ∃ CS, CS = codes.drop i := ⟨_, rfl⟩
        rw [← hSL, ← hCS] at HD
        rw [← hSL] at hsl
        rw [← hCS] at HDL HDW
        obtain ⟨ps, cs, hsv, _⟩ := HD.out
        clear hSL hCS
        subst hsv
        have HR : Hid (∀ b, b < w.heap.size → b ≠ tb) := fun b hb => by have := HNA.out.tB; have := HB3.out.size; omega
        have HTB : Hid (w.heap.size ≤ tb) := (show w.heap.size ≤ tb by have := HNA.out.tB; have := HB3.out.size; omega)
        have HRL := Lib.hid (ref_found HE.out CS)
        clear hlt hlt2
        go_wp2_with fail
        have hg := get_any (· < w.heap.size) CS _ HNA.out HR.out (HD.out.kept (Kept.below HBW.out)) (by unfold maxLen; have := HDL.out; omega) HDW.out (by have := HAA.out; omega) (by have := HAA.out; have := HLT2.out; omega) HOK.out HL.out
        refine hg.mono ?_
        rintro e w5 ⟨u5, rfl, hu5, hN5, hO5⟩
        have HU5 := Lib.hid hu5
        have HN5 := Lib.hid hN5
        have HB5 : Hid (Below w.heap.size w w5) := only_below HBW.out (Nat.le_refl _) hO5 (fun b hb => by have := HTB.out; omega)
        clear hg hu5 hN5 hO5
        go_wp2_with fail
        refine (rGet_any _ _ es CS _ _ _ (HV.out.kept (Kept.below HB5.out)) (HD.out.kept (Kept.below HB5.out)) HOK.out HL.out (by have := HDL.out; omega)).mono ?_
        rintro e w6 ⟨u6, rfl, hu6, hb6⟩
        have HU6 := Lib.hid hu6
        have HB56 := Lib.hid hb6
        have HB6 : Hid (Below w.heap.size w w6) := HB5.out.trans (hb6.mono HB5.out.size)
        clear hu6 hb6
        go_wp2_with fail
        have hg := longest_any (· < w.heap.size) CS _ (HN5.out.below HB56.out) HR.out (HD.out.kept (Kept.below HB6.out)) (by unfold maxLen; have := HDL.out; omega) HDW.out (by have := HAA.out; omega) (by have := HAA.out; have := HLT2.out; omega) HOK.out HL.out
        refine hg.mono ?_
        rintro e w7 ⟨u7, rfl, hu7, hN7, hO7⟩
        have HU7 := Lib.hid hu7
        have HN7 := Lib.hid hN7
        have HO7 := Lib.hid hO7
        have HB7 : Hid (Below w.heap.size w w7) := only_below HB6.out (Nat.le_refl _) hO7 (fun b hb => by have := HTB.out; omega)
        clear hg hu7 hN7 hO7
        go_wp2_with fail
        have hg := rLongest_any _ _ es CS _ _ _ (HV.out.kept (Kept.below HB7.out)) (HD.out.kept (Kept.below HB7.out)) HOK.out HL.out (by have := HDL.out; omega)
        rw [HRL.out.1, HRL.out.2] at hg
        refine hg.mono ?_
        rintro e w8 ⟨u8, rfl, hu8, hb8⟩
        have HU8 := Lib.hid hu8
        have HB78 := Lib.hid hb8
        have HB8 : Hid (Below w.heap.size w w8) := HB7.out.trans (hb8.mono HB7.out.size)
        have HN8 := Lib.hid (HN7.out.below hb8)
        clear hg hu8 hb8
        have HS1 : Hid (∀ W', Below w8.heap.size w8 W' → Calls Try.prog 14 #[u5, u6] W' fun e w' => e = .returned (.bool true) ∧ Below w8.heap.size w8 w') := fun W' hW => by
          have h5 := ((HU5.out.kept (Kept.below HB56.out)).kept (Kept.only HO7.out (fun b hb => lf_apart (hb.keep' HB56.out) (HN5.out.below HB56.out).tcell (by decide) (by decide)))).kept ((Kept.below HB78.out).trans (Kept.below hW))
          have h6 := (HU6.out.kept (Kept.only HO7.out (fun b hb => HR.out b hb))).kept ((Kept.below HB78.out).trans (Kept.below hW))
          have hs := same7_any _ _ _ _ _ _ _ h5 h6 (els_len HOK.out _) (els_len HOK.out _)
          rw [decide_eq_true rfl] at hs
          exact hs.mono (fun e w' h => ⟨h.1, hW.trans (h.2.mono hW.size)⟩)
        have HS2 : Hid (∀ W', Below w8.heap.size w8 W' → Calls Try.prog 14 #[u7, u8] W' fun e w' => e = .returned (.bool true) ∧ Below w8.heap.size w8 w') := fun W' hW => by
          have h5 := HU7.out.kept ((Kept.below HB78.out).trans (Kept.below hW))
          have h6 := HU8.out.kept (Kept.below hW)
          have hs := same7_any _ _ _ _ _ _ _ h5 h6 (els_len HOK.out _) (els_len HOK.out _)
          rw [decide_eq_true rfl] at hs
          exact hs.mono (fun e w' h => ⟨h.1, hW.trans (h.2.mono hW.size)⟩)
        have hb1 : ∀ W', Below w8.heap.size w8 W' → Calls Try.prog 18 #[.pointer (some ⟨tb, 0, none⟩), .slice ps CS.length cs] W' fun e w' => e = .returned (.bool (es.any (moreB CS))) ∧ Below w8.heap.size w8 w' := fun W' hW =>
          (begins_any (· < w.heap.size) CS _ (HN8.out.below hW) (HD.out.kept (Kept.below (HB8.out.trans (hW.mono HB8.out.size)))) (by unfold maxLen; have := HDL.out; omega) HDW.out).mono (fun e w' h => ⟨h.1, h.2 ▸ hW⟩)
        have hb2 : ∀ W', Below w8.heap.size w8 W' → Calls Try.prog 19 #[.slice p es.length cp, .slice ps CS.length cs] W' fun e w' => e = .returned (.bool (es.any (moreB CS))) ∧ Below w8.heap.size w8 w' := fun W' hW =>
          (rBegins_any _ _ es CS _ _ _ (HV.out.kept (Kept.below (HB8.out.trans (hW.mono HB8.out.size)))) (HD.out.kept (Kept.below (HB8.out.trans (hW.mono HB8.out.size)))) HOK.out HL.out (by have := HDL.out; omega)).mono (fun e w' h => ⟨h.1, hW.trans (h.2.mono hW.size)⟩)
        generalize es.any (moreB CS) = BG at hb1 hb2
        have HG1 := Lib.hid hb1
        have HG2 := Lib.hid hb2
        clear hb1 hb2
        generalize (idx es CS).isSome = IS at *
        generalize lenOf es (lgo es CS CS.length) = LN at *
        go_wp2_with fail
        refine wp_region_over (by kernel_rfl) (by kernel_rfl) ?_
        (iterate 10 (go_big_quiet_step ((go_at_call 14; exact (HS1.out _ (below_over _ _)).mono (fun e w' h => ⟨h.1, _, below_eq_over h.2⟩)))))
        (repeat (go_big_quiet_step ((first
          | (go_at_call 14; exact (HS2.out _ (below_over _ _)).mono (fun e w' h => ⟨h.1, _, below_eq_over h.2⟩))
          | (go_at_call 18; exact (HG1.out _ (below_over _ _)).mono (fun e w' h => ⟨h.1, _, below_eq_over h.2⟩))
          | (go_at_call 19; exact (HG2.out _ (below_over _ _)).mono (fun e w' h => ⟨h.1, _, below_eq_over h.2⟩))))))
        refine wpQuiet_nil ?_
        intro w9 hb9
        have HB9 := Lib.hid hb9
        clear hb9
        go_wp2_with fail
        go_roundw
        case rel => exact ⟨i + 1, by go_num, HLT2.out, by have := HLT.out; omega, HB8.out.trans (HB9.out.mono HB8.out.size), a + 1 + 1, by rw [HAA.out]; push_cast; omega, HN8.out.below HB9.out⟩
        case measure => (have hq := HLT2.out; simp [intOf]; omega)
      · have e3 : decide ((i : Int) < 20) = false := decide_eq_false (by omega)
        have e4 : decide (i < 20) = false := decide_eq_false hlt2
        clear hlt hlt2
        go_wp2_with fail
        go_ret
        exact ⟨rfl, HBW.out⟩
    · have e1 : decide ((i : Int) ≤ (codes.length : Int)) = false := decide_eq_false (by omega)
      have e2 : decide (i ≤ codes.length) = false := decide_eq_false hlt
      clear hlt
      go_wp2_with fail
      go_ret
      exact ⟨rfl, HBW.out⟩
end Go.Proofs.Ytcifoallahmjbaa
