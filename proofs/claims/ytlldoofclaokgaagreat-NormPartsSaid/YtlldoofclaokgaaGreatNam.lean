/- Package norms: Decomp, Class, Starter of data that Load made. -/
import Derived.Test.YtlldoofclaokgaaGreatNal
namespace Go.Proofs.YtlldoofclaokgaaGreat
open Go.RowKit

set_option maxHeartbeats 1000000 in
set_option maxRecDepth 100000 in
theorem rclone_ok (R : Nat → Prop) (xs : List Int) (v : Value) (w : World) (hv : IntsIn R .i32 w v xs) (hne : 0 < xs.length) (hl : xs.length ≤ 1000000000) :
    Calls Tryz.prog 51 #[v] w fun e w' => (∃ v, e = .returned v ∧ w'.ownsRow w.heap.size 21 1 v xs.length (xs.map (Value.int .i32))) ∧ Below w.heap.size w w' := by
  obtain ⟨i0, hi, hz0, hz1, hz2⟩ := info_parts Tryz.infoI32
  have HV : Hid (IntsIn (fun b => R b ∧ b < w.heap.size) .i32 w v xs) := hv.mono (fun b h1 h2 => ⟨h1, h2⟩)
  obtain ⟨b, o, cp, rfl, _, _, _⟩ := hv.place hne
  have he : ∀ w, (binOp .eql 48 (.slice (some ⟨b, o, none⟩) xs.length cp) (.slice none 0 0)).run Tryz.prog w = .ok (.bool false) w := fun w => Lib.run_eql_slice_nil w _ _ (some ⟨b, o, none⟩) _ cp 0 0 Tryz.underlying48
  have hal : Below w.heap.size w (w.alloc (.cells #[] 21)) := (Below.refl _ w).alloc (Nat.le_refl _) _
  have HR : Hid ((w.alloc (.cells #[] 21)).ownsRow w.heap.size 21 1 (.slice (some ⟨w.heap.size, 0, none⟩) 0 0) 0 []) := World.ownsRow_lit w #[] 0 (Nat.le_refl _) (by decide) rfl
  obtain ⟨_, _, _, e, _, _, hc⟩ := (HV.out.kept (Kept.below hal)).place hne
  cases e
  have HC := Lib.hid hc
  have hz : w.heap.size ≤ (w.alloc (.cells #[] 21)).heap.size := by simp
  have HAL := Lib.hid hal
  clear hv hc hal
  go_enter Tryz.func51, Tryz.ntmps51
  go_wp2_with (at_builtin; refine app_stop ⟨_, _, rfl⟩ ?_)
  refine Lib.hid ?_
  refine wpList_append_own _ rfl _ _ 48 rfl (w.heap.size) 21 i0 (.int .i32 0) 1 4 Tryz.underlying48 hi hz0 hz1 hz2 rfl (by decide) (.slice (some ⟨w.heap.size, 0, none⟩) 0 0) 0 [] rfl HR.out ⟨b, o, none⟩ xs.length cp (xs.map (Value.int .i32)) rfl (by simp) (news_of HC.out) (by simp [Value.oneCell']) (by unfold maxLen; omega) (by omega) hz ?_
  intro v5 w5 hr5 hg5 _
  have hr5' : w5.ownsRow w.heap.size 21 1 v5 xs.length (xs.map (Value.int .i32)) := by simpa using hr5
  have HR5 := Lib.hid hr5'
  have HB5 : Hid (Below w.heap.size w w5) := HAL.out.grown hg5 HAL.out.size (fun j hj => by
    have : some w.heap.size = some j := hj
    simp at this; omega)
  clear hr5 hr5' hg5 hz
  go_wp2
  refine bodyPost_ret (v := v5) (by simp [results, Tryz.results51, go_sem]) rfl ⟨⟨v5, rfl, HR5.out⟩, HB5.out⟩
theorem NoAt.put {W : World} {pb : Nat} {cv dv full : Value} {dn mu : Int} (h : NoAt W pb cv dv dn mu full) (x : Int) : NoAt (W.setCell ⟨pb, 4, none⟩ (.int .i32 x)) pb cv dv dn x full := by
  unfold NoAt at *
  unfold World.setCell
  simp [Array.getElem?_modify, h]
theorem NoAt.putD {W : World} {pb : Nat} {cv dv full : Value} {dn mu : Int} (h : NoAt W pb cv dv dn mu full) (x : Int) : NoAt (W.setCell ⟨pb, 3, none⟩ (.int .u32 x)) pb cv dv x mu full := by
  unfold NoAt at *
  unfold World.setCell
  simp [Array.getElem?_modify, h]
/-- data in memory whose map is made -/
def NrmD (R : Nat → Prop) (W : World) (pb : Nat) (c d : List T3) (mb : Nat) : Prop :=
  ∃ cv dv, NoAt W pb cv dv 1 0 (.map (some mb)) ∧ mb ≠ pb ∧ mb < W.heap.size ∧ FullAt (fun b => R b ∧ b ≠ pb) W mb d d
theorem kept_setCell {R : Nat → Prop} {W : World} {pb o : Nat} {v : Value} (h : ∀ b, R b → b ≠ pb) : Kept R W (W.setCell ⟨pb, o, none⟩ v) := ⟨by simp, fun b hb _ => Below.heap_setCell _ _ _ _ (h b hb)⟩
set_option maxHeartbeats 1000000 in
set_option maxRecDepth 100000 in
theorem do_any (R : Nat → Prop) (pb : Nat) (c d : List T3) (w : World) (hR : ∀ b, w.heap.size ≤ b → R b) (h : Nrm R w pb c d) :
    Calls Tryz.prog 49 #[.pointer (some ⟨pb, 3, none⟩), .func (.func 50) #[.pointer (some ⟨pb, 0, none⟩)] #[]] w fun e w' => e = .returned (.tuple #[]) ∧ Nrm R w' pb c d ∧ (∃ mb, NrmD R w' pb c d mb) ∧ Only (fun k => k = pb) w w' := by
  obtain ⟨hr, ho, cv, dv, h1, h2, hn | ⟨mb, hn, hm, hne, hml, hf⟩⟩ := h
  · obtain ⟨_, _, _, c3, c4, _, fz⟩ := hn.cells
    refine (once_first pb 3 50 (.pointer (some ⟨pb, 0, none⟩)) (fun w' => (∃ mb, NoAt w' pb cv dv 0 1 (.map (some mb)) ∧ w.heap.size ≤ mb ∧ mb < w'.heap.size ∧ FullAt (fun b => R b ∧ b ≠ pb) w' mb d d) ∧ Only (fun k => k = pb) w w') w (enters_of Tryz.func50 (by kernel_rfl) rfl) c3 c4 (fz 4) ?_ ?_).mono ?_
    · refine (reckon_ok R pb c d dv cv _ (fun b hb => hR b (by simpa using hb)) (hn.put 1) (h2.kept (kept_setCell (fun b hb => hb.2))) ho).mono ?_
      rintro e w' ⟨he, ⟨mb, k1, k2, k3, k4⟩, k5⟩
      exact ⟨he, ⟨mb, k1, by simpa using k2, k3, k4⟩, ((Only.refl (fun k => k = pb) w).setCell (p := ⟨pb, 4, none⟩) rfl _).trans k5⟩
    · rintro w' ⟨⟨mb, k1, _⟩, _⟩
      obtain ⟨_, _, _, q3, q4, _, qf⟩ := k1.cells
      exact ⟨q3, q4, qf 3, qf 4⟩
    · rintro e w' ⟨he, w1, ⟨⟨mb, k1, k2, k3, k4⟩, k5⟩, rfl⟩
      have hn' : NoAt ((w1.drew.setCell ⟨pb, 3, none⟩ (.int .u32 1)).setCell ⟨pb, 4, none⟩ (.int .i32 0)) pb cv dv 1 0 (.map (some mb)) := (NoAt.putD (W := w1.drew) k1 1).put 0
      have hk : Kept (fun b => R b ∧ b ≠ pb) w1 ((w1.drew.setCell ⟨pb, 3, none⟩ (.int .u32 1)).setCell ⟨pb, 4, none⟩ (.int .i32 0)) :=
        Kept.trans (b := w1.drew.setCell ⟨pb, 3, none⟩ (.int .u32 1)) ⟨by simp, fun b hb _ => Below.heap_setCell w1.drew _ _ _ hb.2⟩ (kept_setCell (fun b hb => hb.2))
      have hlt := hn.lt
      have hmb : mb ≠ pb := by omega
      have hk0 : Kept (fun b => R b ∧ b ≠ pb) w w1 := Kept.only k5 (fun b hb e => hb.2 e)
      have hff : FullAt (fun b => R b ∧ b ≠ pb) ((w1.drew.setCell ⟨pb, 3, none⟩ (.int .u32 1)).setCell ⟨pb, 4, none⟩ (.int .i32 0)) mb d d := k4.kept hk (hk.2 mb ⟨hR mb k2, hmb⟩ k3)
      have hml : mb < ((w1.drew.setCell ⟨pb, 3, none⟩ (.int .u32 1)).setCell ⟨pb, 4, none⟩ (.int .i32 0)).heap.size := by simpa using k3
      refine ⟨he, ⟨hr, ho, cv, dv, (h1.kept hk0).kept hk, (h2.kept hk0).kept hk, .inr ⟨mb, hn', hR mb k2, hmb, hml, hff⟩⟩, ⟨mb, cv, dv, hn', hmb, hml, hff⟩, ?_⟩
      exact (k5.drew.setCell (p := ⟨pb, 3, none⟩) rfl _).setCell (p := ⟨pb, 4, none⟩) rfl _
  · obtain ⟨_, _, _, c3, _⟩ := hn.cells
    refine (once_done pb 3 _ w c3).mono ?_
    rintro e w' ⟨he, rfl⟩
    exact ⟨he, ⟨hr, ho, cv, dv, h1, h2, .inr ⟨mb, hn, hm, hne, hml, hf⟩⟩, ⟨mb, cv, dv, hn, hne, hml, hf⟩, Only.refl _ _⟩
/-- runes of memory of one's own -/
def RunesTold (pb : Nat) (R : Nat → Prop) (c d : List T3) (L : List Int) (w : World) (e : Ending) (w' : World) : Prop :=
  (∃ v, e = .returned v ∧ w'.ownsRow w.heap.size 21 1 v L.length (L.map (Value.int .i32))) ∧ Nrm R w' pb c d ∧ Only (fun k => k = pb) w w'
theorem Nrm.cell0 {R : Nat → Prop} {W : World} {pb : Nat} {c d : List T3} (h : Nrm R W pb c d) : W.cell? ⟨pb, 0, none⟩ = some (.int .i64 1) := by
  obtain ⟨_, _, cv, dv, _, _, h | ⟨mb, h, _⟩⟩ := h <;> exact h.cells.1
theorem deep_hang {d : List T3} {r : Int} (k : Nat) (h : hang r ≠ []) : (deep d k r).1 = hang r := by unfold deep; rw [if_pos h]
theorem deep_pos {c d : List T3} {r : Int} (h : dataOk c d = true) : ∀ x ∈ d, x.1 = r → 0 < (deep d 4 r).1.length := by
  intro x hx hxr
  have := (data_parts h).2.2.2.2 x hx
  unfold decTwo at this
  simp only [Bool.and_eq_true] at this
  rw [← hxr]
  exact List.length_pos_iff.2 (deep_ne 4 x.1 this.1.2)
theorem deep_none {d : List T3} {r : Int} (k : Nat) (h : hang r = []) (hn : dOne d r = none) : (deep d k r).1 = [r] := by unfold deep; rw [if_neg (by simp [h]), hn]
set_option maxHeartbeats 2000000 in
set_option maxRecDepth 100000 in
theorem decomp_any (R : Nat → Prop) (pb : Nat) (c d : List T3) (r : Int) (w : World) (hR : ∀ b, w.heap.size ≤ b → R b) (h : Nrm R w pb c d) (hr : -2147483648 ≤ r ∧ r ≤ 2147483647) :
    Calls Tryz.prog 14 #[.pointer (some ⟨pb, 0, none⟩), .int .i32 r] w (RunesTold pb R c d (deep d 4 r).1 w) := by
  have hmf : ∀ (fn : Fn) (first cap : Array Value) (w : World), (Instr.makeFunc fn first cap).run Tryz.prog w = .ok (.func fn first cap) w := fun _ _ _ _ => rfl
  have his := nIs_any pb w h.cell0
  have H := Lib.hid h
  by_cases hh : hang r ≠ []
  · have hy := hangul_yes r (hang_in hh).1 (hang_in hh).2 w
    have HL := Lib.hid (hang_len r (hang_in hh).1 (hang_in hh).2)
    rw [deep_hang 4 hh]
    clear hh hR h
    go_enter Tryz.func14, Tryz.ntmps14
    go_wp2_with fail
    refine his.mono ?_
    rintro e w' ⟨rfl, rfl⟩
    go_wp2_with fail
    refine hy.mono ?_
    rintro e w1 ⟨v, rfl, hr1, hb1⟩
    obtain ⟨m, hm⟩ := HL.out
    have hr' := hr1
    rw [hm] at hr'
    obtain ⟨g, cap, rfl⟩ := ownsRow_succ hr'
    have HR1 := Lib.hid hr1
    clear hy his hr1 hr' hm
    go_wp2_with fail
    go_ret
    exact ⟨⟨_, rfl, HR1.out⟩, H.out.below hb1, (Only.refl _ _).below hb1⟩
  · have h0 : hang r = [] := Decidable.not_not.1 hh
    have hout := hang_out h0
    have hno := hangul_no r hout w
    have hdo := do_any R pb c d w hR h
    have hlt := h.lt
    have HNE : Hid (∀ x ∈ d, x.1 = r → 0 < (deep d 4 r).1.length) := deep_pos h.2.1
    clear hh hout h
    go_enter Tryz.func14, Tryz.ntmps14
    go_wp2_with fail
    refine his.mono ?_
    rintro e w' ⟨rfl, rfl⟩
    go_wp2_with fail
    refine hno.mono ?_
    rintro e w' ⟨rfl, rfl⟩
    clear his hno
    go_wp2_with fail
    refine hdo.mono ?_
    rintro e w1 ⟨rfl, hn1, ⟨mb, cv, dv, hno1, hmp, hml, n, f, hs, hnn, hf⟩, ho1⟩
    have HN1 := Lib.hid hn1
    have HO1 := Lib.hid ho1
    obtain ⟨_, _, _, _, _, c6, _⟩ := hno1.cells
    have hz : ∀ w, (zeroValue 48).run Tryz.prog w = .ok (.slice none 0 0) w := fun w => by kernel_rfl
    have hlook := hs.lookup (t := 44) (e := 48) Tryz.underlying21 Tryz.underlying44 hz r (wf_i32n hr)
    rcases hf r with ⟨hf0, hnone⟩ | ⟨g, cap, hf1, hsome, hi⟩
    · rw [hf0] at hlook
      have HD : Hid ((deep d 4 r).1 = [r]) := deep_none 4 h0 (find_no _ d fun i y hy => by
        have := hnone y (List.mem_of_getElem? hy)
        simpa using this)
      unfold slV at hlook
      simp only [Option.isSome_none] at hlook
      clear hdo hn1 ho1 hno1 hs hf hf0 hnone hr h0
      go_wp2_with fail
      go_ret
      rw [HD.out]
      have hz1 := HO1.out.size
      have hb2 : Below w1.heap.size w1 (w1.alloc (.cells #[.int .i32 r] 21)) := (Below.refl _ w1).alloc (Nat.le_refl _) _
      refine ⟨⟨_, rfl, World.ownsRow_lit (base := w.heap.size) (e := 21) (size := 1) w1 #[.int .i32 r] 1 hz1 (by decide) rfl⟩, HN1.out.below hb2, HO1.out.below hb2⟩
    · rw [hf1] at hlook
      unfold slV at hlook
      simp only [Option.isSome_some] at hlook
      have hll := deep_len d 4 r
      have hne : 0 < (deep d 4 r).1.length := by
        obtain ⟨x, hx, hxr⟩ := hsome
        exact HNE.out x hx hxr
      have hcl := rclone_ok _ _ _ w1 hi hne (by omega)
      clear hdo hn1 ho1 hno1 hs hf hf1 hsome hr h0
      go_wp2_with fail
      refine hcl.mono ?_
      rintro e w2 ⟨⟨v, rfl, hr2⟩, hb2⟩
      have HR2 := Lib.hid hr2
      have HB2 := Lib.hid hb2
      clear hcl hr2 hb2
      go_wp2_with fail
      go_ret
      exact ⟨⟨v, rfl, ownsRow_mono HR2.out HO1.out.size⟩, HN1.out.below HB2.out, HO1.out.below HB2.out⟩
set_option maxHeartbeats 1000000 in
set_option maxRecDepth 100000 in
theorem nClass_any (R : Nat → Prop) (pb : Nat) (c d : List T3) (r : Int) (w : World) (h : Nrm R w pb c d) :
    Calls Tryz.prog 15 #[.pointer (some ⟨pb, 0, none⟩), .int .i32 r] w fun e w' => e = .returned (.int .i64 (clsOf c r)) ∧ Below w.heap.size w w' := by
  have his := nIs_any pb w h.cell0
  obtain ⟨hr, ho, cv, dv, h1, h2, h3⟩ := h
  obtain ⟨hcl, _, hc, _⟩ := data_parts ho
  have c1 : w.cell? ⟨pb, 1, none⟩ = some cv := by rcases h3 with h | ⟨mb, h, _⟩ <;> exact h.cells.2.1
  have hco := classOf_any _ c cv r w h1 hc hcl
  clear h1 h2 h3 hc ho
  go_enter Tryz.func15, Tryz.ntmps15
  go_wp2_with fail
  refine his.mono ?_
  rintro e w' ⟨rfl, rfl⟩
  clear his
  go_wp2_with fail
  refine hco.mono ?_
  rintro e w1 ⟨rfl, hb1⟩
  clear hco
  go_wp2_with fail
  go_ret
  exact ⟨rfl, hb1⟩
set_option maxHeartbeats 1000000 in
set_option maxRecDepth 100000 in
theorem nStarter_any (R : Nat → Prop) (pb : Nat) (c d : List T3) (r : Int) (w : World) (h : Nrm R w pb c d) :
    Calls Tryz.prog 16 #[.pointer (some ⟨pb, 0, none⟩), .int .i32 r] w fun e w' => e = .returned (.bool (clsOf c r == 0)) ∧ Below w.heap.size w w' := by
  have hco := nClass_any R pb c d r w h
  clear h
  generalize clsOf c r = k at *
  go_enter Tryz.func16, Tryz.ntmps16
  go_wp2_with fail
  refine hco.mono ?_
  rintro e w1 ⟨rfl, hb1⟩
  clear hco
  go_wp2_with fail
  go_ret
  exact ⟨rfl, hb1⟩
end Go.Proofs.YtlldoofclaokgaaGreat
