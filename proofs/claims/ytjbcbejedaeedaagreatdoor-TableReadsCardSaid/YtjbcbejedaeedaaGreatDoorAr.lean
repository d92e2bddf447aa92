/- Package table: Show: walked. Package table: seen: walked. -/
import Derived.Test.YtjbcbejedaeedaaGreatDoorAp
import Derived.Test.YtjbcbejedaeedaaGreatDoorAk
import Derived.Test.YtjbcbejedaeedaaGreatDoorAg
import Derived.Test.YtjbcbejedaeedaaGreatDoorAa
/-! Package table: Show: walked. -/
namespace Go.Proofs.YtjbcbejedaeedaaGreatDoor
open Go.RowKit

/-- between two rounds -/
def ShRel (xs : List Int) (w : World) (k : Nat) (v : Value) (W : World) : Prop :=
  k ≤ xs.length ∧ W.ownsRow w.heap.size 9 1 v k ((xs.take k).map fun r => Value.string (mkB (show1 r))) ∧ Below w.heap.size w W
set_option maxHeartbeats 4000000 in
set_option maxRecDepth 100000 in
theorem tshow_any (R : Nat → Prop) (xs : List Int) (v : Value) (w : World) (hv : IntsIn R .i32 w v xs) (hl : xs.length ≤ 1000000) (hm : ML w) :
    Calls Tryz.prog 34 #[v] w fun e w' => e = .returned (.string (mkB (showW xs))) ∧ Below w.heap.size w w' := by
  have HV := Lib.hid hv
  have HM := Lib.hid hm
  obtain ⟨i0, hi, hz0, hz1, hz2⟩ := info_parts Tryz.infoS9
  obtain ⟨p, cap, rfl, hcap, hc⟩ := hv
  have HC : Hid (∀ (W : World), Below w.heap.size w W → ∀ (i : Nat) r, xs[i]? = some r → ∃ b o, p = some ⟨b, o, none⟩ ∧ b < W.heap.size ∧ W.cell? ⟨b, o + i, none⟩ = some (.int .i32 r)) := by
    show ∀ W, _
    intro W hb i r hr
    obtain ⟨b, o, e, _, hl, hcc⟩ := hc i r hr
    exact ⟨b, o, e, Nat.lt_of_lt_of_le hl hb.size, (hb.cell (p := ⟨b, o + i, none⟩) hl).trans hcc⟩
  clear hc
  obtain ⟨n, hn⟩ : ∃ n, n = xs.length := ⟨_, rfl⟩
  rw [← hn] at hl hcap HV ⊢
  have HN := Lib.hid hn
  clear hn hm
  go_enter Tryz.func34, Tryz.ntmps34
  go_wp2_with fail
  go_loopw [3, 9] (fun ov iv wr => ∃ k : Nat, iv = .int .i64 k ∧ k ≤ n ∧ ShRel xs w k ov wr) (fun _ iv _ => n - (intOf iv).toNat)
  case atStart => exact ⟨0, rfl, Nat.zero_le _, Nat.zero_le _, World.ownsRow_nil _ _ _ _, Below.refl _ _⟩
  case round =>
    obtain ⟨k, rfl, hk, hr⟩ := hrel
    have HR := Lib.hid hr
    clear hr
    by_cases hlt : k < n
    · have g1 : (k : Int) < (n : Int) := by omega
      obtain ⟨r, hr⟩ : ∃ r, xs[k]? = some r := ⟨_, List.getElem?_eq_getElem (by have := HN.out; omega)⟩
      obtain ⟨b, o, rfl, hbl, c0⟩ := HC.out wr HR.out.2.2 k r hr
      have HRR := Lib.hid hr
      clear hr
      obtain ⟨q, hq⟩ : ∃ q : Nat, r % 4294967296 = (q : Int) := ⟨(r % 4294967296).toNat, by omega⟩
      have hq1 : q < 4294967296 := by omega
      have HQ : Hid (show1 r = List.replicate (4 - (up16 q).length) 48 ++ up16 q) := by
        show _ = _
        unfold show1
        rw [hq]; rfl
      have hul := up16_len q hq1
      have HL1 : Hid ((mkB (hexL q)).size ≤ 1000000) := by show _ ≤ _; rw [size_mkB]; have h := hul.2; unfold up16 at h; rw [List.length_map] at h; omega
      have HAS : Hid (∀ b ∈ (mkB (hexL q)).data.toList, b.toNat < 128) := by show ∀ b, _; rw [data_mkB]; exact hexL_ascii q
      have HUP : Hid ((mkB (hexL q)).data.toList.map upB = up16 q) := by show _ = _; rw [data_mkB]; rfl
      have HQ1 := Lib.hid hq1
      obtain ⟨u, hu⟩ : ∃ u, u = (up16 q).length := ⟨_, rfl⟩
      rw [← hu] at hul HQ
      have hsz : (mkB (up16 q)).size = u := by rw [size_mkB, hu]
      have HSZ := Lib.hid hsz
      obtain ⟨hu1, hu2⟩ := hul
      clear hu hsz hq1
      go_wp2_with fail
      refine (formatUint_any q HQ1.out wr (HM.out.below HR.out.2.2)).mono ?_
      rintro e w1 ⟨rfl, hb1⟩
      have HB1 : Hid (Below w.heap.size w w1) := HR.out.2.2.trans (hb1.mono HR.out.2.2.size)
      have HR1 := Lib.hid (ownsRow_growT HR.out.2.1 hb1)
      clear hb1
      go_wp2_with fail
      refine (toUpper_any _ w1 HL1.out HAS.out).mono ?_
      rw [HUP.out]
      rintro e w2 ⟨rfl, hb2⟩
      have HB2 : Hid (Below w.heap.size w w2) := HB1.out.trans (hb2.mono HB1.out.size)
      have HR2 := Lib.hid (ownsRow_growT HR1.out hb2)
      have hsz := HSZ.out
      have hmx : max (0 : Int) (4 - (u : Int)) = ((4 - u : Nat) : Int) := by omega
      have hk3 : 4 - u ≤ 3 := by omega
      have HRP := Lib.hid (repeat0_any (4 - u) hk3)
      have HAP : Hid (mkB (List.replicate (4 - u) 48) ++ mkB (up16 q) = mkB (show1 r)) := by
        show _ = _
        rw [HQ.out]
        apply ByteArray.ext
        apply Array.ext'
        simp [mkB]
      have hrs : (mkB (List.replicate (4 - u) 48)).size ≤ 3 := by rw [size_mkB, List.length_replicate]; exact hk3
      generalize 4 - u = d at *
      clear hb2 hq hk3 HQ HB1 HR1
      go_wp2_with fail
      refine (HRP.out w2).mono ?_
      rintro e w' ⟨rfl, rfl⟩
      have HS : Hid (w.heap.size ≤ w2.heap.size) := HB2.out.size
      have HKL : Hid (k ≤ 1000000) := by show _ ≤ _; omega
      go_wp2_with (at_builtin; refine wpList_append_own _ rfl _ _ 95 rfl w.heap.size 9 i0 (.string ByteArray.empty) 1 16 Tryz.underlying95 hi hz0 hz1 hz2 rfl (by decide) _ _ _ rfl (HR2.out.alloc _) ⟨w2.heap.size, 0, none⟩ 1 1 [.string (mkB (List.replicate d 48) ++ mkB (up16 q))] rfl rfl (cell_one_newT _ _ _) (by simp [Value.oneCell']) (by unfold maxLen; have := HKL.out; omega) (by have := HKL.out; omega) (by simp; exact Nat.le_succ_of_le HS.out) ?_; intro v' w3 hown' hgrow _)
      rw [HAP.out] at hown'
      have HR3 : Hid (ShRel xs w (k + 1) v' w3) := by
        refine ⟨by have := HN.out; omega, ?_, (HB2.out.alloc HS.out _).grown hgrow (by have := HS.out; simp; omega) (fun j hj => (HR2.out.lt j hj).1)⟩
        rw [take_snocR HRR.out, List.map_append]
        exact hown'
      clear hown' hgrow
      go_wp2
      go_roundw
      case rel => exact ⟨k + 1, by go_num, by omega, HR3.out⟩
      case measure => simp [intOf]; omega
    · have g1 : ¬ (k : Int) < (n : Int) := by omega
      obtain rfl : k = n := by omega
      have HJ : Hid (TxtsIn (fun b => w.heap.size ≤ b) wr u3 (xs.map show1)) := by
        have hown := HR.out.2.1
        rw [List.take_of_length_le (by rw [← HN.out]; exact Nat.le_refl _)] at hown
        have hown2 := hown
        rcases hown.2 with ⟨rfl, h0⟩ | ⟨g, cap', cur, rfl, h1, h2, h3, _⟩
        · have : xs = [] := List.eq_nil_of_length_eq_zero (by rw [← HN.out]; exact h0)
          subst this
          exact ⟨none, 0, rfl, Nat.le_refl _, fun i x hx => by simp at hx⟩
        · refine ⟨some ⟨g, 0, none⟩, cap', by rw [List.length_map, ← HN.out], by rw [List.length_map, ← HN.out]; exact h3, fun i x hx => ⟨g, 0, rfl, h1, (Array.getElem?_eq_some_iff.1 h2).1, ?_⟩⟩
          rw [List.getElem?_map] at hx
          obtain ⟨r, hr, rfl⟩ := Option.map_eq_some_iff.1 hx
          have hc := hown2.cells (g := g) rfl i (.string (mkB (show1 r))) (by rw [List.getElem?_map, hr]; rfl)
          rw [addr_add] at hc; exact hc
      have HLL : Hid ((xs.map show1).length ≤ 1000000 ∧ ∀ x ∈ xs.map show1, x.length ≤ 1000) := by
        refine ⟨by rw [List.length_map, ← HN.out]; exact hl, fun x hx => ?_⟩
        obtain ⟨r, _, rfl⟩ := List.mem_map.1 hx
        have := (show1_len r).2
        omega
      have HSH : Hid (joinW (xs.map show1) = showW xs) := rfl
      have HBR : Hid (Below w.heap.size w wr) := HR.out.2.2
      clear hlt
      go_wp2_with fail
      refine (join_any _ _ _ wr HJ.out HLL.out.1 HLL.out.2).mono ?_
      rw [HSH.out]
      rintro e w3 ⟨rfl, hb3⟩
      have HB3 : Hid (Below w.heap.size w w3) := HBR.out.trans (hb3.mono HBR.out.size)
      clear hb3
      go_wp2_with fail
      go_ret
      exact ⟨rfl, HB3.out⟩
end Go.Proofs.YtjbcbejedaeedaaGreatDoor
/-! Package table: seen: walked. -/
namespace Go.Proofs.YtjbcbejedaeedaaGreatDoor
open Go.RowKit

abbrev SMp (w : World) (b n : Nat) (f : Bs → Int) : Prop := KMap Tryz.prog 9 w b n f
theorem zeroI (w : World) : (zeroValue 3).run Tryz.prog w = .ok (.int .i64 0) w := by kernel_rfl
theorem only_grownK {S : Nat → Prop} {a b c : World} {j : Nat} (h : Only S a b) (hg : b.grownBy c (some j)) (hj : S j) : Only S a c :=
  ⟨hg.os.trans h.os, hg.tape.trans h.tape, hg.output.trans h.output, Nat.le_trans h.size hg.size, fun k hk hn => (hg.block k (Nat.lt_of_lt_of_le hk h.size) (fun e => by injection e with e; subst e; exact hn hj)).trans (h.block k hk hn)⟩
/-- seen's answer, and what it leaves -/
def SeenEnd (b n : Nat) (f : Bs → Int) (k : Bs) (w : World) (e : Ending) (w' : World) : Prop :=
  e = .returned (.bool (decide (f k = 0))) ∧ SMp w' b (n + 1) (fun q => if q = k then f k + 1 else f q) ∧ Only (fun i => i = b) w w'
set_option maxHeartbeats 4000000 in
set_option maxRecDepth 100000 in
theorem seen_any (R : Nat → Prop) (b n : Nat) (f : Bs → Int) (xs : List Int) (v : Value) (w : World) (hv : IntsIn R .i32 w v xs) (hl : xs.length ≤ 1000000) (hm : ML w) (hk : SMp w b n f) (hn : n ≤ 1000000000) (hf : ∀ k, 0 ≤ f k ∧ f k ≤ 1000000000) :
    Calls Tryz.prog 52 #[.map (some b), v] w (SeenEnd b n f (showW xs) w) := by
  have HS := Lib.hid (tshow_any R xs v w hv hl hm)
  have HK := Lib.hid hk
  have HKL : Hid ((showW xs).length ≤ maxLen) := by show _ ≤ _; have := showW_len xs; unfold maxLen; omega
  have HF := Lib.hid hf
  generalize showW xs = k at *
  obtain ⟨f0, f1⟩ := HF.out k
  obtain ⟨c, hc⟩ : ∃ c, c = f k := ⟨_, rfl⟩
  rw [← hc] at f0 f1
  have HC := Lib.hid hc
  have HN := Lib.hid hn
  clear hc hk hm hv hl hf hn
  go_enter Tryz.func52, Tryz.ntmps52
  go_wp2_with fail
  refine HS.out.mono ?_
  rintro e w1 ⟨rfl, hb1⟩
  have hk1 : SMp w1 b n f := HK.out.same (hb1.block b HK.out.lt)
  have HB1 := Lib.hid hb1
  have hl1 := hk1.lookup Tryz.underlying9 Tryz.underlying51 zeroI k HKL.out
  rw [← HC.out] at hl1
  obtain ⟨w2, hu, hk2, hg⟩ := hk1.update Tryz.underlying9 Tryz.underlying51 (by unfold maxLen; have := HN.out; omega) k HKL.out (c + 1)
  have hl2 := hk2.lookup Tryz.underlying9 Tryz.underlying51 zeroI k HKL.out
  simp only [if_true] at hl2
  have HK2 := Lib.hid hk2
  have HG := Lib.hid hg
  clear hb1 hk1 hk2 hg HS HK
  go_wp2_with fail
  go_ret
  refine ⟨?_, ?_, ?_⟩
  · show Ending.returned (Value.bool (c + 1 == 1)) = _
    rw [← HC.out]
    congr 2
    rw [Bool.eq_iff_iff]; simp; omega
  · rw [← HC.out]; exact HK2.out
  · exact only_grownK ((Only.refl _ w).below HB1.out) HG.out rfl
end Go.Proofs.YtjbcbejedaeedaaGreatDoor
