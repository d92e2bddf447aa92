/- Package valid: forms: walked. slices.ContainsFunc at []api.Element; the tests of package valid's variable: walked. -/
import Derived.Test.YtnglhgogkemgbaaGreatDoorG38
import Derived.Test.YtnglhgogkemgbaaGreatDoorG39
import Derived.Test.YtnglhgogkemgbaaGreatDoorG33
import Derived.Deep.RegionHeld
import Derived.Deep.QuietTactic
import Derived.BigQuiet
namespace Go.Proofs.YtnglhgogkemgbaaGreatDoor
open Go.RowKit

theorem slice_to32 (w : World) (p : Option Addr) (len cap j : Nat) (hj : j ≤ cap) : (Instr.sliceAt 42 (.slice p len cap) none (some (.int .i64 j)) none).run Tryz.prog w = .ok (sliced p 0 j cap 1) w := by
  have he : Tryz.prog.elem 42 = 21 := by kernel_rfl
  rw [run_sliceAt_slice w 42 _ _ _ _ (by rw [he]; exact Tryz.underlying42), run_slice_h w 42 p len cap (by rw [he]; exact Tryz.underlying42) .i64 j (by omega) (by omega), he]
  have hz : (sizeOf 21).run Tryz.prog w = .ok 1 w := by kernel_rfl
  rw [hz]
  simp [Result.andThen]
theorem idx_any (es : List Ent) (l : List Int) : (idx es l).isSome = es.any (fun y => y.1 == l) := by unfold idx; simp
/-- the entry's own length, its last code point, and what stands ahead -/
theorem preV_short {cls : Int → Int} {es : List Ent} {x : Ent} (h : x.1.length < 3) : preV cls es x = true := by unfold preV; rw [decide_eq_true h]; rfl
theorem preV_long {cls : Int → Int} {es : List Ent} {x : Ent} {k : Nat} {r : Int} (hk : x.1.length = k + 1) (h2 : 2 ≤ k) (hr : x.1[k]? = some r) : preV cls es x = (decide (cls r = 0) || (idx es (x.1.take k)).isSome) := by
  unfold preV
  rw [decide_eq_false (by omega), Bool.false_or, idx_any, List.dropLast_eq_take, hk, Nat.add_sub_cancel]
  congr 2
  have : x.1.getLastD 0 = r := by
    rw [List.getLastD_eq_getLast?, List.getLast?_eq_getElem?, hk, Nat.add_sub_cancel, hr]; rfl
  rw [this]
theorem frmZ_bad {cls : Int → Int} {isN : List Int → Bool} {es : List Ent} {x : Ent} (h : isN x.1 = false) : frmZ cls isN es x = 113 := by unfold frmZ; rw [if_neg (by rw [h]; decide)]
theorem frmZ_ok {cls : Int → Int} {isN : List Int → Bool} {es : List Ent} {x : Ent} (h : isN x.1 = true) (h2 : preV cls es x = true) : frmZ cls isN es x = 0 := by unfold frmZ; rw [if_pos h, if_pos h2]
theorem frmZ_pre {cls : Int → Int} {isN : List Int → Bool} {es : List Ent} {x : Ent} (h : isN x.1 = true) (h2 : preV cls es x = false) : frmZ cls isN es x = 112 := by unfold frmZ; rw [if_pos h, if_neg (by rw [h2]; decide)]
theorem cell_ltM {w : World} {b o : Nat} {v : Value} (h : w.cell? ⟨b, o, none⟩ = some v) : b < w.heap.size := by
  rcases Nat.lt_or_ge b w.heap.size with h' | h'
  · exact h'
  · simp [World.cell?, Array.getElem?_eq_none h'] at h
theorem below_drewM (w : World) : ∀ n, Below w.heap.size w (w.drewN n)
  | 0 => Below.refl _ _
  | n + 1 => (below_drewM w n).drew
/-- between two entries -/
structure FRel (Rn : Nat → Prop) (pb tb B : Nat) (c d : List T3) (es : List Ent) (F : Ent → Int) (N : NMap) (root : Nat) (lv : Value) (n : Nat) (vs : List (Value × Value)) (w : World) (k : Nat) (wr : World) : Prop where
  ask : ∃ a : Int, 0 ≤ a ∧ a ≤ k ∧ NewAt B wr tb es es (es.map (·.1)) N root lv n a vs
  nrm : Nrm Rn wr pb c d
  only : Only (fun i => i = pb ∨ i = tb) w wr
  ok : ∀ (j : Nat) x, j < k → es[j]? = some x → F x = 0
section
variable {Rn : Nat → Prop} {pb tb B : Nat} {c d : List T3} {es : List Ent} {F : Ent → Int} {N : NMap} {root : Nat} {lv : Value} {n : Nat} {vs : List (Value × Value)} {w wr W W5 : World} {k : Nat}
theorem FRel.below (h : FRel Rn pb tb B c d es F N root lv n vs w k wr) (hb : Below wr.heap.size wr W) : FRel Rn pb tb B c d es F N root lv n vs w k W := by
  obtain ⟨a, h0, h1, h2⟩ := h.ask
  exact ⟨⟨a, h0, h1, h2.below hb⟩, h.nrm.below hb, h.only.below hb, h.ok⟩
theorem FRel.isd (h : FRel Rn pb tb B c d es F N root lv n vs w k wr) (ho : Only (fun i => i = pb) wr W) (hn : Nrm Rn W pb c d) (hpB : pb < B) : FRel Rn pb tb B c d es F N root lv n vs w k W := by
  obtain ⟨a, h0, h1, h2⟩ := h.ask
  exact ⟨⟨a, h0, h1, h2.onlyLow ho (fun k hk => by subst hk; exact hpB)⟩, hn, h.only.trans (onlyW ho (fun k hk => .inl hk)), h.ok⟩
theorem FRel.next (h : FRel Rn pb tb B c d es F N root lv n vs w k wr) {x : Ent} (hx : es[k]? = some x) (hz : F x = 0) : FRel Rn pb tb B c d es F N root lv n vs w (k + 1) wr := by
  obtain ⟨a, h0, h1, h2⟩ := h.ask
  refine ⟨⟨a, h0, by omega, h2⟩, h.nrm, h.only, fun j y hj hy => ?_⟩
  rcases Nat.lt_succ_iff_lt_or_eq.1 hj with h' | rfl
  · exact h.ok j y h' hy
  · rw [hx] at hy; cases hy; exact hz
theorem FRel.got (hRt : ∀ b, Rn b → b ≠ tb) {a : Int} (h : FRel Rn pb tb B c d es F N root lv n vs w k wr) (h0 : 0 ≤ a) (h1 : a ≤ k) (hn : NewAt B W tb es es (es.map (·.1)) N root lv n (a + 1) vs) (ho : Only (fun i => i = tb) wr W) {x : Ent} (hx : es[k]? = some x) (hz : F x = 0) : FRel Rn pb tb B c d es F N root lv n vs w (k + 1) W := by
  refine ⟨⟨a + 1, by omega, by omega, hn⟩, h.nrm.kept (Kept.only ho (fun b hb hs => hRt b hb hs)), h.only.trans (onlyW ho (fun k hk => .inr hk)), fun j y hj hy => ?_⟩
  rcases Nat.lt_succ_iff_lt_or_eq.1 hj with h' | rfl
  · exact h.ok j y h' hy
  · rw [hx] at hy; cases hy; exact hz
end
set_option maxHeartbeats 8000000 in
set_option maxRecDepth 100000 in
theorem vforms_any (Rn Re : Nat → Prop) (pb tb wb B : Nat) (c d : List T3) (es : List Ent) (N : NMap) (root : Nat) (lv : Value) (nn : Nat) (vs : List (Value × Value)) (ver : ByteArray) (rv ev : Value) (w : World)
    (hwk : WkAt w wb (.pointer (some ⟨pb, 0, none⟩)) ver rv ev (.pointer (some ⟨tb, 0, none⟩))) (hnr : Nrm Rn w pb c d) (hnew : NewAt B w tb es es (es.map (·.1)) N root lv nn 0 vs) (hpB : pb < B)
    (hev : EntsIn Re w ev es) (hRe : ∀ b, Re b → b ≠ pb ∧ b ≠ tb) (hwb : wb ≠ pb ∧ wb ≠ tb) (hok : ∀ x ∈ es, EntOk x) (hz : ∀ x ∈ es, eErr x = 0) (hl : es.length ≤ 4000) (hRn : ∀ b, w.heap.size ≤ b → Rn b) (hRt : ∀ b, Rn b → b ≠ tb) (hdo : dataOk c d = true) :
    Calls Tryz.prog 20 #[.pointer (some ⟨wb, 0, none⟩)] w fun e w' =>
      FstEnd (fstZ (frmZ (clsOf c) (isNf (clsOf c) (fun r => (deep d 4 r).1)) es) 0 es) e ∧ Nrm Rn w' pb c d ∧ Only (fun i => i = pb ∨ i = tb) w w' := by
  have HN := Lib.hid (norm_made pb c d hdo)
  have HV := Lib.hid hev
  have HW := Lib.hid hwk
  have HZ := Lib.hid hz
  have HOK := Lib.hid hok
  have HRE := Lib.hid hRe
  have HWB := Lib.hid hwb
  have htl := hnew.tlt
  have HT : Hid (∀ V, Only (fun i => i = pb ∨ i = tb) w V → WkAt V wb (.pointer (some ⟨pb, 0, none⟩)) ver rv ev (.pointer (some ⟨tb, 0, none⟩))) := fun V hV => HW.out.only hV (by have := HWB.out; omega)
  obtain ⟨c0, c1, c2, c3, c4, _, cl⟩ := hwk.cells
  obtain ⟨p, cp, rfl, _⟩ := hev
  obtain ⟨n, hn⟩ : ∃ n, n = es.length := ⟨_, rfl⟩
  rw [← hn] at HV hl HT c3
  have HNN := Lib.hid hn
  obtain ⟨F, hF⟩ : ∃ F, frmZ (clsOf c) (isNf (clsOf c) (fun r => (deep d 4 r).1)) es = F := ⟨_, rfl⟩
  have HF := Lib.hid hF
  rw [hF]
  have HST : Hid (FRel Rn pb tb B c d es F N root lv nn vs w 0 w) := ⟨⟨0, Int.le_refl _, by simp, hnew⟩, hnr, Only.refl _ _, fun j x hj => absurd hj (Nat.not_lt_zero _)⟩
  have HFN : Hid ((∀ x ∈ es, F x = 0) → FstEnd (fstZ F 0 es) (.returned (.tuple #[]))) := fun h => fst_end_none h
  have HRN := Lib.hid hRn
  have HRT := Lib.hid hRt
  have HSZ : Hid (tb < w.heap.size ∧ pb < B ∧ pb < w.heap.size) := ⟨htl, hpB, hnr.lt⟩
  clear hnr hnew hRe hwb hok hz hdo hn hF hwk htl hRn hRt hpB
  go_enter Tryz.func20, Tryz.ntmps20
  go_wp2_with fail
  go_loopw [13] (fun iv wr => ∃ k : Nat, iv = .int .i64 k ∧ k ≤ n ∧ FRel Rn pb tb B c d es F N root lv nn vs w k wr) (fun iv _ => n - (intOf iv).toNat)
  case atStart => exact ⟨0, rfl, Nat.zero_le _, HST.out⟩
  case round =>
    obtain ⟨k, rfl, hk, hr⟩ := hrel
    have HR := Lib.hid hr
    by_cases hlt : k < n
    · have q1 : (k : Int) < (n : Int) := by omega
      obtain ⟨x, hx⟩ : ∃ x, es[k]? = some x := ⟨_, List.getElem?_eq_getElem (by have := HNN.out; omega)⟩
      obtain ⟨b, o, cv, uv, rfl, hbR, hbl, d0, d1, hci, hui⟩ := (HV.out.kept (Kept.only hr.only (fun b hb hs => by have := HRE.out b hb; omega))).at k x hx
      have HC := Lib.hid hci
      have hez := eErr_zero (HZ.out x (List.mem_of_getElem? hx))
      have hx1 := hez.1
      have hx8 := hez.2.1
      have HPT := Lib.hid hez.2.2.1
      have HX := Lib.hid hx
      obtain ⟨pc, cc, rfl, _⟩ := hci
      obtain ⟨pu, cu, rfl, _⟩ := hui
      obtain ⟨m, hm⟩ : ∃ m, m = x.2.length := ⟨_, rfl⟩
      rw [← hm] at d1
      have HLT := Lib.hid hlt
      obtain ⟨l, hcl⟩ : ∃ l, l = x.1.length := ⟨_, rfl⟩
      rw [← hcl] at d0 HC hx1 hx8
      have HLL := Lib.hid hcl
      clear hx hr hlt hk hm hcl hez
      go_wp2_with fail
      have ha : Below wr.heap.size wr (wr.alloc (.cells #[.slice pc l cc, .slice pu m cu] 45)) := (Below.refl _ wr).alloc (Nat.le_refl _) _
      have e0 : (wr.alloc (.cells #[.slice pc l cc, .slice pu m cu] 45)).cell? ⟨wr.heap.size, 0, none⟩ = some (.slice pc l cc) := by rw [World.cell?_alloc_at _ _ _ _ rfl]; rfl
      have ez : wr.heap.size < (wr.alloc (.cells #[.slice pc l cc, .slice pu m cu] 45)).heap.size := by simp
      have HRA := Lib.hid (HR.out.below ha)
      have HCA := Lib.hid (HC.out.kept (Kept.below ha))
      have heb : w.heap.size ≤ wr.heap.size := HR.out.only.size
      generalize wr.alloc (.cells #[.slice pc l cc, .slice pu m cu] 45) = W0 at *
      generalize wr.heap.size = eb at *
      have HEB : Hid (w.heap.size ≤ eb) := heb
      clear ha heb
      have f0 := (HT.out _ HRA.out.only).cells.1
      have hea : Below W0.heap.size W0 W0.drew := (Below.refl _ W0).drew
      have his := normIs_any (clsOf c) (fun r => (deep d 4 r).1) (.pointer (some ⟨pb, 0, none⟩)) _ _ Rn Re x.1 (.slice pc l cc) W0.drew HN.out (fun b hb => HRN.out b (Nat.le_trans HRA.out.only.size hb)) (HCA.out.kept (Kept.below hea)) (fun b hb hs => (HRE.out b hb).1 hs) (by have := HLL.out; omega) (HRA.out.nrm.below hea)
      obtain ⟨bN, hbN⟩ : ∃ bN, isNf (clsOf c) (fun r => (deep d 4 r).1) x.1 = bN := ⟨_, rfl⟩
      rw [hbN] at his
      have HIS := Lib.hid his
      have HBN := Lib.hid hbN
      clear hbN
      clear hea his
      have hq0 : W0.drew.cell? ⟨wb, 0, none⟩ = some (.pointer (some ⟨pb, 0, none⟩)) := f0
      have hq1 : W0.drew.cell? ⟨eb, 0, none⟩ = some (.slice pc l cc) := e0
      go_region_held (fun V : World => V.cell? ⟨wb, 0, none⟩ = some (.pointer (some ⟨pb, 0, none⟩)) ∧ V.cell? ⟨eb, 0, none⟩ = some (.slice pc l cc)) (first | exact ⟨hq0, hq1⟩ | assumption) ((refine HIS.out.mono ?_; rintro e w5 ⟨rfl, hj5, ho5⟩; have HJ5 := Lib.hid hj5; have HO5 := Lib.hid ho5; have hs5 := And.intro ((World.cell?_of_block (w := W0) (a := ⟨wb, 0, none⟩) (ho5.block wb (cell_ltM f0) (by have := HWB.out; omega))).trans f0) ((World.cell?_of_block (w := W0) (a := ⟨eb, 0, none⟩) (ho5.block eb ez (by have := HSZ.out; have := HEB.out; omega))).trans e0)))
      have HR5 := Lib.hid (HRA.out.isd (((Only.refl (fun i => i = pb) W0).drew).trans HO5.out) HJ5.out HSZ.out.2.1)
      have HC5 := Lib.hid ((HCA.out.kept (Kept.below ((Below.refl _ W0).drew))).kept (Kept.only HO5.out (fun b hb hs => (HRE.out b hb).1 hs)))
      have hz5 : eb < w5.heap.size := Nat.lt_of_lt_of_le ez HO5.out.size
      obtain ⟨g0, g1⟩ := hs5
      have hcap : l ≤ cc := by obtain ⟨_, _, e, h, _⟩ := HC5.out; cases e; have := HLL.out; omega
      rename_i hdup
      clear hq0 hq1 e0 f0 hj5 ho5 HIS HJ5 HO5 HRA HCA ez hdup
      cases bN with
      | false =>
        have HT9 : Hid (FstEnd (fstZ F 0 es) (.panicked (chainV k 113))) := fst_end_at HX.out HR5.out.ok (by rw [← HF.out]; exact frmZ_bad HBN.out) (by decide)
        go_wp2_with fail
        with_reducible refine (vmust_no (k : Int) 113 (by decide) _).mono ?_
        rintro e w' ⟨rfl, rfl⟩
        go_wp2_with fail
        exact ⟨rfl, HT9.out, HR5.out.nrm, HR5.out.only⟩
      | true =>
        obtain ⟨j, hlj⟩ : ∃ j : Nat, (l : Int) - 1 = (j : Int) := ⟨l - 1, by omega⟩
        have hj7 : j ≤ 7 := by omega
        have HLJ : Hid (l = j + 1 ∧ x.1.length = j + 1) := ⟨by omega, by have := HLL.out; omega⟩
        by_cases hj2 : j < 2
        · have HZ0 : Hid (F x = 0) := by show _ = _; rw [← HF.out]; exact frmZ_ok HBN.out (preV_short (by have := HLJ.out.2; omega))
          have HNX := Lib.hid (HR5.out.next HX.out HZ0.out)
          have q3 : decide ((j : Int) < 2) = true := decide_eq_true (by omega)
          have q4 : decide (j < 2) = true := decide_eq_true hj2
          clear hj2
          go_wp2_with fail
          go_quiet (fail)
          go_wp2_with fail
          go_roundw
          case rel => exact ⟨k + 1, by go_num, HLT.out, HNX.out.below (below_drewM _ _)⟩
          case measure => (have := HLT.out; simp [intOf]; omega)
        · have q3 : decide ((j : Int) < 2) = false := decide_eq_false (by omega)
          have q4 : decide (j < 2) = false := decide_eq_false hj2
          have HJ2 : Hid (2 ≤ j) := by show _ ≤ _; omega
          obtain ⟨r, hr⟩ : ∃ r, x.1[j]? = some r := ⟨_, List.getElem?_eq_getElem (by have := HLJ.out.2; omega)⟩
          obtain ⟨p', cap', e, _, hcc⟩ := HC5.out
          injection e with e1 e2 e3
          clear e2 e3
          subst e1
          obtain ⟨cb, co, rfl, hcR, hcl, hcr⟩ := hcc j r hr
          have hjl : j < l := by have := HLJ.out.1; omega
          have HPV := Lib.hid (preV_long (cls := clsOf c) (es := es) HLJ.out.2 HJ2.out hr)
          have HSTR := Lib.hid (nStarter_any Rn pb c d r w5.drew (HR5.out.nrm.below ((Below.refl _ w5).drew)))
          obtain ⟨cz, hcz⟩ : ∃ cz, clsOf c r = cz := ⟨_, rfl⟩
          rw [hcz] at HSTR HPV
          clear hcz hr hj2 hcc
          have hq0 : w5.drew.cell? ⟨wb, 0, none⟩ = some (.pointer (some ⟨pb, 0, none⟩)) := g0
          have hq1 : w5.drew.cell? ⟨eb, 0, none⟩ = some (.slice (some ⟨cb, co, none⟩) l cc) := g1
          have hq2 : w5.drew.cell? ⟨cb, co + j, none⟩ = some (.int .i32 r) := hcr
          go_wp2_with fail
          go_region_held (fun V : World => V.cell? ⟨wb, 0, none⟩ = some (.pointer (some ⟨pb, 0, none⟩)) ∧ V.cell? ⟨eb, 0, none⟩ = some (.slice (some ⟨cb, co, none⟩) l cc) ∧ V.cell? ⟨cb, co + j, none⟩ = some (.int .i32 r)) (first | exact ⟨hq0, hq1, hq2⟩ | assumption) ((refine HSTR.out.mono ?_; rintro e w6 ⟨rfl, hb6⟩; have HB6 := Lib.hid hb6; have hs6 := And.intro ((hb6.cell (p := ⟨wb, 0, none⟩) (cell_ltM hq0)).trans hq0) (And.intro ((hb6.cell (p := ⟨eb, 0, none⟩) hz5).trans hq1) ((hb6.cell (p := ⟨cb, co + j, none⟩) hcl).trans hcr))))
          rename_i hdup
          have HB6' : Hid (Below w5.heap.size w5 w6) := ((Below.refl _ w5).drew).trans HB6.out
          have HR6 := Lib.hid (HR5.out.below HB6'.out)
          have HC6 := Lib.hid (HC5.out.kept (Kept.below HB6'.out))
          have hz6 : eb < w6.heap.size := Nat.lt_of_lt_of_le hz5 HB6'.out.size
          obtain ⟨m0, m1, m2⟩ := hs6
          clear hdup hb6 HB6 HB6' HR5 HC5 g0 g1 hq0 hq1 hq2 hcr hcl hz5 HSTR
          by_cases hc0 : cz = 0
          · subst hc0
            have HZ0 : Hid (F x = 0) := by show _ = _; rw [← HF.out]; exact frmZ_ok HBN.out (by rw [HPV.out]; rfl)
            have HNX := Lib.hid (HR6.out.next HX.out HZ0.out)
            go_wp2_with fail
            go_roundw
            case rel => exact ⟨k + 1, by go_num, HLT.out, HNX.out⟩
            case measure => (have := HLT.out; simp [intOf]; omega)
          · have q5 : (cz == 0) = false := beq_eq_false_iff_ne.2 hc0
            have HPV2 : Hid (preV (clsOf c) es x = (idx es (x.1.take j)).isSome) := by show _ = _; rw [HPV.out, decide_eq_false hc0, Bool.false_or]
            obtain ⟨a, ha0, ha1, hna⟩ := HR6.out.ask
            have HA := Lib.hid (And.intro ha0 ha1)
            have hsl := fun w => slice_to32 w (some ⟨cb, co, none⟩) l cc j (by omega)
            have him : IntsIn Re .i32 w6 (sliced (some ⟨cb, co, none⟩) 0 j cc 1) (x.1.take j) := by
              have h2 : IntsIn Re .i32 w6 (.slice (some ⟨cb, co, none⟩) l cc) x.1 := HC6.out
              have h3 := h2.mid 0 j (Nat.zero_le _) (by have := HLJ.out.2; omega)
              simpa using h3
            have hge := get_any Re (x.1.take j) (sliced (some ⟨cb, co, none⟩) 0 j cc 1) (hna.below ((Below.refl _ w6).drew)) (fun b hb => (HRE.out b hb).2) (him.kept (Kept.below ((Below.refl _ w6).drew))) (by rw [List.length_take]; unfold maxLen; omega) (fun r hr => (HOK.out x (List.mem_of_getElem? HX.out)).2.2 r (List.mem_of_mem_take hr)) ha0 (by omega) HOK.out (by have := HNN.out; omega)
            have HGE := Lib.hid hge
            have htc := (HT.out _ HR6.out.only).cells.2.2.2.2.1
            clear hge him hna ha0 ha1 hc0 HPV m0 m2
            have hq0 : w6.drew.cell? ⟨wb, 4, none⟩ = some (.pointer (some ⟨tb, 0, none⟩)) := htc
            have hq1 : w6.drew.cell? ⟨eb, 0, none⟩ = some (.slice (some ⟨cb, co, none⟩) l cc) := m1
            generalize hsd : sliced (some ⟨cb, co, none⟩) 0 j cc 1 = sd at *
            clear hsd
            go_wp2_with fail
            go_region_held (fun V : World => V.cell? ⟨wb, 4, none⟩ = some (.pointer (some ⟨tb, 0, none⟩)) ∧ V.cell? ⟨eb, 0, none⟩ = some (.slice (some ⟨cb, co, none⟩) l cc)) (first | exact ⟨hq0, hq1⟩ | assumption) ((refine HGE.out.mono ?_; rintro e w7 ⟨u7, rfl, hu7, hn7, ho7⟩; have HN7 := Lib.hid hn7; have HO7 := Lib.hid ho7; have hs7 := And.intro ((World.cell?_of_block (w := w6.drew) (a := ⟨wb, 4, none⟩) (ho7.block wb (cell_ltM hq0) (by have := HWB.out; omega))).trans hq0) ((World.cell?_of_block (w := w6.drew) (a := ⟨eb, 0, none⟩) (ho7.block eb hz6 (by have := HSZ.out; have := HEB.out; omega))).trans hq1)))
            rename_i hdup
            have HO7' : Hid (Only (fun i => i = tb) w6 w7) := ((Only.refl (fun i => i = tb) w6).drew).trans HO7.out
            clear hdup hs7 hq0 hq1 m1 htc hsl ho7 hn7 hu7 HGE
            cases hid : (idx es (x.1.take j)).isSome with
            | true =>
              have HZ0 : Hid (F x = 0) := by show _ = _; rw [← HF.out]; exact frmZ_ok HBN.out (by rw [HPV2.out, hid])
              have HNX := Lib.hid (HR6.out.got HRT.out HA.out.1 HA.out.2 HN7.out HO7'.out HX.out HZ0.out)
              clear hid
              go_wp2_with fail
              go_roundw
              case rel => exact ⟨k + 1, by go_num, HLT.out, HNX.out⟩
              case measure => (have := HLT.out; simp [intOf]; omega)
            | false =>
              have HT9 : Hid (FstEnd (fstZ F 0 es) (.panicked (chainV k 112))) := fst_end_at HX.out HR6.out.ok (by rw [← HF.out]; exact frmZ_pre HBN.out (by rw [HPV2.out, hid])) (by decide)
              have HNR : Hid (Nrm Rn w7 pb c d) := HR6.out.nrm.kept (Kept.only HO7'.out (fun b hb hs => HRT.out b hb hs))
              have HOO : Hid (Only (fun i => i = pb ∨ i = tb) w w7) := HR6.out.only.trans (onlyW HO7'.out (fun k hk => .inr hk))
              clear hid
              go_wp2_with fail
              with_reducible refine (vmust_no (k : Int) 112 (by decide) _).mono ?_
              rintro e w' ⟨rfl, rfl⟩
              go_wp2_with fail
              exact ⟨rfl, HT9.out, HNR.out, HOO.out⟩
    · have q1 : ¬ (k : Int) < (n : Int) := by omega
      have HFE : Hid (FstEnd (fstZ F 0 es) (.returned (.tuple #[]))) := by
        refine HFN.out (fun x hx => ?_)
        obtain ⟨j, hj⟩ := List.getElem?_of_mem hx
        exact HR.out.ok j x (by have := (List.getElem?_eq_some_iff.1 hj).1; have := HNN.out; omega) hj
      clear hlt hk hr
      go_wp2_with fail
      go_end0
      exact ⟨HFE.out, HR.out.nrm, HR.out.only⟩
end Go.Proofs.YtnglhgogkemgbaaGreatDoor
namespace Go.Proofs.YtnglhgogkemgbaaGreatDoor
open Go.RowKit

/-- the first place at which something is so, -1: none -/
def fIdx {α : Type} (p : α → Bool) : List α → Int
  | [] => -1
  | x :: xs => if p x then 0 else if fIdx p xs < 0 then -1 else fIdx p xs + 1
theorem fIdx_ge {α : Type} (p : α → Bool) : ∀ (l : List α), -1 ≤ fIdx p l
  | [] => Int.le_refl _
  | x :: xs => by have := fIdx_ge p xs; unfold fIdx; split <;> (try split) <;> omega
theorem fIdx_none {α : Type} {p : α → Bool} : ∀ {l : List α}, (∀ x ∈ l, p x = false) → fIdx p l = -1
  | [], _ => rfl
  | x :: xs, h => by rw [fIdx, if_neg (by rw [h x (List.mem_cons_self ..)]; exact Bool.false_ne_true), if_pos (by rw [fIdx_none (fun y hy => h y (List.mem_cons_of_mem _ hy))]; decide)]
theorem fIdx_some {α : Type} {p : α → Bool} : ∀ {l : List α} {i : Nat} {x : α}, l[i]? = some x → p x = true → (∀ j y, j < i → l[j]? = some y → p y = false) → fIdx p l = i
  | [], i, x, h, _, _ => by simp at h
  | y :: ys, 0, x, h, hp, _ => by simp at h; subst h; rw [fIdx, if_pos hp]; rfl
  | y :: ys, i + 1, x, h, hp, hn => by
    rw [fIdx, if_neg (by rw [hn 0 y (by omega) rfl]; exact Bool.false_ne_true), fIdx_some (l := ys) (i := i) (by simpa using h) hp (fun j z hj hz => hn (j + 1) z (by omega) (by simpa using hz)), if_neg (by omega)]; omega
theorem fIdx_neg {α : Type} (p : α → Bool) (l : List α) : decide (0 ≤ fIdx p l) = l.any p := by
  induction l with
  | nil => rfl
  | cons x xs ih =>
    have := fIdx_ge p xs
    rw [fIdx, List.any_cons, ← ih]
    cases p x
    · rw [if_neg Bool.false_ne_true, Bool.false_or]
      by_cases h : fIdx p xs < 0
      · rw [if_pos h, decide_eq_false (by omega), decide_eq_false (by omega)]
      · rw [if_neg h, decide_eq_true (by omega), decide_eq_true (by omega)]
    · rfl
set_option maxHeartbeats 2000000 in
set_option maxRecDepth 100000 in
theorem indexFuncEl_any (R : Nat → Prop) (xs : List El) (v : Value) (g : Nat) (lb : Array Value) (p : El → Bool) (Pre : World → Prop) (eg : ∀ args w, (callFunc g args).run Tryz.prog w = .ok (.enter g args) w) (hP : ∀ W W', Pre W → Below W.heap.size W W' → Pre W')
    (hg : ∀ y W, Pre W → Calls Tryz.prog g (#[elAgg y] ++ lb) W fun e w' => e = .returned (.bool (p y)) ∧ Below W.heap.size W w') (w : World) (hw : Pre w) (hv : ElsIn R w v xs) (hx : xs.length ≤ 1000000000) :
    Calls Tryz.prog 105 #[v, .func (.func g) #[] lb] w fun e w' => e = .returned (.int .i64 (fIdx p xs)) ∧ Below w.heap.size w w' := by
  have HV := Lib.hid hv
  have HG := Lib.hid hg
  have HP := Lib.hid (And.intro hw hP)
  obtain ⟨q, cq, rfl, _⟩ := hv
  obtain ⟨n, hn⟩ : ∃ n, n = xs.length := ⟨_, rfl⟩
  rw [← hn] at HV hx ⊢
  have HN := Lib.hid hn
  clear hn hg hw hP
  go_enter Tryz.func105, Tryz.ntmps105
  go_wp2_with fail
  go_loopw [8] (fun iv wr => ∃ i : Nat, iv = .int .i64 i ∧ i ≤ n ∧ (∀ (j : Nat) y, j < i → xs[j]? = some y → p y = false) ∧ Below w.heap.size w wr) (fun iv _ => n - (intOf iv).toNat)
  case atStart => exact ⟨0, rfl, Nat.zero_le _, fun j y hj => absurd hj (Nat.not_lt_zero _), Below.refl _ _⟩
  case round =>
    obtain ⟨i, rfl, hin, hsm, hb⟩ := hrel
    have HSM := Lib.hid hsm
    have HB := Lib.hid hb
    by_cases hlt : i < n
    · have g1 : (i : Int) < (n : Int) := by omega
      obtain ⟨x, hx1⟩ : ∃ x, xs[i]? = some x := ⟨xs[i]'(by rw [← HN.out]; exact hlt), List.getElem?_eq_getElem _⟩
      obtain ⟨b, o, rfl, _, hbl, c0, c1, c2, c3⟩ := (HV.out.kept (Kept.below hb)).at i x hx1
      have HX := Lib.hid hx1
      have HLT := Lib.hid hlt
      have hc := HG.out x wr (HP.out.2 _ _ HP.out.1 hb)
      obtain ⟨y1, y2, y3, y4⟩ := x
      unfold elAgg at hc
      dsimp only at c0 c1 c2 c3 hc
      have HC := Lib.hid hc
      clear hx1 hlt hin hb hsm hc
      cases hpx : p (y1, y2, y3, y4) with
      | true =>
        rw [hpx] at HC
        have HPX := Lib.hid hpx
        clear hpx
        go_wp2_with fail
        refine HC.out.mono ?_
        rintro e w1 ⟨rfl, hb1⟩
        have HB1 := Lib.hid (HB.out.trans (hb1.mono HB.out.size))
        clear hb1
        go_wp2_with fail
        go_ret
        exact ⟨by rw [fIdx_some HX.out HPX.out HSM.out] <;> rfl, HB1.out⟩
      | false =>
        rw [hpx] at HC
        have HPX := Lib.hid hpx
        clear hpx
        go_wp2_with fail
        refine HC.out.mono ?_
        rintro e w1 ⟨rfl, hb1⟩
        have HB1 := Lib.hid (HB.out.trans (hb1.mono HB.out.size))
        clear hb1
        go_wp2_with fail
        go_roundw
        case rel =>
          refine ⟨i + 1, by go_num, HLT.out, fun j y hj hy => ?_, HB1.out⟩
          rcases Nat.lt_succ_iff_lt_or_eq.1 hj with h | rfl
          · exact HSM.out j y h hy
          · rw [HX.out] at hy; cases hy; exact HPX.out
        case measure => (have := HLT.out; simp [intOf]; omega)
    · have g1 : ¬ ((i : Int) < (n : Int)) := by omega
      obtain rfl : i = n := by omega
      clear hlt hin hb hsm
      go_wp2_with fail
      go_ret
      refine ⟨?_, HB.out⟩
      rw [fIdx_none (fun x hx => ?_)] <;> try rfl
      obtain ⟨j, hj⟩ := List.mem_iff_getElem?.1 hx
      exact HSM.out j x (by rw [HN.out]; exact (List.getElem?_eq_some_iff.1 hj).1) hj
theorem containsFuncEl_any (R : Nat → Prop) (xs : List El) (v : Value) (g : Nat) (lb : Array Value) (p : El → Bool) (Pre : World → Prop) (eg : ∀ args w, (callFunc g args).run Tryz.prog w = .ok (.enter g args) w) (hP : ∀ W W', Pre W → Below W.heap.size W W' → Pre W')
    (hg : ∀ y W, Pre W → Calls Tryz.prog g (#[elAgg y] ++ lb) W fun e w' => e = .returned (.bool (p y)) ∧ Below W.heap.size W w') (w : World) (hw : Pre w) (hv : ElsIn R w v xs) (hx : xs.length ≤ 1000000000) :
    Calls Tryz.prog 58 #[v, .func (.func g) #[] lb] w fun e w' => e = .returned (.bool (xs.any p)) ∧ Below w.heap.size w w' := by
  have hc := indexFuncEl_any R xs v g lb p Pre eg hP hg w hw hv hx
  rw [← fIdx_neg]
  generalize fIdx p xs = z at *
  clear hg eg hP hw hv hx
  go_enter Tryz.func58, Tryz.ntmps58
  go_wp2_with fail
  refine hc.mono ?_
  rintro e w' ⟨rfl, hb⟩
  clear hc
  go_wp2_with fail
  go_ret
  exact ⟨rfl, hb⟩
/-! The three tests. -/
set_option maxHeartbeats 1000000 in
theorem plain_any (y : El) (W : World) : Calls Tryz.prog 56 #[elAgg y] W fun e w' => e = .returned (.bool (plnB y)) ∧ Below W.heap.size W w' := by
  obtain ⟨y1, y2, y3, y4⟩ := y
  unfold elAgg
  dsimp only
  have hb0 : Below W.heap.size W (W.alloc (.cells #[.int .i64 y1, .int .i64 y2, .int .i64 y3, .bool y4] 73)) := (Below.refl _ W).alloc (Nat.le_refl _) _
  have HLV := Lib.hid (level_any y1 y2 y3 y4 (W.alloc (.cells #[.int .i64 y1, .int .i64 y2, .int .i64 y3, .bool y4] 73)))
  have HE : Hid (∀ lv, lvl y1 y2 y3 = lv → plnB (y1, y2, y3, y4) = (decide (lv = 1) && !y4)) := by show ∀ lv, _; rintro lv rfl; rfl
  obtain ⟨lv, hlv⟩ : ∃ lv, lvl y1 y2 y3 = lv := ⟨_, rfl⟩
  have HE2 := Lib.hid (HE.out lv hlv)
  rw [hlv] at HLV
  have hx3 : (W.alloc (.cells #[.int .i64 y1, .int .i64 y2, .int .i64 y3, .bool y4] 73)).cell? ⟨W.heap.size, 3, none⟩ = some (.bool y4) := by rw [World.cell?_alloc_at _ _ _ _ rfl]; rfl
  have hz : W.heap.size < (W.alloc (.cells #[.int .i64 y1, .int .i64 y2, .int .i64 y3, .bool y4] 73)).heap.size := by simp
  have HB0 := Lib.hid hb0
  have HX := Lib.hid (And.intro hx3 hz)
  clear hlv HE hb0 hx3 hz
  by_cases h1 : lv = 1
  · subst h1
    go_enter Tryz.func56, Tryz.ntmps56
    go_wp2_with fail
    refine HLV.out.mono ?_
    rintro e w1 ⟨rfl, hb1⟩
    have x3 := (hb1.cell (p := ⟨W.heap.size, 3, none⟩) HX.out.2).trans HX.out.1
    have hz1 : W.heap.size < w1.heap.size := Nat.lt_of_lt_of_le HX.out.2 hb1.size
    have HB1 := Lib.hid (HB0.out.trans (hb1.mono HB0.out.size))
    clear hb1
    go_wp2_with fail
    go_ret
    exact ⟨by rw [HE2.out] <;> simp, HB1.out⟩
  · have g1 : (lv == 1) = false := beq_eq_false_iff_ne.2 h1
    have HE3 : Hid (plnB (y1, y2, y3, y4) = false) := by show _ = _; rw [HE2.out, decide_eq_false h1]; rfl
    clear h1 HE2
    go_enter Tryz.func56, Tryz.ntmps56
    go_wp2_with fail
    refine HLV.out.mono ?_
    rintro e w1 ⟨rfl, hb1⟩
    have HB1 := Lib.hid (HB0.out.trans (hb1.mono HB0.out.size))
    clear hb1
    go_wp2_with fail
    go_ret
    exact ⟨by rw [HE3.out] <;> rfl, HB1.out⟩
theorem isvar_any (y : El) (W : World) : Calls Tryz.prog 57 #[elAgg y] W fun e w' => e = .returned (.bool y.2.2.2) ∧ Below W.heap.size W w' := by
  obtain ⟨y1, y2, y3, y4⟩ := y
  unfold elAgg
  dsimp only
  go_enter Tryz.func57, Tryz.ntmps57
  go_wp2_with fail
  go_ret
  exact ⟨rfl, (Below.refl _ W).alloc (Nat.le_refl _) _⟩
theorem overv_any (lb : Nat) (g : Int) (y : El) (W : World) (hc : W.cell? ⟨lb, 0, none⟩ = some (.int .i64 g)) : Calls Tryz.prog 59 #[elAgg y, .pointer (some ⟨lb, 0, none⟩)] W fun e w' => e = .returned (.bool (y.2.2.2 && decide (g ≤ y.1))) ∧ Below W.heap.size W w' := by
  obtain ⟨y1, y2, y3, y4⟩ := y
  unfold elAgg
  dsimp only
  have hl : lb < W.heap.size := by
    rcases Nat.lt_or_ge lb W.heap.size with h' | h'
    · exact h'
    · simp [World.cell?, Array.getElem?_eq_none h'] at hc
  cases y4 with
  | false =>
    go_enter Tryz.func59, Tryz.ntmps59
    go_wp2_with fail
    go_ret
    exact ⟨rfl, (Below.refl _ W).alloc (Nat.le_refl _) _⟩
  | true =>
    go_enter Tryz.func59, Tryz.ntmps59
    go_wp2_with fail
    go_ret
    exact ⟨by simp, (Below.refl _ W).alloc (Nat.le_refl _) _⟩
end Go.Proofs.YtnglhgogkemgbaaGreatDoor
