/- Package table: ranged, implicit, unified: walked. Package table: marks: a map from words to functions; implicit, unified: walked. Package table: the parser reads a line: walked. -/
import Derived.Test.YtjbcbejedaeedaaGreatDoorAt
import Derived.Deep.RegionWith
/-! Package table: ranged, implicit, unified: walked. -/
namespace Go.Proofs.YtjbcbejedaeedaaGreatDoor
open Go.RowKit
open PlainAid (bt)
set_option maxHeartbeats 8000000 in
set_option maxRecDepth 100000 in
theorem ranged_any (B pb mb : Nat) (st : TSt) (s : ByteArray) (whole : Bool) (w : World) (hs : s.size ≤ 1000000) (hp : Prs B w pb mb st) (hB : B ≤ w.heap.size) (hm : ML w) (hrl : st.2.1.length < 5000000) :
    Calls Tryz.prog 125 #[.pointer (some ⟨pb, 0, none⟩), .string s, .bool whole] w (StepEnd B pb mb (rangedW st whole s.data.toList) w) := by
  have HP := Lib.hid hp
  have HLT := Lib.hid (hp.lt hB)
  have HS := Lib.hid hs
  have HM := Lib.hid hm
  have HRL := Lib.hid hrl
  obtain ⟨i0, hi, hz0, hz1, hz2⟩ := info_parts Tryz.infoRg
  have hle := cut_le s.data.toList [59]
  rw [size_data] at hle
  have HCU := Lib.hid (fun w hm => cut59_any s w hs hm)
  have HRW : Hid (rangeW whole s.data.toList = if (Lib.cut s.data.toList [59]).2.2 = false then .error 80 else
    if (Lib.cut (trimW (Lib.cut s.data.toList [59]).1) [46, 46]).2.2 = false then .error 80 else
    match numX (Lib.cut (trimW (Lib.cut s.data.toList [59]).1) [46, 46]).1 4 6 with
    | none => .error 80
    | some x => match numX (Lib.cut (trimW (Lib.cut s.data.toList [59]).1) [46, 46]).2.1 4 6 with
      | none => .error 80
      | some y => match numX (trimW (Lib.cut s.data.toList [59]).2.1) 4 4 with
        | none => .error 80
        | some b => if x ≤ 1114111 ∧ y ≤ 1114111 then .ok (x, y, b, whole) else .error 90) := rfl
  have HRD : Hid (rangedW st whole s.data.toList = match rangeW whole s.data.toList with | .error e => .error e | .ok x => .ok (st.1, st.2.1 ++ [x], st.2.2)) := rfl
  generalize rangeW whole s.data.toList = rw0 at *
  generalize rangedW st whole s.data.toList = rd at *
  generalize Lib.cut s.data.toList [59] = c at *
  obtain ⟨a, b, f⟩ := c
  simp only at hle HRW HCU
  obtain ⟨hla, hlb⟩ := hle
  have hla2 := Nat.le_trans (trimW_le a) (Nat.le_trans hla hs)
  have hlb2 := Nat.le_trans (trimW_le b) (Nat.le_trans hlb hs)
  have HTA := Lib.hid (fun w => trim_any (mkB a) w (by rw [size_mkB]; omega))
  have HTB := Lib.hid (fun w => trim_any (mkB b) w (by rw [size_mkB]; omega))
  rw [data_mkB] at HTA HTB
  have HERR : Hid (∀ z (w' : World), rw0 = .error z → Below w.heap.size w w' → StepEnd B pb mb rd w (.panicked (chainE z)) w') := by
    show ∀ z, _
    intro z w' h hb
    exact ⟨ps_below hb, .of_below hb, .inr ⟨z, by rw [HRD.out, h], rfl⟩⟩
  generalize trimW a = a2 at *
  generalize trimW b = b2 at *
  clear hla hlb hs hm hp hrl hB
  cases f with
  | false =>
    have HE : Hid (rw0 = .error 80) := by show _ = _; rw [HRW.out]; rfl
    clear HRW
    go_enter Tryz.func125, Tryz.ntmps125
    go_wp2_with fail
    refine (HCU.out _ HM.out).mono ?_
    rintro e w1 ⟨rfl, hb1⟩
    have HB1 := Lib.hid hb1
    clear hb1
    go_wp2_with fail
    refine (must_no _ _).mono ?_
    rintro e w' ⟨rfl, rfl⟩
    exact ⟨rfl, HERR.out 80 _ HE.out HB1.out⟩
  | true =>
    have hle2 := cut_le a2 [46, 46]
    have HC2 := Lib.hid (fun w hm => cutDots_any (mkB a2) w (by rw [size_mkB]; exact hla2) hm)
    rw [data_mkB] at HC2
    have HRW2 : Hid (rw0 = if (Lib.cut a2 [46, 46]).2.2 = false then .error 80 else
      match numX (Lib.cut a2 [46, 46]).1 4 6 with
      | none => .error 80
      | some x => match numX (Lib.cut a2 [46, 46]).2.1 4 6 with
        | none => .error 80
        | some y => match numX b2 4 4 with
          | none => .error 80
          | some b => if x ≤ 1114111 ∧ y ≤ 1114111 then .ok (x, y, b, whole) else .error 90) := by show _ = _; rw [HRW.out]; rfl
    clear HRW
    generalize Lib.cut a2 [46, 46] = c2 at *
    obtain ⟨p, q, f2⟩ := c2
    simp only at hle2 HC2 HRW2
    cases f2 with
    | false =>
      have HE : Hid (rw0 = .error 80) := by show _ = _; rw [HRW2.out]; rfl
      clear HRW2
      go_enter Tryz.func125, Tryz.ntmps125
      go_wp2_with fail
      refine (HCU.out _ HM.out).mono ?_
      rintro e w1 ⟨rfl, hb1⟩
      have HB1 := Lib.hid hb1
      clear hb1
      go_wp2_with fail
      refine (must_ok _ _).mono ?_
      rintro e w' ⟨rfl, rfl⟩
      go_wp2_with fail
      refine (HTA.out _).mono ?_
      rintro e w2 ⟨rfl, hb2⟩
      have HB2 := Lib.hid (HB1.out.trans (hb2.mono HB1.out.size))
      clear hb2
      go_wp2_with fail
      refine (HC2.out _ (HM.out.below HB2.out)).mono ?_
      rintro e w3 ⟨rfl, hb3⟩
      have HB3 := Lib.hid (HB2.out.trans (hb3.mono HB2.out.size))
      clear hb3
      go_wp2_with fail
      refine (must_no _ _).mono ?_
      rintro e w' ⟨rfl, rfl⟩
      exact ⟨rfl, HERR.out 80 _ HE.out HB3.out⟩
    | true =>
      have HRW3 : Hid (rw0 = match numX p 4 6 with
        | none => .error 80
        | some x => match numX q 4 6 with
          | none => .error 80
          | some y => match numX b2 4 4 with
            | none => .error 80
            | some b => if x ≤ 1114111 ∧ y ≤ 1114111 then .ok (x, y, b, whole) else .error 90) := by show _ = _; rw [HRW2.out]; rfl
      have HSP : Hid ((mkB p).size ≤ 1000000 ∧ (mkB q).size ≤ 1000000 ∧ (mkB b2).size ≤ 1000000) := by
        show _ ∧ _
        rw [size_mkB, size_mkB, size_mkB]; omega
      have HPX := Lib.hid (hexNo (mkB p) 4 6 (by decide) (by decide) HSP.out.1)
      have HPY := Lib.hid (fun n => hexYes (mkB p) 4 6 n (by decide) (by decide) HSP.out.1)
      have HQX := Lib.hid (hexNo (mkB q) 4 6 (by decide) (by decide) HSP.out.2.1)
      have HQY := Lib.hid (fun n => hexYes (mkB q) 4 6 n (by decide) (by decide) HSP.out.2.1)
      have HBX := Lib.hid (hexNo (mkB b2) 4 4 (by decide) (by decide) HSP.out.2.2)
      have HBY := Lib.hid (fun n => hexYes (mkB b2) 4 4 n (by decide) (by decide) HSP.out.2.2)
      rw [data_mkB] at HPX HPY HQX HQY HBX HBY
      clear HRW2 hle2 hla2 hlb2
      go_enter Tryz.func125, Tryz.ntmps125
      go_wp2_with fail
      refine (HCU.out _ HM.out).mono ?_
      rintro e w1 ⟨rfl, hb1⟩
      have HB1 := Lib.hid hb1
      clear hb1
      go_wp2_with fail
      refine (must_ok _ _).mono ?_
      rintro e w' ⟨rfl, rfl⟩
      go_wp2_with fail
      refine (HTA.out _).mono ?_
      rintro e w2 ⟨rfl, hb2⟩
      have HB2 := Lib.hid (HB1.out.trans (hb2.mono HB1.out.size))
      clear hb2
      go_wp2_with fail
      refine (HC2.out _ (HM.out.below HB2.out)).mono ?_
      rintro e w3 ⟨rfl, hb3⟩
      have HB3 := Lib.hid (HB2.out.trans (hb3.mono HB2.out.size))
      clear hb3
      go_wp2_with fail
      refine (must_ok _ _).mono ?_
      rintro e w' ⟨rfl, rfl⟩
      go_wp2_with fail
      cases hnx : numX p 4 6 with
      | none =>
        have HE : Hid (rw0 = .error 80) := by show _ = _; rw [HRW3.out, hnx]
        refine (HPX.out hnx _).mono ?_
        rintro e w4 ⟨rfl, hb4⟩
        have HB4 := Lib.hid (HB3.out.trans (hb4.mono HB3.out.size))
        clear hb4 hnx
        go_wp2_with fail
        refine (must_no _ _).mono ?_
        rintro e w' ⟨rfl, rfl⟩
        exact ⟨rfl, HERR.out 80 _ HE.out HB4.out⟩
      | some x =>
        have hxb := numX_bd hnx (by decide)
        have HNX := Lib.hid hnx
        refine (HPY.out x hnx _).mono ?_
        rintro e w4 ⟨rfl, hb4⟩
        have HB4 := Lib.hid (HB3.out.trans (hb4.mono HB3.out.size))
        clear hb4 hnx
        go_wp2_with fail
        refine (must_ok _ _).mono ?_
        rintro e w' ⟨rfl, rfl⟩
        go_wp2_with fail
        cases hny : numX q 4 6 with
        | none =>
          have HE : Hid (rw0 = .error 80) := by show _ = _; rw [HRW3.out, HNX.out, hny]
          refine (HQX.out hny _).mono ?_
          rintro e w5 ⟨rfl, hb5⟩
          have HB5 := Lib.hid (HB4.out.trans (hb5.mono HB4.out.size))
          clear hb5 hny
          go_wp2_with fail
          refine (must_no _ _).mono ?_
          rintro e w' ⟨rfl, rfl⟩
          exact ⟨rfl, HERR.out 80 _ HE.out HB5.out⟩
        | some y =>
          have hyb := numX_bd hny (by decide)
          have HNY := Lib.hid hny
          refine (HQY.out y hny _).mono ?_
          rintro e w5 ⟨rfl, hb5⟩
          have HB5 := Lib.hid (HB4.out.trans (hb5.mono HB4.out.size))
          clear hb5 hny
          go_wp2_with fail
          refine (must_ok _ _).mono ?_
          rintro e w' ⟨rfl, rfl⟩
          go_wp2_with fail
          refine (HTB.out _).mono ?_
          rintro e w6 ⟨rfl, hb6⟩
          have HB6 := Lib.hid (HB5.out.trans (hb6.mono HB5.out.size))
          clear hb6
          go_wp2_with fail
          cases hnb : numX b2 4 4 with
          | none =>
            have HE : Hid (rw0 = .error 80) := by show _ = _; rw [HRW3.out, HNX.out, HNY.out, hnb]
            refine (HBX.out hnb _).mono ?_
            rintro e w7 ⟨rfl, hb7⟩
            have HB7 := Lib.hid (HB6.out.trans (hb7.mono HB6.out.size))
            clear hb7 hnb
            go_wp2_with fail
            refine (must_no _ _).mono ?_
            rintro e w' ⟨rfl, rfl⟩
            exact ⟨rfl, HERR.out 80 _ HE.out HB7.out⟩
          | some b0 =>
            have hbb := numX_bd hnb (by decide)
            have HRW4 : Hid (rw0 = if x ≤ 1114111 ∧ y ≤ 1114111 then .ok (x, y, b0, whole) else .error 90) := by show _ = _; rw [HRW3.out, HNX.out, HNY.out, hnb]
            refine (HBY.out b0 hnb _).mono ?_
            rintro e w7 ⟨rfl, hb7⟩
            have HB7 := Lib.hid (HB6.out.trans (hb7.mono HB6.out.size))
            clear hb7 hnb
            go_wp2_with fail
            refine (must_ok _ _).mono ?_
            rintro e w' ⟨rfl, rfl⟩
            obtain ⟨x0, x1⟩ := hxb
            obtain ⟨y0, y1⟩ := hyb
            obtain ⟨b0', b1⟩ := hbb
            by_cases hx : x ≤ 1114111
            · by_cases hy : y ≤ 1114111
              · have HE : Hid (rw0 = .ok (x, y, b0, whole)) := by show _ = _; rw [HRW4.out, if_pos ⟨hx, hy⟩]
                clear x1 y1 b1 b0'
                go_wp2_with fail
                refine (must_ok _ _).mono ?_
                rintro e w' ⟨rfl, rfl⟩
                have hp7 := HP.out.below HB7.out
                obtain ⟨rv, ev, vs, hpar, hrr, hre, hev, hmp, hpt, hbd1, hbd2⟩ := hp7
                obtain ⟨_, c1, _, _, _, fz, hpl⟩ := hpar.cells
                have fz1 := fz 1
                have HRR := Lib.hid hrr
                have HX := Lib.hid (And.intro hpar (And.intro hrr (And.intro hre (And.intro hev (And.intro hmp (And.intro hpt hbd2))))))
                have HVB : Hid (∀ k, rv.ownBlock = some k → B ≤ k) := by show ∀ k, _; exact fun k hk => (hrr.lt k hk).1
                have HBW : Hid (B ≤ w7.heap.size) := Nat.le_trans HLT.out.2.2 HB7.out.size
                clear hpar hrr hre hev hmp hpt hbd1 hbd2 fz
                go_wp2_with (at_builtin; refine wpList_append_own _ rfl _ _ 23 rfl B 61 i0 (.agg #[.int .i32 0, .int .i32 0, .int .i64 0, .bool false]) 4 24 Tryz.underlying23 hi hz0 hz1 hz2 rfl (by decide) _ _ _ rfl (HRR.out.alloc _) ⟨w7.heap.size, 0, none⟩ 1 1 [.int .i32 x, .int .i32 y, .int .i64 b0, .bool whole] rfl rfl (cells_new _ _ _) (by simp [Value.oneCell']) (by unfold maxLen; have := HRL.out; omega) (by have := HRL.out; omega) (by simp; exact Nat.le_succ_of_le HBW.out) ?_; intro v' w8 hown' hgrow _; obtain ⟨g', cap', _, rfl, _⟩ := hown'.2.resolve_left (fun h => by have := h.2; omega); have HA := Lib.hid (Prs.addRange (x := (x, y, b0, whole)) HX.out.1 HX.out.2.1 HX.out.2.2.1 HX.out.2.2.2.1 HX.out.2.2.2.2.1 HX.out.2.2.2.2.2.1 HRL.out HX.out.2.2.2.2.2.2 hgrow hown'); have hF := TFrame.of_grown hgrow (row_block HX.out.2.1); have hpar8 := hF.par HX.out.1 (by decide); obtain ⟨_, d1, _, _, _, fz8, hpl8⟩ := hpar8.cells; have fz81 := fz8 1; have HB8 : Hid (Only (PS B pb mb) w w8) := ps_grown ((ps_below HB7.out).alloc _) hgrow (fun j hj => .inr (.inr (HVB.out j hj))); clear hown' hgrow hF hpar8 fz8 c1 fz1)
                go_end0
                refine ⟨HB8.out.setCell (p := ⟨pb, 1, none⟩) (.inl rfl) _, (PKeep.of_below HB7.out).trans HA.out.2, .inl ⟨_, ?_, rfl, HA.out.1⟩⟩
                rw [HRD.out, HE.out]
              · have HE : Hid (rw0 = .error 90) := by show _ = _; rw [HRW4.out, if_neg (fun h => hy h.2)]
                have gx : decide (x ≤ 1114111) = true := decide_eq_true hx
                have gy : decide (y ≤ 1114111) = false := decide_eq_false hy
                clear x1 y1 b1 b0' x0 y0 hx hy
                go_wp2_with fail
                refine (must_no _ _).mono ?_
                rintro e w' ⟨rfl, rfl⟩
                exact ⟨rfl, HERR.out 90 _ HE.out HB7.out⟩
            · have HE : Hid (rw0 = .error 90) := by show _ = _; rw [HRW4.out, if_neg (fun h => hx h.1)]
              have gx : decide (x ≤ 1114111) = false := decide_eq_false hx
              clear x1 y1 b1 b0' x0 y0 hx
              go_wp2_with fail
              refine (must_no _ _).mono ?_
              rintro e w' ⟨rfl, rfl⟩
              exact ⟨rfl, HERR.out 90 _ HE.out HB7.out⟩
end Go.Proofs.YtjbcbejedaeedaaGreatDoor
/-! Package table: marks: a map from words to functions; implicit, unified: walked. -/
namespace Go.Proofs.YtjbcbejedaeedaaGreatDoor
open Go.RowKit
open PlainAid (bt)

/-- how a function in a map reads -/
def Rf (v : Value) : Option (DataW Unit × List MemPlace) :=
  match v with
  | .func (.func g) a b => if a.size = 0 ∧ b.size = 0 then some (.lit (.int .i64 g), []) else none
  | .nilFunc => some (.nil, [])
  | _ => none
theorem fn_of {v : Value} {g : Nat} {ps : List MemPlace} (h : Rf v = some (.lit (.int .i64 g), ps)) : v = .func (.func g) #[] #[] := by
  unfold Rf at h
  split at h
  · rename_i g' a b
    split at h
    · rename_i hab
      simp only [Option.some.injEq, Prod.mk.injEq, DataW.lit.injEq, Lit.int.injEq, true_and] at h
      have : g' = g := Int.ofNat.inj h.1
      rw [this, Array.eq_empty_of_size_eq_zero hab.1, Array.eq_empty_of_size_eq_zero hab.2]
    · cases h
  · simp at h
  · cases h
def FMap (w : World) (b n : Nat) (f : Bs → Option Nat) : Prop :=
  ∃ L : List (Lit × DataW Unit), w.ownsMap Tryz.prog 9 Rf b n (.map L) ∧ ∀ (x : Bs) zd, (DataW.map L).atKey (.string x) zd = match f x with | none => zd | some g => .lit (.int .i64 g)
theorem FMap.made (w : World) : FMap (w.alloc (.map #[] 0)) w.heap.size 0 (fun _ => none) := ⟨[], World.ownsMap_made w Tryz.prog 9 Rf, fun _ _ => rfl⟩
theorem FMap.same {w w' : World} {b n : Nat} {f : Bs → Option Nat} (h : FMap w b n f) (hb : w'.heap[b]? = w.heap[b]?) : FMap w' b n f := by
  obtain ⟨L, ⟨es, c, h1, h2⟩, h3⟩ := h
  exact ⟨L, ⟨es, c, hb.trans h1, h2⟩, h3⟩
theorem FMap.lt {w : World} {b n : Nat} {f : Bs → Option Nat} (h : FMap w b n f) : b < w.heap.size := by
  obtain ⟨L, h1, _⟩ := h; exact h1.lt
theorem zeroF (w : World) : (zeroValue 103).run Tryz.prog w = .ok .nilFunc w := by kernel_rfl
theorem FMap.look {w : World} {b n : Nat} {f : Bs → Option Nat} (h : FMap w b n f) (x : Bs) (hx : x.length ≤ maxLen) :
    ∃ v, (Instr.lookup 105 (.map (some b)) (.string (mkB x)) true).run Tryz.prog w = .ok (.tuple #[v, .bool (f x).isSome]) w ∧ ∀ g, f x = some g → v = .func (.func g) #[] #[] := by
  obtain ⟨L, h1, h2⟩ := h
  have hkey := WideMaps.keyOf_string_mk Tryz.underlying9 (s := mkB x) (by rw [size_mkB]; exact hx)
  rw [data_mkB] at hkey
  obtain ⟨v, ps, hrun, hv⟩ := h1.look_ok (Maps.string_keyed Tryz.underlying9) Tryz.underlying105 (zeroF w) (zd := .nil) (zp := []) rfl (key := .string (mkB x)) (kl := .string x) hkey
  have hx2 := h2 x
  refine ⟨v, ?_, fun g hg => ?_⟩
  · rw [hrun]
    cases hf : f x with
    | none => rw [hf] at hx2; rw [Maps.has_false_of_atKey hx2]; rfl
    | some g => rw [hf] at hx2; rw [Maps.has_true_of_atKey hx2]; rfl
  · rw [hx2, hg] at hv
    exact fn_of hv
theorem FMap.update {w : World} {b n : Nat} {f : Bs → Option Nat} (h : FMap w b n f) (hn : n < maxLen) (x : Bs) (hx : x.length ≤ maxLen) (g : Nat) :
    ∃ w', (Instr.mapUpdate 105 (.map (some b)) (.string (mkB x)) (.func (.func g) #[] #[])).run Tryz.prog w = .ok () w' ∧ FMap w' b (n + 1) (fun q => if q = x then some g else f q) ∧ w.grownBy w' (some b) := by
  obtain ⟨L, h1, h2⟩ := h
  have hkey := WideMaps.keyOf_string_mk Tryz.underlying9 (s := mkB x) (by rw [size_mkB]; exact hx)
  rw [data_mkB] at hkey
  obtain ⟨w', hrun, hown, hg⟩ := h1.update (Maps.string_keyed Tryz.underlying9) Tryz.underlying105 hn (key := .string (mkB x)) (kl := .string x) (d := .lit (.int .i64 g)) (ps := []) hkey (val := .func (.func g) #[] #[]) rfl
  refine ⟨w', hrun, ⟨_, hown, fun q zd => ?_⟩, hg⟩
  by_cases e : q = x
  · subst e
    simp only [if_true]
    exact Maps.atKey_put_same ⟨L, rfl⟩ (by simp [WideAt.IsKeyLit]) _ _
  · have h4 := Maps.atKey_put_other (D := DataW.map L) (k' := .string q) (k := .string x) (by intro h; cases h; exact e rfl) (.lit (.int .i64 g)) zd
    simp only [if_neg e]
    exact h4.trans (h2 q zd)
/-- the words behind @ -/
def marksF (x : Bs) : Option Nat := if x = uniK then some 89 else if x = impK then some 88 else if x = verK then some 87 else none
set_option maxHeartbeats 1000000 in
set_option maxRecDepth 100000 in
theorem marks_any (w : World) : Calls Tryz.prog 50 #[] w fun e w' => ∃ b, e = .returned (.map (some b)) ∧ FMap w' b 3 marksF ∧ Below w.heap.size w w' := by
  have hmm := @run_makeMap Tryz.prog
  obtain ⟨w1, hu1, hf1, hg1⟩ := (FMap.made w).update (by unfold maxLen; omega) verK (by decide) 87
  obtain ⟨w2, hu2, hf2, hg2⟩ := hf1.update (by unfold maxLen; omega) impK (by decide) 88
  obtain ⟨w3, hu3, hf3, hg3⟩ := hf2.update (by unfold maxLen; omega) uniK (by decide) 89
  have HF : Hid (FMap w3 w.heap.size 3 marksF) := hf3
  have h0 : Below w.heap.size w (w.alloc (.map #[] 0)) := (Below.refl _ w).alloc (Nat.le_refl _) _
  have HB : Hid (Below w.heap.size w w3) := ((h0.grown hg1 (by simp) (fun j hj => by cases hj; exact Nat.le_refl _)).grown hg2 (by have := hg1.size; simp at this; omega) (fun j hj => by cases hj; exact Nat.le_refl _)).grown hg3 (by have := hg1.size; have := hg2.size; simp at *; omega) (fun j hj => by cases hj; exact Nat.le_refl _)
  unfold mkB verK at hu1
  unfold mkB impK at hu2
  unfold mkB uniK at hu3
  clear hf1 hf2 hf3 hg1 hg2 hg3 h0
  go_enter Tryz.func50, Tryz.ntmps50
  go_wp2_with fail
  go_ret
  exact ⟨_, rfl, HF.out, HB.out⟩
theorem implicit_any (B pb mb : Nat) (st : TSt) (s : ByteArray) (w : World) (hs : s.size ≤ 1000000) (hp : Prs B w pb mb st) (hB : B ≤ w.heap.size) (hm : ML w) (hrl : st.2.1.length < 5000000) :
    Calls Tryz.prog 88 #[.pointer (some ⟨pb, 0, none⟩), .string s] w (StepEnd B pb mb (rangedW st true s.data.toList) w) := by
  have H := Lib.hid (ranged_any B pb mb st s true w hs hp hB hm hrl)
  generalize rangedW st true s.data.toList = r at *
  clear hs hp hm hrl hB
  go_enter Tryz.func88, Tryz.ntmps88
  go_wp2_with fail
  refine H.out.mono ?_
  rintro e w' ⟨hb, hk, ⟨st', rfl, rfl, hp'⟩ | ⟨z, rfl, rfl⟩⟩
  · have HH : Hid (StepEnd B pb mb (.ok st') w (.returned (.tuple #[])) w') := ⟨hb, hk, .inl ⟨st', rfl, rfl, hp'⟩⟩
    clear hb hk hp'
    go_wp2_with fail
    go_end0
    exact HH.out
  · exact ⟨rfl, hb, hk, .inr ⟨z, rfl, rfl⟩⟩
theorem unified_any (B pb mb : Nat) (st : TSt) (s : ByteArray) (w : World) (hs : s.size ≤ 1000000) (hp : Prs B w pb mb st) (hB : B ≤ w.heap.size) (hm : ML w) (hrl : st.2.1.length < 5000000) :
    Calls Tryz.prog 89 #[.pointer (some ⟨pb, 0, none⟩), .string s] w (StepEnd B pb mb (rangedW st false s.data.toList) w) := by
  have H := Lib.hid (ranged_any B pb mb st s false w hs hp hB hm hrl)
  generalize rangedW st false s.data.toList = r at *
  clear hs hp hm hrl hB
  go_enter Tryz.func89, Tryz.ntmps89
  go_wp2_with fail
  refine H.out.mono ?_
  rintro e w' ⟨hb, hk, ⟨st', rfl, rfl, hp'⟩ | ⟨z, rfl, rfl⟩⟩
  · have HH : Hid (StepEnd B pb mb (.ok st') w (.returned (.tuple #[])) w') := ⟨hb, hk, .inl ⟨st', rfl, rfl, hp'⟩⟩
    clear hb hk hp'
    go_wp2_with fail
    go_end0
    exact HH.out
  · exact ⟨rfl, hb, hk, .inr ⟨z, rfl, rfl⟩⟩
end Go.Proofs.YtjbcbejedaeedaaGreatDoor
/-! Package table: the parser reads a line: walked. -/
namespace Go.Proofs.YtjbcbejedaeedaaGreatDoor
open Go.RowKit
open PlainAid (bt)

theorem markW_eq (st : TSt) (word arg : Bs) : markW st word arg = if word = verK then nameW st arg else if word = impK then rangedW st true arg else if word = uniK then rangedW st false arg else .error 80 := rfl
theorem marksF_none {x : Bs} (h : marksF x = none) (st : TSt) (arg : Bs) : markW st x arg = .error 80 := by
  unfold marksF at h
  rw [markW_eq]
  split at h
  · cases h
  · split at h
    · cases h
    · split at h
      · cases h
      · rw [if_neg ‹_›, if_neg ‹_›, if_neg ‹_›]
theorem extract_take (s : ByteArray) (j : Nat) : s.extract 0 j = mkB (s.data.toList.take j) := by
  have := Lib.extract_from_zero s j
  rw [← this, mkB_data]
theorem stepW_at (st : TSt) (l : Bs) (h : Lib.hasPrefix l [64] = true) : stepW st l = if 0 < Lib.indexAny l [32, 9] then markW st (l.take (Lib.indexAny l [32, 9]).toNat) (trimW (l.drop (Lib.indexAny l [32, 9]).toNat)) else .error 80 := by
  unfold stepW; rw [if_pos h]
theorem indexAny_bd (cs : Bs) : ∀ l : Bs, Lib.indexAny l cs = -1 ∨ (0 ≤ Lib.indexAny l cs ∧ Lib.indexAny l cs < (l.length : Int))
  | [] => .inl rfl
  | b :: l => by
    have ih := indexAny_bd cs l
    rw [Lib.indexAny, List.length_cons]
    split
    · right; omega
    · split
      · left; rfl
      · rename_i h
        rw [beq_iff_eq] at h
        rcases ih with e | ⟨h1, h2⟩
        · exact absurd e h
        · right; omega
theorem mark_enter {wd : Bs} {g : Nat} (hg : marksF wd = some g) : ∀ args w, (callFunc g args).run Tryz.prog w = .ok (.enter g args) w := by
  unfold marksF at hg
  split at hg
  · cases hg; exact enters_of Tryz.func89 (by kernel_rfl) rfl
  · split at hg
    · cases hg; exact enters_of Tryz.func88 (by kernel_rfl) rfl
    · split at hg
      · cases hg; exact enters_of Tryz.func87 (by kernel_rfl) rfl
      · cases hg
theorem mark_call (B pb mb g : Nat) (st : TSt) (wd ag : Bs) (w : World) (hs : (mkB ag).size ≤ 1000000) (hp : Prs B w pb mb st) (hB : B ≤ w.heap.size) (hm : ML w) (hrl : st.2.1.length < 5000000) (hg : marksF wd = some g) :
    Calls Tryz.prog g #[.pointer (some ⟨pb, 0, none⟩), .string (mkB ag)] w (StepEnd B pb mb (markW st wd ag) w) := by
  rw [markW_eq]
  unfold marksF at hg
  by_cases h1 : wd = uniK
  · rw [if_pos h1] at hg
    cases hg
    rw [if_neg (by rw [h1]; decide), if_neg (by rw [h1]; decide), if_pos h1]
    have := unified_any B pb mb st (mkB ag) w hs hp hB hm hrl
    rwa [data_mkB] at this
  · rw [if_neg h1] at hg
    by_cases h2 : wd = impK
    · rw [if_pos h2] at hg
      cases hg
      rw [if_neg (by rw [h2]; decide), if_pos h2]
      have := implicit_any B pb mb st (mkB ag) w hs hp hB hm hrl
      rwa [data_mkB] at this
    · rw [if_neg h2] at hg
      by_cases h3 : wd = verK
      · rw [if_pos h3] at hg
        cases hg
        rw [if_pos h3]
        have := name_any B pb mb st (mkB ag) w hs hp hB
        rwa [data_mkB] at this
      · rw [if_neg h3] at hg; cases hg
set_option maxHeartbeats 4000000 in
set_option maxRecDepth 100000 in
theorem markLine_any (B pb mb : Nat) (st : TSt) (s : ByteArray) (w : World) (hs : s.size ≤ 1000000) (hp : Prs B w pb mb st) (hB : B ≤ w.heap.size) (hm : ML w) (hrl : st.2.1.length < 5000000) (hpre : Lib.hasPrefix s.data.toList [64] = true) :
    Calls Tryz.prog 20 #[.pointer (some ⟨pb, 0, none⟩), .string s] w (StepEnd B pb mb (stepW st s.data.toList) w) := by
  have HST := Lib.hid (stepW_at st s.data.toList hpre)
  have HPF := Lib.hid (fun w => hasPrefix_any s ⟨#[64]⟩ w)
  have hIA := fun w => indexAny_any s ⟨#[32, 9]⟩ w rfl (by omega) (ascii_of_all (by decide))
  have HLE : Hid (Lib.indexAny s.data.toList [32, 9] ≤ s.size) := by
    show _ ≤ _
    rw [← size_data]
    have := indexAny_bd [32, 9] s.data.toList
    omega
  have HLT := Lib.hid (hp.lt hB)
  have HP := Lib.hid hp
  have HM := Lib.hid hm
  have HS := Lib.hid hs
  have HRL := Lib.hid hrl
  rw [show (⟨#[64]⟩ : ByteArray).data.toList = [64] from rfl, hpre] at HPF
  rw [show (⟨#[32, 9]⟩ : ByteArray).data.toList = [32, 9] from rfl] at hIA
  have HIA := Lib.hid hIA
  generalize stepW st s.data.toList = rs at *
  generalize Lib.indexAny s.data.toList [32, 9] = q at *
  clear hIA hp hm hs hrl hpre hB
  by_cases hq : 0 < q
  · obtain ⟨j, rfl⟩ : ∃ j : Nat, q = j := ⟨q.toNat, by omega⟩
    have HJ := Lib.hid hq
    have hj := HLE.out
    have g1 : 0 < j := by omega
    have HJN : Hid (j ≤ s.size) := by show _ ≤ _; omega
    clear hq hj
    have HX1 : Hid (s.extract 0 j = mkB (s.data.toList.take j)) := extract_take s j
    have HX2 : Hid ((s.extract j s.size).data.toList = s.data.toList.drop j) := Lib.extract_to_end s j
    have HRS : Hid (rs = markW st (s.data.toList.take j) (trimW (s.data.toList.drop j))) := by
      show _ = _
      rw [HST.out, if_pos (by have := HJ.out; omega), Int.toNat_natCast]
    go_enter Tryz.func20, Tryz.ntmps20
    go_wp2_with fail
    refine (HPF.out _).mono ?_
    rintro e w' ⟨rfl, rfl⟩
    go_wp2_with fail
    refine (HIA.out _).mono ?_
    rintro e w1 ⟨rfl, hb1⟩
    have HB1 := Lib.hid hb1
    clear hb1
    go_wp2_with fail
    ((with_reducible refine (must_ok _ _).mono ?_); rintro e w' ⟨rfl, rfl⟩)
    go_wp2_with fail
    have hjn := HJN.out
    have HTK : Hid ((s.data.toList.take j).length ≤ maxLen) := by
      show _ ≤ _
      rw [List.length_take, size_data]; have := HS.out; unfold maxLen; omega
    go_region_with (go_at_call 50; refine (marks_any _).mono ?_; rintro e w2 ⟨mk, rfl, hf, hb2⟩; obtain ⟨v, hl, hv⟩ := hf.look _ HTK.out; rw [← HX1.out] at hl; have HV := Lib.hid hv; have HB2 := Lib.hid hb2; clear hf hv hb2)
    have HB3 : Hid (Below w.heap.size w w2) := HB1.out.trans (((show Below w1.heap.size w1 w1.drew from (Below.refl _ _).drew).trans HB2.out).mono HB1.out.size)
    clear HB2 hl
    generalize s.data.toList.take j = wd at *
    go_wp2_with fail
    cases hmk : marksF wd with
    | none =>
      have HE : Hid (rs = .error 80) := by show _ = _; rw [HRS.out, marksF_none hmk]
      clear hmk
      simp only [Option.isSome_none]
      ((with_reducible refine (must_no _ _).mono ?_); rintro e w' ⟨rfl, rfl⟩)
      exact ⟨rfl, ps_below HB3.out, .of_below HB3.out, .inr ⟨80, HE.out, rfl⟩⟩
    | some g =>
      obtain rfl := HV.out g hmk
      have HMK := Lib.hid hmk
      have hjn := HJN.out
      clear hmk HV
      simp only [Option.isSome_some]
      ((with_reducible refine (must_ok _ _).mono ?_); rintro e w' ⟨rfl, rfl⟩)
      have HTR : Hid (∀ w, Calls Tryz.prog 45 #[.string (s.extract j s.size), .string ⟨#[32, 9]⟩] w fun e w' => e = .returned (.string (mkB (trimW (s.data.toList.drop j)))) ∧ Below w.heap.size w w') := by
        show ∀ w, _
        intro w
        have := trim_any (s.extract j s.size) w (by rw [← size_data, HX2.out, List.length_drop, size_data]; have := HS.out; omega)
        rw [HX2.out] at this; exact this
      have HAL : Hid ((mkB (trimW (s.data.toList.drop j))).size ≤ 1000000) := by
        show _ ≤ _
        rw [size_mkB]
        refine Nat.le_trans (trimW_le _) ?_
        rw [List.length_drop, size_data]; have := HS.out; omega
      generalize trimW (s.data.toList.drop j) = ag at *
      go_wp2_with fail
      refine (HTR.out _).mono ?_
      rintro e w4 ⟨rfl, hb4⟩
      have HB4 : Hid (Below w.heap.size w w4) := HB3.out.trans (hb4.mono HB3.out.size)
      clear hb4
      have HCL := Lib.hid (mark_call B pb mb g st wd ag w4 HAL.out (HP.out.below HB4.out) (Nat.le_trans HLT.out.2.2 HB4.out.size) (HM.out.below HB4.out) HRL.out HMK.out)
      rw [← HRS.out] at HCL
      have eg := mark_enter HMK.out
      go_wp2_with fail
      refine HCL.out.mono ?_
      rintro e w' ⟨hb, hk, ⟨st', hr, rfl, hp'⟩ | ⟨z, hr, rfl⟩⟩
      · have HH : Hid (StepEnd B pb mb rs w (.returned (.tuple #[])) w') := ⟨(ps_below HB4.out).trans hb, (PKeep.of_below HB4.out).trans hk, .inl ⟨st', hr, rfl, hp'⟩⟩
        clear hb hk hp' hr HCL
        go_wp2_with fail
        go_end0
        exact HH.out
      · exact ⟨rfl, (ps_below HB4.out).trans hb, (PKeep.of_below HB4.out).trans hk, .inr ⟨z, hr, rfl⟩⟩
  · have HE : Hid (rs = .error 80) := by show _ = _; rw [HST.out, if_neg hq]
    have g1 : decide (q > 0) = false := decide_eq_false hq
    clear hq
    go_enter Tryz.func20, Tryz.ntmps20
    go_wp2_with fail
    refine (HPF.out _).mono ?_
    rintro e w' ⟨rfl, rfl⟩
    go_wp2_with fail
    refine (HIA.out _).mono ?_
    rintro e w1 ⟨rfl, hb1⟩
    have HB1 := Lib.hid hb1
    clear hb1
    go_wp2_with fail
    ((with_reducible refine (must_no _ _).mono ?_); rintro e w' ⟨rfl, rfl⟩)
    exact ⟨rfl, ps_below HB1.out, .of_below HB1.out, .inr ⟨80, HE.out, rfl⟩⟩
end Go.Proofs.YtjbcbejedaeedaaGreatDoor
