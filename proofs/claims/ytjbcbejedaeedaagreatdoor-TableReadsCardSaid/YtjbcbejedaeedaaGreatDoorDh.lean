/- Package table: entry, where nothing is wrong: walked. Package table: Check, where nothing is wrong: walked. -/
import Derived.Test.YtjbcbejedaeedaaGreatDoorDa
import Derived.Test.YtjbcbejedaeedaaGreatDoorDe
/-! Package table: entry, where nothing is wrong: walked. -/
namespace Go.Proofs.YtjbcbejedaeedaaGreatDoor
open Go.RowKit

/-- an element that may stand -/
def elOk (y : El) : Bool := decide (chk y.1 y.2.1 y.2.2.1 y.2.2.2 = 0) && decide (0 < lvl y.1 y.2.1 y.2.2.1)
def entOk (x : Ent) : Bool := decide (1 ≤ x.1.length) && decide (x.1.length ≤ 8) && x.1.all pt && decide (x.2.length ≤ 16) && x.2.all elOk
set_option maxHeartbeats 4000000 in
set_option maxRecDepth 100000 in
theorem entry_ok (R : Nat → Prop) (x : Ent) (c u : Value) (w : World) (hc : IntsIn R .i32 w c x.1) (hu : ElsIn R w u x.2) (hx : entOk x = true) :
    Calls Tryz.prog 70 #[.agg #[c, u]] w fun e w' => e = .returned (.tuple #[]) ∧ Below w.heap.size w w' := by
  unfold entOk at hx
  simp only [Bool.and_eq_true, decide_eq_true_eq] at hx
  obtain ⟨⟨⟨⟨h1, h8⟩, hpt⟩, h16⟩, hel⟩ := hx
  have hb0 : Below w.heap.size w (w.alloc (.cells #[c, u] 45)) := (Below.refl _ w).alloc (Nat.le_refl _) _
  have h2 : TwoAt (w.alloc (.cells #[c, u] 45)) w.heap.size c u := World.alloc_heap_new w _
  have HCF := Lib.hid (containsFuncR_any R x.1 c 109 (fun r => !pt r) (fun _ _ => rfl) (fun r w => entry1_any r w) _ (hc.kept (Kept.below hb0)) (by omega))
  have ha : (x.1.any fun r => !pt r) = false := by
    rw [List.any_eq_false]; intro r hr; simp [List.all_eq_true.1 hpt r hr]
  rw [ha] at HCF
  have HU := Lib.hid (hu.kept (Kept.below hb0))
  have HEL := Lib.hid (fun y (hy : y ∈ x.2) => List.all_eq_true.1 hel y hy)
  obtain ⟨cp, cc, rfl, _⟩ := hc
  obtain ⟨up, uc, rfl, _⟩ := hu
  obtain ⟨n, hn⟩ : ∃ n, n = x.1.length := ⟨_, rfl⟩
  obtain ⟨m, hm⟩ : ∃ m, m = x.2.length := ⟨_, rfl⟩
  rw [← hn] at h1 h8 HCF h2 hb0 ⊢
  rw [← hm] at h16 HCF h2 hb0 ⊢
  rw [← hm, ← hn] at HU
  have HMM := Lib.hid hm
  have g1 : decide ((n : Int) ≥ 1) = true := decide_eq_true (by omega)
  have g2 : decide ((n : Int) ≤ 8) = true := decide_eq_true (by omega)
  have g3 : decide ((m : Int) ≤ 16) = true := decide_eq_true (by omega)
  have HB0 := Lib.hid hb0
  obtain ⟨t0, t1, _, tl⟩ := h2.cells
  have HT := Lib.hid h2
  clear hpt hel ha hn hm h1 h8 hb0 h2
  go_enter Tryz.func70, Tryz.ntmps70
  go_wp2_with fail
  generalize w.alloc (.cells #[.slice cp n cc, .slice up m uc] 45) = W0 at *
  refine HCF.out.mono ?_
  rintro e w' ⟨rfl, rfl⟩
  go_wp2_with fail
  ((with_reducible refine (must_ok _ _).mono ?_); rintro e w' ⟨rfl, rfl⟩)
  go_wp2_with fail
  ((with_reducible refine (must_ok _ _).mono ?_); rintro e w' ⟨rfl, rfl⟩)
  go_wp2_with fail
  go_loopw [29] (fun iv wr => ∃ k : Nat, iv = .int .i64 k ∧ k ≤ m ∧ Below W0.heap.size W0 wr) (fun iv _ => m - (intOf iv).toNat)
  case atStart => exact ⟨0, rfl, Nat.zero_le _, Below.refl _ _⟩
  case round =>
    obtain ⟨k, rfl, hk, hb⟩ := hrel
    have HB := Lib.hid hb
    by_cases hlt : k < m
    · have q1 : (k : Int) < (m : Int) := by omega
      obtain ⟨y, hy⟩ : ∃ y, x.2[k]? = some y := ⟨_, List.getElem?_eq_getElem (by have := HMM.out; omega)⟩
      obtain ⟨b, o, rfl, _, hbl, c0, c1, c2, c3⟩ := (HU.out.kept (Kept.below hb)).at k y hy
      have hyo := HEL.out y (List.mem_of_getElem? hy)
      obtain ⟨y1, y2, y3, y4⟩ := y
      unfold elOk at hyo
      simp only [Bool.and_eq_true, decide_eq_true_eq] at hyo
      obtain ⟨hck, hlv⟩ := hyo
      have hbB : Below wr.heap.size wr (wr.alloc (.cells #[.int .i64 y1, .int .i64 y2, .int .i64 y3, .bool y4] 79)) := (Below.refl _ wr).alloc (Nat.le_refl _) _
      have HCK := Lib.hid (fun w => check_any y1 y2 y3 y4 w)
      have HLV := Lib.hid (fun w => level_any y1 y2 y3 y4 w)
      rw [hck] at HCK
      generalize lvl y1 y2 y3 = lv at *
      have HLP := Lib.hid hlv
      have HBB := Lib.hid hbB
      have HLT := Lib.hid hlt
      simp only at c0 c1 c2 c3
      clear hy hck hlv hb hbB hk hlt
      go_wp2_with fail
      have hx0 : ∀ j v, #[Value.int .i64 y1, .int .i64 y2, .int .i64 y3, .bool y4][j]? = some v → (wr.alloc (.cells #[.int .i64 y1, .int .i64 y2, .int .i64 y3, .bool y4] 79)).cell? ⟨wr.heap.size, j, none⟩ = some v := fun j v hj => by
        rw [World.cell?_alloc_at _ _ _ _ rfl]; exact hj
      have hzz : wr.heap.size < (wr.alloc (.cells #[.int .i64 y1, .int .i64 y2, .int .i64 y3, .bool y4] 79)).heap.size := by simp
      generalize wr.alloc (.cells #[.int .i64 y1, .int .i64 y2, .int .i64 y3, .bool y4] 79) = W1 at *
      refine (HCK.out _).mono ?_
      rintro e w2 ⟨rfl, hb2⟩
      have e0 := (hb2.cell (p := ⟨wr.heap.size, 0, none⟩) hzz).trans (hx0 0 _ rfl)
      have e1 := (hb2.cell (p := ⟨wr.heap.size, 1, none⟩) hzz).trans (hx0 1 _ rfl)
      have e2 := (hb2.cell (p := ⟨wr.heap.size, 2, none⟩) hzz).trans (hx0 2 _ rfl)
      have e3 := (hb2.cell (p := ⟨wr.heap.size, 3, none⟩) hzz).trans (hx0 3 _ rfl)
      have hz2 : wr.heap.size < w2.heap.size := Nat.lt_of_lt_of_le hzz hb2.size
      have HB2 : Hid (Below wr.heap.size wr w2) := HBB.out.trans (hb2.mono HBB.out.size)
      clear hb2 hx0 hzz
      go_wp2_with fail
      refine (HLV.out _).mono ?_
      rintro e w3 ⟨rfl, hb3⟩
      have HB3 : Hid (Below W0.heap.size W0 w3) := HB.out.trans ((HB2.out.trans (hb3.mono HB2.out.size)).mono HB.out.size)
      have hlv := HLP.out
      clear hb3 e0 e1 e2 e3
      have g4 : decide (lv > 0) = true := decide_eq_true hlv
      clear hlv
      go_wp2_with fail
      ((with_reducible refine (must_ok _ _).mono ?_); rintro e w' ⟨rfl, rfl⟩)
      go_wp2_with fail
      go_roundw
      case rel => exact ⟨k + 1, by go_num, HLT.out, HB3.out⟩
      case measure => (have := HLT.out; simp [intOf]; omega)
    · have q1 : ¬ (k : Int) < (m : Int) := by omega
      clear hlt
      go_wp2_with fail
      go_end0
      exact ⟨rfl, HB0.out.trans (HB.out.mono HB0.out.size)⟩
end Go.Proofs.YtjbcbejedaeedaaGreatDoor
/-! Package table: Check, where nothing is wrong: walked. -/
namespace Go.Proofs.YtjbcbejedaeedaaGreatDoor
open Go.RowKit Go.Shelf

theorem indexHash_any (s : ByteArray) (w : World) (hs : s.size ≤ 1000000) (hm : ML w) :
    Calls Tryz.prog 117 #[.string s, .string ⟨#[35]⟩] w fun e w' => e = .returned (.int .i64 (Lib.index s.data.toList [35])) ∧ w = w' := by
  obtain ⟨⟨m, hm⟩, _⟩ := hm
  exact (Any.stringslite_Index (ρ := Tryz.lays145_ren) { Tryz.lays145 with } s ⟨#[35]⟩ m w (by omega) hm).mono fun e w' ⟨h1, h2⟩ => ⟨h1, h2.symm⟩
theorem sIndexHash_any (s : ByteArray) (w : World) (hs : s.size ≤ 1000000) (hm : ML w) :
    Calls Tryz.prog 107 #[.string s, .string ⟨#[35]⟩] w fun e w' => e = .returned (.int .i64 (Lib.index s.data.toList [35])) ∧ w = w' := by
  have h := indexHash_any s w hs hm
  clear hs hm
  go_enter Tryz.func107, Tryz.ntmps107
  go_wp2_with (refine h.mono ?_; rintro e w' ⟨rfl, rfl⟩)
  go_ret
  exact ⟨rfl, rfl⟩
theorem noHash_any (s : ByteArray) (w : World) (hs : s.size ≤ 1000000) (hm : ML w) (hn : Lib.index s.data.toList [35] = -1) :
    Calls Tryz.prog 68 #[.string s, .string ⟨#[35]⟩] w fun e w' => e = .returned (.bool false) ∧ w = w' := by
  have h := sIndexHash_any s w hs hm
  rw [hn] at h
  clear hs hm hn
  go_enter Tryz.func68, Tryz.ntmps68
  go_wp2_with (refine h.mono ?_; rintro e w' ⟨rfl, rfl⟩)
  go_ret
  exact ⟨rfl, rfl⟩
end Go.Proofs.YtjbcbejedaeedaaGreatDoor
namespace Go.Proofs.YtjbcbejedaeedaaGreatDoor
open Go.RowKit
/-- how the guarded look at an entry ends -/
def C1End (mb n : Nat) (es : List Ent) (w : World) (e : Ending) (w' : World) : Prop :=
  e = .returned (.tuple #[]) ∧ SMp w' mb n (seenF es) ∧ Only (fun i => i = mb) w w'
set_option maxHeartbeats 4000000 in
set_option maxRecDepth 100000 in
theorem check1_ok (R : Nat → Prop) (eb mx mb n : Nat) (es : List Ent) (x : Ent) (c u : Value) (w : World) (hc : IntsIn R .i32 w c x.1) (hu : ElsIn R w u x.2) (hR : ∀ b, R b → b ≠ mb) (hx : entOk x = true) (h2 : TwoAt w eb c u) (hmx : w.cell? ⟨mx, 0, none⟩ = some (.map (some mb))) (hmp : SMp w mb n (seenF es)) (hn : n ≤ 1000000) (hm : ML w) (hs : seenF es (showW x.1) = 0) :
    Calls Tryz.prog 69 #[.pointer (some ⟨eb, 0, none⟩), .pointer (some ⟨mx, 0, none⟩)] w (C1End mb (n + 1) (es ++ [x]) w) := by
  have HEN := Lib.hid (entry_ok R x c u w hc hu hx)
  have hxl : x.1.length ≤ 8 := by
    unfold entOk at hx
    simp only [Bool.and_eq_true, decide_eq_true_eq] at hx
    exact hx.1.1.1.2
  have HSE : Hid (∀ V, Below w.heap.size w V → Calls Tryz.prog 52 #[.map (some mb), c] V fun e w' => e = .returned (.bool true) ∧ SMp w' mb (n + 1) (seenF (es ++ [x])) ∧ Only (fun i => i = mb) V w') := by
    show ∀ V, _
    intro V hV
    refine (seen_any R mb n (seenF es) x.1 c V (hc.kept (Kept.below hV)) (by omega) (hm.below hV) (hmp.same (hV.block mb hmp.lt)) (by omega) (seenF_bd es)).mono ?_
    rintro e w' ⟨he, hm', ho⟩
    rw [hs] at he
    rw [seenF_snoc es x hs] at hm'
    exact ⟨he, hm', ho⟩
  obtain ⟨cp, cc, rfl, _⟩ := hc
  obtain ⟨up, uc, rfl, _⟩ := hu
  obtain ⟨t0, t1, _, tl⟩ := h2.cells
  have hxl2 := cell_lt hmx
  clear hR hx h2 hmp hn hm hs hxl
  go_enter Tryz.func69, Tryz.ntmps69
  go_wp2_with fail
  refine HEN.out.mono ?_
  rintro e w1 ⟨rfl, hb1⟩
  have q0 := (hb1.cell (p := ⟨eb, 0, none⟩) tl).trans t0
  have q1 := (hb1.cell (p := ⟨mx, 0, none⟩) hxl2).trans hmx
  have HB1 := Lib.hid hb1
  clear hb1 t0 t1 hmx
  go_wp2_with fail
  refine (HSE.out _ HB1.out).mono ?_
  rintro e w2 ⟨rfl, hm2, ho2⟩
  have HH : Hid (C1End mb (n + 1) (es ++ [x]) w (.returned (.tuple #[])) w2) := ⟨rfl, hm2, ((Only.refl (fun i => i = mb) w).below HB1.out).trans ho2⟩
  clear hm2 ho2 q0 q1
  go_wp2_with fail
  ((with_reducible refine (must_ok _ _).mono ?_); rintro e w' ⟨rfl, rfl⟩)
  go_wp2_with fail
  go_end0
  exact HH.out
/-- the same under guard -/
theorem gcheck_ok (R : Nat → Prop) (eb mx mb n : Nat) (es : List Ent) (x : Ent) (c u : Value) (w : World) (hc : IntsIn R .i32 w c x.1) (hu : ElsIn R w u x.2) (hR : ∀ b, R b → b ≠ mb) (hx : entOk x = true) (h2 : TwoAt w eb c u) (hmx : w.cell? ⟨mx, 0, none⟩ = some (.map (some mb))) (hmp : SMp w mb n (seenF es)) (hn : n ≤ 1000000) (hm : ML w) (hs : seenF es (showW x.1) = 0) :
    Calls Tryz.prog 18 #[.func (.func 69) #[] #[.pointer (some ⟨eb, 0, none⟩), .pointer (some ⟨mx, 0, none⟩)]] w fun e w' => e = .returned (.int .i64 0) ∧ SMp w' mb (n + 1) (seenF (es ++ [x])) ∧ Only (fun i => i = mb) w w' := by
  have hb : Below w.heap.size w (w.alloc (.cells #[.int .i64 0] 27)) := (Below.refl _ w).alloc (Nat.le_refl _) _
  have hx0 : (w.alloc (.cells #[.int .i64 0] 27)).heap[w.heap.size]? = some (.cells #[.int .i64 0] 27 (0, 0)) := World.alloc_heap_new _ _
  have hmbl := hmp.lt
  have hc1 := check1_ok R eb mx mb n es x c u (w.alloc (.cells #[.int .i64 0] 27)) (hc.kept (Kept.below hb)) (hu.kept (Kept.below hb)) hR hx (h2.below hb) ((hb.cell (p := ⟨mx, 0, none⟩) (cell_lt hmx)).trans hmx) (hmp.same (hb.block mb hmbl)) hn (hm.below hb) hs
  refine (guardedT_any 69 _ _ w (enters_of Tryz.func69 (by kernel_rfl) rfl) hc1 ?_).mono ?_
  · rintro e w' ⟨he, _, ho⟩
    have h3 : w'.heap[w.heap.size]? = some (.cells #[.int .i64 0] 27 (0, 0)) := (ho.block w.heap.size (by simp) (by omega)).trans hx0
    exact ⟨.inl he, (Array.getElem?_eq_some_iff.1 h3).1, by simp [World.cell?, h3], by simp [World.frozen?, h3]⟩
  · rintro e w' ⟨e1, w1, ⟨he1, hm1, ho⟩, ho2, he⟩
    rcases he with ⟨_, rfl⟩ | ⟨a, h, _⟩
    · refine ⟨rfl, hm1.same (ho2.block mb hm1.lt (by omega)), ?_⟩
      have hb' := ho.size
      refine ⟨ho2.os.trans (ho.os.trans hb.os), ho2.tape.trans (ho.tape.trans hb.tape), ho2.output.trans (ho.output.trans hb.output), Nat.le_trans hb.size (Nat.le_trans ho.size ho2.size), fun k hk hne => ?_⟩
      have hk1 := Nat.lt_of_lt_of_le hk hb.size
      exact ((ho2.block k (Nat.lt_of_lt_of_le hk1 ho.size) (by omega)).trans (ho.block k hk1 hne)).trans (hb.block k hk)
    · rw [he1] at h; cases h
end Go.Proofs.YtjbcbejedaeedaaGreatDoor
