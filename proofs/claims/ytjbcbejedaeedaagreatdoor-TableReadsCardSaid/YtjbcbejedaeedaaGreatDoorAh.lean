/- Package table: an entry's line is read: walked; it throws. -/
import Derived.Test.YtjbcbejedaeedaaGreatDoorAg
import Derived.Test.YtjbcbejedaeedaaGreatDoorZa
import Derived.Test.YtjbcbejedaeedaaGreatDoorWl
namespace Go.Proofs.YtjbcbejedaeedaaGreatDoor
open Go.RowKit
open PlainAid (bt)

theorem cut_le (l p : Bs) : (Lib.cut l p).1.length ≤ l.length ∧ (Lib.cut l p).2.1.length ≤ l.length := by
  unfold Lib.cut
  split
  · simp; omega
  · simp
theorem elsF_fuel : ∀ (n m : Nat) (l : Bs), l.length ≤ n → l.length ≤ m → elsF n l = elsF m l
  | 0, m, l, h, _ => by
    obtain rfl : l = [] := List.eq_nil_of_length_eq_zero (by omega)
    cases m <;> rfl
  | n + 1, 0, l, _, h => by
    obtain rfl : l = [] := List.eq_nil_of_length_eq_zero (by omega)
    rfl
  | n + 1, m + 1, l, h1, h2 => by
    rw [elsF, elsF]
    by_cases hl : l = []
    · rw [if_pos hl, if_pos hl]
    · rw [if_neg hl, if_neg hl]
      have h0 := List.length_pos_iff.2 hl
      have h3 := trimLW_le (l.drop 17)
      rw [List.length_drop] at h3
      rw [elsF_fuel n m (trimLW (l.drop 17)) (by omega) (by omega)]
theorem elsW_nil : elsW [] = .ok [] := rfl
theorem elsW_eq (l : Bs) (hl : l ≠ []) : elsW l = if goodB (mkB l) = false then .error 80 else if chkS (mkB l) ≠ 0 ∨ lvS (mkB l) = 0 then .error 70 else
    match elsW (trimLW (l.drop 17)) with
    | .ok xs => .ok (elS (mkB l) :: xs)
    | .error e => .error e := by
  have h0 := List.length_pos_iff.2 hl
  have h3 := trimLW_le (l.drop 17)
  rw [List.length_drop] at h3
  unfold elsW
  obtain ⟨n, hn⟩ : ∃ n, l.length = n + 1 := ⟨l.length - 1, by omega⟩
  rw [hn, elsF, if_neg hl, elsF_fuel n (trimLW (l.drop 17)).length _ (by omega) (Nat.le_refl _)]
  rfl
/-- elements ahead of what is read -/
def preE (xs : List El) : Except Int (List El) → Except Int (List El)
  | .ok ys => .ok (xs ++ ys)
  | .error e => .error e
theorem preE_step (xs : List El) (l : Bs) (hl : l ≠ []) (hg : goodB (mkB l) = true) (hc : chkS (mkB l) = 0) (hv : lvS (mkB l) ≠ 0) : preE xs (elsW l) = preE (xs ++ [elS (mkB l)]) (elsW (trimLW (l.drop 17))) := by
  rw [elsW_eq l hl, if_neg (by rw [hg]; exact fun h => Bool.noConfusion h), if_neg (by simp [hc, hv])]
  cases elsW (trimLW (l.drop 17)) <;> simp [preE]
theorem lvS_cases (s : ByteArray) : lvS s = 0 ∨ 0 < lvS s := by unfold lvS lvl; repeat' split; all_goals omega
/-- two cells of an entry -/
def TwoAt (W : World) (b : Nat) (c u : Value) : Prop := W.heap[b]? = some (.cells #[c, u] 45 (0, 0))
theorem TwoAt.cells {W : World} {b : Nat} {c u : Value} (h : TwoAt W b c u) : W.cell? ⟨b, 0, none⟩ = some c ∧ W.cell? ⟨b, 1, none⟩ = some u ∧ (∀ o, W.frozen? ⟨b, o, none⟩ = false) ∧ b < W.heap.size :=
  ⟨by simp [World.cell?, show W.heap[b]? = _ from h], by simp [World.cell?, show W.heap[b]? = _ from h], fun o => by simp [World.frozen?, show W.heap[b]? = _ from h], (Array.getElem?_eq_some_iff.1 h).1⟩
theorem TwoAt.put1 {W : World} {b : Nat} {c u : Value} (h : TwoAt W b c u) (v : Value) : TwoAt (W.setCell ⟨b, 1, none⟩ v) b c v := by
  unfold TwoAt at *
  unfold World.setCell
  simp [Array.getElem?_modify, h]
theorem TwoAt.put2 {W : World} {b : Nat} {c u : Value} (h : TwoAt W b c u) (d v : Value) : TwoAt ((W.setCell ⟨b, 0, none⟩ d).setCell ⟨b, 1, none⟩ v) b d v := by
  unfold TwoAt at *
  unfold World.setCell
  simp [Array.getElem?_modify, h]
theorem TwoAt.below {W W' : World} {b : Nat} {c u : Value} (h : TwoAt W b c u) (hb : Below W.heap.size W W') : TwoAt W' b c u := (hb.block b h.cells.2.2.2).trans h
theorem TwoAt.only {W W' : World} {b : Nat} {c u : Value} (h : TwoAt W b c u) {S : Nat → Prop} (ho : Only S W W') (hx : ¬ S b) : TwoAt W' b c u := (ho.block b h.cells.2.2.2 hx).trans h
/-- how line ends -/
def LineEnd (l : Bs) (w : World) (e : Ending) (w' : World) : Prop :=
  Below w.heap.size w w' ∧ ((∃ x c u, lineW l = .ok x ∧ e = .returned (.agg #[c, u]) ∧ IntsIn (Lf w.heap.size w') .i32 w' c x.1 ∧ ElsIn (Lf w.heap.size w') w' u x.2) ∨ ∃ z, lineW l = .error z ∧ e = .panicked (chainE z))

def strLen : Value → Nat
  | .string s => s.size
  | _ => 0
theorem drop_extract (l : Bs) (n : Nat) : ((mkB l).extract n (mkB l).size).data.toList = l.drop n := by rw [Lib.extract_to_end, data_mkB]
theorem empty_mkB (l : Bs) (h : l ≠ []) : (mkB l).toList.isEmpty = false := by
  rw [Lib.toList_data, data_mkB]
  cases l with
  | nil => exact absurd rfl h
  | cons => rfl
theorem readV_chk (s : ByteArray) (h : goodB s = true) (hc : chkS s ≠ 0) : readV s = .tuple #[.agg #[.int .i64 0, .int .i64 0, .int .i64 0, .bool false], .int .i64 0, .int .i64 70] := by
  have : chkS s = 70 := by
    unfold chkS chk at *
    split at hc
    · exact absurd rfl hc
    · rename_i h; rw [if_neg h]
  unfold readV; rw [if_pos h, if_neg hc, this]; rfl
theorem readV_ok (s : ByteArray) (h : goodB s = true) (hc : chkS s = 0) : readV s = .tuple #[elAgg (elS s), .int .i64 17, .int .i64 0] := by
  unfold readV; rw [if_pos h, if_pos hc]; rfl
theorem good_17 (s : ByteArray) (h : goodB s = true) : 17 ≤ s.size := by
  unfold goodB at h; simp at h; exact h.1.1
theorem only_keptT {R S : Nat → Prop} {a b : World} (h : Only S a b) (hd : ∀ i, R i → ¬ S i) : Kept R a b := ⟨h.size, fun i hi hl => h.block i hl (hd i hi)⟩
theorem only_grownT {S : Nat → Prop} {a b c : World} {row : Option Nat} (h : Only S a b) (hg : b.grownBy c row) (hr : ∀ j, row = some j → a.heap.size ≤ j) : Only S a c :=
  ⟨hg.os.trans h.os, hg.tape.trans h.tape, hg.output.trans h.output, Nat.le_trans h.size hg.size, fun i hi hs => (hg.block i (Nat.lt_of_lt_of_le hi h.size) (fun e => by have := hr i e.symm; omega)).trans (h.block i hi hs)⟩
theorem TwoAt.grownT {W W' : World} {b : Nat} {c u : Value} {row : Option Nat} {o : Obj} (h : TwoAt W b c u) (hg : (W.alloc o).grownBy W' row) (hr : ∀ k, row = some k → k ≠ b) : TwoAt W' b c u := by
  have h1 : TwoAt (W.alloc o) b c u := h.below ((Below.refl _ _).alloc (Nat.le_refl _) _)
  exact (hg.block b h1.cells.2.2.2 (fun e => hr b e.symm rfl)).trans h1
theorem ownsRow_put {B : Nat} {e : TypeId} {k : Nat} {v : Value} {n : Nat} {xs : List Value} {w : World} (h : w.ownsRow B e k v n xs) {p : Addr} (hp : p.block < B) (u : Value) : (w.setCell p u).ownsRow B e k v n xs := by
  obtain ⟨h1, h2⟩ := h
  refine ⟨h1, h2.imp id ?_⟩
  rintro ⟨g, cap, cur, e1, e2, e3, e4⟩
  refine ⟨g, cap, cur, e1, e2, ?_, e4⟩
  rw [Below.heap_setCell _ _ _ _ (by omega)]; exact e3
theorem Only.toBelowT {a b c : World} {n x : Nat} (h : Below a.heap.size a b) (hn : n ≤ a.heap.size) (k : Only (fun j => j = x) b c) (hx : a.heap.size ≤ x) : Below n a c :=
  ⟨k.os.trans h.os, k.tape.trans h.tape, k.output.trans h.output, Nat.le_trans h.size k.size, fun i hi => (k.block i (by have := h.size; omega) (by omega)).trans (h.block i (by omega))⟩
/-- between two rounds: what is read, what is left -/
def LnRel (b0 : Bs) (xb : Nat) (cv : Value) (W1 : World) (xs : List El) (l : Bs) (W : World) : Prop :=
  l.length + 17 * xs.length ≤ 1000000 ∧ elsW b0 = preE xs (elsW l) ∧ (∃ v, TwoAt W xb cv v ∧ W.ownsRow W1.heap.size 79 4 v xs.length (xs.flatMap elCells)) ∧ Only (fun k => k = xb) W1 W
set_option maxHeartbeats 8000000 in
set_option maxRecDepth 100000 in
theorem line_any (s : ByteArray) (w : World) (hs : s.size ≤ 1000000) (hm : ML w) :
    Calls Tryz.prog 51 #[.string s] w (LineEnd s.data.toList w) := by
  have HM := Lib.hid hm
  have HS := Lib.hid hs
  obtain ⟨i0, hi, hz0, hz1, hz2⟩ := info_parts Tryz.infoE
  have hca : ∀ w, Calls Tryz.prog 90 #[.string s, .string ⟨#[35, 10]⟩] w fun e w' => e = .returned (.bool (Lib.containsAny s.data.toList [35, 10])) ∧ Below w.heap.size w w' :=
    fun w => containsAny_any s ⟨#[35, 10]⟩ w rfl (by omega) (ascii_of_all (by decide))
  have hcu : ∀ w, ML w → Calls Tryz.prog 44 #[.string s, .string ⟨#[59]⟩] w fun e w' => e = .returned (.tuple #[.string (mkB (Lib.cut s.data.toList [59]).1), .string (mkB (Lib.cut s.data.toList [59]).2.1), .bool (Lib.cut s.data.toList [59]).2.2]) ∧ Below w.heap.size w w' :=
    fun w hm => cutS_any s ⟨#[59]⟩ w (by omega) hm
  have HCU := Lib.hid hcu
  have hle := cut_le s.data.toList [59]
  rw [size_data] at hle
  have HLW : Hid (lineW s.data.toList = if Lib.containsAny s.data.toList [35, 10] = true then .error 80 else
      if (Lib.cut s.data.toList [59]).2.2 = false then .error 80 else
      match codesW (Lib.cut s.data.toList [59]).1 with
      | .error e => .error e
      | .ok x => match elsW (trimW (Lib.cut s.data.toList [59]).2.1) with
        | .error e => .error e
        | .ok y => if y.length ≤ 16 then .ok (x, y) else .error 2) := rfl
  generalize Lib.containsAny s.data.toList [35, 10] = f0 at *
  generalize Lib.cut s.data.toList [59] = c at *
  obtain ⟨a, b, f⟩ := c
  simp only at hle HLW HCU
  obtain ⟨hla, hlb⟩ := hle
  have HLA := Lib.hid hla
  have HLB := Lib.hid hlb
  clear hcu hm hs hla hlb
  have hb0 : Below w.heap.size w (w.alloc (.cells #[.slice none 0 0, .slice none 0 0] 45)) := (Below.refl _ w).alloc (Nat.le_refl _) _
  have h20 : TwoAt (w.alloc (.cells #[.slice none 0 0, .slice none 0 0] 45)) w.heap.size (.slice none 0 0) (.slice none 0 0) := World.alloc_heap_new w _
  have HB0 := Lib.hid hb0
  have H20 := Lib.hid h20
  clear hb0 h20
  cases f0 with
  | true =>
      have HE : Hid (lineW s.data.toList = .error 80) := by show _ = _; rw [HLW.out, if_pos rfl]
      go_enter Tryz.func51, Tryz.ntmps51
      go_wp2_with fail
      generalize w.alloc (.cells #[.slice none 0 0, .slice none 0 0] 45) = W0 at *
      refine (hca _).mono ?_
      rintro e w1 ⟨rfl, hb1⟩
      have HB1 := Lib.hid hb1
      clear hb1
      go_wp2_with fail
      refine (must_no _ _).mono ?_
      rintro e w' ⟨rfl, rfl⟩
      exact ⟨rfl, HB0.out.trans (HB1.out.mono HB0.out.size), .inr ⟨80, HE.out, rfl⟩⟩
  | false =>
    have HLW2 : Hid (lineW s.data.toList = if f = false then .error 80 else
      match codesW a with
      | .error e => .error e
      | .ok x => match elsW (trimW b) with
        | .error e => .error e
        | .ok y => if y.length ≤ 16 then .ok (x, y) else .error 2) := by show _ = _; rw [HLW.out]; rfl
    clear HLW
    cases f with
    | false =>
      have HE : Hid (lineW s.data.toList = .error 80) := by show _ = _; rw [HLW2.out, if_pos rfl]
      go_enter Tryz.func51, Tryz.ntmps51
      go_wp2_with fail
      generalize w.alloc (.cells #[.slice none 0 0, .slice none 0 0] 45) = W0 at *
      refine (hca _).mono ?_
      rintro e w1 ⟨rfl, hb1⟩
      have HB1 := Lib.hid hb1
      clear hb1
      go_wp2_with fail
      refine (must_ok _ _).mono ?_
      rintro e w' ⟨rfl, rfl⟩
      go_wp2_with (go_at_call 44; refine (HCU.out _ ((HM.out.below HB0.out).below HB1.out)).mono ?_; rintro e w2 ⟨rfl, hb2⟩; have HB2 := Lib.hid (HB1.out.trans (hb2.mono HB1.out.size)); clear hb2)
      refine (must_no _ _).mono ?_
      rintro e w' ⟨rfl, rfl⟩
      exact ⟨rfl, HB0.out.trans (HB2.out.mono HB0.out.size), .inr ⟨80, HE.out, rfl⟩⟩
    | true =>
      have HLW3 : Hid (lineW s.data.toList =
        match codesW a with
        | .error e => .error e
        | .ok x => match elsW (trimW b) with
          | .error e => .error e
          | .ok y => if y.length ≤ 16 then .ok (x, y) else .error 2) := by show _ = _; rw [HLW2.out]; rfl
      clear HLW2
      have htr := fun w => trim_any (mkB b) w (by rw [size_mkB]; have := HLB.out; have := HS.out; omega)
      rw [data_mkB] at htr
      have hco := fun w => codes_any (mkB a) w (by rw [size_mkB]; have := HLA.out; have := HS.out; omega)
      rw [data_mkB] at hco
      have HCO := Lib.hid hco
      clear hco
      go_enter Tryz.func51, Tryz.ntmps51
      go_wp2_with fail
      generalize w.alloc (.cells #[.slice none 0 0, .slice none 0 0] 45) = W0 at *
      refine (hca _).mono ?_
      rintro e w1 ⟨rfl, hb1⟩
      have HB1 := Lib.hid hb1
      clear hb1
      go_wp2_with fail
      refine (must_ok _ _).mono ?_
      rintro e w' ⟨rfl, rfl⟩
      go_wp2_with (go_at_call 44; refine (HCU.out _ ((HM.out.below HB0.out).below HB1.out)).mono ?_; rintro e w2 ⟨rfl, hb2⟩; have HB2 := Lib.hid (HB1.out.trans (hb2.mono HB1.out.size)); clear hb2)
      refine (must_ok _ _).mono ?_
      rintro e w' ⟨rfl, rfl⟩
      go_wp2_with (go_at_call 45; refine (htr _).mono ?_; rintro e w3 ⟨rfl, hb3⟩; have HB3 := Lib.hid (HB2.out.trans (hb3.mono HB2.out.size)); clear hb3)
      refine (HCO.out _).mono ?_
      rintro e w4 ⟨hb4, ⟨xs, cv, hcx, rfl, hcv⟩ | ⟨z, hcz, rfl⟩⟩
      rotate_left
      · exact ⟨rfl, HB0.out.trans ((HB3.out.trans (hb4.mono HB3.out.size)).mono HB0.out.size), .inr ⟨z, by rw [HLW3.out, hcz], rfl⟩⟩
      have HB4 := Lib.hid (HB3.out.trans (hb4.mono HB3.out.size))
      have HCV := Lib.hid (hcv.mono (S := fun k => Lf W0.heap.size w4 k ∧ k < w4.heap.size) (fun k hk hl => ⟨⟨Nat.le_trans HB3.out.size hk.1, hk.2⟩, hl⟩))
      have HLW4 : Hid (lineW s.data.toList = match elsW (trimW b) with
          | .error e => .error e
          | .ok y => if y.length ≤ 16 then .ok (xs, y) else .error 2) := by show _ = _; rw [HLW3.out, hcx]
      have HTL : Hid ((trimW b).length ≤ 1000000) := Nat.le_trans (trimW_le b) (Nat.le_trans HLB.out HS.out)
      obtain ⟨cp, cc, rfl, _⟩ := hcv
      clear HLW3 HCO HB2 HB1 hcx hb4 htr HCU hca
      generalize trimW b = b0 at *
      go_wp2_with fail
      have h2W : TwoAt (w4.alloc (.cells #[.slice cp xs.length cc, .slice none 0 0] 45)) w4.heap.size (.slice cp xs.length cc) (.slice none 0 0) := World.alloc_heap_new w4 _
      have hbW : Below w4.heap.size w4 (w4.alloc (.cells #[.slice cp xs.length cc, .slice none 0 0] 45)) := (Below.refl _ w4).alloc (Nat.le_refl _) _
      have HXB : Hid (W0.heap.size ≤ w4.heap.size) := HB4.out.size
      have HB4W := Lib.hid hbW
      generalize w4.alloc (.cells #[.slice cp xs.length cc, .slice none 0 0] 45) = W1 at *
      have HBW := Lib.hid (HB4.out.trans (hbW.mono HB4.out.size))
      have HCW := Lib.hid (HCV.out.kept (Kept.below hbW))
      have hxbl := h2W.cells.2.2.2
      generalize hxbe : w4.heap.size = xb at *
      have HXQ := Lib.hid hxbe
      clear hxbe
      have H2W := Lib.hid h2W
      generalize xs.length = m at *
      clear hbW h2W HB4 HCV
      go_loopw [4] (fun bv wr => ∃ (l : Bs) (ys : List El), bv = .string (mkB l) ∧ LnRel b0 xb (.slice cp m cc) W1 ys l wr) (fun bv _ => strLen bv)
      case atStart => exact ⟨b0, [], rfl, by have := HTL.out; simpa using this, by cases elsW b0 <;> rfl, ⟨_, H2W.out, World.ownsRow_nil _ _ _ _⟩, Only.refl _ _⟩
      case round =>
        obtain ⟨l, ys, rfl, hr⟩ := hrel
        have HR := Lib.hid hr
        obtain ⟨_, _, ⟨v, htw, hown⟩, ho⟩ := hr
        have hwr := ho.size
        obtain ⟨t0, t1, tf, tl⟩ := htw.cells
        have tf1 := tf 1
        have HTW := Lib.hid htw
        have HO := Lib.hid ho
        clear htw ho tf
        by_cases hl : l = []
        · subst hl
          have hemp : (mkB []).toList.isEmpty = true := by rw [Lib.toList_data, data_mkB]; rfl
          have HY : Hid (elsW b0 = .ok ys) := by
            show _ = _
            have := HR.out.2.1
            rw [elsW_nil] at this
            rw [this]; simp [preE]
          have hvf : ∃ p c, v = .slice p ys.length c := by
            rcases hown.2 with ⟨rfl, h0⟩ | ⟨g, cap, cur, rfl, _⟩
            · rw [h0]; exact ⟨_, _, rfl⟩
            · exact ⟨_, _, rfl⟩
          obtain ⟨p, c, rfl⟩ := hvf
          have HE := Lib.hid (elsIn_row hown)
          obtain ⟨n, hn⟩ : ∃ n, n = ys.length := ⟨_, rfl⟩
          rw [← hn] at HTW HE t1
          have HN := Lib.hid hn
          clear hn hown
          by_cases h16 : n ≤ 16
          · have g1 : (n : Int) ≤ 16 := by omega
            have HLX : Hid (lineW s.data.toList = .ok (xs, ys)) := by
              show _ = _
              rw [HLW4.out, HY.out]; exact if_pos (by rw [← HN.out]; exact h16)
            have hr0 := (H20.out.below (HBW.out)).only HO.out (by have := H20.out.cells.2.2.2; have := HXB.out; omega)
            obtain ⟨r0, r1, rf, rl⟩ := hr0.cells
            have rf0 := rf 0
            have rf1 := rf 1
            have HR0 := Lib.hid hr0
            clear hr0 rf h16
            go_wp2_with fail
            refine (must_ok _ _).mono ?_
            rintro e w' ⟨rfl, rfl⟩
            go_wp2_with fail
            any_goals (first | exact Lib.hid trivial | skip)
            have hpo : Only (fun k => k = w.heap.size) wr ((wr.setCell ⟨w.heap.size, 0, none⟩ (.slice cp m cc)).setCell ⟨w.heap.size, 1, none⟩ (.slice p n c)) :=
              ((Only.refl (fun k => k = w.heap.size) wr).setCell (p := ⟨w.heap.size, 0, none⟩) rfl _).setCell (p := ⟨w.heap.size, 1, none⟩) rfl _
            have hsf := HR0.out.put2 (.slice cp m cc) (.slice p n c)
            generalize (wr.setCell ⟨w.heap.size, 0, none⟩ (.slice cp m cc)).setCell ⟨w.heap.size, 1, none⟩ (.slice p n c) = WF at *
            obtain ⟨q0, q1, _, _⟩ := hsf.cells
            have hb1 : Below w.heap.size w wr := HB0.out.trans (Only.toBelowT HBW.out HB0.out.size HO.out HXB.out)
            have h20l := H20.out.cells.2.2.2
            refine bodyPost_ret (v := .agg #[.slice cp m cc, .slice p n c]) (by simp [results, Tryz.results51, go_sem, q0, q1]) rfl ?_
            refine ⟨Only.toBelowT hb1 (Nat.le_refl _) hpo (Nat.le_refl _), .inl ⟨(xs, ys), _, _, HLX.out, rfl, ?_, ?_⟩⟩
            · refine ((HCW.out.kept (only_keptT HO.out (fun i hi h => by have := hi.2; omega))).kept (only_keptT hpo (fun i hi h => by have := hi.1.1; omega))).mono (fun b hb _ => ?_)
              obtain ⟨⟨e1, c, t, e2, e3⟩, e4⟩ := hb
              have hxq := HXQ.out
              have hsz := HB4W.out.size
              have hsz2 := HO.out.size
              have e5 := HB4W.out.block b (by omega)
              have e6 := HO.out.block b (by omega) (by omega)
              have e7 := hpo.block b (by omega) (by omega)
              exact ⟨Nat.le_trans HB0.out.size e1, c, t, ((e7.trans e6).trans e5).trans e2, e3⟩
            · refine (HE.out.kept (only_keptT hpo (fun i hi h => by have := hi.1; have := HXB.out; omega))).mono (fun b hb _ => ?_)
              obtain ⟨e1, c, t, e2, e3⟩ := hb
              have e4 := (Array.getElem?_eq_some_iff.1 e2).1
              have e7 := hpo.block b e4 (by have := HXB.out; omega)
              exact ⟨Nat.le_trans (Nat.le_trans HB0.out.size HBW.out.size) e1, c, t, e7.trans e2, e3⟩
          · have g1 : ¬ (n : Int) ≤ 16 := by omega
            have HLX : Hid (lineW s.data.toList = .error 2) := by
              show _ = _
              rw [HLW4.out, HY.out]; exact if_neg (by rw [← HN.out]; exact h16)
            clear h16
            go_wp2_with fail
            refine (must_no _ _).mono ?_
            rintro e w' ⟨rfl, rfl⟩
            exact ⟨rfl, HB0.out.trans (Only.toBelowT HBW.out HB0.out.size HO.out HXB.out), .inr ⟨2, HLX.out, rfl⟩⟩
        · have hemp := empty_mkB l hl
          have hrd := fun w => read_any (mkB l) w (by rw [size_mkB]; unfold maxLen; have := HR.out.1; omega)
          have HRD := Lib.hid hrd
          clear hrd
          have HL := Lib.hid hl
          have HERR : Hid (∀ z, elsW l = .error z → lineW s.data.toList = .error z) := by
            show ∀ z, _
            intro z h
            rw [HLW4.out, HR.out.2.1, h]; rfl
          have HBD : Hid (∀ W, Only (fun k => k = xb) W1 W → Below w.heap.size w W) := by
            show ∀ W, _
            intro W h
            exact HB0.out.trans (Only.toBelowT HBW.out HB0.out.size h HXB.out)
          cases hg : goodB (mkB l) with
          | false =>
            have HE : Hid (lineW s.data.toList = .error 80) := HERR.out 80 (by rw [elsW_eq l hl, if_pos hg])
            have hrd := HRD.out
            rw [readV_bad _ hg] at hrd
            have HRD2 := Lib.hid hrd
            clear hrd HRD hg hl
            go_wp2_with (go_at_call 92; refine (HRD2.out _).mono ?_; rintro e w5 ⟨rfl, hb5⟩; have hw5 := hb5.size; have HO5 := Lib.hid (HO.out.below hb5); have HT5 := Lib.hid (HTW.out.below hb5); have HW5 := Lib.hid (ownsRow_growT hown hb5); clear hb5)
            refine (must_no _ _).mono ?_
            rintro e w' ⟨rfl, rfl⟩
            exact ⟨rfl, HBD.out _ (HO5.out.alloc _), .inr ⟨80, HE.out, rfl⟩⟩
          | true =>
            have HG := Lib.hid hg
            by_cases hc : chkS (mkB l) = 0
            · have hrd := HRD.out
              rw [readV_ok _ hg hc] at hrd
              have h17 := good_17 _ hg
              have HV : Hid (lvS (mkB l) = lvl (elS (mkB l)).1 (elS (mkB l)).2.1 (elS (mkB l)).2.2.1) := rfl
              have HST := Lib.hid (preE_step ys l hl hg hc)
              have HE0 : Hid (lvS (mkB l) = 0 → lineW s.data.toList = .error 70) := by
                show _ → _
                intro h
                exact HERR.out 70 (by rw [elsW_eq l hl, if_neg (by rw [hg]; exact fun h => Bool.noConfusion h), if_pos (.inr h)])
              generalize elS (mkB l) = x at *
              obtain ⟨x1, x2, x3, x4⟩ := x
              simp only [elAgg] at hrd
              have hlv := fun w => level_any x1 x2 x3 x4 w
              simp only at HV
              rw [← HV.out] at hlv
              have HRD2 := Lib.hid hrd
              have HLV := Lib.hid hlv
              clear hrd HRD hg hl hlv hc
              rcases lvS_cases (mkB l) with hz | hz
              · have HE := Lib.hid (HE0.out hz)
                rw [hz] at HLV
                clear hz HE0 HST HV
                go_wp2_with (go_at_call 92; refine (HRD2.out _).mono ?_; rintro e w5 ⟨rfl, hb5⟩; have hw5 := hb5.size; have HO5 := Lib.hid (HO.out.below hb5); have HT5 := Lib.hid (HTW.out.below hb5); have HW5 := Lib.hid (ownsRow_growT hown hb5); clear hb5)
                refine (must_ok _ _).mono ?_
                rintro e w' ⟨rfl, rfl⟩
                go_wp2_with (go_at_call 93; refine (HLV.out _).mono ?_; rintro e w6 ⟨rfl, hb6⟩; have HO6 := Lib.hid ((HO5.out.alloc _).below hb6); clear hb6)
                refine (must_no _ _).mono ?_
                rintro e w' ⟨rfl, rfl⟩
                exact ⟨rfl, HBD.out _ HO6.out, .inr ⟨70, HE.out, rfl⟩⟩
              · have HST2 := Lib.hid (HST.out (by omega))
                generalize lvS (mkB l) = lv at *
                have hzz := hz
                clear HE0 HST HV
                go_wp2_with (go_at_call 92; refine (HRD2.out _).mono ?_; rintro e w5 ⟨rfl, hb5⟩; have hw5 := hb5.size; have HO5 := Lib.hid (HO.out.below hb5); have HT5 := Lib.hid (HTW.out.below hb5); have HW5 := Lib.hid (ownsRow_growT hown hb5); clear hb5)
                refine (must_ok _ _).mono ?_
                rintro e w' ⟨rfl, rfl⟩
                go_wp2_with (go_at_call 93; refine (HLV.out _).mono ?_; rintro e w6 ⟨rfl, hb6⟩)
                refine (must_ok _ _).mono ?_
                rintro e w' ⟨rfl, rfl⟩
                have HO6 := Lib.hid ((HO5.out.alloc (.cells #[.int .i64 x1, .int .i64 x2, .int .i64 x3, .bool x4] 79)).below hb6)
                have hal := Below.alloc (Below.refl w5.heap.size w5) (Nat.le_refl _) (.cells #[.int .i64 x1, .int .i64 x2, .int .i64 x3, .bool x4] 79)
                have hb6' : Below w5.heap.size w5 w6 := hal.trans (hb6.mono (by simp))
                have HT6 := Lib.hid (HT5.out.below hb6')
                have HW6 := Lib.hid (ownsRow_growT HW5.out hb6')
                have hx0 : ∀ j u, #[Value.int .i64 x1, .int .i64 x2, .int .i64 x3, .bool x4][j]? = some u → w6.cell? ⟨w5.heap.size, j, none⟩ = some u := fun j u hj => by
                  rw [hb6.cell (p := ⟨w5.heap.size, j, none⟩) (by simp), World.cell?_alloc_at _ _ _ _ rfl]; exact hj
                have e0 := hx0 0 _ rfl
                have e1 := hx0 1 _ rfl
                have e2 := hx0 2 _ rfl
                have e3 := hx0 3 _ rfl
                have hw6 : w5.heap.size < w6.heap.size := by have := hb6.size; simp at this; omega
                obtain ⟨y0, y1, yf, yl⟩ := HT6.out.cells
                have yf1 := yf 1
                have HLN : Hid (ys.length ≤ 1000000) := by show _ ≤ _; have := HR.out.1; omega
                have HWS : Hid (W1.heap.size ≤ w6.heap.size) := HO6.out.size
                have HXW : Hid (xb < W1.heap.size) := hxbl
                clear hb6 hb6' hal hx0 t0 t1 tf1 tl hown hwr hw5 yf hzz hz
                have hvb : ∀ k, v.ownBlock = some k → W1.heap.size ≤ k := fun k hk => (HW6.out.lt k hk).1
                have HVB := Lib.hid hvb
                clear hvb
                go_wp2_with (at_builtin; refine wpList_append_own _ rfl _ _ 42 rfl W1.heap.size 79 i0 (.agg #[.int .i64 0, .int .i64 0, .int .i64 0, .bool false]) 4 32 Tryz.underlying42 hi hz0 hz1 hz2 rfl (by decide) _ _ _ rfl (HW6.out.alloc _) ⟨w6.heap.size, 0, none⟩ 1 1 [.int .i64 x1, .int .i64 x2, .int .i64 x3, .bool x4] rfl rfl (cells_new _ _ _) (by simp [Value.oneCell']) (by unfold maxLen; have := HLN.out; omega) (by have := HLN.out; omega) (by simp; exact Nat.le_succ_of_le HWS.out) ?_; intro v' w7 hown' hgrow _; have HO7 := Lib.hid (only_grownT (HO6.out.alloc _) hgrow HVB.out); have HT7 := Lib.hid (HT6.out.grownT hgrow (fun k hk h => by have := HVB.out k hk; have := HXW.out; omega)); obtain ⟨g', cap', _, rfl, _⟩ := hown'.2.resolve_left (fun h => by have := h.2; omega); have HW7 := Lib.hid hown'; obtain ⟨p0, p1, pf, pl⟩ := HT7.out.cells; have pf1 := pf 1; clear hown' hgrow y0 y1 yf1 yl e0 e1 e2 e3 pf)
                have ho8 : Only (fun k => k = xb) W1 (w7.setCell ⟨xb, 1, none⟩ (.slice (some ⟨g', 0, none⟩) (ys.length + 1) cap')) := HO7.out.setCell (p := ⟨xb, 1, none⟩) rfl _
                have ht8 := HT7.out.put1 (.slice (some ⟨g', 0, none⟩) (ys.length + 1) cap')
                have hw8 : (w7.setCell ⟨xb, 1, none⟩ (.slice (some ⟨g', 0, none⟩) (ys.length + 1) cap')).ownsRow W1.heap.size 79 4 (.slice (some ⟨g', 0, none⟩) (ys.length + 1) cap') (ys.length + 1) (ys.flatMap elCells ++ [.int .i64 x1, .int .i64 x2, .int .i64 x3, .bool x4]) :=
                  ownsRow_put HW7.out (p := ⟨xb, 1, none⟩) HXW.out _
                generalize w7.setCell ⟨xb, 1, none⟩ (.slice (some ⟨g', 0, none⟩) (ys.length + 1) cap') = W8 at *
                refine (trimLeft_any _ _).mono ?_
                rintro e w9 ⟨rfl, hb9⟩
                rw [drop_extract]
                have HR9 : Hid (LnRel b0 xb (.slice cp m cc) W1 (ys ++ [(x1, x2, x3, x4)]) (trimLW (l.drop 17)) w9) := by
                  refine ⟨?_, HR.out.2.1.trans HST2.out, ⟨_, ht8.below hb9, ?_⟩, ho8.below hb9⟩
                  · have h1 := trimLW_le (l.drop 17)
                    have h2 := HR.out.1
                    rw [size_mkB] at h17
                    rw [List.length_drop] at h1
                    rw [List.length_append]
                    simp only [List.length_cons, List.length_nil]
                    omega
                  · have := ownsRow_growT hw8 hb9
                    rw [List.length_append, List.flatMap_append]
                    simpa [elCells] using this
                have HLT : Hid (strLen (.string (mkB (trimLW (l.drop 17)))) < strLen (.string (mkB l))) := by
                  show _ < _
                  have h1 := trimLW_le (l.drop 17)
                  rw [size_mkB] at h17
                  rw [List.length_drop] at h1
                  simp only [strLen, size_mkB]
                  omega
                clear ho8 ht8 hw8 hb9 p0 p1 pf1 pl
                go_wp2_with fail
                go_roundw
                case rel => exact ⟨_, _, rfl, HR9.out⟩
                case measure => exact HLT.out
            · have HE : Hid (lineW s.data.toList = .error 70) := HERR.out 70 (by rw [elsW_eq l hl, if_neg (by rw [hg]; exact fun h => Bool.noConfusion h), if_pos (.inl hc)])
              have hrd := HRD.out
              rw [readV_chk _ hg hc] at hrd
              have HRD2 := Lib.hid hrd
              clear hrd HRD hg hl hc
              go_wp2_with (go_at_call 92; refine (HRD2.out _).mono ?_; rintro e w5 ⟨rfl, hb5⟩; have hw5 := hb5.size; have HO5 := Lib.hid (HO.out.below hb5); have HT5 := Lib.hid (HTW.out.below hb5); have HW5 := Lib.hid (ownsRow_growT hown hb5); clear hb5)
              refine (must_ok _ _).mono ?_
              rintro e w' ⟨rfl, rfl⟩
              go_wp2_with fail
              refine (must_no _ _).mono ?_
              rintro e w' ⟨rfl, rfl⟩
              exact ⟨rfl, HBD.out _ (HO5.out.alloc _), .inr ⟨70, HE.out, rfl⟩⟩
end Go.Proofs.YtjbcbejedaeedaaGreatDoor
