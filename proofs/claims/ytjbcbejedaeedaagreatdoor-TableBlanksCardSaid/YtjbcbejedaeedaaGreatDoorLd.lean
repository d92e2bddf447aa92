/- Plain: empty lines, comments and blanks ahead of a text change nothing but the numbers of its lines. Chapter 8: empty lines, comments and blanks change nothing but the numbers of lines: the law walked. -/
import Derived.Test.YtjbcbejedaeedaaGreatDoorAe
import Derived.Test.YtjbcbejedaeedaaGreatDoorEi
import Derived.Test.YtjbcbejedaeedaaGreatDoorLb
import Derived.Test.YtjbcbejedaeedaaGreatDoorDg
/-! Plain: empty lines, comments and blanks ahead of a text change nothing but the numbers of its lines. -/
namespace Go.Proofs.YtjbcbejedaeedaaGreatDoor
open Go.RowKit

def cmtL : Bs := [35, 32, 97, 32, 99, 111, 109, 109, 101, 110, 116]
theorem pieces_ne : ∀ l : Bs, piecesW l ≠ []
  | [] => by simp [piecesW]
  | b :: t => by
    rw [piecesW]; split
    · simp
    · split <;> simp
theorem pieces_app : ∀ (x t p : Bs) (ps : List Bs), (∀ b ∈ x, b ≠ 10) → piecesW t = p :: ps → piecesW (x ++ t) = (x ++ p) :: ps
  | [], t, p, ps, _, h => h
  | b :: x, t, p, ps, hx, h => by
    rw [List.cons_append, piecesW, if_neg (hx b (List.mem_cons_self ..)), pieces_app x t p ps (fun b hb => hx b (List.mem_cons_of_mem _ hb)) h]
    rfl
theorem pieces_line (x t : Bs) (hx : ∀ b ∈ x, b ≠ 10) : piecesW (x ++ 10 :: t) = x :: piecesW t := by
  have h : piecesW (10 :: t) = [] :: piecesW t := by rw [piecesW, if_pos rfl]
  rw [pieces_app x _ _ _ hx h, List.append_nil]
section
variable {bl : Bs} (hb : ∀ b ∈ bl, blk b = true)
include hb
theorem blk_drop' (p : Bs) : (bl ++ p).dropWhile blk = p.dropWhile blk := by
  rw [List.dropWhile_append]
  have : bl.dropWhile blk = [] := by
    induction bl with
    | nil => rfl
    | cons b t ih => rw [List.dropWhile_cons, if_pos (hb b (List.mem_cons_self ..))]; exact ih (fun c hc => hb c (List.mem_cons_of_mem _ hc))
  rw [this]; rfl
theorem blk_trim (p : Bs) : trimW (bl ++ p) = trimW p := by
  unfold trimW Lib.trimS Lib.trimLeftS Lib.trimRightS
  show List.dropWhile blk (List.dropWhile blk (bl ++ p).reverse).reverse = List.dropWhile blk (List.dropWhile blk p.reverse).reverse
  rw [List.reverse_append, List.dropWhile_append]
  split
  · rename_i h
    have h0 : p.reverse.dropWhile blk = [] := List.isEmpty_iff.1 h
    have h1 : bl.reverse.dropWhile blk = [] := by
      have := blk_drop' (bl := bl.reverse) (fun b hb' => hb b (List.mem_reverse.1 hb')) []
      rwa [List.append_nil] at this
    rw [h0, h1]
  · rw [List.reverse_append, List.reverse_reverse, blk_drop' hb]
theorem blk_cut (p : Bs) : (Lib.cut (bl ++ p) [35]).1 = bl ++ (Lib.cut p [35]).1 := by
  have hn : ∀ b ∈ bl, b ≠ 35 := fun b h e => by have := hb b h; rw [e] at this; exact absurd this (by decide)
  rcases ib_cases p 35 with ⟨_, h⟩ | ⟨i, _, h1, h2⟩
  · rw [cut_none p 35 h, cut_none (bl ++ p) 35 (fun x hx => (List.mem_append.1 hx).elim (hn x) (h x))]
  · rw [cut_at p 35 i h1 h2, cut_at (bl ++ p) 35 (bl.length + i) (by rw [List.getElem?_append_right (by omega), Nat.add_sub_cancel_left]; exact h1) (fun j x hj hx => by
      rcases Nat.lt_or_ge j bl.length with hl | hl
      · rw [List.getElem?_append_left hl] at hx; exact hn x (List.mem_of_getElem? hx)
      · rw [List.getElem?_append_right hl] at hx; exact h2 (j - bl.length) x (by omega) hx)]
    simp [List.take_append, List.take_of_length_le]
theorem blk_suf (p : Bs) : Lib.trimSuffix (bl ++ p) [13] = bl ++ Lib.trimSuffix p [13] := by
  have hn : ∀ b ∈ bl, b ≠ 13 := fun b h e => by have := hb b h; rw [e] at this; exact absurd this (by decide)
  have key : ∀ l : Bs, Lib.hasSuffix l [13] = decide (l.getLast? = some 13) := by
    intro l
    unfold Lib.hasSuffix
    rw [Bool.eq_iff_iff, List.isSuffixOf_iff_suffix, decide_eq_true_eq]
    constructor
    · rintro ⟨t, rfl⟩; simp
    · intro h
      obtain ⟨t, rfl⟩ := List.getLast?_eq_some_iff.1 h
      exact ⟨t, rfl⟩
  unfold Lib.trimSuffix
  rw [key, key]
  cases p with
  | nil =>
    have h1 : ¬ bl.getLast? = some 13 := fun h => hn 13 (by obtain ⟨t, e⟩ := List.getLast?_eq_some_iff.1 h; rw [e]; simp) rfl
    simp [h1]
  | cons c t =>
    have h1 : (bl ++ c :: t).getLast? = (c :: t).getLast? := by rw [List.getLast?_append]; simp [List.getLast?_cons]
    rw [h1]
    split
    · rw [List.take_append]
      congr 1
      · rw [List.take_of_length_le (by simp)]
      · congr 1; simp
    · rfl
theorem blk_line (p : Bs) : lineOf (bl ++ p) = lineOf p := by
  unfold lineOf; rw [blk_suf hb, blk_cut hb, blk_trim hb]
theorem blk_empty : lineOf bl = [] := by
  have h := blk_line hb []
  rw [List.append_nil] at h
  rw [h]; decide
end
theorem linesF_shift : ∀ (ps : List Bs) (i k : Nat), linesF (i + k) ps = (linesF i ps).map (fun x => (x.1 + k, x.2))
  | [], _, _ => rfl
  | p :: ps, i, k => by
    rw [linesF, linesF, show i + k + 1 = (i + 1) + k from by omega, linesF_shift ps (i + 1) k]
    split <;> rfl
theorem goL_shift (k : Nat) : ∀ (xs : List (Nat × Bs)) (st : TSt), goL st (xs.map (fun x => (x.1 + k, x.2))) = match goL st xs with | .error (i, e) => .error (i + k, e) | .ok s => .ok s
  | [], _ => rfl
  | x :: xs, st => by
    rw [List.map_cons, goL, goL]
    cases stepW st x.2 with
    | error e => rfl
    | ok s => exact goL_shift k xs s
/-- the text with a line of blanks, a comment and blanks ahead -/
def blkText (bl s : Bs) : Bs := ((bl ++ (10 :: (cmtL ++ [10]))) ++ bl) ++ s
theorem parse_blanks (bl s : Bs) (hb : ∀ b ∈ bl, blk b = true) : (parseW (blkText bl s)).1 = (parseW s).1 ∧ (parseW (blkText bl s)).2.2 = (parseW s).2.2 ∧
    ((parseW s).2.2 = 0 ∨ ((parseW s).2.1 = 0 ∧ (parseW (blkText bl s)).2.1 = 0) ∨ (parseW (blkText bl s)).2.1 = (parseW s).2.1 + 2) := by
  have hn : ∀ b ∈ bl, b ≠ 10 := fun b h e => by have := hb b h; rw [e] at this; exact absurd this (by decide)
  obtain ⟨p, ps, hp⟩ : ∃ p ps, piecesW s = p :: ps := by
    cases h : piecesW s with
    | nil => exact absurd h (pieces_ne s)
    | cons p ps => exact ⟨p, ps, rfl⟩
  have h1 : piecesW (blkText bl s) = bl :: cmtL :: (bl ++ p) :: ps := by
    unfold blkText
    rw [show ((bl ++ (10 :: (cmtL ++ [10]))) ++ bl) ++ s = bl ++ 10 :: (cmtL ++ 10 :: (bl ++ s)) from by simp [List.append_assoc], pieces_line _ _ hn, pieces_line _ _ (by decide), pieces_app bl s p ps hn hp]
  have h2 : linesW (blkText bl s) = (linesW s).map (fun x => (x.1 + 2, x.2)) := by
    unfold linesW
    rw [h1, hp, linesF, if_pos (blk_empty hb), linesF, if_pos (by decide), ← linesF_shift]
    rw [linesF, linesF, blk_line hb]
  rw [parseW_lines, parseW_lines, h2, goL_shift]
  cases goL (none, [], []) (linesW s) with
  | error x => exact ⟨rfl, rfl, .inr (.inr rfl)⟩
  | ok st =>
    refine ⟨rfl, rfl, ?_⟩
    obtain ⟨v, rs, es⟩ := st
    cases v with
    | none => exact .inr (.inl ⟨rfl, rfl⟩)
    | some v =>
      by_cases h : rngC (srtR rs) = 0
      · left; simp [endW, h]
      · right; left; simp [endW, h]
end Go.Proofs.YtjbcbejedaeedaaGreatDoor
/-! Chapter 8: empty lines, comments and blanks change nothing but the numbers of lines: the law walked. -/
namespace Go.Proofs.YtjbcbejedaeedaaGreatDoor
open Go.RowKit
open PlainAid (bt)

def cmtB : ByteArray := ⟨#[10, 35, 32, 97, 32, 99, 111, 109, 109, 101, 110, 116, 10]⟩
theorem blkB_data (s bl : ByteArray) : (((bl ++ cmtB) ++ bl) ++ s).data.toList = blkText bl.data.toList s.data.toList := by
  unfold blkText cmtL cmtB; simp [ByteArray.data_append]
theorem blkB_size (s bl : ByteArray) : (((bl ++ cmtB) ++ bl) ++ s).size = bl.size + 13 + bl.size + s.size := by
  have : cmtB.size = 13 := rfl
  simp [ByteArray.size_append, this]
set_option maxHeartbeats 8000000 in
set_option maxRecDepth 100000 in
theorem blanks8_any (s bl : ByteArray) (w : World) (hm : ML w) (hs : s.size ≤ 140737488351232) (hl : bl.size ≤ 140737488351232) :
    Calls Tryz.prog 4 #[.string s, .string bl] w fun e w' => e = .returned (.bool true) ∧ Below w.heap.size w w' := by
  have HM := Lib.hid hm
  have haw := awake8_any w hm
  have hbt := PlainAid.get_bt bl
  clear hm
  go_enter Tryz.func4, Tryz.ntmps4
  go_wp2_with fail
  with_reducible refine haw.mono ?_
  rintro e w1 ⟨rfl, hb1⟩
  have HB1 := Lib.hid hb1
  clear haw hb1
  go_wp2_with fail
  go_loopw [5] (fun iv wr => ∃ k : Nat, iv = .int .i64 k ∧ k ≤ bl.size ∧ (∀ j b, j < k → bl.data.toList[j]? = some b → blk b = true) ∧ Below w.heap.size w wr) (fun iv _ => bl.size - (intOf iv).toNat)
  case atStart => exact ⟨0, rfl, Nat.zero_le _, fun j b hj => absurd hj (Nat.not_lt_zero _), HB1.out⟩
  case round =>
    obtain ⟨k, rfl, hk, hd, hbr⟩ := hrel
    have HD := Lib.hid hd
    have HB := Lib.hid hbr
    clear hd hbr HB1
    by_cases hlt : k < bl.size
    · have b0 := PlainAid.bt_nonneg bl k
      have b1 := PlainAid.bt_le bl k
      have q1 : (k : Int) < (bl.size : Int) := by omega
      obtain ⟨c, hc1, hc2⟩ := at_bt bl k hlt
      have HC := Lib.hid (And.intro hc1 hc2)
      clear hc1 hc2
      by_cases d0 : bt bl k = 32
      · have g1 : (bt bl k == 32) = true := by rw [d0]; rfl
        have g2 : (bt bl k != 32) = false := by rw [d0]; rfl
        go_wp2_with fail
        go_roundw
        case rel =>
          refine ⟨k + 1, by go_num, hlt, fun j b hj hb => ?_, HB.out⟩
          by_cases he : j = k
          · subst he
            rw [HC.out.1] at hb; cases hb
            have h3 := HC.out.2
            have h4 : c.toNat = 32 := by omega
            have : c = 32 := UInt8.toNat_inj.1 h4
            rw [this]; decide
          · exact HD.out j b (by omega) hb
        case measure => (simp [intOf]; omega)
      · have g2 : (bt bl k != 32) = true := bne_iff_ne.2 d0
        have g1 : (bt bl k == 32) = false := beq_eq_false_iff_ne.2 d0
        by_cases d1 : bt bl k = 9
        · have g3 : (bt bl k != 9) = false := by rw [d1]; rfl
          have g4 : (bt bl k == 9) = true := by rw [d1]; rfl
          go_wp2_with fail
          go_roundw
          case rel =>
            refine ⟨k + 1, by go_num, hlt, fun j b hj hb => ?_, HB.out⟩
            by_cases he : j = k
            · subst he
              rw [HC.out.1] at hb; cases hb
              have h3 := HC.out.2
              have h4 : c.toNat = 9 := by omega
              have : c = 9 := UInt8.toNat_inj.1 h4
              rw [this]; decide
            · exact HD.out j b (by omega) hb
          case measure => (simp [intOf]; omega)
        · have g3 : (bt bl k != 9) = true := bne_iff_ne.2 d1
          have g4 : (bt bl k == 9) = false := beq_eq_false_iff_ne.2 d1
          go_wp2_with fail
          go_ret
          exact ⟨rfl, HB.out⟩
    · have q1 : ¬ (k : Int) < (bl.size : Int) := by omega
      have HBL : Hid (∀ b ∈ bl.data.toList, blk b = true) := fun b hb => by
        obtain ⟨j, hj⟩ := List.getElem?_of_mem hb
        have h1 := (List.getElem?_eq_some_iff.1 hj).1
        have h2 : bl.data.toList.length = bl.size := size_data bl
        exact HD.out j b (by omega) hj
      clear HD hlt hk
      by_cases hsz : 4000 < s.size + bl.size
      · have q2 : (s.size : Int) + (bl.size : Int) > 4000 := by omega
        go_wp2_with fail
        go_ret
        exact ⟨rfl, HB.out⟩
      · have q2 : ¬ (s.size : Int) + (bl.size : Int) > 4000 := by omega
        have hp1 := parse8_any s wr (by omega) (HM.out.below HB.out)
        have HP2 : Hid (∀ W, Below w.heap.size w W → Calls Tryz.prog 7 #[.string (((bl ++ cmtB) ++ bl) ++ s)] W (ParseEnd (blkText bl.data.toList s.data.toList) W)) := fun W hW => by
          have := parse8_any (((bl ++ cmtB) ++ bl) ++ s) W (by rw [blkB_size]; omega) (HM.out.below hW)
          rwa [blkB_data] at this
        have HSZ := Lib.hid (parseW_sizes s.data.toList)
        have HPB := Lib.hid (parse_blanks bl.data.toList s.data.toList HBL.out)
        have HSL : Hid (s.data.toList.length = s.size) := size_data s
        have HS4 : Hid (s.size ≤ 4000) := by show _ ≤ _; omega
        clear hsz
        go_wp2_with fail
        with_reducible refine hp1.mono ?_
        clear hp1
        rintro e w2 ⟨hb2, rv, ev, rfl, hrv, hev⟩
        have hat0 := parseW_at s.data.toList
        rw [HSL.out] at hat0
        generalize parseW s.data.toList = q at *
        generalize hq' : parseW (blkText bl.data.toList s.data.toList) = q' at HPB
        have HQ' := Lib.hid hq'
        clear hq'
        obtain ⟨⟨ver, rs, es⟩, at1, er⟩ := q
        obtain ⟨t', at2, er'⟩ := q'
        obtain ⟨hx1, hx2, hx3⟩ := HPB.out
        dsimp only at hx1 hx2 hx3 hrv hev hat0 ⊢
        subst hx1
        subst hx2
        have hsz := HSZ.out
        dsimp only at hsz
        have HBX : Hid (Below w.heap.size w w2) := HB.out.trans (hb2.mono HB.out.size)
        have HRV := Lib.hid hrv
        have HEV := Lib.hid hev
        obtain ⟨rp, rc, rfl, _⟩ := hrv
        obtain ⟨ep, ec, rfl, _⟩ := hev
        have HZ := Lib.hid hsz
        have HX3 := Lib.hid hx3
        have hat : at1 ≤ 4001 := by have := HS4.out; omega
        clear hat0
        clear hsz hx3 hb2 HPB HSZ HBL
        go_wp2_with fail
        have hp2 := HP2.out (w2.alloc (.cells #[.string (mkB ver), .slice rp rs.length rc, .slice ep es.length ec] 26)) (HBX.out.trans (((Below.refl _ w2).alloc (Nat.le_refl _) _).mono HBX.out.size))
        unfold cmtB at hp2
        have hsr : SrcIs (w2.alloc (.cells #[.string (mkB ver), .slice rp rs.length rc, .slice ep es.length ec] 26)) w2.heap.size ver (.slice rp rs.length rc) (.slice ep es.length ec) := World.alloc_heap_new w2 _
        have HBS : Hid (Below w2.heap.size w2 (w2.alloc (.cells #[.string (mkB ver), .slice rp rs.length rc, .slice ep es.length ec] 26))) := (Below.refl _ w2).alloc (Nat.le_refl _) _
        with_reducible refine hp2.mono ?_
        clear hp2
        generalize w2.alloc (.cells #[.string (mkB ver), .slice rp rs.length rc, .slice ep es.length ec] 26) = W2 at *
        rintro e w3 ⟨hb3, rv2, ev2, he, hrv2, hev2⟩
        rw [HQ'.out] at he hrv2 hev2
        dsimp only at he hrv2 hev2
        subst he
        have hbx : Below w2.heap.size w2 w3 := HBS.out.trans (hb3.mono HBS.out.size)
        have HBY : Hid (Below w.heap.size w w3) := HBX.out.trans (hbx.mono HBX.out.size)
        have hr1 := HRV.out.kept (Kept.below hbx)
        have he1 := HEV.out.kept (Kept.below hbx)
        have hsr2 : SrcIs w3 w2.heap.size ver (.slice rp rs.length rc) (.slice ep es.length ec) := hsr.below hb3
        have HR2 := Lib.hid hrv2
        have HE2 := Lib.hid hev2
        have HR1 := Lib.hid hr1
        have HE1 := Lib.hid he1
        obtain ⟨rp2, rc2, rfl, _⟩ := hrv2
        obtain ⟨ep2, ec2, rfl, _⟩ := hev2
        have hat2 : at2 ≤ 4003 ∨ True := .inr trivial
        have hbz : Below w3.heap.size w3 (w3.alloc (.cells #[.string (mkB ver), .slice rp2 rs.length rc2, .slice ep2 es.length ec2] 26)) := (Below.refl _ w3).alloc (Nat.le_refl _) _
        have hsa := rSame8_any _ _ ver rs es _ _ _ _ _ (HR1.out.kept (Kept.below hbz)) (HE1.out.kept (Kept.below hbz)) (HR2.out.kept (Kept.below hbz)) (HE2.out.kept (Kept.below hbz)) (by have h1 := HZ.out.1; have h2 := HSL.out; have h3 := HS4.out; omega) (by have h1 := HZ.out.2.1; omega) (fun x hx => by have := HZ.out.2.2 x hx; omega)
        have hsr3 := hsr2.below hbz
        obtain ⟨s0, s1, s2, _, sl⟩ := hsr3.cells
        have HBZ : Hid (Below w.heap.size w (w3.alloc (.cells #[.string (mkB ver), .slice rp2 rs.length rc2, .slice ep2 es.length ec2] 26))) := HBY.out.trans (hbz.mono HBY.out.size)
        clear hbx hr1 he1 hsr hsr2 hsr3 hat2 hbz hb3
        by_cases h0 : er' = 0
        · subst h0
          go_wp2_with fail
          generalize w3.alloc (.cells #[.string (mkB ver), .slice rp2 rs.length rc2, .slice ep2 es.length ec2] 26) = W3 at *
          with_reducible refine hsa.mono ?_
          rintro e w4 ⟨rfl, hb4⟩
          have HB4 : Hid (Below w.heap.size w w4) := HBZ.out.trans (hb4.mono HBZ.out.size)
          clear hsa hb4 s0 s1 s2 sl
          go_wp2_with fail
          go_ret
          exact ⟨rfl, HB4.out⟩
        · have z1 : (er' == 0) = false := beq_eq_false_iff_ne.2 h0
          have z2 : (er' != er') = false := by simp
          rcases HX3.out with h | ⟨h, h'⟩ | h
          · exact absurd h h0
          · subst h
            subst h'
            go_wp2_with fail
            go_ret
            exact ⟨rfl, HBZ.out⟩
          · subst h
            by_cases y : at1 = 0
            · subst y
              have z3 : (((0 : Nat) + 2 : Nat) : Int) = 2 := rfl
              go_wp2_with fail
              go_ret
              exact ⟨rfl, HBZ.out⟩
            · have z3 : ((at1 : Int) == 0) = false := beq_eq_false_iff_ne.2 (by omega)
              have z4 : (((at1 + 2 : Nat) : Int)) = (at1 : Int) + 2 := by omega
              go_wp2_with fail
              go_ret
              exact ⟨rfl, HBZ.out⟩
end Go.Proofs.YtjbcbejedaeedaaGreatDoor
