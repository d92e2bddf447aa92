/- Chapter 8 in plain words: the pieces of FieldsFunc at blanks are the words. Plain: a text's lines, and what stands ahead of a byte and behind it. Plain: a text's lines that count, with their numbers; what a table's text says is what they say one behind the other. -/
import Derived.Test.YtjbcbejedaeedaaGreatDoorAb
import Derived.Lib.DecodeN
import Derived.Lib.RuneCount
/-! Chapter 8 in plain words: the pieces of FieldsFunc at blanks are the words. -/
namespace Go.Proofs.YtjbcbejedaeedaaGreatDoor
open Go.RowKit Go.Lib
open PlainAid (bt)

/-- the words of a list of bytes, one byte after the other; what is open -/
def fldB : Bs → Bs → List Bs
  | cur, [] => if cur = [] then [] else [cur]
  | cur, b :: t => if blk b then (if cur = [] then fldB [] t else cur :: fldB [] t) else fldB (cur ++ [b]) t
theorem fldB_nil (cur : Bs) (h : cur ≠ []) : fldB cur [] = [cur] := by unfold fldB; rw [if_neg h]
theorem fldB_blk (cur : Bs) (b : UInt8) (t : Bs) (h : cur ≠ []) (hb : blk b = true) : fldB cur (b :: t) = cur :: fldB [] t := by rw [fldB, if_pos hb, if_neg h]
theorem fldB_blk0 (b : UInt8) (t : Bs) (hb : blk b = true) : fldB [] (b :: t) = fldB [] t := by rw [fldB, if_pos hb, if_pos rfl]
theorem tw_mem {p : UInt8 → Bool} : ∀ (l : Bs) (b : UInt8), b ∈ l.takeWhile p → p b = true
  | [], b, h => by simp at h
  | c :: l, b, h => by
    cases hc : p c
    · rw [List.takeWhile_cons_of_neg (by rw [hc]; exact Bool.false_ne_true)] at h; simp at h
    · rw [List.takeWhile_cons_of_pos hc] at h
      rcases List.mem_cons.1 h with rfl | h
      · exact hc
      · exact tw_mem l b h
theorem fldB_run : ∀ (x : Bs) (cur t : Bs), (∀ b ∈ x, blk b = false) → fldB cur (x ++ t) = fldB (cur ++ x) t
  | [], cur, t, _ => by simp
  | b :: x, cur, t, h => by
    rw [List.cons_append, fldB, if_neg (by rw [h b (List.mem_cons_self ..)]; exact Bool.false_ne_true), fldB_run x (cur ++ [b]) t (fun c hc => h c (List.mem_cons_of_mem _ hc)), List.append_assoc]; rfl
theorem fldB_skip : ∀ (l : Bs), fldB [] l = fldB [] (l.dropWhile blk)
  | [] => rfl
  | b :: t => by
    cases hb : blk b
    · rw [List.dropWhile_cons_of_neg (by rw [hb]; exact Bool.false_ne_true)]
    · rw [List.dropWhile_cons_of_pos hb, fldB, if_pos hb, if_pos rfl]; exact fldB_skip t
theorem wordsF_fldB : ∀ (n : Nat) (l : Bs), l.length ≤ n → wordsF n l = fldB [] l
  | 0, l, h => by
    obtain rfl : l = [] := List.eq_nil_of_length_eq_zero (by omega)
    rfl
  | n + 1, l, h => by
    rw [wordsF, fldB_skip]
    by_cases hd : l.dropWhile blk = []
    · rw [if_pos hd, hd]; rfl
    · rw [if_neg hd]
      have hle : (l.dropWhile blk).length ≤ l.length := (List.dropWhile_sublist _).length_le
      have hne : ∀ d : Bs, d = l.dropWhile blk → d ≠ [] → d.takeWhile (fun b => !blk b) ≠ [] := by
        intro d hd' hne
        cases d with
        | nil => exact absurd rfl hne
        | cons b t =>
          have hb : blk b = false := by
            have := List.head?_dropWhile_not blk l
            rw [← hd'] at this
            simpa using this
          rw [List.takeWhile_cons_of_pos (by rw [hb]; rfl)]; simp
      have hx := hne _ rfl hd
      have hsp : l.dropWhile blk = (l.dropWhile blk).takeWhile (fun b => !blk b) ++ (l.dropWhile blk).dropWhile (fun b => !blk b) := List.takeWhile_append_dropWhile.symm
      have hnb : ∀ b ∈ (l.dropWhile blk).takeWhile (fun b => !blk b), blk b = false := fun b hb => by
        have := tw_mem _ b hb
        simpa using this
      have hlen : ((l.dropWhile blk).dropWhile (fun b => !blk b)).length ≤ n := by
        have h1 := congrArg List.length hsp
        rw [List.length_append] at h1
        have h2 := List.length_pos_iff.2 hx
        omega
      have hhead : ∀ b t, (l.dropWhile blk).dropWhile (fun b => !blk b) = b :: t → blk b = true := fun b t he => by
        have := List.head?_dropWhile_not (fun b => !blk b) (l.dropWhile blk)
        rw [he] at this
        simpa using this
      rw [wordsF_fldB n _ hlen]
      generalize (l.dropWhile blk).takeWhile (fun b => !blk b) = X at *
      generalize (l.dropWhile blk).dropWhile (fun b => !blk b) = R at *
      rw [hsp, fldB_run X [] R hnb, List.nil_append]
      cases R with
      | nil => rw [fldB_nil X hx]; rfl
      | cons b t =>
        have hb := hhead b t rfl
        rw [fldB_blk X b t hx hb, fldB_blk0 b t hb]
theorem wordsW_fldB (l : Bs) : wordsW l = fldB [] l := wordsF_fldB _ _ (Nat.le_refl _)

theorem get_bt (s : ByteArray) (i : Nat) (h : i < s.size) : s.data.toList[i]? = some (s.get! i) := by
  rw [List.getElem?_eq_getElem (by rw [← size_eq]; exact h)]
  simp [ByteArray.get!, h]
/-- one step of the decoder: a blank is a byte; what is none holds none -/
theorem dec_blk (s : ByteArray) (pos : Nat) (h : pos < s.size) :
    (blkR (Utf8.decode s pos).1 = true → (Utf8.decode s pos).2 = 1 ∧ ∀ b, s.data.toList[pos]? = some b → blk b = true) ∧
      (blkR (Utf8.decode s pos).1 = false → ∀ j, pos ≤ j → j < pos + (Utf8.decode s pos).2 → ∀ b, s.data.toList[j]? = some b → blk b = false) := by
  have hb : ∀ b : UInt8, blk b = blkR b.toNat := by
    intro b
    unfold blk blkR
    rw [Bool.eq_iff_iff]
    simp [← UInt8.toNat_inj]
  have hg : ∀ (j : Nat) (b : UInt8), s.data.toList[j]? = some b → (s.get! j).toNat = b.toNat := by
    intro j b hj
    have hj' : j < s.size := by have := (List.getElem?_eq_some_iff.1 hj).1; rwa [← size_eq] at this
    rw [get_bt s j hj'] at hj; cases hj; rfl
  have hle := decodeN_le_n' (s.size - pos) (s.get! pos).toNat (s.get! (pos + 1)).toNat (s.get! (pos + 2)).toNat (s.get! (pos + 3)).toNat (by omega)
  rw [decode_at] at *
  have hlt : ∀ j, (s.get! j).toNat < 256 := fun j => (s.get! j).toNat_lt
  have l0 := hlt pos
  have l1 := hlt (pos + 1)
  have l2 := hlt (pos + 2)
  have l3 := hlt (pos + 3)
  have k0 := fun b (h : s.data.toList[pos]? = some b) => hg pos b h
  have k1 := fun b (h : s.data.toList[pos + 1]? = some b) => hg (pos + 1) b h
  have k2 := fun b (h : s.data.toList[pos + 2]? = some b) => hg (pos + 2) b h
  have k3 := fun b (h : s.data.toList[pos + 3]? = some b) => hg (pos + 3) b h
  generalize (s.get! pos).toNat = b0 at *
  generalize (s.get! (pos + 1)).toNat = b1 at *
  generalize (s.get! (pos + 2)).toNat = b2 at *
  generalize (s.get! (pos + 3)).toNat = b3 at *
  generalize s.size - pos = n at *
  have key : (decodeN n b0 b1 b2 b3 = (b0, 1) ∧ b0 < 128) ∨ (128 ≤ (decodeN n b0 b1 b2 b3).1 ∧ 128 ≤ b0 ∧ (2 ≤ (decodeN n b0 b1 b2 b3).2 → 128 ≤ b1) ∧ (3 ≤ (decodeN n b0 b1 b2 b3).2 → 128 ≤ b2) ∧ (4 ≤ (decodeN n b0 b1 b2 b3).2 → 128 ≤ b3) ∧ (decodeN n b0 b1 b2 b3).2 ≤ 4) := by
    unfold decodeN
    by_cases h0 : b0 < 128
    · rw [if_pos h0]; exact .inl ⟨rfl, h0⟩
    · rw [if_neg h0]
      refine .inr ?_
      repeat' split
      all_goals (simp only; omega)
  rcases key with ⟨e, h0⟩ | ⟨h1, h0, g1, g2, g3, g4⟩
  · rw [e]
    refine ⟨fun hbl => ⟨rfl, fun b hb' => by rw [hb, ← k0 b hb']; exact hbl⟩, fun hbl j hj1 hj2 b hb' => ?_⟩
    obtain rfl : j = pos := by simp only at hj2; omega
    rw [hb, ← k0 b hb']; exact hbl
  · have hno : ∀ m, 128 ≤ m → blkR m = false := fun m hm => by unfold blkR; simp; omega
    refine ⟨fun hbl => (by rw [hno _ h1] at hbl; cases hbl), fun _ j hj1 hj2 b hb' => ?_⟩
    rw [hb]
    refine hno _ ?_
    have hj : j = pos ∨ j = pos + 1 ∨ j = pos + 2 ∨ j = pos + 3 := by omega
    rcases hj with rfl | rfl | rfl | rfl
    · rw [← k0 b hb']; exact h0
    · rw [← k1 b hb']; exact g1 (by omega)
    · rw [← k2 b hb']; exact g2 (by omega)
    · rw [← k3 b hb']; exact g3 (by omega)
theorem spans_fldB (s : ByteArray) : ∀ (f pos : Nat) (st : Option Nat) (acc : List (Nat × Nat)), s.size ≤ pos + f → pos ≤ s.size → (∀ a, st = some a → a < pos) →
    acc.map (fun p => pieceU s.data.toList p.1 p.2) ++ fldB (openPiece s.data.toList st pos) (s.data.toList.drop pos) = (closeSpans s (spansFromP blkR s f pos st acc)).map (fun p => pieceU s.data.toList p.1 p.2)
  | 0, pos, st, acc, h, hp, hst => by
    obtain rfl : pos = s.size := by omega
    have hd : s.data.toList.drop s.size = [] := List.drop_eq_nil_of_le (by rw [← size_eq]; exact Nat.le_refl _)
    rw [hd, fldB]
    cases st with
    | none => simp [spansFromP, closeSpans, openPiece]
    | some a =>
      have := pieceU_ne s.data.toList a s.size (hst a rfl) (by rw [← size_eq]; exact Nat.le_refl _)
      simp [spansFromP, closeSpans, openPiece, this]
  | f + 1, pos, st, acc, h, hp, hst => by
    by_cases hlt : pos < s.size
    · have hw := decode_width_pos s pos hlt
      have hwn : pos + (Utf8.decode s pos).2 ≤ s.size := by
        have := decodeN_le_n' (s.size - pos) (s.get! pos).toNat (s.get! (pos + 1)).toNat (s.get! (pos + 2)).toNat (s.get! (pos + 3)).toNat (by omega)
        rw [← decode_at] at this
        omega
      obtain ⟨d1, d2⟩ := dec_blk s pos hlt
      simp only [spansFromP, if_pos hlt]
      cases hsp : blkR (Utf8.decode s pos).1 with
      | true =>
        obtain ⟨e1, e2⟩ := d1 hsp
        have hc : s.data.toList.drop pos = s.get! pos :: s.data.toList.drop (pos + 1) := by
          have hl : pos < s.data.toList.length := by rw [← size_eq]; exact hlt
          rw [List.drop_eq_getElem_cons hl]
          have := get_bt s pos hlt
          rw [List.getElem?_eq_getElem hl] at this
          rw [Option.some.inj this]
        rw [e1] at hwn ⊢
        rw [hc]
        have hb := e2 _ (get_bt s pos hlt)
        simp only [if_true]
        cases st with
        | none =>
          have ih := spans_fldB s f (pos + 1) none acc (by omega) hwn (fun a h => by cases h)
          rw [fldB, if_pos hb]
          simpa [openPiece] using ih
        | some a =>
          have hpn := pieceU_ne s.data.toList a pos (hst a rfl) (by rw [← size_eq]; omega)
          have ih := spans_fldB s f (pos + 1) none (acc ++ [(a, pos)]) (by omega) hwn (fun a h => by cases h)
          rw [fldB, if_pos hb]
          simpa [openPiece, hpn] using ih
      | false =>
        have hn := d2 hsp
        have hdd : s.data.toList.drop pos = (s.data.toList.drop pos).take (Utf8.decode s pos).2 ++ s.data.toList.drop (pos + (Utf8.decode s pos).2) := by
          rw [← List.drop_drop]; exact (List.take_append_drop _ _).symm
        have hnb : ∀ b ∈ (s.data.toList.drop pos).take (Utf8.decode s pos).2, blk b = false := by
          intro b hb
          obtain ⟨i, hi⟩ := List.mem_iff_getElem?.1 hb
          rw [List.getElem?_take] at hi
          split at hi
          · rw [List.getElem?_drop] at hi
            exact hn (pos + i) (by omega) (by omega) b hi
          · cases hi
        rw [hdd, fldB_run _ _ _ hnb]
        simp only [Bool.false_eq_true, if_false]
        cases st with
        | none =>
          have ih := spans_fldB s f (pos + (Utf8.decode s pos).2) (some pos) acc (by omega) hwn (fun a h => by cases h; omega)
          have e : ([] : List UInt8) ++ (s.data.toList.drop pos).take (Utf8.decode s pos).2 = pieceU s.data.toList pos (pos + (Utf8.decode s pos).2) := by
            unfold pieceU
            rw [List.nil_append, Nat.add_sub_cancel_left]
          simp only [openPiece] at ih ⊢
          rw [e]
          exact ih
        | some a =>
          have ih := spans_fldB s f (pos + (Utf8.decode s pos).2) (some a) acc (by omega) hwn (fun b h => by cases h; have := hst a rfl; omega)
          simp only [openPiece] at ih ⊢
          rw [pieceU_grow _ _ _ _ (Nat.le_of_lt (hst a rfl))]
          exact ih
    · obtain rfl : pos = s.size := by omega
      have hd : s.data.toList.drop s.size = [] := List.drop_eq_nil_of_le (by rw [← size_eq]; exact Nat.le_refl _)
      rw [hd, fldB, spansFromP_end blkR s _ _ _ _ hlt]
      cases st with
      | none => simp [closeSpans, openPiece]
      | some a =>
        have := pieceU_ne s.data.toList a s.size (hst a rfl) (by rw [← size_eq]; exact Nat.le_refl _)
        simp [closeSpans, openPiece, this]
/-- what FieldsFunc gives -/
theorem fields_words (s : ByteArray) : Lib.goFieldsP blkR s = (wordsW s.data.toList).map mkB := by
  have h := spans_fldB s s.size 0 none [] (by omega) (Nat.zero_le _) (fun a h => by cases h)
  simp only [List.map_nil, List.nil_append, openPiece, List.drop_zero] at h
  rw [wordsW_fldB, h]
  unfold goFieldsP spansOfP
  rw [List.map_map]
  congr 1
  funext p
  unfold mkB
  simp [pieceU, extract_eq]
end Go.Proofs.YtjbcbejedaeedaaGreatDoor
/-! Plain: a text's lines, and what stands ahead of a byte and behind it. -/
namespace Go.Proofs.YtjbcbejedaeedaaGreatDoor
open Go.RowKit

theorem ib_cases (l : Bs) (c : UInt8) : (Lib.indexByte l c = -1 ∧ ∀ x ∈ l, x ≠ c) ∨ ∃ i : Nat, Lib.indexByte l c = i ∧ l[i]? = some c ∧ ∀ (j : Nat) x, j < i → l[j]? = some x → x ≠ c := by
  induction l with
  | nil => exact .inl ⟨rfl, by simp⟩
  | cons b t ih =>
    rw [Lib.indexByte]
    by_cases hb : b = c
    · subst hb
      exact .inr ⟨0, by simp, rfl, fun j x hj => by omega⟩
    · rw [if_neg (by simpa using hb)]
      rcases ih with ⟨h1, h2⟩ | ⟨i, h1, h2, h3⟩
      · left
        rw [h1, if_pos (by rfl)]
        refine ⟨rfl, fun x hx => ?_⟩
        rcases List.mem_cons.1 hx with rfl | hx
        · exact hb
        · exact h2 x hx
      · right
        refine ⟨i + 1, ?_, by simpa using h2, fun j x hj hx => ?_⟩
        · rw [h1, if_neg (by rw [beq_iff_eq]; omega)]; omega
        · cases j with
          | zero => simp at hx; exact hx ▸ hb
          | succ j => exact h3 j x (by omega) (by simpa using hx)
theorem pieces_none : ∀ (l : Bs), (∀ x ∈ l, x ≠ 10) → piecesW l = [l]
  | [], _ => rfl
  | b :: t, h => by
    rw [piecesW, if_neg (h b (List.mem_cons_self ..)), pieces_none t (fun x hx => h x (List.mem_cons_of_mem _ hx))]
theorem pieces_at : ∀ (l : Bs) (i : Nat), l[i]? = some 10 → (∀ (j : Nat) x, j < i → l[j]? = some x → x ≠ 10) → piecesW l = l.take i :: piecesW (l.drop (i + 1))
  | [], i, h, _ => by simp at h
  | b :: t, 0, h, _ => by
    simp at h; subst h
    rw [piecesW, if_pos rfl]; rfl
  | b :: t, i + 1, h, h' => by
    rw [piecesW, if_neg (h' 0 b (by omega) rfl), pieces_at t i (by simpa using h) (fun j x hj hx => h' (j + 1) x (by omega) (by simpa using hx))]
    rfl
theorem splitK_pieces : ∀ (f : Nat) (l : Bs), l.length < f → Lib.splitK [10] 0 (Lib.countFrom [10] f l) l = piecesW l
  | 0, l, h => by omega
  | f + 1, l, h => by
    rw [Lib.countFrom, Lib.index_one]
    rcases ib_cases l 10 with ⟨h1, h2⟩ | ⟨i, h1, h2, h3⟩
    · rw [h1, if_pos (by rfl), pieces_none l h2]; rfl
    · have hi := (List.getElem?_eq_some_iff.1 h2).1
      rw [h1, if_neg (by rw [beq_iff_eq]; omega), Nat.add_comm 1, Lib.splitK, Lib.index_one, h1, if_neg (by rw [beq_iff_eq]; omega), pieces_at l i h2 h3, show ((i : Int).toNat) = i from by omega]
      simp only [List.length_cons, List.length_nil, Nat.add_zero, Nat.zero_add]
      rw [splitK_pieces f (l.drop (i + 1)) (by rw [List.length_drop]; omega)]
/-- what Split tells of a text at line ends -/
theorem split_pieces (s : ByteArray) : (Lib.splitB ⟨#[10]⟩ 0 (Lib.countB s ⟨#[10]⟩) s).map (·.data.toList) = piecesW s.data.toList := by
  rw [Lib.splitB_data]
  exact splitK_pieces (s.data.toList.length + 1) s.data.toList (Nat.lt_succ_self _)
theorem split_mkB (s : ByteArray) : Lib.splitB ⟨#[10]⟩ 0 (Lib.countB s ⟨#[10]⟩) s = (piecesW s.data.toList).map mkB := by
  rw [← split_pieces, List.map_map]
  conv => lhs; rw [← List.map_id (Lib.splitB _ _ _ _)]
  exact List.map_congr_left fun x _ => (mkB_data x).symm
theorem cut_none (l : Bs) (c : UInt8) (h : ∀ x ∈ l, x ≠ c) : Lib.cut l [c] = (l, [], false) := by
  unfold Lib.cut
  rw [Lib.index_one]
  rcases ib_cases l c with ⟨h1, _⟩ | ⟨i, h1, h2, _⟩
  · rw [h1, if_neg (by omega)]
  · exact absurd rfl (h c (List.mem_of_getElem? h2))
theorem cut_at (l : Bs) (c : UInt8) (i : Nat) (h : l[i]? = some c) (h' : ∀ (j : Nat) x, j < i → l[j]? = some x → x ≠ c) : Lib.cut l [c] = (l.take i, l.drop (i + 1), true) := by
  unfold Lib.cut
  rw [Lib.index_one]
  rcases ib_cases l c with ⟨_, h2⟩ | ⟨k, h1, h2, h3⟩
  · exact absurd rfl (h2 c (List.mem_of_getElem? h))
  · have : k = i := by
      rcases Nat.lt_trichotomy k i with hlt | rfl | hlt
      · exact absurd rfl (h' k c hlt h2)
      · rfl
      · exact absurd rfl (h3 i c hlt h)
    subst this
    rw [h1, if_pos (by omega), show ((k : Int).toNat) = k from by omega]; rfl
/-- lines by what stands ahead of the line's end -/
theorem pieces_cut (l : Bs) : piecesW l = (Lib.cut l [10]).1 :: if (Lib.cut l [10]).2.2 then piecesW (Lib.cut l [10]).2.1 else [] := by
  rcases ib_cases l 10 with ⟨_, h2⟩ | ⟨i, _, h2, h3⟩
  · rw [cut_none l 10 h2, pieces_none l h2]; rfl
  · rw [cut_at l 10 i h2 h3, pieces_at l i h2 h3]; rfl
theorem pieces_le : ∀ (l x : Bs), x ∈ piecesW l → x.length ≤ l.length
  | [], x, h => by simp [piecesW] at h; subst h; simp
  | b :: t, x, h => by
    rw [piecesW] at h
    split at h
    · rcases List.mem_cons.1 h with rfl | h
      · simp
      · have := pieces_le t x h; rw [List.length_cons]; omega
    · split at h
      · simp at h; subst h; simp
      · rename_i y ys hy
        rcases List.mem_cons.1 h with rfl | h
        · have := pieces_le t y (by rw [hy]; exact List.mem_cons_self ..); rw [List.length_cons, List.length_cons]; omega
        · have := pieces_le t x (by rw [hy]; exact List.mem_cons_of_mem _ h); rw [List.length_cons]; omega
theorem pieces_count : ∀ (l : Bs), (piecesW l).length ≤ l.length + 1
  | [] => by simp [piecesW]
  | b :: t => by
    have ih := pieces_count t
    rw [piecesW]
    split
    · rw [List.length_cons, List.length_cons]; omega
    · split
      · simp
      · rename_i hy; rw [hy] at ih; simp only [List.length_cons] at *; omega
theorem lineOf_le (l : Bs) : (lineOf l).length ≤ l.length := by
  unfold lineOf
  refine Nat.le_trans (trimW_le _) (Nat.le_trans (Nat.le_trans (?_ : _ ≤ (Lib.trimSuffix l [13]).length) ?_) (Nat.le_refl _))
  · unfold Lib.cut; split
    · simp; omega
    · exact Nat.le_refl _
  · unfold Lib.trimSuffix; split
    · simp
    · exact Nat.le_refl _
end Go.Proofs.YtjbcbejedaeedaaGreatDoor
/-! Plain: a text's lines that count, with their numbers; what a table's text says is what they say one behind the other. -/
namespace Go.Proofs.YtjbcbejedaeedaaGreatDoor
open Go.RowKit

/-- the lines that are not empty -/
def linesF : Nat → List Bs → List (Nat × Bs)
  | _, [] => []
  | i, p :: ps => if lineOf p = [] then linesF (i + 1) ps else (i + 1, lineOf p) :: linesF (i + 1) ps
def linesW (l : Bs) : List (Nat × Bs) := linesF 0 (piecesW l)
def goL : TSt → List (Nat × Bs) → Except (Nat × Int) TSt
  | st, [] => .ok st
  | st, x :: xs => match stepW st x.2 with
    | .error e => .error (x.1, e)
    | .ok st' => goL st' xs
theorem goW_goL : ∀ (ps : List Bs) (st : TSt) (i : Nat), goW st i ps = goL st (linesF i ps)
  | [], _, _ => rfl
  | p :: ps, st, i => by
    rw [goW, linesF]
    by_cases h : lineOf p = []
    · rw [if_pos h, if_pos h, goW_goL ps]
    · rw [if_neg h, if_neg h, goL]
      cases stepW st (lineOf p) with
      | error e => rfl
      | ok st' => exact goW_goL ps st' (i + 1)
theorem linesF_snoc : ∀ (ps : List Bs) (i : Nat) (p : Bs), linesF i (ps ++ [p]) = linesF i ps ++ (if lineOf p = [] then [] else [(i + ps.length + 1, lineOf p)])
  | [], i, p => by simp [linesF]
  | q :: ps, i, p => by
    rw [List.cons_append, linesF, linesF, linesF_snoc ps (i + 1) p, List.length_cons, show i + 1 + ps.length = i + (ps.length + 1) from by omega]
    split <;> rfl
theorem linesF_append : ∀ (ps qs : List Bs) (i : Nat), linesF i (ps ++ qs) = linesF i ps ++ linesF (i + ps.length) qs
  | [], qs, i => rfl
  | p :: ps, qs, i => by
    rw [List.cons_append, linesF, linesF, linesF_append ps qs (i + 1), List.length_cons, show i + 1 + ps.length = i + (ps.length + 1) from by omega]
    split <;> rfl
theorem linesF_mem : ∀ (ps : List Bs) (i : Nat) (x : Nat × Bs), x ∈ linesF i ps → x.2 ≠ [] ∧ i < x.1 ∧ x.1 ≤ i + ps.length ∧ ∃ p ∈ ps, x.2 = lineOf p
  | [], i, x, h => by cases h
  | p :: ps, i, x, h => by
    rw [linesF] at h
    have key : x ∈ linesF (i + 1) ps → x.2 ≠ [] ∧ i < x.1 ∧ x.1 ≤ i + (p :: ps).length ∧ ∃ p' ∈ p :: ps, x.2 = lineOf p' := fun h => by
      obtain ⟨h1, h2, h3, p', h4, h5⟩ := linesF_mem ps (i + 1) x h
      exact ⟨h1, by omega, by rw [List.length_cons]; omega, p', List.mem_cons_of_mem _ h4, h5⟩
    split at h
    · exact key h
    · rename_i hp
      rcases List.mem_cons.1 h with rfl | h
      · exact ⟨hp, by simp, by simp only [List.length_cons]; omega, p, List.mem_cons_self .., rfl⟩
      · exact key h
theorem linesW_mem (l : Bs) (x : Nat × Bs) (h : x ∈ linesW l) : x.2 ≠ [] ∧ x.2.length ≤ l.length ∧ x.1 ≤ l.length + 1 := by
  obtain ⟨h1, _, h2, p, h3, h4⟩ := linesF_mem _ 0 x h
  have := pieces_le l p h3
  have := pieces_count l
  have := lineOf_le p
  exact ⟨h1, by rw [h4]; omega, by omega⟩
theorem parseW_lines (s : Bs) : parseW s = endW (goL (none, [], []) (linesW s)) := by unfold parseW linesW; rw [goW_goL]
theorem goL_snoc : ∀ (xs : List (Nat × Bs)) (st : TSt) (x : Nat × Bs), goL st (xs ++ [x]) = match goL st xs with
    | .error e => .error e
    | .ok st' => match stepW st' x.2 with | .error e => .error (x.1, e) | .ok st'' => .ok st''
  | [], st, x => by
    simp only [List.nil_append, goL]
  | y :: xs, st, x => by
    rw [List.cons_append, goL, goL]
    cases stepW st y.2 with
    | error e => rfl
    | ok st' => exact goL_snoc xs st' x
theorem goL_error : ∀ (xs ys : List (Nat × Bs)) (st : TSt) (e : Nat × Int), goL st xs = .error e → goL st (xs ++ ys) = .error e
  | [], ys, st, e, h => by cases h
  | y :: xs, ys, st, e, h => by
    rw [List.cons_append, goL]
    rw [goL] at h
    cases hs : stepW st y.2 with
    | error e' => rw [hs] at h; exact h
    | ok st' => rw [hs] at h; exact goL_error xs ys st' e h
end Go.Proofs.YtjbcbejedaeedaaGreatDoor
