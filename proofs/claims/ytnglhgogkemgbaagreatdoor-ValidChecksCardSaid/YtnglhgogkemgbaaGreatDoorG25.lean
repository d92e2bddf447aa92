/- slices.SortStableFunc at []rune: swapRange. slices.SortStableFunc at []rune: rotate. slices.SortStableFunc at []rune: what a comparator is; insertionSort. The contract of symMerge. -/
import Derived.Test.YtnglhgogkemgbaaGreatDoorG24
import Derived.Test.YtnglhgogkemgbaaGreatDoorG01
import Derived.BigRegion
import Derived.CellFam
/-! slices.SortStableFunc at []rune: swapRange. -/
namespace Go.Proofs.YtnglhgogkemgbaaGreatDoor
open Go.RowKit

/-- only cells of block g from off on, len of them, have turned, and what is new was made -/
structure Frm (g off len : Nat) (a b : World) : Prop where
  only : Only (fun k => k = g) a b
  out : g < a.heap.size → ∀ k, (k < off ∨ off + len ≤ k) → b.cell? ⟨g, k, none⟩ = a.cell? ⟨g, k, none⟩ ∧ b.frozen? ⟨g, k, none⟩ = a.frozen? ⟨g, k, none⟩
theorem Frm.refl (g off len : Nat) (a : World) : Frm g off len a a := ⟨Only.refl _ _, fun _ _ _ => ⟨rfl, rfl⟩⟩
theorem Frm.trans {g off len : Nat} {a b c : World} (h : Frm g off len a b) (k : Frm g off len b c) : Frm g off len a c :=
  ⟨h.only.trans k.only, fun hg i hi => by
    have h1 := h.out hg i hi
    have h2 := k.out (Nat.lt_of_lt_of_le hg h.only.size) i hi
    exact ⟨h2.1.trans h1.1, h2.2.trans h1.2⟩⟩
theorem Frm.of_below {g off len : Nat} {b c : World} (k : Below b.heap.size b c) : Frm g off len b c :=
  ⟨(Only.refl _ b).below k, fun hg i _ => ⟨k.cell (p := ⟨g, i, none⟩) hg, k.frozen (p := ⟨g, i, none⟩) hg⟩⟩
theorem Frm.below {g off len : Nat} {a b c : World} (h : Frm g off len a b) (k : Below b.heap.size b c) : Frm g off len a c := h.trans (.of_below k)
theorem Frm.drew {g off len : Nat} {a w : World} (h : Frm g off len a w) : Frm g off len a w.drew := ⟨h.only.drew, h.out⟩
theorem Frm.setCell {g off len : Nat} {a w : World} (h : Frm g off len a w) (i : Nat) (hi : i < len) (v : Value) : Frm g off len a (w.setCell ⟨g, off + i, none⟩ v) :=
  ⟨h.only.setCell (p := ⟨g, off + i, none⟩) rfl v, fun hg k hk => by
    rw [World.frozen?_setCell, World.cell?_setCell_other _ _ _ _ (by intro e; injection e with _ e2 _; omega)]
    exact h.out hg k hk⟩
theorem Frm.widen {g off len off' len' : Nat} {a b : World} (h : Frm g off' len' a b) (h1 : off ≤ off') (h2 : off' + len' ≤ off + len) : Frm g off len a b :=
  ⟨h.only, fun hg k hk => h.out hg k (by omega)⟩
/-- a part that was turned, and the rest -/
theorem SeqAt.whole {w w' : World} {g off : Nat} {P L M Q : List Int} (h : SeqAt w g off (P ++ (L ++ Q))) (h' : SeqAt w' g (off + P.length) M) (hl : M.length = L.length) (hf : Frm g (off + P.length) L.length w w') : SeqAt w' g off (P ++ (M ++ Q)) := by
  refine ⟨h'.1, fun i x hx => ?_⟩
  rcases Nat.lt_or_ge i P.length with hi | hi
  · have e1 := hf.out h.1 (off + i) (by omega)
    rw [e1.1, e1.2]
    exact h.2 i x (by rw [List.getElem?_append_left hi] at hx ⊢; exact hx)
  · rw [List.getElem?_append_right hi] at hx
    rcases Nat.lt_or_ge (i - P.length) M.length with hj | hj
    · rw [List.getElem?_append_left hj] at hx
      have := h'.2 (i - P.length) x hx
      rwa [show off + P.length + (i - P.length) = off + i from by omega] at this
    · have e1 := hf.out h.1 (off + i) (by omega)
      rw [e1.1, e1.2]
      exact h.2 i x (by
        rw [List.getElem?_append_right hj] at hx
        rw [List.getElem?_append_right hi, List.getElem?_append_right (by omega), ← hl]; exact hx)
theorem drop_cons' {α : Type} {l : List α} {i : Nat} (h : i < l.length) : ∃ x, l[i]? = some x ∧ l.drop i = x :: l.drop (i + 1) := ⟨l[i], List.getElem?_eq_getElem h, List.drop_eq_getElem_cons h⟩
theorem take_snoc {α : Type} {l : List α} {i : Nat} {x : α} (h : l[i]? = some x) : l.take (i + 1) = l.take i ++ [x] := by
  rw [List.take_add_one, h]; rfl
set_option maxHeartbeats 4000000 in
set_option maxRecDepth 1000000 in
theorem swapRange_any (cv : Value) (g off cap a b n : Nat) (P X Z Y Q : List Int) (w : World) (hs : SeqAt w g off (P ++ (X ++ (Z ++ (Y ++ Q))))) (ha : P.length = a) (hx : X.length = n) (hy : Y.length = n) (hb : a + n + Z.length = b) (len : Nat) (hlen : (P ++ (X ++ (Z ++ (Y ++ Q)))).length = len) (hl : len ≤ 1000000000) :
    Calls Tryz.prog 227 #[.slice (some ⟨g, off, none⟩) len cap, .int .i64 a, .int .i64 b, .int .i64 n, cv] w fun e w' => e = .returned (.tuple #[]) ∧ SeqAt w' g off (P ++ (Y ++ (Z ++ (X ++ Q)))) ∧ Frm g off len w w' := by
  have HS := Lib.hid hs
  have hall : a + n + Z.length + n ≤ len := by rw [← hlen]; simp; omega
  clear hs hlen
  go_enter Tryz.func227, Tryz.ntmps227
  go_wp2
  go_loopw [10] (fun iv wr => ∃ i : Nat, iv = .int .i64 i ∧ i ≤ n ∧ SeqAt wr g off (P ++ ((Y.take i ++ X.drop i) ++ (Z ++ ((X.take i ++ Y.drop i) ++ Q)))) ∧ Frm g off len w wr) (fun iv _ => n - (intOf iv).toNat)
  case atStart => exact ⟨0, rfl, Nat.zero_le _, by simpa using HS.out, Frm.refl _ _ _ _⟩
  case round =>
    obtain ⟨i, rfl, hin, hsq, ho⟩ := hrel
    have HQ := Lib.hid hsq
    have HO := Lib.hid ho
    clear hsq ho
    by_cases hlt : i < n
    · obtain ⟨x, hx1, hx2⟩ := drop_cons' (l := X) (i := i) (by omega)
      obtain ⟨y, hy1, hy2⟩ := drop_cons' (l := Y) (i := i) (by omega)
      obtain ⟨ia, hia⟩ : ∃ ia, ia = a + i := ⟨_, rfl⟩
      obtain ⟨ib, hib⟩ : ∃ ib, ib = b + i := ⟨_, rfl⟩
      have h1 : (a : Int) + (i : Int) = (ia : Int) := by omega
      have h2 : (b : Int) + (i : Int) = (ib : Int) := by omega
      have HQ' : Hid (SeqAt wr g off ((P ++ Y.take i) ++ x :: ((X.drop (i + 1) ++ (Z ++ X.take i)) ++ y :: (Y.drop (i + 1) ++ Q)))) := by
        have := HQ.out
        rw [hx2, hy2] at this
        show SeqAt _ _ _ _
        simpa [List.append_assoc] using this
      have l1 : ia = (P ++ Y.take i).length := by simp; omega
      have l2 : ib = (P ++ Y.take i).length + ((X.drop (i + 1) ++ (Z ++ X.take i)).length + 1) := by simp; omega
      have c1 := HQ'.out.get
      rw [← l1] at c1
      have c2 : wr.cell? ⟨g, off + ib, none⟩ = some (.int .i32 y) ∧ wr.frozen? ⟨g, off + ib, none⟩ = false := HQ'.out.2 ib y (by
        rw [l2, List.getElem?_append_right (by omega), Nat.add_sub_cancel_left, List.getElem?_cons_succ, List.getElem?_append_right (Nat.le_refl _), Nat.sub_self]; rfl)
      obtain ⟨c1, c3⟩ := c1
      obtain ⟨c2, c4⟩ := c2
      have hne : ia ≠ ib := by omega
      have L1 := Lib.hid l1
      have L2 := Lib.hid l2
      have hal : ia < len := by omega
      have hbl : ib < len := by omega
      have HX := Lib.hid hx1
      have HY := Lib.hid hy1
      have HX2 := Lib.hid (And.intro hx hy)
      clear l1 l2 hx1 hy1 hx2 hy2 hx hy hb ha hia hib hall
      go_wp2
      go_region
      all_goals (go_wp2; go_roundw)
      case rel => 
        refine ⟨i + 1, by go_num, by omega, ?_, ?_⟩
        · have h := HQ'.out.swap L1.out L2.out
          have := h.drew
          rw [take_snoc HX.out, take_snoc HY.out]
          simpa [List.append_assoc] using this
        · exact ((HO.out.setCell ia hal _).setCell ib hbl _).drew
      case measure => (have : i < n := hlt; show n - ((i : Int) + 1).toNat < n - ((i : Int)).toNat; omega)
    · obtain rfl : i = n := by omega
      go_wp2
      go_end0
      refine ⟨rfl, ?_, HO.out⟩
      have := HQ.out
      rwa [List.take_of_length_le (by omega), List.take_of_length_le (by omega), List.drop_of_length_le (by omega), List.drop_of_length_le (by omega), List.append_nil, List.append_nil] at this
end Go.Proofs.YtnglhgogkemgbaaGreatDoor
/-! slices.SortStableFunc at []rune: rotate. -/
namespace Go.Proofs.YtnglhgogkemgbaaGreatDoor
open Go.RowKit

set_option maxHeartbeats 4000000 in
set_option maxRecDepth 1000000 in
theorem rotate_any (cv : Value) (g off cap a m b : Nat) (P A B Q : List Int) (w : World) (hs : SeqAt w g off (P ++ (A ++ (B ++ Q)))) (ha : P.length = a) (hm : a + A.length = m) (hb : m + B.length = b) (hA : 0 < A.length) (hB : 0 < B.length) (len : Nat) (hlen : (P ++ (A ++ (B ++ Q))).length = len) (hl : len ≤ 1000000000) :
    Calls Tryz.prog 217 #[.slice (some ⟨g, off, none⟩) len cap, .int .i64 a, .int .i64 m, .int .i64 b, cv] w fun e w' => e = .returned (.tuple #[]) ∧ SeqAt w' g off (P ++ (B ++ (A ++ Q))) ∧ Frm g off len w w' := by
  have HS := Lib.hid hs
  have HL := Lib.hid hlen
  have hbl : b ≤ len := by rw [← hlen]; simp; omega
  have k1 : (m : Int) - (a : Int) = (A.length : Int) := by omega
  have k2 : (b : Int) - (m : Int) = (B.length : Int) := by omega
  clear hs hlen
  go_enter Tryz.func217, Tryz.ntmps217
  go_wp2
  go_loopw [10, 11] (fun iv jv wr => ∃ P' X Y Q' : List Int, iv = .int .i64 X.length ∧ jv = .int .i64 Y.length ∧ 0 < X.length ∧ 0 < Y.length ∧ P'.length + X.length = m ∧ m + Y.length ≤ b ∧ (P' ++ (X ++ (Y ++ Q'))).length = len ∧ P' ++ (Y ++ (X ++ Q')) = P ++ (B ++ (A ++ Q)) ∧ SeqAt wr g off (P' ++ (X ++ (Y ++ Q'))) ∧ Frm g off len w wr) (fun iv jv _ => (intOf iv + intOf jv).toNat)
  case atStart => exact ⟨P, A, B, Q, rfl, rfl, hA, hB, by omega, by omega, HL.out, rfl, HS.out, Frm.refl _ _ _ _⟩
  case round =>
    obtain ⟨P', X, Y, Q', rfl, rfl, hX, hY, hp, hmy, hln, ht, hsq, ho⟩ := hrel
    have HQ := Lib.hid hsq
    have HO := Lib.hid ho
    have HT := Lib.hid ht
    have HLN := Lib.hid hln
    have hln0 : len = P'.length + (X.length + (Y.length + Q'.length)) := by rw [← hln]; simp
    have hlb : P'.length + (X.length + (Y.length + Q'.length)) = len := by rw [← hln]; simp
    clear hsq ho ht hln HS HL
    obtain ⟨i, hi⟩ : ∃ i, i = X.length := ⟨_, rfl⟩
    obtain ⟨j, hj⟩ : ∃ j, j = Y.length := ⟨_, rfl⟩
    obtain ⟨q, hq⟩ : ∃ q, q = P'.length := ⟨_, rfl⟩
    have hmq : (m : Int) - (i : Int) = (q : Int) := by omega
    have hb1 : q ≤ 1000000000 := by omega
    have hb3 : m + j ≤ 1000000000 := by omega
    have hb4 : m + i ≤ 2000000000 := by omega
    rw [← hi, ← hj]
    rcases Nat.lt_trichotomy i j with hij | hij | hij
    · -- the second is longer: its end is turned with the first
      obtain ⟨n, hn⟩ : ∃ n, n = j - i := ⟨_, rfl⟩
      obtain ⟨b2, hb2⟩ : ∃ b2, b2 = m + n := ⟨_, rfl⟩
      have h1 : (j : Int) - (i : Int) = (n : Int) := by omega
      have h2 : (m : Int) + (j : Int) - (i : Int) = (b2 : Int) := by omega
      have g1 : ¬ ((i : Int) = (j : Int)) := by omega
      have g2 : ¬ ((j : Int) < (i : Int)) := by omega
      have g3 : ¬ (i = j) := by omega
      have g4 : ¬ (j < i) := by omega
      have hY2 : (Y.drop n).length = i := by rw [List.length_drop]; omega
      have hY1 : (Y.take n).length = n := by rw [List.length_take]; omega
      have hsq : SeqAt wr g off (P' ++ (X ++ (Y.take n ++ (Y.drop n ++ Q')))) := by
        have := HQ.out; rw [← List.take_append_drop n Y] at this; simpa only [List.append_assoc] using this
      have hc := swapRange_any cv g off cap q b2 i P' X (Y.take n) (Y.drop n) Q' wr hsq hq.symm hi.symm hY2 (by rw [hY1]; omega) len (by rw [hln0]; simp; omega) hl
      have HY1 := Lib.hid hY1
      have HY2 := Lib.hid hY2
      have HAR := Lib.hid (And.intro hX (And.intro hY (And.intro hmy (And.intro hn (And.intro hp (And.intro hi (And.intro hj hij)))))))
      clear hsq hY1 hY2 hln0 hlb hX hY hmy hn hp hi hj hij hq hb2 k1 k2 hbl hm hb hA hB ha
      go_wp2_with fail
      with_reducible refine hc.mono ?_
      rintro e w1 ⟨rfl, hs1, ho1⟩
      have HS1 := Lib.hid hs1
      have HO1 := Lib.hid (HO.out.trans ho1)
      clear hc hs1 ho1
      go_wp2_with fail
      go_roundw
      case rel =>
        obtain ⟨hX, hY, hmy, hn, hp, hi, hj, hij⟩ := HAR.out
        refine ⟨P', Y.drop n, Y.take n, X ++ Q', by rw [HY2.out, hi], by rw [HY1.out], by rw [HY2.out]; omega, by rw [HY1.out]; omega, by rw [HY2.out]; omega, by rw [HY1.out]; omega, ?_, ?_, ?_, HO1.out⟩
        · have := HLN.out
          have e1 := HY1.out
          have e2 := HY2.out
          simp only [List.length_append] at *
          omega
        · rw [← HT.out]
          conv => rhs; rw [← List.take_append_drop n Y]
          simp only [List.append_assoc]
        · exact HS1.out
      case measure => (obtain ⟨hX, hY, hmy, hn, hp, hi, hj, hij⟩ := HAR.out; show ((i : Int) + (n : Int)).toNat < ((i : Int) + (j : Int)).toNat; omega)
    · -- alike: turned, and done
      have g1 : (i : Int) = (j : Int) := by omega
      have hsq : SeqAt wr g off (P' ++ (X ++ ([] ++ (Y ++ Q')))) := by simpa using HQ.out
      have hc := swapRange_any cv g off cap q m i P' X [] Y Q' wr hsq hq.symm hi.symm (by omega) (by simp; omega) len (by rw [hln0]; simp) hl
      clear hsq hln0 hlb hX hY hmy hp hi hj hq k1 k2 hbl hm hb hA hB ha
      subst hij
      go_wp2_with fail
      with_reducible refine hc.mono ?_
      rintro e w1 ⟨rfl, hs1, ho1⟩
      have HS1 := Lib.hid hs1
      have HO1 := Lib.hid (HO.out.trans ho1)
      clear hc hs1 ho1
      go_wp2_with fail
      go_end0
      refine ⟨rfl, ?_, HO1.out⟩
      rw [← HT.out]
      simpa using HS1.out
    · -- the first is longer: its beginning is turned with the second
      obtain ⟨n, hn⟩ : ∃ n, n = i - j := ⟨_, rfl⟩
      have h1 : (i : Int) - (j : Int) = (n : Int) := by omega
      have g1 : ¬ ((i : Int) = (j : Int)) := by omega
      have g2 : (j : Int) < (i : Int) := by omega
      have g3 : ¬ (i = j) := by omega
      have g4 : j < i := by omega
      have hX2 : (X.drop j).length = n := by rw [List.length_drop]; omega
      have hX1 : (X.take j).length = j := by rw [List.length_take]; omega
      have hsq : SeqAt wr g off (P' ++ (X.take j ++ (X.drop j ++ (Y ++ Q')))) := by
        have := HQ.out; rw [← List.take_append_drop j X] at this; simpa only [List.append_assoc] using this
      have hc := swapRange_any cv g off cap q m j P' (X.take j) (X.drop j) Y Q' wr hsq hq.symm hX1 hj.symm (by rw [hX2]; omega) len (by rw [hln0]; simp; omega) hl
      have HX1 := Lib.hid hX1
      have HX2 := Lib.hid hX2
      have HAR := Lib.hid (And.intro hX (And.intro hY (And.intro hmy (And.intro hn (And.intro hp (And.intro hi (And.intro hj hij)))))))
      clear hsq hX1 hX2 hln0 hlb hX hY hmy hn hp hi hj hij hq k1 k2 hbl hm hb hA hB ha
      go_wp2_with fail
      with_reducible refine hc.mono ?_
      rintro e w1 ⟨rfl, hs1, ho1⟩
      have HS1 := Lib.hid hs1
      have HO1 := Lib.hid (HO.out.trans ho1)
      clear hc hs1 ho1
      go_wp2_with fail
      go_roundw
      case rel =>
        obtain ⟨hX, hY, hmy, hn, hp, hi, hj, hij⟩ := HAR.out
        refine ⟨P' ++ Y, X.drop j, X.take j, Q', by rw [HX2.out], by rw [HX1.out], by rw [HX2.out]; omega, by rw [HX1.out]; omega, by rw [HX2.out]; simp; omega, by rw [HX1.out]; omega, ?_, ?_, ?_, HO1.out⟩
        · have := HLN.out
          have e1 := HX1.out
          have e2 := HX2.out
          simp only [List.length_append] at *
          omega
        · rw [← HT.out]
          conv => rhs; rw [← List.take_append_drop j X]
          simp only [List.append_assoc]
        · simpa only [List.append_assoc] using HS1.out
      case measure => (obtain ⟨hX, hY, hmy, hn, hp, hi, hj, hij⟩ := HAR.out; show ((n : Int) + (j : Int)).toNat < ((i : Int) + (j : Int)).toNat; omega)
end Go.Proofs.YtnglhgogkemgbaaGreatDoor
/-! slices.SortStableFunc at []rune: what a comparator is; insertionSort. -/
namespace Go.Proofs.YtnglhgogkemgbaaGreatDoor
open Go.RowKit

/-- a comparator by a number of each code point, in worlds of J, which lasts where only block g is turned -/
structure CmpBy (f : Int → Int) (g nb : Nat) (J : World → Prop) : Prop where
  call : ∀ x y W, J W → Calls Tryz.prog 185 #[.int .i32 x, .int .i32 y, .pointer (some ⟨nb, 0, none⟩)] W fun e w' => e = .returned (.int .i64 (f x - f y)) ∧ Below W.heap.size W w'
  keep : ∀ W W', J W → Only (fun k => k = g) W W' → J W'
theorem CmpBy.below {f : Int → Int} {g nb : Nat} {J : World → Prop} (h : CmpBy f g nb J) {W W' : World} (hj : J W) (hb : Below W.heap.size W W') : J W' := h.keep W W' hj ((Only.refl _ W).below hb)
theorem snoc_cases (U : List Int) : U = [] ∨ ∃ U' u, U = U' ++ [u] := by
  rcases List.eq_nil_or_concat U with h | ⟨L, b, h⟩
  · exact .inl h
  · exact .inr ⟨L, b, by simpa using h⟩
set_option maxHeartbeats 8000000 in
set_option maxRecDepth 1000000 in
theorem insertion_any (f : Int → Int) (J : World → Prop) (nb g off cap a b : Nat) (P S Q : List Int) (w : World) (hC : CmpBy f g nb J) (hs : SeqAt w g off (P ++ (S ++ Q))) (hj : J w) (ha : P.length = a) (hb : a + S.length = b) (len : Nat) (hlen : P.length + (S.length + Q.length) = len) (hl : len ≤ 1000000000) :
    Calls Tryz.prog 203 #[.slice (some ⟨g, off, none⟩) len cap, .int .i64 a, .int .i64 b, .func (.func 185) #[] #[.pointer (some ⟨nb, 0, none⟩)]] w fun e w' =>
      e = .returned (.tuple #[]) ∧ (∃ M, Stab f S M ∧ SeqAt w' g off (P ++ (M ++ Q))) ∧ Frm g off len w w' := by
  have HS := Lib.hid hs
  have HJ := Lib.hid hj
  have HC := Lib.hid hC
  have hbl : b ≤ len := by omega
  have hab : a ≤ b := by omega
  have HLN := Lib.hid (And.intro ha (And.intro hb hlen))
  clear hs hj hC ha hb hlen
  go_enter Tryz.func203, Tryz.ntmps203
  go_wp2
  go_loopw [8] (fun iv wr => ∃ (i k : Nat) (M : List Int), iv = .int .i64 i ∧ i = a + k ∧ 1 ≤ k ∧ (k ≤ S.length ∨ (S = [] ∧ k = 1)) ∧ Stab f (S.take k) M ∧ SeqAt wr g off (P ++ (M ++ (S.drop k ++ Q))) ∧ Frm g off len w wr) (fun iv _ => b + 1 - (intOf iv).toNat)
  case atStart =>
    refine ⟨a + 1, 1, S.take 1, by go_num, rfl, Nat.le_refl _, ?_, ?_, ?_, Frm.refl _ _ _ _⟩
    · cases S with
      | nil => exact .inr ⟨rfl, rfl⟩
      | cons x xs => exact .inl (by simp)
    · cases S with
      | nil => exact Stab.nil
      | cons x xs => simpa using Stab.one x
    · rw [← List.append_assoc (S.take 1), List.take_append_drop]; exact HS.out
  case round =>
    obtain ⟨i, k, M, rfl, hik, hk1, hkS, hM, hsq, ho⟩ := hrel
    have HM := Lib.hid hM
    have HQ := Lib.hid hsq
    have HO := Lib.hid ho
    have HK := Lib.hid (And.intro hik (And.intro hk1 hkS))
    clear hM hsq ho hik hk1 hkS
    by_cases hlt : i < b
    · have hkl : k < S.length := by have := HLN.out; have := HK.out.1; omega
      obtain ⟨x, hx1, hx2⟩ := drop_cons' hkl
      have HX := Lib.hid hx1
      have HX2 := Lib.hid hx2
      have HKL := Lib.hid hkl
      clear hx1 hx2 hkl
      have e1 : (i : Int) < (b : Int) := by omega
      go_wp2_with fail
      go_loopw [9] (fun jv wr2 => ∃ (j : Nat) (U V : List Int), jv = .int .i64 j ∧ j = a + U.length ∧ Stab f (S.take k) (U ++ V) ∧ (∀ v ∈ V, f x < f v) ∧ SeqAt wr2 g off (P ++ (U ++ (x :: (V ++ (S.drop (k + 1) ++ Q))))) ∧ Frm g off len w wr2) (fun jv _ => (intOf jv).toNat)
      case atStart =>
        refine ⟨i, M, [], rfl, ?_, by simpa using HM.out, fun v hv => by simp at hv, ?_, HO.out⟩
        · rw [HM.out.length, List.length_take, Nat.min_eq_left (Nat.le_of_lt HKL.out)]; exact HK.out.1
        · have := HQ.out; rw [HX2.out] at this; simpa using this
      case round =>
        obtain ⟨j, U, V, rfl, hju, hst, hv, hsq2, ho2⟩ := hrel
        have HST := Lib.hid hst
        have HV := Lib.hid hv
        have HQ2 := Lib.hid hsq2
        have HO2 := Lib.hid ho2
        have HU := Lib.hid hju
        have HJ2 : Hid (J wr) := HC.out.keep _ _ HJ.out ho2.only
        have hjl : U.length < S.length := by
          have e1 := hst.length
          have e2 := HKL.out
          rw [List.length_take, List.length_append] at e1
          omega
        have hjb : j < len := by have := HLN.out; omega
        clear hst hv hsq2 ho2 hjl
        -- what comes of a round that ends the inner loop
        have OUT : Hid (∀ w2, Below wr.heap.size wr w2 → (∀ u ∈ U, f u ≤ f x) → ∃ (i' k' : Nat) (M : List Int), Value.int .i64 ((i : Int) + 1) = .int .i64 i' ∧ i' = a + k' ∧ 1 ≤ k' ∧ (k' ≤ S.length ∨ (S = [] ∧ k' = 1)) ∧ Stab f (S.take k') M ∧ SeqAt w2 g off (P ++ (M ++ (S.drop k' ++ Q))) ∧ Frm g off len w w2) := by
          intro w2 hw2 hu
          refine ⟨i + 1, k + 1, U ++ x :: V, by go_num, by have := HK.out.1; omega, by omega, .inl HKL.out, ?_, ?_, HO2.out.below hw2⟩
          · rw [take_snoc HX.out]; exact HST.out.insert hu HV.out
          · simpa [List.append_assoc] using HQ2.out.kept hw2
        rcases snoc_cases U with hU | ⟨U', u, hU⟩
        · -- at the beginning
          have hja : j = a := by rw [hju, hU]; rfl
          have g1 : ¬ ((a : Int) < (j : Int)) := by omega
          clear hju
          go_wp2_with fail
          refine wp_region_over (by kernel_rfl) (by kernel_rfl) ?_; (repeat (go_big_quiet_step ((fail)))); refine wpQuiet_nil ?_; intro w1 hb1
          have HB1 := Lib.hid hb1
          clear hb1
          go_wp2_with fail
          go_roundw
          case rel => exact OUT.out _ HB1.out (fun u hu => by rw [hU] at hu; cases hu)
          case measure => (have := HK.out.1; have := HKL.out; have := HLN.out; show b + 1 - ((i : Int) + 1).toNat < b + 1 - (i : Int).toNat; omega)
        · have haj : a < j := by rw [hju, hU]; simp
          have g1 : (a : Int) < (j : Int) := by omega
          obtain ⟨j', hj'⟩ : ∃ j', j' = a + U'.length := ⟨_, rfl⟩
          have hjj : (j : Int) - 1 = (j' : Int) := by rw [hju, hU, hj']; simp; omega
          subst hU
          clear hju
          have hq : SeqAt wr g off ((P ++ U') ++ u :: ([] ++ x :: (V ++ (S.drop (k + 1) ++ Q)))) := by simpa [List.append_assoc] using HQ2.out
          have l1 : j' = (P ++ U').length := by have := HLN.out.1; simp; omega
          have l2 : j = (P ++ U').length + (([] : List Int).length + 1) := by have := HLN.out.1; simp; omega
          obtain ⟨c1, c2⟩ := hq.get
          rw [← l1] at c1 c2
          obtain ⟨c3, c4⟩ := hq.2 j x (by rw [l2, List.getElem?_append_right (by omega), Nat.add_sub_cancel_left]; rfl)
          have HQ3 := Lib.hid hq
          have L1 := Lib.hid (And.intro l1 l2)
          have hca : ∀ u', Calls Tryz.prog 185 #[.int .i32 x, .int .i32 u, .pointer (some ⟨nb, 0, none⟩)] (over wr u') fun e w' => e = .returned (.int .i64 (f x - f u)) ∧ Below (over wr u').heap.size (over wr u') w' :=
            fun u' => HC.out.call x u _ (HC.out.keep _ _ HJ2.out ((Only.refl _ _).below (below_over wr u')))
          have hjl' : j' < len := by omega
          obtain ⟨q, hqe⟩ : ∃ q, q = f x - f u := ⟨_, rfl⟩
          rw [← hqe] at hca
          have HQE := Lib.hid hqe
          have HCA := Lib.hid hca
          have hgl := hq.1
          clear hq l1 l2 hqe hj' hca
          by_cases hq0 : q < 0
          · have g2 : decide (q < 0) = true := decide_eq_true hq0
            go_wp2_with fail
            refine wp_region_over (by kernel_rfl) (by kernel_rfl) ?_; (repeat (go_big_quiet_step (((go_at_call 185; exact over_of (HCA.out _)))))); refine wpQuiet_nil ?_; intro w1 hb1
            have HB1 := Lib.hid hb1
            have hgl2 : g < wr.heap.size := hgl
            have d1 := hb1.cell (p := ⟨g, off + j', none⟩) hgl
            have d2 := hb1.frozen (p := ⟨g, off + j', none⟩) hgl
            have d3 := hb1.cell (p := ⟨g, off + j, none⟩) hgl
            have d4 := hb1.frozen (p := ⟨g, off + j, none⟩) hgl
            rw [c1] at d1; rw [c2] at d2; rw [c3] at d3; rw [c4] at d4
            clear hb1 c1 c2 c3 c4
            have hne : j' ≠ j := by omega
            go_wp2_with fail
            go_region
            all_goals (go_wp2; go_roundw)
            case rel =>
              have h := ((HQ3.out.kept HB1.out).swap' L1.out.1 L1.out.2).drew
              have hu' : f x < f u := by have := HQE.out; omega
              refine ⟨j', U', u :: V, rfl, by have := L1.out.1; have := HLN.out.1; simp at *; omega, by simpa [List.append_assoc] using HST.out, fun v hv => ?_, by simpa [List.append_assoc] using h, (((HO2.out.below HB1.out).setCell j hjb _).setCell j' hjl' _).drew⟩
              rcases List.mem_cons.1 hv with rfl | hv
              · exact hu'
              · exact HV.out v hv
            case measure => (show (j' : Int).toNat < (j : Int).toNat; omega)
          · have g2 : decide (q < 0) = false := decide_eq_false hq0
            go_wp2_with fail
            refine wp_region_over (by kernel_rfl) (by kernel_rfl) ?_; (repeat (go_big_quiet_step (((go_at_call 185; exact over_of (HCA.out _)))))); refine wpQuiet_nil ?_; intro w1 hb1
            have HB1 := Lib.hid hb1
            clear hb1
            go_wp2_with fail
            go_roundw
            case rel =>
              refine OUT.out _ HB1.out (fun z hz => ?_)
              rcases List.mem_append.1 hz with hz | hz
              · have h1 := HST.out.1.left.across hz (by simp : u ∈ [u])
                have := HQE.out; omega
              · simp at hz; subst hz; have := HQE.out; omega
            case measure => (have := HK.out.1; have := HKL.out; have := HLN.out; show b + 1 - ((i : Int) + 1).toNat < b + 1 - (i : Int).toNat; omega)
    · have e1 : ¬ ((i : Int) < (b : Int)) := by omega
      go_wp2_with fail
      go_end0
      have hd : S.drop k = [] := List.drop_of_length_le (by have := HK.out; have := HLN.out; rcases HK.out.2.2 with h | ⟨h, _⟩; (· omega); (· rw [h]; simp))
      have ht : S.take k = S := List.take_of_length_le (by have := HK.out; have := HLN.out; rcases HK.out.2.2 with h | ⟨h, _⟩; (· omega); (· rw [h]; simp))
      refine ⟨rfl, ⟨M, ?_, ?_⟩, HO.out⟩
      · rw [← ht]; exact HM.out
      · have := HQ.out; rwa [hd, List.nil_append] at this
end Go.Proofs.YtnglhgogkemgbaaGreatDoor
/-! The contract of symMerge. -/
namespace Go.Proofs.YtnglhgogkemgbaaGreatDoor
open Go.RowKit

/-- the contract of symMerge, of parts of fewer than N elements -/
def SymBelow (f : Int → Int) (J : World → Prop) (nb g off cap len N : Nat) : Prop :=
  ∀ (a m b : Nat) (P A B Q : List Int) (w : World), A.length + B.length < N → 0 < A.length → 0 < B.length → Srt f A → Srt f B → SeqAt w g off (P ++ (A ++ (B ++ Q))) → J w → P.length = a → a + A.length = m → m + B.length = b → P.length + (A.length + (B.length + Q.length)) = len →
    Calls Tryz.prog 204 #[.slice (some ⟨g, off, none⟩) len cap, .int .i64 a, .int .i64 m, .int .i64 b, .func (.func 185) #[] #[.pointer (some ⟨nb, 0, none⟩)]] w fun e w' =>
      e = .returned (.tuple #[]) ∧ (∃ M, Stab f (A ++ B) M ∧ SeqAt w' g off (P ++ (M ++ Q))) ∧ Frm g off len w w'
end Go.Proofs.YtnglhgogkemgbaaGreatDoor
