/- The ranges of a table's text are put in order by where they begin: slices.SortStableFunc with package table's comparator, of any ranges. Plain: how large what a table's text says may be; so the sort puts any text's ranges in order. -/
import Derived.Test.YtjbcbejedaeedaaGreatDoorEg
import Derived.Test.YtjbcbejedaeedaaGreatDoorDg
import Derived.Test.YtjbcbejedaeedaaGreatDoorDf
import Derived.Test.YtjbcbejedaeedaaGreatDoorAz
/-! The ranges of a table's text are put in order by where they begin: slices.SortStableFunc with package table's comparator, of any ranges. -/
namespace Go.Proofs.YtjbcbejedaeedaaGreatDoor
open Go.RowKit

/-- the comparator, by where a range begins -/
def key8 (x : RG) : Int := x.val.1
set_option maxRecDepth 100000 in
theorem cmp8 (x y : RG) (w : World) : Calls Tryz.prog 22 #[rgAgg x.val, rgAgg y.val] w fun e w' => e = .returned (.int .i64 (key8 x - key8 y)) ∧ Below w.heap.size w w' := by
  obtain ⟨⟨x0, x1, x2, x3⟩, hx⟩ := x
  obtain ⟨⟨y0, y1, y2, y3⟩, hy⟩ := y
  obtain ⟨hx1, hx2⟩ := hx
  obtain ⟨hy1, hy2⟩ := hy
  dsimp only at hx1 hx2 hy1 hy2
  unfold rgAgg key8
  dsimp only
  go_enter Tryz.func22, Tryz.ntmps22
  go_wp2
  go_ret
  exact ⟨rfl, by (repeat' (first | (with_reducible exact Below.refl _ _) | (with_reducible assumption) | (with_reducible refine Below.alloc ?_ ?_ _) | (with_reducible refine Below.drew ?_) | (with_reducible refine below_drewN ?_ _) | (with_reducible refine Below.setCell ?_ ?_ _) | (with_reducible refine Below.trans ?_ (Below.mono (by assumption) ?_)) | go_size))⟩
def insG (x : RG) : List RG → List RG
  | [] => [x]
  | y :: ys => if x.val.1 < y.val.1 then x :: y :: ys else y :: insG x ys
theorem insG_val (x : RG) : ∀ l : List RG, (insG x l).map (·.val) = insR x.val (l.map (·.val))
  | [] => rfl
  | y :: ys => by
    rw [insG, List.map_cons, insR]
    split
    · rfl
    · rw [List.map_cons, insG_val x ys]
theorem insG_split (x : RG) : ∀ l : List RG, Srt key8 l → ∃ U V, l = U ++ V ∧ insG x l = U ++ x :: V ∧ (∀ u ∈ U, key8 u ≤ key8 x) ∧ (∀ v ∈ V, key8 x < key8 v)
  | [], _ => ⟨[], [], rfl, rfl, by simp, by simp⟩
  | y :: ys, h => by
    have h' := List.pairwise_cons.1 h
    rw [insG]
    by_cases hlt : x.val.1 < y.val.1
    · rw [if_pos hlt]
      refine ⟨[], y :: ys, rfl, rfl, by simp, fun v hv => ?_⟩
      rcases List.mem_cons.1 hv with rfl | hv
      · exact hlt
      · have := h'.1 v hv; unfold key8 at *; omega
    · rw [if_neg hlt]
      obtain ⟨U, V, h1, h2, h3, h4⟩ := insG_split x ys h'.2
      refine ⟨y :: U, V, by rw [h1]; rfl, by rw [h2]; rfl, fun u hu => ?_, h4⟩
      rcases List.mem_cons.1 hu with rfl | hu
      · unfold key8; omega
      · exact h3 u hu
theorem insG_stab (x : RG) {S M : List RG} (h : Stab key8 S M) : Stab key8 (S ++ [x]) (insG x M) := by
  obtain ⟨U, V, h1, h2, h3, h4⟩ := insG_split x M h.1
  rw [h2]
  rw [h1] at h
  exact h.insert h3 h4
theorem foldG_stab : ∀ (T S M : List RG), Stab key8 S M → Stab key8 (S ++ T) (T.foldl (fun a x => insG x a) M)
  | [], S, M, h => by rw [List.append_nil]; exact h
  | x :: T, S, M, h => by
    have := foldG_stab T (S ++ [x]) (insG x M) (insG_stab x h)
    rwa [List.append_assoc] at this
theorem foldG_val : ∀ (T M : List RG), (T.foldl (fun a x => insG x a) M).map (·.val) = (T.map (·.val)).foldl (fun a x => insR x a) (M.map (·.val))
  | [], M => rfl
  | x :: T, M => by
    rw [List.foldl_cons, foldG_val T, insG_val]; rfl
theorem stab_srtR {S M : List RG} (h : Stab key8 S M) : M.map (·.val) = srtR (S.map (·.val)) := by
  have h2 := foldG_stab S [] [] Stab.nil
  rw [List.nil_append] at h2
  rw [Stab.unique h h2, foldG_val]; rfl
theorem flat_val : ∀ M : List RG, (M.map (·.val)).flatMap rgCells = M.flatMap (fun x => rgCells x.val)
  | [] => rfl
  | x :: M => by rw [List.map_cons, List.flatMap_cons, List.flatMap_cons, flat_val M]
theorem seqAt_row {B : Nat} {w : World} {g cap : Nat} {cur : Array Value} {S : List RG} (hg : w.heap[g]? = some (.cells cur 61 (0, 0))) (h : w.ownsRow B 61 4 (.slice (some ⟨g, 0, none⟩) S.length cap) S.length ((S.map (·.val)).flatMap rgCells)) : SeqAt w g 0 S := by
  refine ⟨(Array.getElem?_eq_some_iff.1 hg).1, fun i x hx => ?_⟩
  have hr : w.rangeAt g (0 + i * 4) (rgCells x.val) := fun j u hu => by
    have := h.cells (g := g) rfl (i * 4 + j) u (flat_at rgCells 4 (fun _ => rfl) (S.map (·.val)) i j x.val u (by rw [List.getElem?_map, hx]; rfl) hu)
    rw [addr_add] at this
    rw [Nat.add_assoc]; exact this
  refine ⟨hr, fun j hj => ⟨?_, frozen_of_row w g _ cur _ hg⟩⟩
  obtain ⟨u, hu⟩ : ∃ u, (rgCells x.val)[j]? = some u := ⟨(rgCells x.val)[j]'(by simpa [rgCells] using hj), List.getElem?_eq_getElem _⟩
  rw [hr j u hu]; rfl
theorem row_seqAt {B : Nat} {w : World} {g cap : Nat} {cur : Array Value} {M : List RG} (hB : B ≤ g) (hg : w.heap[g]? = some (.cells cur 61 (0, 0))) (hc : M.length ≤ cap) (hm : cap ≤ maxLen) (hs : cur.size = cap * 4) (h : SeqAt w g 0 M) : w.ownsRow B 61 4 (.slice (some ⟨g, 0, none⟩) M.length cap) M.length ((M.map (·.val)).flatMap rgCells) := by
  have hl : ((M.map (·.val)).flatMap rgCells).length = M.length * 4 := by
    rw [flat_val]
    clear h hc
    induction M with
    | nil => rfl
    | cons x M ih => rw [List.flatMap_cons, List.length_append, ih, List.length_cons]; simp [rgCells]; omega
  refine ⟨hl, .inr ⟨g, cap, cur, rfl, hB, hg, hc, hm, hs, ?_⟩⟩
  refine List.ext_getElem? fun k => ?_
  by_cases hk : k < M.length * 4
  · rw [List.getElem?_take_of_lt hk]
    obtain ⟨x, hx⟩ : ∃ x, M[k / 4]? = some x := ⟨M[k / 4]'(by omega), List.getElem?_eq_getElem _⟩
    obtain ⟨u, hu⟩ : ∃ u, (rgCells x.val)[k % 4]? = some u := ⟨(rgCells x.val)[k % 4]'(by simp [rgCells]; omega), List.getElem?_eq_getElem _⟩
    have h1 := (h.2 (k / 4) x hx).1 (k % 4) u hu
    have h2 := flat_at rgCells 4 (fun _ => rfl) (M.map (·.val)) (k / 4) (k % 4) x.val u (by rw [List.getElem?_map, hx]; rfl) hu
    rw [show k / 4 * 4 + k % 4 = k from by omega] at h2
    rw [h2]
    rw [cell_of_row w g _ cur _ (0, 0) hg, show 0 + k / 4 * 4 + k % 4 = k from by omega] at h1
    rw [Array.getElem?_toList]; exact h1
  · rw [List.getElem?_eq_none (by rw [List.length_take]; omega), List.getElem?_eq_none (by omega)]
theorem cmp_by8 (g : Nat) : CmpBy key8 g (fun _ => True) := ⟨fun x y W _ => cmp8 x y W, fun _ _ _ _ => trivial⟩
/-- any ranges -/
theorem sort_any (rs : List Rng) (hb : ∀ x ∈ rs, -2147483648 ≤ x.1 ∧ x.1 ≤ 2147483647) (hl : rs.length ≤ 1000000000) : SortAt rs := by
  obtain ⟨S, hS⟩ : ∃ S : List RG, S.map (·.val) = rs := ⟨rs.attach.map (fun x => ⟨x.val, hb x.val x.property⟩), by rw [List.map_map]; exact List.attach_map_subtype_val rs⟩
  intro B rv W h
  rcases h.2 with ⟨hv, hn⟩ | ⟨g, cap, cur, hv, hB, hg, hc, hcm, hcs, ht⟩
  · obtain rfl := List.eq_nil_of_length_eq_zero hn
    exact sort0_any B rv W h
  · subst hS
    rw [List.length_map] at h hv hc hl ⊢
    subst hv
    have hsq := seqAt_row hg h
    refine (sortStable_any key8 (fun _ => True) g 0 cap S.length S W (cmp_by8 g) hsq trivial rfl hl).mono ?_
    rintro e w' ⟨rfl, ⟨M, hM, hs1⟩, ho⟩
    obtain ⟨cur', hg', hz⟩ := ho.kind cur _ hg
    have hml := hM.length
    refine ⟨rfl, ?_, ⟨ho.only.os, ho.only.tape, ho.only.output, ho.only.size, fun k hk hn => ho.only.block k hk (fun e => hn (by rw [e]; rfl))⟩⟩
    rw [← stab_srtR hM, ← hml]
    exact row_seqAt hB hg' (by omega) hcm (by omega) hs1
end Go.Proofs.YtjbcbejedaeedaaGreatDoor
/-! Plain: how large what a table's text says may be; so the sort puts any text's ranges in order. -/
namespace Go.Proofs.YtjbcbejedaeedaaGreatDoor
open Go.RowKit

def StOk (N : Nat) (st : TSt) : Prop := (∀ x ∈ st.2.1, 0 ≤ x.1 ∧ x.1 ≤ 1114111) ∧ st.2.1.length ≤ N ∧ st.2.2.length ≤ 4000 ∧ ∀ x ∈ st.2.2, x.1.length ≤ 8 ∧ x.2.length ≤ 16
theorem StOk.more {N M : Nat} {st : TSt} (h : StOk N st) (hm : N ≤ M) : StOk M st := ⟨h.1, Nat.le_trans h.2.1 hm, h.2.2⟩
theorem rangeW_bd {b : Bool} {l : Bs} {x : Rng} (h : rangeW b l = .ok x) : 0 ≤ x.1 ∧ x.1 ≤ 1114111 := by
  unfold rangeW at h
  split at h
  · cases h
  · split at h
    · cases h
    · split at h
      · cases h
      · rename_i n hn
        split at h
        · cases h
        · split at h
          · cases h
          · split at h
            · rename_i hle
              cases h
              exact ⟨(numX_bd hn (by omega)).1, hle.1⟩
            · cases h
theorem rangedW_ok {N : Nat} {st st' : TSt} {b : Bool} {l : Bs} (h0 : StOk N st) (h : rangedW st b l = .ok st') : StOk (N + 1) st' := by
  unfold rangedW at h
  split at h
  · cases h
  · rename_i x hx
    cases h
    refine ⟨fun y hy => ?_, by simpa using h0.2.1, h0.2.2⟩
    rcases List.mem_append.1 hy with hy | hy
    · exact h0.1 y hy
    · simp at hy; subst hy; exact rangeW_bd hx
theorem lineW_len {l : Bs} {x : Ent} (h : lineW l = .ok x) : x.2.length ≤ 16 := by
  unfold lineW at h
  split at h
  · cases h
  · split at h
    · cases h
    · split at h
      · cases h
      · split at h
        · cases h
        · split at h
          · rename_i hle
            cases h; exact hle
          · cases h
theorem stepW_ok {N : Nat} {st st' : TSt} {l : Bs} (h0 : StOk N st) (h : stepW st l = .ok st') : StOk (N + 1) st' := by
  unfold stepW at h
  split at h
  · split at h
    · rw [markW_eq] at h
      split at h
      · unfold nameW at h
        split at h
        · split at h
          · cases h; exact h0.more (Nat.le_succ _)
          · cases h
        · cases h
      · split at h
        · exact rangedW_ok h0 h
        · split at h
          · exact rangedW_ok h0 h
          · cases h
    · cases h
  · split at h
    · cases h
    · rename_i x hx
      split at h
      · cases h
      · split at h
        · rename_i hlt
          cases h
          refine ⟨h0.1, Nat.le_trans h0.2.1 (Nat.le_succ _), by simp; omega, fun y hy => ?_⟩
          rcases List.mem_append.1 hy with hy | hy
          · exact h0.2.2.2 y hy
          · simp at hy; subst hy; exact ⟨(lineW_pt hx).2, lineW_len hx⟩
        · cases h
theorem goL_ok : ∀ (xs : List (Nat × Bs)) (N : Nat) (st st' : TSt), StOk N st → goL st xs = .ok st' → StOk (N + xs.length) st'
  | [], N, st, st', h0, h => by cases h; exact h0
  | x :: xs, N, st, st', h0, h => by
    rw [goL] at h
    cases hs : stepW st x.2 with
    | error e => rw [hs] at h; cases h
    | ok s1 =>
      rw [hs] at h
      have := goL_ok xs (N + 1) s1 st' (stepW_ok h0 hs) h
      rw [List.length_cons, show N + (xs.length + 1) = N + 1 + xs.length from by omega]; exact this
theorem goL0_ok (l : Bs) {st : TSt} (h : goL (none, [], []) (linesW l) = .ok st) : StOk (l.length + 1) st := by
  have := goL_ok _ 0 _ _ ⟨(fun x hx => by cases hx), Nat.zero_le _, Nat.zero_le _, (fun x hx => by cases hx)⟩ h
  refine this.more ?_
  have h1 := linesF_len (piecesW l) 0
  have h2 := pieces_count l
  unfold linesW; omega
theorem sort_text (s : ByteArray) (hs : s.size ≤ 1000000) : ∀ st, goL (none, [], []) (linesW s.data.toList) = .ok st → SortAt st.2.1 := fun st h => by
  have := goL0_ok _ h
  have hl : s.data.toList.length = s.size := size_data s
  exact sort_any _ (fun x hx => by have := this.1 x hx; omega) (by have := this.2.1; omega)
/-- any text -/
theorem parse8_any (s : ByteArray) (w : World) (hs : s.size ≤ 1000000) (hm : ML w) : Calls Tryz.prog 7 #[.string s] w (ParseEnd s.data.toList w) := parse_any s w hs hm (sort_text s hs)
theorem parseW_sizes (l : Bs) : (parseW l).1.2.1.length ≤ l.length + 1 ∧ (parseW l).1.2.2.length ≤ 4000 ∧ ∀ x ∈ (parseW l).1.2.2, x.1.length ≤ 8 ∧ x.2.length ≤ 16 := by
  rw [parseW_lines]
  cases h : goL (none, [], []) (linesW l) with
  | error e => obtain ⟨i, e⟩ := e; exact ⟨Nat.zero_le _, Nat.zero_le _, fun x hx => by cases hx⟩
  | ok st =>
    have h0 := goL0_ok _ h
    obtain ⟨v, rs, es⟩ := st
    cases v with
    | none => exact ⟨Nat.zero_le _, Nat.zero_le _, fun x hx => by cases hx⟩
    | some v =>
      by_cases hc : rngC (srtR rs) = 0
      · simp only [endW, if_pos hc]
        refine ⟨?_, h0.2.2⟩
        rw [srtR_len]; exact h0.2.1
      · simp only [endW, if_neg hc]
        exact ⟨Nat.zero_le _, Nat.zero_le _, fun x hx => by cases hx⟩
theorem goL_at : ∀ (xs : List (Nat × Bs)) (st : TSt) (i : Nat) (e : Int), goL st xs = .error (i, e) → ∃ x ∈ xs, x.1 = i
  | [], st, i, e, h => by cases h
  | x :: xs, st, i, e, h => by
    rw [goL] at h
    cases hs : stepW st x.2 with
    | error e' => rw [hs] at h; cases h; exact ⟨x, List.mem_cons_self .., rfl⟩
    | ok s1 =>
      rw [hs] at h
      obtain ⟨y, hy, h1⟩ := goL_at xs s1 i e h
      exact ⟨y, List.mem_cons_of_mem _ hy, h1⟩
theorem parseW_at (l : Bs) : (parseW l).2.1 ≤ l.length + 1 := by
  rw [parseW_lines]
  cases h : goL (none, [], []) (linesW l) with
  | error e =>
    obtain ⟨i, e⟩ := e
    obtain ⟨x, hx, h1⟩ := goL_at _ _ _ _ h
    have := (linesW_mem l x hx).2.2
    show i ≤ _
    omega
  | ok st =>
    obtain ⟨v, rs, es⟩ := st
    cases v with
    | none => exact Nat.zero_le _
    | some v =>
      by_cases hc : rngC (srtR rs) = 0
      · simp only [endW, if_pos hc]; exact Nat.zero_le _
      · simp only [endW, if_neg hc]; exact Nat.zero_le _
end Go.Proofs.YtjbcbejedaeedaaGreatDoor
