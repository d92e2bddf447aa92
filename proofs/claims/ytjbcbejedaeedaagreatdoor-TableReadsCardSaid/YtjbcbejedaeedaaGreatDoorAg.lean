/- Package table: codes: walked; it throws. -/
import Derived.Test.YtjbcbejedaeedaaGreatDoorAf
namespace Go.Proofs.YtjbcbejedaeedaaGreatDoor
open Go.RowKit
open PlainAid (bt)

theorem fldB_le : ∀ (l cur x : Bs), x ∈ fldB cur l → x.length ≤ cur.length + l.length
  | [], cur, x, h => by
    unfold fldB at h
    split at h
    · simp at h
    · simp at h; subst h; simp
  | b :: t, cur, x, h => by
    rw [fldB] at h
    split at h
    · split at h
      · have := fldB_le t [] x h; simp at this ⊢; omega
      · rcases List.mem_cons.1 h with rfl | h
        · rw [List.length_cons]; omega
        · have := fldB_le t [] x h; simp at this ⊢; omega
    · have := fldB_le t _ x h; simp at this ⊢; omega
theorem wordsW_le (l x : Bs) (h : x ∈ wordsW l) : x.length ≤ l.length := by
  rw [wordsW_fldB] at h; have := fldB_le l [] x h; simpa using this
theorem fldB_count : ∀ (l cur : Bs), (fldB cur l).length ≤ cur.length + l.length
  | [], cur => by
    unfold fldB
    split
    · simp
    · rename_i h
      have := List.length_pos_iff.2 h
      simp; omega
  | b :: t, cur => by
    rw [fldB]
    have h1 := fldB_count t []
    split
    · split
      · simp at h1 ⊢; omega
      · rename_i h
        have := List.length_pos_iff.2 h
        simp at h1 ⊢; omega
    · have := fldB_count t (cur ++ [b]); simp at this ⊢; omega
theorem wordsW_count (l : Bs) : (wordsW l).length ≤ l.length := by rw [wordsW_fldB]; have := fldB_count l []; simpa using this
theorem hexF_bd : ∀ (l : Bs) (a : Int), 0 ≤ a → 0 ≤ l.foldl (fun n b => n * 16 + hv (b.toNat : Int)) a ∧ l.foldl (fun n b => n * 16 + hv (b.toNat : Int)) a < (a + 1) * 16 ^ l.length
  | [], a, h => by simp; omega
  | b :: t, a, h => by
    have hb := hv_bd (b.toNat : Int)
    have ih := hexF_bd t (a * 16 + hv (b.toNat : Int)) (by omega)
    refine ⟨ih.1, Int.lt_of_lt_of_le ih.2 ?_⟩
    rw [List.length_cons, Int.pow_succ, Int.mul_comm (16 ^ t.length) 16, ← Int.mul_assoc]
    exact Int.mul_le_mul_of_nonneg_right (by omega) (Int.le_of_lt (Int.pow_pos (by decide)))
theorem numX_bd {l : Bs} {lo hi : Nat} {n : Int} (h : numX l lo hi = some n) (h6 : hi ≤ 6) : 0 ≤ n ∧ n ≤ 16777215 := by
  unfold numX at h
  split at h
  · rename_i hc
    cases h
    have := hexF_bd l 0 (Int.le_refl _)
    have hp : (16 : Int) ^ l.length ≤ 16 ^ 6 := by
      have : l.length = 0 ∨ l.length = 1 ∨ l.length = 2 ∨ l.length = 3 ∨ l.length = 4 ∨ l.length = 5 ∨ l.length = 6 := by omega
      rcases this with h | h | h | h | h | h | h <;> rw [h] <;> decide
    unfold hexN
    omega
  · cases h
theorem numsX_snoc : ∀ (l : List Bs) (x : Bs) (ns : List Int) (n : Int), numsX l = some ns → numX x 4 6 = some n → numsX (l ++ [x]) = some (ns ++ [n])
  | [], x, ns, n, h, hx => by
    unfold numsX at h; cases h
    simp [numsX, hx]
  | y :: l, x, ns, n, h, hx => by
    rw [numsX] at h
    split at h
    · cases h
    · rename_i m hm
      split at h
      · cases h
      · rename_i ms hms
        cases h
        rw [List.cons_append, numsX, hm, numsX_snoc l x ms n hms hx]; rfl
theorem numsX_none : ∀ (l : List Bs) (x : Bs), x ∈ l → numX x 4 6 = none → numsX l = none
  | y :: l, x, h, hx => by
    rw [numsX]
    rcases List.mem_cons.1 h with rfl | h
    · rw [hx]
    · rw [numsX_none l x h hx]; split <;> rfl
theorem numsX_len : ∀ (l : List Bs) (ns : List Int), numsX l = some ns → ns.length = l.length
  | [], ns, h => by unfold numsX at h; cases h; rfl
  | y :: l, ns, h => by
    rw [numsX] at h
    split at h
    · cases h
    · split at h
      · cases h
      · rename_i hms
        cases h
        simp [numsX_len l _ hms]
/-- how codes ends -/
def CodesEnd (l : Bs) (w : World) (e : Ending) (w' : World) : Prop :=
  Below w.heap.size w w' ∧ ((∃ xs v, codesW l = .ok xs ∧ e = .returned v ∧ IntsIn (Lf w.heap.size w') .i32 w' v xs) ∨ ∃ z, codesW l = .error z ∧ e = .panicked (chainE z))
theorem ownsRow_growT {B : Nat} {e : TypeId} {k : Nat} {v : Value} {n : Nat} {xs : List Value} {w w' : World} (h : w.ownsRow B e k v n xs) (hb : Below w.heap.size w w') : w'.ownsRow B e k v n xs :=
  h.kept (row := none) ⟨hb.os, hb.tape, hb.output, hb.size, fun k hk _ => hb.block k hk⟩ (Classical.em _)
theorem cell_one_newT (w : World) (v : Value) (t : TypeId) : ∀ (j : Nat) u, [v][j]? = some u → (w.alloc (.cells #[v] t)).cell? ((⟨w.heap.size, 0, none⟩ : Addr).add j) = some u := by
  intro j u hj
  cases j with
  | zero => cases hj; simp [Addr.add, go_sem]
  | succ j => simp at hj
/-- between two rounds -/
def CdRel (ws : List Bs) (B : Nat) (w1 : World) (k : Nat) (ns : List Int) (v : Value) (W : World) : Prop :=
  k ≤ ws.length ∧ numsX (ws.take k) = some ns ∧ W.ownsRow B 21 1 v ns.length (ns.map (Value.int .i32)) ∧ Below B w1 W
set_option maxHeartbeats 4000000 in
set_option maxRecDepth 100000 in
theorem codes_any (s : ByteArray) (w : World) (hs : s.size ≤ 1000000) :
    Calls Tryz.prog 91 #[.string s] w (CodesEnd s.data.toList w) := by
  have HS := Lib.hid hs
  have hl := size_data s
  have HW := fun x (h : x ∈ wordsW s.data.toList) => wordsW_le s.data.toList x h
  have HC := wordsW_count s.data.toList
  rw [hl] at HW HC
  have HCD : Hid (codesW s.data.toList = if wordsW s.data.toList = [] then .error 80 else match numsX (wordsW s.data.toList) with | none => .error 80 | some ns => if ns.length ≤ 8 ∧ ns.all pt = true then .ok ns else .error 90) := rfl
  have hwd := words_any s w (by omega)
  rw [fields_words] at hwd
  generalize wordsW s.data.toList = ws at *
  obtain ⟨i0, hi, hz0, hz1, hz2⟩ := info_parts Tryz.infoI
  clear hl
  go_enter Tryz.func91, Tryz.ntmps91
  go_wp2_with fail
  refine hwd.mono ?_
  rintro e w1 ⟨v, rfl, hv, hb1⟩
  have HB1 := Lib.hid hb1
  have HV := Lib.hid hv
  obtain ⟨A, rfl, hA1, hA2, hA3⟩ := hv
  rw [List.length_map] at HV ⊢
  have hcells : ∀ (W : World), Below w1.heap.size w1 W → ∀ (i : Nat) x, ws[i]? = some x → W.cell? ⟨A, i, none⟩ = some (.string (mkB x)) := fun W hb i x hx =>
    (hb.cell (p := ⟨A, i, none⟩) hA2).trans (hA3 i (mkB x) (by rw [List.getElem?_map, hx]; rfl))
  have HCL := Lib.hid hcells
  obtain ⟨n, hn⟩ : ∃ n, n = ws.length := ⟨_, rfl⟩
  rw [← hn] at HC HV ⊢
  have HN := Lib.hid hn
  clear hn hwd hb1 hA3 hcells
  cases n with
  | zero =>
    have HE : Hid (codesW s.data.toList = .error 80) := by
      show _ = _
      rw [HCD.out, if_pos (List.eq_nil_of_length_eq_zero HN.out.symm)]
    go_wp2_with (go_at_call 49; refine (must_no _ _).mono ?_; rintro e w' ⟨rfl, rfl⟩)
    exact ⟨rfl, HB1.out, .inr ⟨80, HE.out, rfl⟩⟩
  | succ n' =>
    have hne : ws ≠ [] := fun h => by have := HN.out; rw [h] at this; cases this
    have HNE := Lib.hid hne
    obtain ⟨m, hm⟩ : ∃ m, m = n' + 1 := ⟨_, rfl⟩
    have hpos : 0 < m := by omega
    rw [← hm] at HC HV HN ⊢
    clear hm hne
    have g0 : (0 : Int) < (m : Int) := by omega
    go_wp2_with (go_at_call 49; refine (must_ok _ _).mono ?_; rintro e w' ⟨rfl, rfl⟩)
    go_loopw [4, 17] (fun o iv wr => ∃ (k : Nat) (ns : List Int), iv = .int .i64 k ∧ CdRel ws w1.heap.size w1 k ns o wr) (fun _ iv _ => m - (intOf iv).toNat)
    case atStart => exact ⟨0, [], rfl, Nat.zero_le _, rfl, World.ownsRow_nil _ _ _ _, Below.refl _ _⟩
    case round =>
      obtain ⟨k, ns, rfl, hr⟩ := hrel
      have HR := Lib.hid hr
      have hkm : k ≤ m := by have := hr.1; have := HN.out; omega
      clear hr
      by_cases hlt : k < m
      · have g1 : (k : Int) < (m : Int) := by omega
        obtain ⟨x, hx⟩ : ∃ x, ws[k]? = some x := ⟨ws[k]'(by rw [← HN.out]; exact hlt), List.getElem?_eq_getElem _⟩
        have c0 := HCL.out _ HR.out.2.2.2 k x hx
        have hAr : A < wr.heap.size := Nat.lt_of_lt_of_le hA2 HR.out.2.2.2.size
        have hxs : x.length ≤ 1000000 := Nat.le_trans (HW x (List.mem_of_getElem? hx)) HS.out
        have hh := fun W => hex_any (mkB x) 4 6 (by decide) (by decide) (by rw [size_mkB]; exact hxs) W
        unfold hexR at hh
        rw [data_mkB] at hh
        have HX := Lib.hid hx
        cases hnx : numX x 4 6 with
        | none =>
          have HE : Hid (codesW s.data.toList = .error 80) := by
            show _ = _
            rw [HCD.out, if_neg HNE.out, numsX_none ws x (List.mem_of_getElem? hx) hnx]
          rw [hnx] at hh
          simp only at hh
          have HH := Lib.hid hh
          clear hh hx hnx hxs HW
          go_wp2_with (first | (go_at_call 127; refine (HH.out _).mono ?_; rintro e w2 ⟨rfl, hb2⟩) | (go_at_call 49; refine (must_no _ _).mono ?_; rintro e w' ⟨rfl, rfl⟩))
          exact ⟨rfl, HB1.out.trans ((HR.out.2.2.2.trans (hb2.mono HR.out.2.2.2.size)).mono HB1.out.size), .inr ⟨80, HE.out, rfl⟩⟩
        | some q =>
          obtain ⟨q0, q1⟩ := numX_bd hnx (by decide)
          have HQ : Hid (numsX (ws.take (k + 1)) = some (ns ++ [q])) := by
            show _ = _
            rw [take_snocR hx]; exact numsX_snoc _ _ _ _ HR.out.2.1 hnx
          have HL : Hid (ns.length ≤ 1000000) := by
            have h1 := numsX_len _ _ HR.out.2.1
            rw [List.length_take] at h1
            have := HS.out
            have := HN.out
            show _ ≤ _
            omega
          rw [hnx] at hh
          simp only at hh
          have HH := Lib.hid hh
          clear hh hx hnx hxs HW
          go_wp2_with (first | (go_at_call 127; refine (HH.out _).mono ?_; rintro e w2 ⟨rfl, hb2⟩; have HB2 := Lib.hid hb2; have HO2 := Lib.hid (ownsRow_growT HR.out.2.2.1 hb2); clear hb2) | (go_at_call 49; refine (must_ok _ _).mono ?_; rintro e w' ⟨rfl, rfl⟩) | (at_builtin; refine wpList_append_own _ rfl _ _ 35 rfl w1.heap.size 21 i0 (.int .i32 0) 1 4 Tryz.underlying35 hi hz0 hz1 hz2 rfl (by decide) _ _ _ rfl (HO2.out.alloc _) ⟨w2.heap.size, 0, none⟩ 1 1 [.int .i32 q] rfl rfl (cell_one_newT _ _ _) (by simp [Value.oneCell']) (by unfold maxLen; have := HL.out; omega) (by have := HL.out; omega) (by simp; exact Nat.le_succ_of_le (Nat.le_trans HR.out.2.2.2.size HB2.out.size)) ?_; intro v' w3 hown' hgrow _))
          have HR2 : Hid (CdRel ws w1.heap.size w1 (k + 1) (ns ++ [q]) v' w3) := by
            have hb : Below w1.heap.size w1 w2 := HR.out.2.2.2.trans (HB2.out.mono HR.out.2.2.2.size)
            refine ⟨by have := HN.out; omega, HQ.out, by simpa using hown', (hb.alloc hb.size _).grown hgrow (by have := hb.size; simp; omega) (fun j hj => (HO2.out.lt j hj).1)⟩
          clear hown' hgrow
          go_wp2
          go_roundw
          case rel => exact ⟨k + 1, ns ++ [q], by go_num, HR2.out⟩
          case measure => simp [intOf]; omega
      · have g1 : ¬ (k : Int) < (m : Int) := by omega
        obtain rfl : k = m := by omega
        have HQ : Hid (numsX ws = some ns) := by
          have := HR.out.2.1
          rwa [List.take_of_length_le (by rw [← HN.out]; exact Nat.le_refl _)] at this
        have hlen := numsX_len _ _ HQ.out
        rw [← HN.out] at hlen
        have HI := Lib.hid (intsIn_row HR.out.2.2.1)
        have hvf : ∃ a c, u4 = .slice a k c := by
          obtain ⟨p, c, e, _⟩ := HI.out
          exact ⟨p, c, by rw [e, hlen]⟩
        obtain ⟨va, vc, rfl⟩ := hvf
        have HF : Hid (CodesEnd s.data.toList w (.returned (.slice va k vc)) wr ∨ ¬ (ns.length ≤ 8 ∧ ns.all pt = true)) := by
          by_cases hc : ns.length ≤ 8 ∧ ns.all pt = true
          · refine .inl ⟨HB1.out.trans (HR.out.2.2.2.mono HB1.out.size), .inl ⟨ns, _, ?_, rfl, HI.out.mono (fun b hb _ => ⟨Nat.le_trans HB1.out.size hb.1, hb.2⟩)⟩⟩
            rw [HCD.out, if_neg HNE.out, HQ.out]
            exact if_pos hc
          · exact .inr hc
        have HG : Hid (¬ (ns.length ≤ 8 ∧ ns.all pt = true) → codesW s.data.toList = .error 90) := by
          intro hc
          rw [HCD.out, if_neg HNE.out, HQ.out]
          exact if_neg hc
        have hcf := fun w (hv : IntsIn (Lf w1.heap.size wr) .i32 w (.slice va k vc) ns) => containsFuncR_any _ ns _ 128 (fun r => !pt r) (fun _ _ => rfl) (fun r w => codes1_any r w) w hv (by have := HS.out; omega)
        have HCF := Lib.hid (hcf _ HI.out)
        have HBB := Lib.hid (HB1.out.trans (HR.out.2.2.2.mono HB1.out.size))
        clear hlt hcf
        have HLN := Lib.hid hlen
        clear hlen
        by_cases h8 : k ≤ 8
        · have g8 : (k : Int) ≤ 8 := by omega
          cases hall : ns.all pt with
          | true =>
            have ha : (ns.any fun r => !pt r) = false := by
              rw [List.any_eq_false]; intro r hr; simp [List.all_eq_true.1 hall r hr]
            have HFF := Lib.hid (HF.out.resolve_right (fun h => h ⟨by rw [HLN.out]; exact h8, hall⟩))
            have HCF2 := HCF.out
            rw [ha] at HCF2
            clear hall h8
            go_wp2_with (first | (refine HCF2.mono ?_; rintro e w' ⟨rfl, rfl⟩) | (go_at_call 49; refine (must_ok _ _).mono ?_; rintro e w' ⟨rfl, rfl⟩))
            go_ret
            exact HFF.out
          | false =>
            have ha : (ns.any fun r => !pt r) = true := by
              rw [List.any_eq_true]; rw [List.all_eq_false] at hall
              obtain ⟨r, h1, h2⟩ := hall
              exact ⟨r, h1, by simpa using h2⟩
            have HE := Lib.hid (HG.out (fun h => by rw [hall] at h; exact Bool.false_ne_true h.2))
            have HCF2 := HCF.out
            rw [ha] at HCF2
            clear hall h8
            go_wp2_with (first | (refine HCF2.mono ?_; rintro e w' ⟨rfl, rfl⟩) | (go_at_call 49; refine (must_no _ _).mono ?_; rintro e w' ⟨rfl, rfl⟩))
            exact ⟨rfl, HBB.out, .inr ⟨90, HE.out, rfl⟩⟩
        · have g8 : ¬ (k : Int) ≤ 8 := by omega
          have HE := Lib.hid (HG.out (fun h => h8 (by rw [← HLN.out]; exact h.1)))
          clear h8
          go_wp2_with (go_at_call 49; refine (must_no _ _).mono ?_; rintro e w' ⟨rfl, rfl⟩)
          exact ⟨rfl, HBB.out, .inr ⟨90, HE.out, rfl⟩⟩
end Go.Proofs.YtjbcbejedaeedaaGreatDoor
