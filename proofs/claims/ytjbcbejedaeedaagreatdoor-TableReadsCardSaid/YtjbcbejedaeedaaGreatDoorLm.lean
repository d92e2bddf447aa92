/- The reference of chapter 8: a line of a range: walked. The reference of chapter 8: a line: walked. The reference of chapter 8: a line of its reader: walked. -/
import Derived.Test.YtjbcbejedaeedaaGreatDoorLe
import Derived.Test.YtjbcbejedaeedaaGreatDoorDo
/-! The reference of chapter 8: a line of a range: walked. -/
namespace Go.Proofs.YtjbcbejedaeedaaGreatDoor
open Go.RowKit
open PlainAid (bt)

theorem rnum46 (s : ByteArray) (w : World) (hs : s.size ≤ 1000000000) : Calls Tryz.prog 97 #[.string s, .int .i64 4, .int .i64 6] w fun e w' => e = .returned (numRV s.data.toList 4 6) ∧ w = w' := rnumber_any s 4 6 (by decide) (by decide) w hs
theorem rnum44 (s : ByteArray) (w : World) (hs : s.size ≤ 1000000000) : Calls Tryz.prog 97 #[.string s, .int .i64 4, .int .i64 4] w fun e w' => e = .returned (numRV s.data.toList 4 4) ∧ w = w' := rnumber_any s 4 4 (by decide) (by decide) w hs
theorem cell_blt {w : World} {p : Addr} {v : Value} (h : w.cell? p = some v) : p.block < w.heap.size := by
  unfold World.cell? at h
  rcases Nat.lt_or_ge p.block w.heap.size with hl | hl
  · exact hl
  · simp [Array.getElem?_eq_none hl] at h
theorem src_drop {W : World} {B n k rc qc : Nat} {rp q : Option Addr} {rs : List Rng} (h : W.ownsRow B 61 4 (.slice rp n rc) n (rs.flatMap rgCells)) (hn : n = rs.length) (hk : k < n) (hq : sliced rp k n rc 4 = .slice q (n - k) qc) :
    ∃ a, q = some a ∧ ∀ j u, ((rs.drop k).flatMap rgCells)[j]? = some u → W.cell? (a.add j) = some u := by
  rcases h.2 with ⟨_, h0⟩ | ⟨g, cap, cur, h1, _, _, h2, _⟩
  · omega
  · injection h1 with h1 _ h3
    subst h1
    subst h3
    unfold sliced at hq
    rw [if_neg (by omega)] at hq
    injection hq with hq _ _
    refine ⟨⟨g, k * 4, none⟩, ?_, fun j u hu => ?_⟩
    · rw [← hq]; show some ((⟨g, 0, none⟩ : Addr).add (k * 4)) = _; rw [addr_add, Nat.zero_add]
    · have hd : (rs.drop k).flatMap rgCells = (rs.flatMap rgCells).drop (k * 4) := by
        have e : rs.flatMap rgCells = (rs.take k).flatMap rgCells ++ (rs.drop k).flatMap rgCells := by rw [← List.flatMap_append, List.take_append_drop]
        rw [e, show k * 4 = ((rs.take k).flatMap rgCells).length from by rw [rg_len, List.length_take]; omega, List.drop_left]
      rw [hd, List.getElem?_drop] at hu
      have := h.cells (g := g) rfl _ u hu
      rw [addr_add] at this ⊢
      rwa [Nat.zero_add] at this
theorem src_take {W : World} {B n k rc : Nat} {rp : Option Addr} {rs : List Rng} (h : W.ownsRow B 61 4 (.slice rp n rc) n (rs.flatMap rgCells)) :
    (rp = none ∧ rs.take k = []) ∨ ∃ a, rp = some a ∧ ∀ j u, ((rs.take k).flatMap rgCells)[j]? = some u → W.cell? (a.add j) = some u := by
  rcases h.2 with ⟨h1, h0⟩ | ⟨g, cap, cur, h1, _⟩
  · injection h1 with h1 _ _
    left
    refine ⟨h1, ?_⟩
    have := h.1
    rw [h0, rg_len] at this
    rw [List.eq_nil_of_length_eq_zero (by omega : rs.length = 0)]; simp
  · injection h1 with h1 _ _
    subst h1
    right
    refine ⟨_, rfl, fun j u hu => h.cells (g := g) rfl j u ?_⟩
    conv => lhs; rw [← List.take_append_drop k rs, List.flatMap_append]
    rw [List.getElem?_append_left (List.getElem?_eq_some_iff.1 hu).1]; exact hu
theorem RSt.put_rg {B : Nat} {W : World} {pb : Nat} {st : TSt} {rv ev v : Value} {vs : List (Value × Value)} {rs : List Rng} (h3 : Rd8 W pb (st.1.getD []) rv ev st.1.isSome) (h5 : W.ownsRow B 45 2 ev st.2.2.length (vs.flatMap evCells)) (h6 : EVs B W st.2.2 vs)
    (hs : rs.Pairwise (fun x y => x.1 ≤ y.1)) (h8 : rs.length ≤ 5000000) (h9 : st.2.2.length ≤ 4000 ∧ ∀ x ∈ st.2.2, x.1.length ≤ 8 ∧ x.2.length ≤ 16) (hown : W.ownsRow B 61 4 v rs.length (rs.flatMap rgCells)) : RSt B (W.setCell ⟨pb, 1, none⟩ v) pb (st.1, rs, st.2.2) :=
  ⟨v, ev, vs, h3.put1 v, row_set hown h3 (by decide), row_set h5 h3 (by decide), h6.kept (lf_set (B := B) h3 (by decide) (by decide)), hs, h8, h9.1, h9.2⟩
theorem wp_append_run {P : Program} {o : Oper} {a : Act} {w : World} {K : Act → World → Prop} {Q : Exit → Act → World → Prop} (s x : Operand) (t : TypeId) (ho : o.op = .call { callee := .builtin .append, args := #[s, x], argTypes := #[t, t] }) (v u v' : Value) (w' : World) (hs : a.eval s = v) (hx : a.eval x = u)
    (hrun : (Builtin.append_ #[t, t] o.type #[v, u]).run P w = .ok v' w') (h : K (a.put o.dst v') w') : Oper.wp P o a w K Q := by
  unfold Oper.wp
  simp [execOp, ho, resolve, invoke, builtin, hs, hx, hrun, Result.andThen]
  exact h
theorem st_lt {B : Nat} {W : World} {pb : Nat} {st : TSt} (h : RSt B W pb st) : pb < W.heap.size := by
  obtain ⟨rv, ev, vs, h3, _⟩ := h; exact h3.cells.2.2.2.2.2
set_option maxHeartbeats 8000000 in
set_option maxRecDepth 100000 in
theorem rrule_any (B pb : Nat) (st : TSt) (s : ByteArray) (whole : Bool) (w : World) (hs : s.size ≤ 1000000) (hp : RSt B w pb st) (hB : B ≤ w.heap.size) (hpb : pb < B) (hrl : st.2.1.length < 5000000) :
    Calls Tryz.prog 60 #[.pointer (some ⟨pb, 0, none⟩), .string s, .bool whole] w (RStepEnd B pb (ruleR st whole s.data.toList) w) := by
  have HP := Lib.hid hp
  have HCU := Lib.hid (fun w => rcut_any s 59 59 rfl w (by omega))
  have hle := cut_le s.data.toList [59]
  rw [size_data] at hle
  have HRB : Hid (∀ a b, Lib.cut s.data.toList [59] = (a, b, true) → _) := fun a b h => rangeW_base (whole := whole) h
  have HRF : Hid ((Lib.cut s.data.toList [59]).2.2 = false → rangeW whole s.data.toList = .error 80) := fun h => by unfold rangeW; rw [if_pos h]
  have HRR : Hid (ruleR st whole s.data.toList = match rangeW whole s.data.toList with | .error e => .error e | .ok x => .ok (st.1, insR x st.2.1, st.2.2)) := rfl
  generalize rangeW whole s.data.toList = rw0 at *
  generalize ruleR st whole s.data.toList = rr at *
  generalize Lib.cut s.data.toList [59] = c at *
  obtain ⟨a0, b0, f⟩ := c
  simp only at hle HRF HCU
  obtain ⟨hla, hlb⟩ := hle
  have HERR : Hid (∀ z (w' : World), rw0 = .error z → Below w.heap.size w w' → RStepEnd B pb rr w (.returned (.int .i64 z)) w') := by
    show ∀ z, _
    intro z w' h hb
    exact rstep_err hb (by rw [HRR.out, h])
  have htb := Nat.le_trans (trimW_le b0) (Nat.le_trans hlb hs)
  have hta := Nat.le_trans (trimW_le a0) (Nat.le_trans hla hs)
  have HTB := Lib.hid (fun w => rtrim_any (mkB b0) w (by rw [size_mkB]; omega))
  have HTA := Lib.hid (fun w => rtrim_any (mkB a0) w (by rw [size_mkB]; omega))
  rw [data_mkB] at HTB HTA
  have HNB := Lib.hid (fun w => rnum44 (mkB (trimW b0)) w (by rw [size_mkB]; omega))
  rw [data_mkB] at HNB
  have HRL := Lib.hid hrl
  have HPB := Lib.hid (And.intro hB hpb)
  clear hla hlb hs hp hrl hB hpb htb
  have hnv : (∃ v k, numRV (trimW b0) 4 4 = .tuple #[.int .i64 v, .bool k] ∧ (k = false → numX (trimW b0) 4 4 = none) ∧ (k = true → numX (trimW b0) 4 4 = some v)) := by
    unfold numRV
    cases numX (trimW b0) 4 4 with
    | none => exact ⟨0, false, rfl, (fun _ => rfl), (fun h => by cases h)⟩
    | some v => exact ⟨v, true, rfl, (fun h => by cases h), (fun _ => rfl)⟩
  obtain ⟨bs, bk, hb1, hb2, hb3⟩ := hnv
  rw [hb1] at HNB
  have HBF := Lib.hid hb2
  have HBT := Lib.hid hb3
  clear hb1 hb2 hb3
  go_enter Tryz.func60, Tryz.ntmps60
  go_wp2_with fail
  refine (HCU.out _).mono ?_
  rintro e w1 ⟨rfl, hb1⟩
  have HB1 := Lib.hid hb1
  clear hb1
  cases f with
  | false =>
    have HE := Lib.hid (HRF.out rfl)
    go_wp2_with (first | (go_at_call 25; with_reducible refine (HTB.out _).mono ?_; rintro e w' ⟨rfl, rfl⟩) | (go_at_call 97; with_reducible refine (HNB.out _).mono ?_; rintro e w' ⟨rfl, rfl⟩))
    go_ret
    exact HERR.out 80 _ HE.out HB1.out
  | true =>
    have hrb := HRB.out a0 b0 rfl
    cases bk with
    | false =>
      have HE : Hid (rw0 = .error 80) := by show _ = _; rw [hrb, HBF.out rfl]
      clear hrb
      go_wp2_with (first | (go_at_call 25; with_reducible refine (HTB.out _).mono ?_; rintro e w' ⟨rfl, rfl⟩) | (go_at_call 97; with_reducible refine (HNB.out _).mono ?_; rintro e w' ⟨rfl, rfl⟩))
      go_ret
      exact HERR.out 80 _ HE.out HB1.out
    | true =>
      have HBS := Lib.hid (HBT.out rfl)
      rw [HBS.out] at hrb
      dsimp only at hrb
      have HR2 := Lib.hid hrb
      clear hrb HBF HBT HRB HRF
      obtain ⟨a, ha⟩ : ∃ a, a = mkB (trimW a0) := ⟨_, rfl⟩
      have hal : a.size ≤ 1000000 := by rw [ha, size_mkB]; exact hta
      have HAD : Hid (trimW a0 = a.data.toList) := by show _ = _; rw [ha, data_mkB]
      rw [← ha] at HTA
      rw [HAD.out] at HR2
      have hbt := PlainAid.get_bt a
      clear ha hta
      go_wp2_with (first | (go_at_call 25; first | (with_reducible refine (HTB.out _).mono ?_; rintro e w' ⟨rfl, rfl⟩) | (with_reducible refine (HTA.out _).mono ?_; rintro e w' ⟨rfl, rfl⟩)) | (go_at_call 97; with_reducible refine (HNB.out _).mono ?_; rintro e w' ⟨rfl, rfl⟩))
      go_loopw [12, 13, 14, 15, 16, 17, 18] (fun iv _ _ _ _ _ _ wr => ∃ i : Nat, iv = .int .i64 i ∧ i ≤ a.size ∧ Lib.NoOcc a.data.toList [46, 46] i ∧ w1 = wr) (fun iv _ _ _ _ _ _ _ => a.size - (intOf iv).toNat)
      case atStart => exact ⟨0, rfl, Nat.zero_le _, Lib.NoOcc.zero _ _, rfl⟩
      case round =>
        obtain ⟨i, rfl, hia, hno, rfl⟩ := hrel
        have HNO := Lib.hid hno
        clear hno
        by_cases hlt : i + 1 < a.size
        · have q1 : (i : Int) + 1 < (a.size : Int) := by omega
          obtain ⟨i1, hi1⟩ : ∃ i1, i1 = i + 1 := ⟨_, rfl⟩
          have q2 : (i : Int) + 1 = (i1 : Int) := by omega
          have q3 : (i1 : Int) < (a.size : Int) := by omega
          have q4 : i1 < a.size := by omega
          have q5 : i < a.size := by omega
          obtain ⟨c0, hc1, hc2⟩ := at_bt a i q5
          obtain ⟨c1, hd1, hd2⟩ := at_bt a i1 q4
          have HC := Lib.hid (And.intro hc1 (And.intro hc2 (And.intro hd1 (And.intro hd2 hi1))))
          have z0 := PlainAid.bt_nonneg a i
          have z1 := PlainAid.bt_nonneg a i1
          clear hc1 hc2 hd1 hd2 hi1
          have HCO : Hid (Lib.occAt a.data.toList [46, 46] i = false → Lib.NoOcc a.data.toList [46, 46] (i + 1)) := fun h j hj => by
            by_cases e : j = i
            · rw [e]; exact h
            · exact HNO.out j (by omega)
          by_cases d0 : bt a i = 46
          · have e0 : (bt a i == 46) = true := by rw [d0]; rfl
            have e0' : (bt a i != 46) = false := by rw [d0]; rfl
            by_cases d1 : bt a i1 = 46
            · have e1 : (bt a i1 == 46) = true := by rw [d1]; rfl
              have e1' : (bt a i1 != 46) = false := by rw [d1]; rfl
              have h46 : a.data.toList[i]? = some 46 ∧ a.data.toList[i + 1]? = some 46 := by
                obtain ⟨hc1, hc2, hd1, hd2, hi1⟩ := HC.out
                have r0 : c0 = 46 := UInt8.toNat_inj.1 (by show c0.toNat = 46; omega)
                have r1 : c1 = 46 := UInt8.toNat_inj.1 (by show c1.toNat = 46; omega)
                exact ⟨by rw [hc1, r0], by rw [← hi1, hd1, r1]⟩
              have HCT := Lib.hid (dots_at HNO.out h46.1 h46.2)
              obtain ⟨i2, hi2⟩ : ∃ i2, i2 = i + 2 := ⟨_, rfl⟩
              rw [← hi2] at HCT
              have HR3 : Hid (rw0 = match numX (a.data.toList.take i) 4 6 with
                | none => .error 80
                | some x => match numX (a.data.toList.drop i2) 4 6 with
                  | none => .error 80
                  | some y => if x ≤ 1114111 ∧ y ≤ 1114111 then .ok (x, y, bs, whole) else .error 90) := by
                show _ = _
                rw [HR2.out, HCT.out, if_neg (by simp)]; first | rfl | dsimp only
              have HX1 : Hid ((a.extract 0 i).data.toList = a.data.toList.take i) := by show _ = _; rw [extract_take, data_mkB]
              have HX2 : Hid ((a.extract i2 a.size).data.toList = a.data.toList.drop i2) := Lib.extract_to_end a i2
              have hy1 : (a.extract 0 i).size ≤ 1000000 := by rw [← size_data, HX1.out, List.length_take, size_data]; omega
              have hy2 : (a.extract i2 a.size).size ≤ 1000000 := by rw [← size_data, HX2.out, List.length_drop, size_data]; omega
              have HN1 := Lib.hid (fun w => rnum46 (a.extract 0 i) w (by omega))
              have HN2 := Lib.hid (fun w => rnum46 (a.extract i2 a.size) w (by omega))
              rw [HX1.out] at HN1
              rw [HX2.out] at HN2
              unfold numRV at HN1 HN2
              have q6 : (i : Int) + 2 = (i2 : Int) := by omega
              have q7 : i2 ≤ a.size := by omega
              clear h46 hy1 hy2 d0 d1 hi2
              cases hx : numX (a.data.toList.take i) 4 6 with
              | none =>
                have HE : Hid (rw0 = .error 80) := by show _ = _; rw [HR3.out, hx]
                rw [hx] at HN1
                cases hy : numX (a.data.toList.drop i2) 4 6 with
                | none =>
                  rw [hy] at HN2
                  simp only at HN1 HN2
                  clear hx hy
                  go_wp2_with (go_at_call 97; first | (with_reducible refine (HN1.out _).mono ?_; rintro e w' ⟨rfl, rfl⟩) | (with_reducible refine (HN2.out _).mono ?_; rintro e w' ⟨rfl, rfl⟩))
                  go_ret
                  exact HERR.out 80 _ HE.out HB1.out
                | some y =>
                  rw [hy] at HN2
                  simp only at HN1 HN2
                  clear hx hy
                  go_wp2_with (go_at_call 97; first | (with_reducible refine (HN1.out _).mono ?_; rintro e w' ⟨rfl, rfl⟩) | (with_reducible refine (HN2.out _).mono ?_; rintro e w' ⟨rfl, rfl⟩))
                  go_ret
                  exact HERR.out 80 _ HE.out HB1.out
              | some x =>
                rw [hx] at HN1
                cases hy : numX (a.data.toList.drop i2) 4 6 with
                | none =>
                  have HE : Hid (rw0 = .error 80) := by show _ = _; rw [HR3.out, hx]; dsimp only; rw [hy]
                  rw [hy] at HN2
                  simp only at HN1 HN2
                  clear hx hy
                  go_wp2_with (go_at_call 97; first | (with_reducible refine (HN1.out _).mono ?_; rintro e w' ⟨rfl, rfl⟩) | (with_reducible refine (HN2.out _).mono ?_; rintro e w' ⟨rfl, rfl⟩))
                  go_ret
                  exact HERR.out 80 _ HE.out HB1.out
                | some y =>
                  rw [hy] at HN2
                  simp only at HN1 HN2
                  obtain ⟨x0, x1⟩ := numX_bd hx (by decide)
                  obtain ⟨y0, y1⟩ := numX_bd hy (by decide)
                  have HR4 : Hid (rw0 = if x ≤ 1114111 ∧ y ≤ 1114111 then .ok (x, y, bs, whole) else .error 90) := by
                    show _ = _
                    rw [HR3.out, hx]; dsimp only; rw [hy]
                  clear hx hy
                  by_cases k0 : x > 1114111
                  · have e5 : decide (x > 1114111) = true := decide_eq_true k0
                    have HE : Hid (rw0 = .error 90) := by show _ = _; rw [HR4.out, if_neg (by omega)]
                    clear k0
                    go_wp2_with (go_at_call 97; first | (with_reducible refine (HN1.out _).mono ?_; rintro e w' ⟨rfl, rfl⟩) | (with_reducible refine (HN2.out _).mono ?_; rintro e w' ⟨rfl, rfl⟩))
                    go_ret
                    exact HERR.out 90 _ HE.out HB1.out
                  · have e5 : decide (x > 1114111) = false := decide_eq_false k0
                    by_cases k1 : y > 1114111
                    · have e6 : decide (y > 1114111) = true := decide_eq_true k1
                      have HE : Hid (rw0 = .error 90) := by show _ = _; rw [HR4.out, if_neg (by omega)]
                      clear k0 k1
                      go_wp2_with (go_at_call 97; first | (with_reducible refine (HN1.out _).mono ?_; rintro e w' ⟨rfl, rfl⟩) | (with_reducible refine (HN2.out _).mono ?_; rintro e w' ⟨rfl, rfl⟩))
                      go_ret
                      exact HERR.out 90 _ HE.out HB1.out
                    · have e6 : decide (y > 1114111) = false := decide_eq_false k1
                      have HE : Hid (rr = .ok (st.1, insR (x, y, bs, whole) st.2.1, st.2.2)) := by show _ = _; rw [HRR.out, HR4.out, if_pos (by omega)]
                      have hx7 : x ≤ 1114111 := by omega
                      have hy7 : y ≤ 1114111 := by omega
                      clear k0 k1 x1 y1 HERR
                      obtain ⟨rv, ev, vs, h3, h4, h5, h6, h7, h8, h9, h10⟩ := HP.out.below HB1.out
                      obtain ⟨rp, rc, rfl⟩ := row_slice h4
                      obtain ⟨n, hn⟩ : ∃ n, n = st.2.1.length := ⟨_, rfl⟩
                      rw [← hn] at h3 h4
                      obtain ⟨_, c1, _, _, _, hpl⟩ := h3.cells
                      have HN := Lib.hid hn
                      have H3 := Lib.hid h3
                      have H4 := Lib.hid h4
                      have H5 := Lib.hid h5
                      have H6 := Lib.hid h6
                      have H7 := Lib.hid h7
                      have HL := Lib.hid (And.intro h8 (And.intro h9 h10))
                      have hn5 : n ≤ 5000000 := by omega
                      clear hn h3 h4 h5 h6 h7 h8 h9 h10
                      go_wp2_with (go_at_call 97; first | (with_reducible refine (HN1.out _).mono ?_; rintro e w' ⟨rfl, rfl⟩) | (with_reducible refine (HN2.out _).mono ?_; rintro e w' ⟨rfl, rfl⟩))
                      have hbx : Below w1.heap.size w1 (w1.alloc (.cells #[.int .i32 x, .int .i32 y, .int .i64 bs, .bool whole] 61)) := (Below.refl _ w1).alloc (Nat.le_refl _) _
                      have hx8 : (w1.alloc (.cells #[.int .i32 x, .int .i32 y, .int .i64 bs, .bool whole] 61)).heap[w1.heap.size]? = some (.cells #[.int .i32 x, .int .i32 y, .int .i64 bs, .bool whole] 61 (0, 0)) := World.alloc_heap_new w1 _
                      have hxl : w1.heap.size < (w1.alloc (.cells #[.int .i32 x, .int .i32 y, .int .i64 bs, .bool whole] 61)).heap.size := by simp
                      generalize w1.alloc (.cells #[.int .i32 x, .int .i32 y, .int .i64 bs, .bool whole] 61) = W2 at *
                      have HBX := Lib.hid hbx
                      have HX8 := Lib.hid hx8
                      have HXL := Lib.hid hxl
                      obtain ⟨xb, hxb⟩ : ∃ xb, xb = w1.heap.size := ⟨_, rfl⟩
                      rw [← hxb] at HX8 HXL ⊢
                      have HXB := Lib.hid hxb
                      clear hbx hx8 hxl hxb HN1 HN2 HNB HTB HTA HCU HR2 HR3 HR4 c1 hpl HNO HCO HC HCT HX1 HX2 e5 e6 q6 q7 e0 e0' e1 e1' q1 q2 q3 q4 q5 z0 z1 hia hbt hlt hal
                      have HRD : Hid (∀ W, Below W2.heap.size W2 W → W.cell? ⟨pb, 1, none⟩ = some (.slice rp n rc) ∧ W.cell? ⟨xb, 0, none⟩ = some (.int .i32 x) ∧ W.cell? ⟨xb, 1, none⟩ = some (.int .i32 y) ∧ W.cell? ⟨xb, 2, none⟩ = some (.int .i64 bs) ∧ W.cell? ⟨xb, 3, none⟩ = some (.bool whole) ∧ pb < W.heap.size ∧ xb < W.heap.size ∧ W.frozen? ⟨pb, 1, none⟩ = false) := by
                        show ∀ W, _
                        intro W hW
                        have hb2 := HBX.out.trans (hW.mono HBX.out.size)
                        have h3 : Rd8 W pb (st.1.getD []) (.slice rp n rc) ev st.1.isSome := (hb2.block pb H3.out.cells.2.2.2.2.2).trans H3.out
                        have h8 := (hW.block xb HXL.out).trans HX8.out
                        obtain ⟨_, k1, _, _, kf, kl⟩ := h3.cells
                        exact ⟨k1, by simp [World.cell?, h8], by simp [World.cell?, h8], by simp [World.cell?, h8], by simp [World.cell?, h8], kl, Nat.lt_of_lt_of_le HXL.out hW.size, kf 1⟩
                      go_loopw [18] (fun kv wr => ∃ k : Nat, kv = .int .i64 k ∧ k ≤ n ∧ (∀ q ∈ st.2.1.drop k, x < q.1) ∧ Below W2.heap.size W2 wr) (fun kv _ => (intOf kv).toNat)
                      case atStart => exact ⟨n, rfl, Nat.le_refl _, (fun q hq => by rw [List.drop_of_length_le (by rw [← HN.out]; exact Nat.le_refl _)] at hq; cases hq), Below.refl _ _⟩
                      case round =>
                        obtain ⟨k, rfl, hkn, hgt, hbr⟩ := hrel
                        obtain ⟨c1, x0', x1', x2', x3', hpl, hxl, hfz⟩ := HRD.out wr hbr
                        have HGT := Lib.hid hgt
                        have HBR := Lib.hid hbr
                        have HKN := Lib.hid hkn
                        clear hgt hbr
                        rcases Nat.eq_zero_or_pos k with hk0 | hk0
                        · have g4 : decide ((k : Int) > 0) = false := decide_eq_false (by omega)
                          have g5 : decide (0 < k) = false := decide_eq_false (by omega)
                          have HIN : Hid (insR (x, y, bs, whole) st.2.1 = st.2.1.take k ++ (x, y, bs, whole) :: st.2.1.drop k ∧ (∀ p ∈ st.2.1.take k, p.1 ≤ x)) := by
                            have hp : ∀ p ∈ st.2.1.take k, p.1 ≤ x := fun p hp => by rw [hk0] at hp; cases hp
                            have h := insR_place (x, y, bs, whole) (st.2.1.take k) (st.2.1.drop k) (by rw [List.take_append_drop]; exact H7.out) hp HGT.out
                            rw [List.take_append_drop] at h
                            exact ⟨h, hp⟩
                          clear hk0
                          go_wp2_with fail
                          go_quiet (fail)

                          go_wp2_with fail
                          go_upto_region 20 with fail
                          have hbU : Below W2.heap.size W2 (wr.drewN nq) := HBR.out.trans ((below_drewQ _ _).mono HBR.out.size)
                          generalize wr.drewN nq = U at *
                          clear c1 x0' x1' x2' x3' hpl hxl hfz
                          obtain ⟨c1, x0', x1', x2', x3', hpl, hxl, hfz⟩ := HRD.out U hbU
                          have hbW := HBX.out.trans (hbU.mono HBX.out.size)
                          have h4 := ownsRow_growT H4.out hbW
                          have hcap : n ≤ rc := by
                            rcases h4.2 with ⟨h0, h1⟩ | ⟨g, cap, cur, h0, _, _, h1, _⟩
                            · omega
                            · injection h0 with _ _ h0; omega
                          have hsl1 : ∀ w, (Instr.sliceAt 23 (.slice rp n rc) none (some (.int .i64 k)) (some (.int .i64 k))).run Tryz.prog w = .ok (.slice rp k k) w := fun w => slice_fullR w rp n rc k (by have := HKN.out; omega)
                          have hsl2 : ∀ w, (Instr.sliceAt 23 (.slice rp n rc) (some (.int .i64 k)) none none).run Tryz.prog w = .ok (sliced rp k n rc 4) w := fun w => slice_fromR w rp n rc k HKN.out
                          obtain ⟨q, qc, hq⟩ : ∃ q qc, sliced rp k n rc 4 = .slice q (n - k) qc := ⟨_, _, rfl⟩
                          have HSQ : Hid (st.2.1.drop k ≠ [] → ∃ a, q = some a ∧ ∀ j u, ((st.2.1.drop k).flatMap rgCells)[j]? = some u → U.cell? (a.add j) = some u) := by
                            show _ → _
                            intro hne
                            have hkn : k < n := by
                              rcases Nat.lt_or_ge k n with h | h
                              · exact h
                              · exact absurd (List.drop_of_length_le (by rw [← HN.out]; exact h)) hne
                            exact src_drop h4 HN.out hkn hq
                          have HSP : Hid ((rp = none ∧ st.2.1.take k = []) ∨ ∃ a, rp = some a ∧ ∀ j u, ((st.2.1.take k).flatMap rgCells)[j]? = some u → U.cell? (a.add j) = some u) := src_take h4
                          have HQ := Lib.hid hq
                          rw [hq] at hsl2
                          have HBU := Lib.hid hbU
                          have hS0 : (fun V : World => V.cell? ⟨pb, 1, none⟩ = some (.slice rp n rc) ∧ V.cell? ⟨xb, 0, none⟩ = some (.int .i32 x) ∧ V.cell? ⟨xb, 1, none⟩ = some (.int .i32 y) ∧ V.cell? ⟨xb, 2, none⟩ = some (.int .i64 bs) ∧ V.cell? ⟨xb, 3, none⟩ = some (.bool whole)) U.drew := ⟨c1, x0', x1', x2', x3'⟩
                          clear hq hbU hbW h4
                          refine wp_region_S (fun V : World => V.cell? ⟨pb, 1, none⟩ = some (.slice rp n rc) ∧ V.cell? ⟨xb, 0, none⟩ = some (.int .i32 x) ∧ V.cell? ⟨xb, 1, none⟩ = some (.int .i32 y) ∧ V.cell? ⟨xb, 2, none⟩ = some (.int .i64 bs) ∧ V.cell? ⟨xb, 3, none⟩ = some (.bool whole)) 23 (by kernel_rfl) ?_
                          refine sTake (i := 0) (v := ?_) rfl (by kernel_rfl) (by kernel_rfl) (by kernel_rfl) (by kernel_rfl) (fun _ _ _ h => h) (Or.inl ⟨by first | rfl | kernel_rfl, ?_⟩) hS0 ?_; rotate_left 1; (first | (focus (intro w hSw; (try dsimp only at hSw); go_simp; done)) | (focus (intro w hSw; (try dsimp only at hSw); go_simp; with_reducible rfl)) | (focus (intro w hSw; (try dsimp only at hSw); simp [hSw, go_sem]; done))); (try simp only [Act.put, List.setIfInBounds_toArray, List.set_cons_zero, List.set_cons_succ])
                          refine sTake (i := 1) (v := ?_) rfl (by kernel_rfl) (by kernel_rfl) (by kernel_rfl) (by kernel_rfl) (fun _ _ _ h => h) (Or.inl ⟨by first | rfl | kernel_rfl, ?_⟩) hS0 ?_; rotate_left 1; (first | (focus (intro w hSw; (try dsimp only at hSw); go_simp; done)) | (focus (intro w hSw; (try dsimp only at hSw); go_simp; with_reducible rfl)) | (focus (intro w hSw; (try dsimp only at hSw); simp [hSw, go_sem]; done))); (try simp only [Act.put, List.setIfInBounds_toArray, List.set_cons_zero, List.set_cons_succ])
                          refine sTake (i := 2) (v := ?_) rfl (by kernel_rfl) (by kernel_rfl) (by kernel_rfl) (by kernel_rfl) (fun _ _ _ h => h) (Or.inl ⟨by first | rfl | kernel_rfl, ?_⟩) hS0 ?_; rotate_left 1; (first | (focus (intro w hSw; (try dsimp only at hSw); go_simp; done)) | (focus (intro w hSw; (try dsimp only at hSw); go_simp; with_reducible rfl)) | (focus (intro w hSw; (try dsimp only at hSw); simp [hSw, go_sem]; done))); (try simp only [Act.put, List.setIfInBounds_toArray, List.set_cons_zero, List.set_cons_succ])
                          refine sTake (i := 3) (v := ?_) rfl (by kernel_rfl) (by kernel_rfl) (by kernel_rfl) (by kernel_rfl) (fun _ _ _ h => h) (Or.inl ⟨by first | rfl | kernel_rfl, ?_⟩) hS0 ?_; rotate_left 1; (first | (focus (intro w hSw; (try dsimp only at hSw); go_simp; done)) | (focus (intro w hSw; (try dsimp only at hSw); go_simp; with_reducible rfl)) | (focus (intro w hSw; (try dsimp only at hSw); simp [hSw, go_sem]; done))); (try simp only [Act.put, List.setIfInBounds_toArray, List.set_cons_zero, List.set_cons_succ])
                          refine sTake (i := 4) (v := ?_) rfl (by kernel_rfl) (by kernel_rfl) (by kernel_rfl) (by kernel_rfl) (fun _ _ _ h => h) (Or.inl ⟨by first | rfl | kernel_rfl, ?_⟩) hS0 ?_; rotate_left 1; (first | (focus (intro w hSw; (try dsimp only at hSw); go_simp; done)) | (focus (intro w hSw; (try dsimp only at hSw); go_simp; with_reducible rfl)) | (focus (intro w hSw; (try dsimp only at hSw); simp [hSw, go_sem]; done))); (try simp only [Act.put, List.setIfInBounds_toArray, List.set_cons_zero, List.set_cons_succ])
                          refine sTake (i := 5) (v := ?_) rfl (by kernel_rfl) (by kernel_rfl) (by kernel_rfl) (by kernel_rfl) (fun _ _ _ h => h) (Or.inl ⟨by first | rfl | kernel_rfl, ?_⟩) hS0 ?_; rotate_left 1; (first | (focus (intro w hSw; (try dsimp only at hSw); go_simp; done)) | (focus (intro w hSw; (try dsimp only at hSw); go_simp; with_reducible rfl)) | (focus (intro w hSw; (try dsimp only at hSw); simp [hSw, go_sem]; done))); (try simp only [Act.put, List.setIfInBounds_toArray, List.set_cons_zero, List.set_cons_succ])
                          refine sTake (i := 6) (v := ?_) rfl (by kernel_rfl) (by kernel_rfl) (by kernel_rfl) (by kernel_rfl) (fun _ _ _ h => h) (Or.inl ⟨by first | rfl | kernel_rfl, ?_⟩) hS0 ?_; rotate_left 1; (first | (focus (intro w hSw; (try dsimp only at hSw); go_simp; done)) | (focus (intro w hSw; (try dsimp only at hSw); go_simp; with_reducible rfl)) | (focus (intro w hSw; (try dsimp only at hSw); simp [hSw, go_sem]; done))); (try simp only [Act.put, List.setIfInBounds_toArray, List.set_cons_zero, List.set_cons_succ])
                          refine sTake (i := 7) (v := ?_) rfl (by kernel_rfl) (by kernel_rfl) (by kernel_rfl) (by kernel_rfl) (fun _ _ _ h => h) (Or.inl ⟨by first | rfl | kernel_rfl, ?_⟩) hS0 ?_; rotate_left 1; (first | (focus (intro w hSw; (try dsimp only at hSw); go_simp; done)) | (focus (intro w hSw; (try dsimp only at hSw); go_simp; with_reducible rfl)) | (focus (intro w hSw; (try dsimp only at hSw); simp [hSw, go_sem]; done))); (try simp only [Act.put, List.setIfInBounds_toArray, List.set_cons_zero, List.set_cons_succ])
                          refine sTake (i := 8) (v := ?_) rfl (by kernel_rfl) (by kernel_rfl) (by kernel_rfl) (by kernel_rfl) (fun _ _ _ h => h) (Or.inl ⟨by first | rfl | kernel_rfl, ?_⟩) hS0 ?_; rotate_left 1; (first | (focus (intro w hSw; (try dsimp only at hSw); go_simp; done)) | (focus (intro w hSw; (try dsimp only at hSw); go_simp; with_reducible rfl)) | (focus (intro w hSw; (try dsimp only at hSw); simp [hSw, go_sem]; done))); (try simp only [Act.put, List.setIfInBounds_toArray, List.set_cons_zero, List.set_cons_succ])
                          refine sTake (i := 9) (v := ?_) rfl (by kernel_rfl) (by kernel_rfl) (by kernel_rfl) (by kernel_rfl) (fun _ _ _ h => h) (Or.inl ⟨by first | rfl | kernel_rfl, ?_⟩) hS0 ?_; rotate_left 1; (first | (focus (intro w hSw; (try dsimp only at hSw); go_simp; done)) | (focus (intro w hSw; (try dsimp only at hSw); go_simp; with_reducible rfl)) | (focus (intro w hSw; (try dsimp only at hSw); simp [hSw, go_sem]; done))); (try simp only [Act.put, List.setIfInBounds_toArray, List.set_cons_zero, List.set_cons_succ])
                          refine sTake (i := 11) (v := ?_) rfl (by kernel_rfl) (by kernel_rfl) (by kernel_rfl) (by kernel_rfl) (fun _ _ _ h => h) (Or.inl ⟨by first | rfl | kernel_rfl, ?_⟩) hS0 ?_; rotate_left 1; (first | (focus (intro w hSw; (try dsimp only at hSw); go_simp; done)) | (focus (intro w hSw; (try dsimp only at hSw); go_simp; with_reducible rfl)) | (focus (intro w hSw; (try dsimp only at hSw); simp [hSw, go_sem]; done))); (try simp only [Act.put, List.setIfInBounds_toArray, List.set_cons_zero, List.set_cons_succ])
                          refine sTake (i := 12) (v := ?_) rfl (by kernel_rfl) (by kernel_rfl) (by kernel_rfl) (by kernel_rfl) (fun _ _ _ h => h) (Or.inl ⟨by first | rfl | kernel_rfl, ?_⟩) hS0 ?_; rotate_left 1; (first | (focus (intro w hSw; (try dsimp only at hSw); go_simp; done)) | (focus (intro w hSw; (try dsimp only at hSw); go_simp; with_reducible rfl)) | (focus (intro w hSw; (try dsimp only at hSw); simp [hSw, go_sem]; done))); (try simp only [Act.put, List.setIfInBounds_toArray, List.set_cons_zero, List.set_cons_succ])
                          refine sTake (i := 13) (v := ?_) rfl (by kernel_rfl) (by kernel_rfl) (by kernel_rfl) (by kernel_rfl) (fun _ _ _ h => h) (Or.inl ⟨by first | rfl | kernel_rfl, ?_⟩) hS0 ?_; rotate_left 1; (first | (focus (intro w hSw; (try dsimp only at hSw); go_simp; done)) | (focus (intro w hSw; (try dsimp only at hSw); go_simp; with_reducible rfl)) | (focus (intro w hSw; (try dsimp only at hSw); simp [hSw, go_sem]; done))); (try simp only [Act.put, List.setIfInBounds_toArray, List.set_cons_zero, List.set_cons_succ])
                          refine sTake (i := 14) (v := ?_) rfl (by kernel_rfl) (by kernel_rfl) (by kernel_rfl) (by kernel_rfl) (fun _ _ _ h => h) (Or.inl ⟨by first | rfl | kernel_rfl, ?_⟩) hS0 ?_; rotate_left 1; (first | (focus (intro w hSw; (try dsimp only at hSw); go_simp; done)) | (focus (intro w hSw; (try dsimp only at hSw); go_simp; with_reducible rfl)) | (focus (intro w hSw; (try dsimp only at hSw); simp [hSw, go_sem]; done))); (try simp only [Act.put, List.setIfInBounds_toArray, List.set_cons_zero, List.set_cons_succ])
                          refine sTake (i := 15) (v := ?_) rfl (by kernel_rfl) (by kernel_rfl) (by kernel_rfl) (by kernel_rfl) (fun _ _ _ h => h) (Or.inl ⟨by first | rfl | kernel_rfl, ?_⟩) hS0 ?_; rotate_left 1; (first | (focus (intro w hSw; (try dsimp only at hSw); go_simp; done)) | (focus (intro w hSw; (try dsimp only at hSw); go_simp; with_reducible rfl)) | (focus (intro w hSw; (try dsimp only at hSw); simp [hSw, go_sem]; done))); (try simp only [Act.put, List.setIfInBounds_toArray, List.set_cons_zero, List.set_cons_succ])
                          refine sTake (i := 16) (v := ?_) rfl (by kernel_rfl) (by kernel_rfl) (by kernel_rfl) (by kernel_rfl) (fun _ _ _ h => h) (Or.inl ⟨by first | rfl | kernel_rfl, ?_⟩) hS0 ?_; rotate_left 1; (first | (focus (intro w hSw; (try dsimp only at hSw); go_simp; done)) | (focus (intro w hSw; (try dsimp only at hSw); go_simp; with_reducible rfl)) | (focus (intro w hSw; (try dsimp only at hSw); simp [hSw, go_sem]; done))); (try simp only [Act.put, List.setIfInBounds_toArray, List.set_cons_zero, List.set_cons_succ])
                          refine sTake (i := 17) (v := ?_) rfl (by kernel_rfl) (by kernel_rfl) (by kernel_rfl) (by kernel_rfl) (fun _ _ _ h => h) (Or.inl ⟨by first | rfl | kernel_rfl, ?_⟩) hS0 ?_; rotate_left 1; (first | (focus (intro w hSw; (try dsimp only at hSw); go_simp; done)) | (focus (intro w hSw; (try dsimp only at hSw); go_simp; with_reducible rfl)) | (focus (intro w hSw; (try dsimp only at hSw); simp [hSw, go_sem]; done))); (try simp only [Act.put, List.setIfInBounds_toArray, List.set_cons_zero, List.set_cons_succ])
                          refine sOne (i := 10) (by kernel_rfl) rfl (by rfl) (fun K hK => ?_); have HK := Lib.hid hK; clear hK; go_simp
                          have hbA : Below U.heap.size U ((U.alloc (.cells #[.int .i32 x, .int .i32 y, .int .i64 bs, .bool whole] 61)).drew) := ((Below.refl _ U).alloc (Nat.le_refl _) _).drew
                          have hBU : B ≤ U.heap.size := by
                            have e1 := HPB.out.1
                            have e2 := HB1.out.size
                            have e3 := HBX.out.size
                            have e4 := HBU.out.size
                            omega
                          have hlit : ((U.alloc (.cells #[.int .i32 x, .int .i32 y, .int .i64 bs, .bool whole] 61)).drew).ownsRow B 61 4 (.slice (some ⟨U.heap.size, 0, none⟩) 1 1) 1 (rgCells (x, y, bs, whole)) :=
                            ⟨rfl, .inr ⟨U.heap.size, 1, #[.int .i32 x, .int .i32 y, .int .i64 bs, .bool whole], rfl, hBU, World.alloc_heap_new U _, Nat.le_refl _, by unfold maxLen; omega, rfl, rfl⟩⟩
                          have hSA := HRD.out _ (HBU.out.trans (hbA.mono HBU.out.size))
                          refine HK.out _ _ ⟨hSA.1, hSA.2.1, hSA.2.2.1, hSA.2.2.2.1, hSA.2.2.2.2.1⟩ ?_
                          clear HK
                          (try simp only [Act.put, List.setIfInBounds_toArray, List.set_cons_zero, List.set_cons_succ])
                          have hszA : U.heap.size < ((U.alloc (.cells #[.int .i32 x, .int .i32 y, .int .i64 bs, .bool whole] 61)).drew).heap.size := by simp
                          generalize (U.alloc (.cells #[.int .i32 x, .int .i32 y, .int .i64 bs, .bool whole] 61)).drew = WA at *
                          have hlen : (st.2.1.drop k).length = n - k := by rw [List.length_drop, ← HN.out]
                          obtain ⟨g2, c2, X2, hr1, ho1, hg1⟩ := run_ins1 (ty := 23) (x := (x, y, bs, whole)) (q := q) (c := qc) (Q := st.2.1.drop k) hlit (Nat.le_trans hBU hbA.size) (by rw [hlen]; omega) (fun hne => by
                            obtain ⟨a, e1, e2⟩ := HSQ.out hne
                            exact ⟨a, e1, fun j u hu => (hbA.cell (p := a.add j) (cell_blt (e2 j u hu))).trans (e2 j u hu)⟩)
                          rw [hlen] at hr1 ho1
                          have hbX : Below U.heap.size U X2 := hbA.grown hg1 (Nat.le_of_lt hszA) (fun j hj => by cases hj; exact Nat.le_refl _)
                          refine sOne (i := 18) (by kernel_rfl) rfl (by rfl) (fun K hK => ?_)
                          have HK := Lib.hid hK
                          clear hK
                          refine wp_append_run (.tmp 126) (.tmp 133) 23 rfl _ _ _ _ rfl rfl hr1 ?_
                          have hSX := HRD.out _ (HBU.out.trans (hbX.mono HBU.out.size))
                          refine HK.out _ _ ⟨hSX.1, hSX.2.1, hSX.2.2.1, hSX.2.2.2.1, hSX.2.2.2.2.1⟩ ?_
                          clear HK
                          (try simp only [Act.put, List.setIfInBounds_toArray, List.set_cons_zero, List.set_cons_succ])
                          have htl : (st.2.1.take k).length = k := by rw [List.length_take, ← HN.out]; exact Nat.min_eq_left HKN.out
                          obtain ⟨c3, X3, hr2, ho2, hbY⟩ := run_ins2 (ty := 23) (p := rp) (P := st.2.1.take k) htl (by omega) (by have := HKN.out; omega) ho1 (Nat.le_trans hBU hbX.size) (by
                            rcases HSP.out with h | ⟨a, e1, e2⟩
                            · exact .inl h
                            · exact .inr ⟨a, e1, fun j u hu => (hbX.cell (p := a.add j) (cell_blt (e2 j u hu))).trans (e2 j u hu)⟩)
                          refine sOne (i := 19) (by kernel_rfl) rfl (by rfl) (fun K hK => ?_)
                          have HK := Lib.hid hK
                          clear hK
                          refine wp_append_run (.tmp 124) (.tmp 134) 23 rfl _ _ _ _ rfl rfl hr2 ?_
                          have hbZ : Below U.heap.size U X3 := hbX.trans (hbY.mono hbX.size)
                          have hSZ := HRD.out _ (HBU.out.trans (hbZ.mono HBU.out.size))
                          have HSZ : Hid (X3.cell? ⟨pb, 1, none⟩ = some (.slice rp n rc) ∧ X3.cell? ⟨xb, 0, none⟩ = some (.int .i32 x) ∧ X3.cell? ⟨xb, 1, none⟩ = some (.int .i32 y) ∧ X3.cell? ⟨xb, 2, none⟩ = some (.int .i64 bs) ∧ X3.cell? ⟨xb, 3, none⟩ = some (.bool whole)) := ⟨hSZ.1, hSZ.2.1, hSZ.2.2.1, hSZ.2.2.2.1, hSZ.2.2.2.2.1⟩
                          refine HK.out _ _ HSZ.out ?_
                          clear HK
                          (try simp only [Act.put, List.setIfInBounds_toArray, List.set_cons_zero, List.set_cons_succ])
                          refine sOne (i := 20) (by kernel_rfl) rfl (by rfl) (fun K hK => ?_); have HK := Lib.hid hK; clear hK; go_simp
                          refine HK.out _ _ HSZ.out ?_
                          clear HK
                          (try simp only [Act.put, List.setIfInBounds_toArray, List.set_cons_zero, List.set_cons_succ])
                          refine sOne (i := 21) (by kernel_rfl) rfl (by rfl) (fun K hK => ?_); have HK := Lib.hid hK; clear hK; go_simp
                          refine HK.out _ _ HSZ.out ?_
                          clear HK
                          (try simp only [Act.put, List.setIfInBounds_toArray, List.set_cons_zero, List.set_cons_succ])
                          refine sOne (i := 22) (by kernel_rfl) rfl (by rfl) (fun K hK => ?_); have HK := Lib.hid hK; clear hK; go_simp
                          refine HK.out _ _ HSZ.out ?_
                          clear HK
                          (try simp only [Act.put, List.setIfInBounds_toArray, List.set_cons_zero, List.set_cons_succ])
                          have hbW3 := HBX.out.trans ((HBU.out.trans (hbZ.mono HBU.out.size)).mono HBX.out.size)
                          have HFIN : Hid (RStepEnd B pb rr w (.returned (.int .i64 0)) (X3.setCell ⟨pb, 1, none⟩ (.slice (some ⟨X2.heap.size, 0, none⟩) (k + (1 + (n - k))) c3))) := by
                            have h3 : Rd8 X3 pb (st.1.getD []) (.slice rp n rc) ev st.1.isSome := (hbW3.block pb H3.out.cells.2.2.2.2.2).trans H3.out
                            have hln : (insR (x, y, bs, whole) st.2.1).length = k + (1 + (n - k)) := by rw [insR_len, ← HN.out]; have := HKN.out; omega
                            refine ⟨((Only.refl _ w).below (HB1.out.trans (hbW3.mono HB1.out.size))).setCell (p := ⟨pb, 1, none⟩) (.inl rfl) _, .inl ⟨_, HE.out, rfl, RSt.put_rg h3 (ownsRow_growT H5.out hbW3) (H6.out.kept (Kept.below hbW3)) ?_ ?_ ⟨HL.out.2.1, HL.out.2.2⟩ ?_⟩⟩
                            · rw [HIN.out.1]; exact insR_sorted (by rw [List.take_append_drop]; exact H7.out) HIN.out.2 HGT.out
                            · rw [insR_len, ← HN.out]; have := HRL.out; have := HN.out; omega
                            · rw [hln, HIN.out.1, List.flatMap_append]; exact ho2
                          obtain ⟨k1, _, _, _, _, kpl, _, kfz⟩ := hSZ
                          refine sLast (by kernel_rfl) rfl (by rfl) (fun K hK => ?_)
                          have HK := Lib.hid hK
                          clear hK
                          go_simp
                          refine HK.out _ _ ?_
                          clear HK
                          (try simp only [Act.put, List.setIfInBounds_toArray, List.set_cons_zero, List.set_cons_succ])
                          refine sDone (by kernel_rfl) ?_ _
                          go_wp2_with fail
                          go_ret
                          exact HFIN.out
                        · obtain ⟨j, hj⟩ : ∃ j, k = j + 1 := ⟨k - 1, by omega⟩
                          obtain ⟨z, hz⟩ : ∃ z, st.2.1[j]? = some z := ⟨st.2.1[j]'(by have := HN.out; omega), List.getElem?_eq_getElem _⟩
                          have h4 := ownsRow_growT H4.out (HBX.out.trans (HBR.out.mono HBX.out.size))
                          obtain ⟨g, hg⟩ : ∃ g, rp = some ⟨g, 0, none⟩ := by
                            rcases h4.2 with ⟨_, h0⟩ | ⟨g, cap, cur, h1, _⟩
                            · omega
                            · injection h1 with h1 _ _; exact ⟨g, h1⟩
                          subst hg
                          have hzc : wr.cell? ⟨g, j * 4, none⟩ = some (.int .i32 z.1) := by
                            have := h4.cells (g := g) rfl (j * 4 + 0) (.int .i32 z.1) (flat_at rgCells 4 (fun _ => rfl) st.2.1 j 0 z _ hz rfl)
                            rw [addr_add] at this
                            simpa using this
                          have hgl : g < wr.heap.size := (h4.lt g rfl).2
                          have g4 : decide ((k : Int) > 0) = true := decide_eq_true (by omega)
                          have g5 : decide (0 < k) = true := decide_eq_true (by omega)
                          have g6 : (k : Int) - 1 = (j : Int) := by omega
                          have g7 : j < n := by omega
                          have HJ := Lib.hid (And.intro hj hz)
                          clear h4 hz hj hk0
                          by_cases hlt : z.1 > x
                          · have e7 : decide (z.1 > x) = true := decide_eq_true hlt
                            have HLT := Lib.hid hlt
                            clear hlt
                            go_wp2_with fail
                            go_quiet (fail)
                            go_wp2_with fail
                            go_roundw
                            case rel =>
                              refine ⟨j, rfl, by omega, fun q hq => ?_, HBR.out.trans ((below_drewQ _ _).mono HBR.out.size)⟩
                              rw [List.drop_eq_getElem_cons (by have := HN.out; omega), (List.getElem?_eq_some_iff.1 HJ.out.2).2, ← HJ.out.1] at hq
                              rcases List.mem_cons.1 hq with rfl | hq
                              · exact HLT.out
                              · exact HGT.out q hq
                            case measure => (have := HJ.out.1; simp [intOf]; omega)
                          · have e7 : decide (z.1 > x) = false := decide_eq_false hlt
                            have HIN : Hid (insR (x, y, bs, whole) st.2.1 = st.2.1.take k ++ (x, y, bs, whole) :: st.2.1.drop k ∧ (∀ p ∈ st.2.1.take k, p.1 ≤ x)) := by
                              have hp : ∀ p ∈ st.2.1.take k, p.1 ≤ x := by
                                have := ahead_le H7.out HJ.out.2 (n := x) (by omega)
                                rwa [← HJ.out.1] at this
                              have h := insR_place (x, y, bs, whole) (st.2.1.take k) (st.2.1.drop k) (by rw [List.take_append_drop]; exact H7.out) hp HGT.out
                              rw [List.take_append_drop] at h
                              exact ⟨h, hp⟩
                            clear hlt
                            go_wp2_with fail
                            go_quiet (fail)

                            go_wp2_with fail
                            go_upto_region 20 with fail
                            have hbU : Below W2.heap.size W2 (wr.drewN nq) := HBR.out.trans ((below_drewQ _ _).mono HBR.out.size)
                            generalize wr.drewN nq = U at *
                            clear c1 x0' x1' x2' x3' hpl hxl hfz
                            obtain ⟨c1, x0', x1', x2', x3', hpl, hxl, hfz⟩ := HRD.out U hbU
                            have hbW := HBX.out.trans (hbU.mono HBX.out.size)
                            have h4 := ownsRow_growT H4.out hbW
                            have hcap : n ≤ rc := by
                              rcases h4.2 with ⟨h0, h1⟩ | ⟨g, cap, cur, h0, _, _, h1, _⟩
                              · omega
                              · injection h0 with _ _ h0; omega
                            have hsl1 : ∀ w, (Instr.sliceAt 23 (.slice (some ⟨g, 0, none⟩) n rc) none (some (.int .i64 k)) (some (.int .i64 k))).run Tryz.prog w = .ok (.slice (some ⟨g, 0, none⟩) k k) w := fun w => slice_fullR w (some ⟨g, 0, none⟩) n rc k (by have := HKN.out; omega)
                            have hsl2 : ∀ w, (Instr.sliceAt 23 (.slice (some ⟨g, 0, none⟩) n rc) (some (.int .i64 k)) none none).run Tryz.prog w = .ok (sliced (some ⟨g, 0, none⟩) k n rc 4) w := fun w => slice_fromR w (some ⟨g, 0, none⟩) n rc k HKN.out
                            obtain ⟨q, qc, hq⟩ : ∃ q qc, sliced (some ⟨g, 0, none⟩) k n rc 4 = .slice q (n - k) qc := ⟨_, _, rfl⟩
                            have HSQ : Hid (st.2.1.drop k ≠ [] → ∃ a, q = some a ∧ ∀ j u, ((st.2.1.drop k).flatMap rgCells)[j]? = some u → U.cell? (a.add j) = some u) := by
                              show _ → _
                              intro hne
                              have hkn : k < n := by
                                rcases Nat.lt_or_ge k n with h | h
                                · exact h
                                · exact absurd (List.drop_of_length_le (by rw [← HN.out]; exact h)) hne
                              exact src_drop h4 HN.out hkn hq
                            have HSP : Hid (((some ⟨g, 0, none⟩ : Option Addr) = none ∧ st.2.1.take k = []) ∨ ∃ a, (some ⟨g, 0, none⟩ : Option Addr) = some a ∧ ∀ j u, ((st.2.1.take k).flatMap rgCells)[j]? = some u → U.cell? (a.add j) = some u) := src_take h4
                            have HQ := Lib.hid hq
                            rw [hq] at hsl2
                            have HBU := Lib.hid hbU
                            have hS0 : (fun V : World => V.cell? ⟨pb, 1, none⟩ = some (.slice (some ⟨g, 0, none⟩) n rc) ∧ V.cell? ⟨xb, 0, none⟩ = some (.int .i32 x) ∧ V.cell? ⟨xb, 1, none⟩ = some (.int .i32 y) ∧ V.cell? ⟨xb, 2, none⟩ = some (.int .i64 bs) ∧ V.cell? ⟨xb, 3, none⟩ = some (.bool whole)) U.drew := ⟨c1, x0', x1', x2', x3'⟩
                            clear hq hbU hbW h4
                            refine wp_region_S (fun V : World => V.cell? ⟨pb, 1, none⟩ = some (.slice (some ⟨g, 0, none⟩) n rc) ∧ V.cell? ⟨xb, 0, none⟩ = some (.int .i32 x) ∧ V.cell? ⟨xb, 1, none⟩ = some (.int .i32 y) ∧ V.cell? ⟨xb, 2, none⟩ = some (.int .i64 bs) ∧ V.cell? ⟨xb, 3, none⟩ = some (.bool whole)) 23 (by kernel_rfl) ?_
                            refine sTake (i := 0) (v := ?_) rfl (by kernel_rfl) (by kernel_rfl) (by kernel_rfl) (by kernel_rfl) (fun _ _ _ h => h) (Or.inl ⟨by first | rfl | kernel_rfl, ?_⟩) hS0 ?_; rotate_left 1; (first | (focus (intro w hSw; (try dsimp only at hSw); go_simp; done)) | (focus (intro w hSw; (try dsimp only at hSw); go_simp; with_reducible rfl)) | (focus (intro w hSw; (try dsimp only at hSw); simp [hSw, go_sem]; done))); (try simp only [Act.put, List.setIfInBounds_toArray, List.set_cons_zero, List.set_cons_succ])
                            refine sTake (i := 1) (v := ?_) rfl (by kernel_rfl) (by kernel_rfl) (by kernel_rfl) (by kernel_rfl) (fun _ _ _ h => h) (Or.inl ⟨by first | rfl | kernel_rfl, ?_⟩) hS0 ?_; rotate_left 1; (first | (focus (intro w hSw; (try dsimp only at hSw); go_simp; done)) | (focus (intro w hSw; (try dsimp only at hSw); go_simp; with_reducible rfl)) | (focus (intro w hSw; (try dsimp only at hSw); simp [hSw, go_sem]; done))); (try simp only [Act.put, List.setIfInBounds_toArray, List.set_cons_zero, List.set_cons_succ])
                            refine sTake (i := 2) (v := ?_) rfl (by kernel_rfl) (by kernel_rfl) (by kernel_rfl) (by kernel_rfl) (fun _ _ _ h => h) (Or.inl ⟨by first | rfl | kernel_rfl, ?_⟩) hS0 ?_; rotate_left 1; (first | (focus (intro w hSw; (try dsimp only at hSw); go_simp; done)) | (focus (intro w hSw; (try dsimp only at hSw); go_simp; with_reducible rfl)) | (focus (intro w hSw; (try dsimp only at hSw); simp [hSw, go_sem]; done))); (try simp only [Act.put, List.setIfInBounds_toArray, List.set_cons_zero, List.set_cons_succ])
                            refine sTake (i := 3) (v := ?_) rfl (by kernel_rfl) (by kernel_rfl) (by kernel_rfl) (by kernel_rfl) (fun _ _ _ h => h) (Or.inl ⟨by first | rfl | kernel_rfl, ?_⟩) hS0 ?_; rotate_left 1; (first | (focus (intro w hSw; (try dsimp only at hSw); go_simp; done)) | (focus (intro w hSw; (try dsimp only at hSw); go_simp; with_reducible rfl)) | (focus (intro w hSw; (try dsimp only at hSw); simp [hSw, go_sem]; done))); (try simp only [Act.put, List.setIfInBounds_toArray, List.set_cons_zero, List.set_cons_succ])
                            refine sTake (i := 4) (v := ?_) rfl (by kernel_rfl) (by kernel_rfl) (by kernel_rfl) (by kernel_rfl) (fun _ _ _ h => h) (Or.inl ⟨by first | rfl | kernel_rfl, ?_⟩) hS0 ?_; rotate_left 1; (first | (focus (intro w hSw; (try dsimp only at hSw); go_simp; done)) | (focus (intro w hSw; (try dsimp only at hSw); go_simp; with_reducible rfl)) | (focus (intro w hSw; (try dsimp only at hSw); simp [hSw, go_sem]; done))); (try simp only [Act.put, List.setIfInBounds_toArray, List.set_cons_zero, List.set_cons_succ])
                            refine sTake (i := 5) (v := ?_) rfl (by kernel_rfl) (by kernel_rfl) (by kernel_rfl) (by kernel_rfl) (fun _ _ _ h => h) (Or.inl ⟨by first | rfl | kernel_rfl, ?_⟩) hS0 ?_; rotate_left 1; (first | (focus (intro w hSw; (try dsimp only at hSw); go_simp; done)) | (focus (intro w hSw; (try dsimp only at hSw); go_simp; with_reducible rfl)) | (focus (intro w hSw; (try dsimp only at hSw); simp [hSw, go_sem]; done))); (try simp only [Act.put, List.setIfInBounds_toArray, List.set_cons_zero, List.set_cons_succ])
                            refine sTake (i := 6) (v := ?_) rfl (by kernel_rfl) (by kernel_rfl) (by kernel_rfl) (by kernel_rfl) (fun _ _ _ h => h) (Or.inl ⟨by first | rfl | kernel_rfl, ?_⟩) hS0 ?_; rotate_left 1; (first | (focus (intro w hSw; (try dsimp only at hSw); go_simp; done)) | (focus (intro w hSw; (try dsimp only at hSw); go_simp; with_reducible rfl)) | (focus (intro w hSw; (try dsimp only at hSw); simp [hSw, go_sem]; done))); (try simp only [Act.put, List.setIfInBounds_toArray, List.set_cons_zero, List.set_cons_succ])
                            refine sTake (i := 7) (v := ?_) rfl (by kernel_rfl) (by kernel_rfl) (by kernel_rfl) (by kernel_rfl) (fun _ _ _ h => h) (Or.inl ⟨by first | rfl | kernel_rfl, ?_⟩) hS0 ?_; rotate_left 1; (first | (focus (intro w hSw; (try dsimp only at hSw); go_simp; done)) | (focus (intro w hSw; (try dsimp only at hSw); go_simp; with_reducible rfl)) | (focus (intro w hSw; (try dsimp only at hSw); simp [hSw, go_sem]; done))); (try simp only [Act.put, List.setIfInBounds_toArray, List.set_cons_zero, List.set_cons_succ])
                            refine sTake (i := 8) (v := ?_) rfl (by kernel_rfl) (by kernel_rfl) (by kernel_rfl) (by kernel_rfl) (fun _ _ _ h => h) (Or.inl ⟨by first | rfl | kernel_rfl, ?_⟩) hS0 ?_; rotate_left 1; (first | (focus (intro w hSw; (try dsimp only at hSw); go_simp; done)) | (focus (intro w hSw; (try dsimp only at hSw); go_simp; with_reducible rfl)) | (focus (intro w hSw; (try dsimp only at hSw); simp [hSw, go_sem]; done))); (try simp only [Act.put, List.setIfInBounds_toArray, List.set_cons_zero, List.set_cons_succ])
                            refine sTake (i := 9) (v := ?_) rfl (by kernel_rfl) (by kernel_rfl) (by kernel_rfl) (by kernel_rfl) (fun _ _ _ h => h) (Or.inl ⟨by first | rfl | kernel_rfl, ?_⟩) hS0 ?_; rotate_left 1; (first | (focus (intro w hSw; (try dsimp only at hSw); go_simp; done)) | (focus (intro w hSw; (try dsimp only at hSw); go_simp; with_reducible rfl)) | (focus (intro w hSw; (try dsimp only at hSw); simp [hSw, go_sem]; done))); (try simp only [Act.put, List.setIfInBounds_toArray, List.set_cons_zero, List.set_cons_succ])
                            refine sTake (i := 11) (v := ?_) rfl (by kernel_rfl) (by kernel_rfl) (by kernel_rfl) (by kernel_rfl) (fun _ _ _ h => h) (Or.inl ⟨by first | rfl | kernel_rfl, ?_⟩) hS0 ?_; rotate_left 1; (first | (focus (intro w hSw; (try dsimp only at hSw); go_simp; done)) | (focus (intro w hSw; (try dsimp only at hSw); go_simp; with_reducible rfl)) | (focus (intro w hSw; (try dsimp only at hSw); simp [hSw, go_sem]; done))); (try simp only [Act.put, List.setIfInBounds_toArray, List.set_cons_zero, List.set_cons_succ])
                            refine sTake (i := 12) (v := ?_) rfl (by kernel_rfl) (by kernel_rfl) (by kernel_rfl) (by kernel_rfl) (fun _ _ _ h => h) (Or.inl ⟨by first | rfl | kernel_rfl, ?_⟩) hS0 ?_; rotate_left 1; (first | (focus (intro w hSw; (try dsimp only at hSw); go_simp; done)) | (focus (intro w hSw; (try dsimp only at hSw); go_simp; with_reducible rfl)) | (focus (intro w hSw; (try dsimp only at hSw); simp [hSw, go_sem]; done))); (try simp only [Act.put, List.setIfInBounds_toArray, List.set_cons_zero, List.set_cons_succ])
                            refine sTake (i := 13) (v := ?_) rfl (by kernel_rfl) (by kernel_rfl) (by kernel_rfl) (by kernel_rfl) (fun _ _ _ h => h) (Or.inl ⟨by first | rfl | kernel_rfl, ?_⟩) hS0 ?_; rotate_left 1; (first | (focus (intro w hSw; (try dsimp only at hSw); go_simp; done)) | (focus (intro w hSw; (try dsimp only at hSw); go_simp; with_reducible rfl)) | (focus (intro w hSw; (try dsimp only at hSw); simp [hSw, go_sem]; done))); (try simp only [Act.put, List.setIfInBounds_toArray, List.set_cons_zero, List.set_cons_succ])
                            refine sTake (i := 14) (v := ?_) rfl (by kernel_rfl) (by kernel_rfl) (by kernel_rfl) (by kernel_rfl) (fun _ _ _ h => h) (Or.inl ⟨by first | rfl | kernel_rfl, ?_⟩) hS0 ?_; rotate_left 1; (first | (focus (intro w hSw; (try dsimp only at hSw); go_simp; done)) | (focus (intro w hSw; (try dsimp only at hSw); go_simp; with_reducible rfl)) | (focus (intro w hSw; (try dsimp only at hSw); simp [hSw, go_sem]; done))); (try simp only [Act.put, List.setIfInBounds_toArray, List.set_cons_zero, List.set_cons_succ])
                            refine sTake (i := 15) (v := ?_) rfl (by kernel_rfl) (by kernel_rfl) (by kernel_rfl) (by kernel_rfl) (fun _ _ _ h => h) (Or.inl ⟨by first | rfl | kernel_rfl, ?_⟩) hS0 ?_; rotate_left 1; (first | (focus (intro w hSw; (try dsimp only at hSw); go_simp; done)) | (focus (intro w hSw; (try dsimp only at hSw); go_simp; with_reducible rfl)) | (focus (intro w hSw; (try dsimp only at hSw); simp [hSw, go_sem]; done))); (try simp only [Act.put, List.setIfInBounds_toArray, List.set_cons_zero, List.set_cons_succ])
                            refine sTake (i := 16) (v := ?_) rfl (by kernel_rfl) (by kernel_rfl) (by kernel_rfl) (by kernel_rfl) (fun _ _ _ h => h) (Or.inl ⟨by first | rfl | kernel_rfl, ?_⟩) hS0 ?_; rotate_left 1; (first | (focus (intro w hSw; (try dsimp only at hSw); go_simp; done)) | (focus (intro w hSw; (try dsimp only at hSw); go_simp; with_reducible rfl)) | (focus (intro w hSw; (try dsimp only at hSw); simp [hSw, go_sem]; done))); (try simp only [Act.put, List.setIfInBounds_toArray, List.set_cons_zero, List.set_cons_succ])
                            refine sTake (i := 17) (v := ?_) rfl (by kernel_rfl) (by kernel_rfl) (by kernel_rfl) (by kernel_rfl) (fun _ _ _ h => h) (Or.inl ⟨by first | rfl | kernel_rfl, ?_⟩) hS0 ?_; rotate_left 1; (first | (focus (intro w hSw; (try dsimp only at hSw); go_simp; done)) | (focus (intro w hSw; (try dsimp only at hSw); go_simp; with_reducible rfl)) | (focus (intro w hSw; (try dsimp only at hSw); simp [hSw, go_sem]; done))); (try simp only [Act.put, List.setIfInBounds_toArray, List.set_cons_zero, List.set_cons_succ])
                            refine sOne (i := 10) (by kernel_rfl) rfl (by rfl) (fun K hK => ?_); have HK := Lib.hid hK; clear hK; go_simp
                            have hbA : Below U.heap.size U ((U.alloc (.cells #[.int .i32 x, .int .i32 y, .int .i64 bs, .bool whole] 61)).drew) := ((Below.refl _ U).alloc (Nat.le_refl _) _).drew
                            have hBU : B ≤ U.heap.size := by
                              have e1 := HPB.out.1
                              have e2 := HB1.out.size
                              have e3 := HBX.out.size
                              have e4 := HBU.out.size
                              omega
                            have hlit : ((U.alloc (.cells #[.int .i32 x, .int .i32 y, .int .i64 bs, .bool whole] 61)).drew).ownsRow B 61 4 (.slice (some ⟨U.heap.size, 0, none⟩) 1 1) 1 (rgCells (x, y, bs, whole)) :=
                              ⟨rfl, .inr ⟨U.heap.size, 1, #[.int .i32 x, .int .i32 y, .int .i64 bs, .bool whole], rfl, hBU, World.alloc_heap_new U _, Nat.le_refl _, by unfold maxLen; omega, rfl, rfl⟩⟩
                            have hSA := HRD.out _ (HBU.out.trans (hbA.mono HBU.out.size))
                            refine HK.out _ _ ⟨hSA.1, hSA.2.1, hSA.2.2.1, hSA.2.2.2.1, hSA.2.2.2.2.1⟩ ?_
                            clear HK
                            (try simp only [Act.put, List.setIfInBounds_toArray, List.set_cons_zero, List.set_cons_succ])
                            have hszA : U.heap.size < ((U.alloc (.cells #[.int .i32 x, .int .i32 y, .int .i64 bs, .bool whole] 61)).drew).heap.size := by simp
                            generalize (U.alloc (.cells #[.int .i32 x, .int .i32 y, .int .i64 bs, .bool whole] 61)).drew = WA at *
                            have hlen : (st.2.1.drop k).length = n - k := by rw [List.length_drop, ← HN.out]
                            obtain ⟨g2, c2, X2, hr1, ho1, hg1⟩ := run_ins1 (ty := 23) (x := (x, y, bs, whole)) (q := q) (c := qc) (Q := st.2.1.drop k) hlit (Nat.le_trans hBU hbA.size) (by rw [hlen]; omega) (fun hne => by
                              obtain ⟨a, e1, e2⟩ := HSQ.out hne
                              exact ⟨a, e1, fun j u hu => (hbA.cell (p := a.add j) (cell_blt (e2 j u hu))).trans (e2 j u hu)⟩)
                            rw [hlen] at hr1 ho1
                            have hbX : Below U.heap.size U X2 := hbA.grown hg1 (Nat.le_of_lt hszA) (fun j hj => by cases hj; exact Nat.le_refl _)
                            refine sOne (i := 18) (by kernel_rfl) rfl (by rfl) (fun K hK => ?_)
                            have HK := Lib.hid hK
                            clear hK
                            refine wp_append_run (.tmp 126) (.tmp 133) 23 rfl _ _ _ _ rfl rfl hr1 ?_
                            have hSX := HRD.out _ (HBU.out.trans (hbX.mono HBU.out.size))
                            refine HK.out _ _ ⟨hSX.1, hSX.2.1, hSX.2.2.1, hSX.2.2.2.1, hSX.2.2.2.2.1⟩ ?_
                            clear HK
                            (try simp only [Act.put, List.setIfInBounds_toArray, List.set_cons_zero, List.set_cons_succ])
                            have htl : (st.2.1.take k).length = k := by rw [List.length_take, ← HN.out]; exact Nat.min_eq_left HKN.out
                            obtain ⟨c3, X3, hr2, ho2, hbY⟩ := run_ins2 (ty := 23) (p := (some ⟨g, 0, none⟩)) (P := st.2.1.take k) htl (by omega) (by have := HKN.out; omega) ho1 (Nat.le_trans hBU hbX.size) (by
                              rcases HSP.out with h | ⟨a, e1, e2⟩
                              · exact .inl h
                              · exact .inr ⟨a, e1, fun j u hu => (hbX.cell (p := a.add j) (cell_blt (e2 j u hu))).trans (e2 j u hu)⟩)
                            refine sOne (i := 19) (by kernel_rfl) rfl (by rfl) (fun K hK => ?_)
                            have HK := Lib.hid hK
                            clear hK
                            refine wp_append_run (.tmp 124) (.tmp 134) 23 rfl _ _ _ _ rfl rfl hr2 ?_
                            have hbZ : Below U.heap.size U X3 := hbX.trans (hbY.mono hbX.size)
                            have hSZ := HRD.out _ (HBU.out.trans (hbZ.mono HBU.out.size))
                            have HSZ : Hid (X3.cell? ⟨pb, 1, none⟩ = some (.slice (some ⟨g, 0, none⟩) n rc) ∧ X3.cell? ⟨xb, 0, none⟩ = some (.int .i32 x) ∧ X3.cell? ⟨xb, 1, none⟩ = some (.int .i32 y) ∧ X3.cell? ⟨xb, 2, none⟩ = some (.int .i64 bs) ∧ X3.cell? ⟨xb, 3, none⟩ = some (.bool whole)) := ⟨hSZ.1, hSZ.2.1, hSZ.2.2.1, hSZ.2.2.2.1, hSZ.2.2.2.2.1⟩
                            refine HK.out _ _ HSZ.out ?_
                            clear HK
                            (try simp only [Act.put, List.setIfInBounds_toArray, List.set_cons_zero, List.set_cons_succ])
                            refine sOne (i := 20) (by kernel_rfl) rfl (by rfl) (fun K hK => ?_); have HK := Lib.hid hK; clear hK; go_simp
                            refine HK.out _ _ HSZ.out ?_
                            clear HK
                            (try simp only [Act.put, List.setIfInBounds_toArray, List.set_cons_zero, List.set_cons_succ])
                            refine sOne (i := 21) (by kernel_rfl) rfl (by rfl) (fun K hK => ?_); have HK := Lib.hid hK; clear hK; go_simp
                            refine HK.out _ _ HSZ.out ?_
                            clear HK
                            (try simp only [Act.put, List.setIfInBounds_toArray, List.set_cons_zero, List.set_cons_succ])
                            refine sOne (i := 22) (by kernel_rfl) rfl (by rfl) (fun K hK => ?_); have HK := Lib.hid hK; clear hK; go_simp
                            refine HK.out _ _ HSZ.out ?_
                            clear HK
                            (try simp only [Act.put, List.setIfInBounds_toArray, List.set_cons_zero, List.set_cons_succ])
                            have hbW3 := HBX.out.trans ((HBU.out.trans (hbZ.mono HBU.out.size)).mono HBX.out.size)
                            have HFIN : Hid (RStepEnd B pb rr w (.returned (.int .i64 0)) (X3.setCell ⟨pb, 1, none⟩ (.slice (some ⟨X2.heap.size, 0, none⟩) (k + (1 + (n - k))) c3))) := by
                              have h3 : Rd8 X3 pb (st.1.getD []) (.slice (some ⟨g, 0, none⟩) n rc) ev st.1.isSome := (hbW3.block pb H3.out.cells.2.2.2.2.2).trans H3.out
                              have hln : (insR (x, y, bs, whole) st.2.1).length = k + (1 + (n - k)) := by rw [insR_len, ← HN.out]; have := HKN.out; omega
                              refine ⟨((Only.refl _ w).below (HB1.out.trans (hbW3.mono HB1.out.size))).setCell (p := ⟨pb, 1, none⟩) (.inl rfl) _, .inl ⟨_, HE.out, rfl, RSt.put_rg h3 (ownsRow_growT H5.out hbW3) (H6.out.kept (Kept.below hbW3)) ?_ ?_ ⟨HL.out.2.1, HL.out.2.2⟩ ?_⟩⟩
                              · rw [HIN.out.1]; exact insR_sorted (by rw [List.take_append_drop]; exact H7.out) HIN.out.2 HGT.out
                              · rw [insR_len, ← HN.out]; have := HRL.out; have := HN.out; omega
                              · rw [hln, HIN.out.1, List.flatMap_append]; exact ho2
                            obtain ⟨k1, _, _, _, _, kpl, _, kfz⟩ := hSZ
                            refine sLast (by kernel_rfl) rfl (by rfl) (fun K hK => ?_)
                            have HK := Lib.hid hK
                            clear hK
                            go_simp
                            refine HK.out _ _ ?_
                            clear HK
                            (try simp only [Act.put, List.setIfInBounds_toArray, List.set_cons_zero, List.set_cons_succ])
                            refine sDone (by kernel_rfl) ?_ _
                            go_wp2_with fail
                            go_ret
                            exact HFIN.out
            · have e1 : (bt a i1 == 46) = false := beq_eq_false_iff_ne.2 d1
              have e1' : (bt a i1 != 46) = true := bne_iff_ne.2 d1
              have HNX := Lib.hid (HCO.out (by
                cases h : Lib.occAt a.data.toList [46, 46] i with
                | false => rfl
                | true =>
                  have := ((occ2 _ _).1 h).2
                  obtain ⟨_, _, hd1, hd2, hi1⟩ := HC.out
                  rw [← hi1, hd1] at this
                  cases this
                  exact absurd hd2 d1))
              clear d0 d1
              go_wp2_with fail
              go_roundw
              case rel => exact ⟨i + 1, by go_num, by omega, HNX.out, trivial⟩
              case measure => (simp [intOf]; omega)
          · have e0 : (bt a i == 46) = false := beq_eq_false_iff_ne.2 d0
            have e0' : (bt a i != 46) = true := bne_iff_ne.2 d0
            have HNX := Lib.hid (HCO.out (by
              cases h : Lib.occAt a.data.toList [46, 46] i with
              | false => rfl
              | true =>
                have := ((occ2 _ _).1 h).1
                obtain ⟨hc1, hc2, _⟩ := HC.out
                rw [hc1] at this
                cases this
                exact absurd hc2 d0))
            clear d0
            go_wp2_with fail
            go_roundw
            case rel => exact ⟨i + 1, by go_num, by omega, HNX.out, trivial⟩
            case measure => (simp [intOf]; omega)
        · have q1 : ¬ (i : Int) + 1 < (a.size : Int) := by omega
          have HE : Hid (rw0 = .error 80) := by show _ = _; rw [HR2.out, if_pos (dots_none HNO.out (by rw [size_data]; omega))]
          clear hlt
          go_wp2_with fail
          go_ret
          exact HERR.out 80 _ HE.out HB1.out
end Go.Proofs.YtjbcbejedaeedaaGreatDoor
/-! The reference of chapter 8: a line: walked. -/
namespace Go.Proofs.YtjbcbejedaeedaaGreatDoor
open Go.RowKit
open PlainAid (bt)

set_option maxHeartbeats 2000000 in
set_option maxRecDepth 100000 in
theorem rversion_any (s : ByteArray) (w : World) (hs : s.size ≤ 1000000000) :
    Calls Tryz.prog 59 #[.string s] w fun e w' => e = .returned (.bool (verB s.data.toList)) ∧ w = w' := by
  have hbt := PlainAid.get_bt s
  have HSZ : Hid (s.data.toList.length = s.size) := size_data s
  by_cases h0 : s.size < 1 ∨ 32 < s.size
  · have e0 : verB s.data.toList = false := by
      unfold verB
      rcases h0 with h | h
      · rw [decide_eq_false (by rw [HSZ.out]; omega)]; simp
      · rw [decide_eq_false (p := s.data.toList.length ≤ 32) (by rw [HSZ.out]; omega)]; simp
    rw [e0]
    clear e0
    rcases h0 with h | h
    · have g1 : (s.size : Int) < 1 := by omega
      go_enter Tryz.func59, Tryz.ntmps59
      go_wp2
      go_ret
      exact ⟨rfl, rfl⟩
    · have g1 : ¬ (s.size : Int) < 1 := by omega
      have g2 : (s.size : Int) > 32 := by omega
      go_enter Tryz.func59, Tryz.ntmps59
      go_wp2
      go_ret
      exact ⟨rfl, rfl⟩
  · have g1 : ¬ (s.size : Int) < 1 := by omega
    have g2 : ¬ (s.size : Int) > 32 := by omega
    have HV : Hid (verB s.data.toList = s.data.toList.all vchB) := by
      show _ = _
      unfold verB
      rw [decide_eq_true (by rw [HSZ.out]; omega), decide_eq_true (p := s.data.toList.length ≤ 32) (by rw [HSZ.out]; omega)]
      rfl
    clear h0
    go_enter Tryz.func59, Tryz.ntmps59
    go_wp2_with fail
    go_loop [3] (fun i => ∃ k : Nat, k ≤ s.size ∧ i = .int .i64 (k : Nat) ∧ ∀ j b, j < k → s.data.toList[j]? = some b → vchB b = true) (fun i => s.size - (intOf i).toNat)
    case atStart => exact ⟨0, Nat.zero_le _, rfl, fun j b hj => absurd hj (Nat.not_lt_zero _)⟩
    case round =>
      obtain ⟨k, hk, rfl, hd⟩ := hrel
      have HD := Lib.hid hd
      clear hd
      by_cases hlt : k < s.size
      · have b0 := PlainAid.bt_nonneg s k
        have b1 := PlainAid.bt_le s k
        have q1 : (k : Int) < (s.size : Int) := by omega
        obtain ⟨c, hc1, hc2⟩ := at_bt s k hlt
        have HB : Hid (vchB c = (decide (33 ≤ bt s k) && decide (bt s k ≤ 126))) := by
          show _ = _
          unfold vchB; rw [hc2]
          rw [Bool.eq_iff_iff]; simp; omega
        have HC := Lib.hid hc1
        clear hc1 hc2
        have HNO : Hid (vchB c = false → verB s.data.toList = false) := by
          show _ → _
          intro h
          rw [HV.out, Bool.eq_false_iff]
          intro hall
          rw [(all_bt s vchB).1 hall k c HC.out] at h
          cases h
        by_cases d0 : bt s k < 33
        · have HE : Hid (verB s.data.toList = false) := (HNO.out (by rw [HB.out]; simp; omega))
          go_wp2_with fail
          go_ret
          exact ⟨by rw [HE.out] <;> rfl, rfl⟩
        · by_cases d1 : 126 < bt s k
          · have HE : Hid (verB s.data.toList = false) := (HNO.out (by rw [HB.out]; simp; omega))
            go_wp2_with fail
            go_ret
            exact ⟨by rw [HE.out] <;> rfl, rfl⟩
          · have HE : Hid (vchB c = true) := by show _ = _; rw [HB.out]; simp; omega
            go_wp2_with fail
            go_round
            case rel =>
              refine ⟨k + 1, by omega, by go_num, fun j b hj hb => ?_⟩
              rcases Nat.lt_succ_iff_lt_or_eq.1 hj with h | h
              · exact HD.out j b h hb
              · subst h; rw [HC.out] at hb; cases hb; exact HE.out
            case measure => simp [intOf]; omega
      · have q1 : ¬ (k : Int) < (s.size : Int) := by omega
        have HE : Hid (verB s.data.toList = true) := by
          show _ = _
          
          rw [HV.out, all_bt]
          intro j b hb
          exact HD.out j b (by have := (List.getElem?_eq_some_iff.1 hb).1; rw [HSZ.out] at this; omega) hb
        go_wp2_with fail
        go_ret
        exact ⟨by rw [HE.out] <;> rfl, rfl⟩
theorem afterW_len {l word v : Bs} (h : afterW l word = some v) : v.length ≤ l.length := by
  unfold afterW at h
  split at h
  · cases h
    have := trimW_le (l.drop word.length)
    rw [List.length_drop] at this; omega
  · cases h
theorem fnd_mem (es : List Ent) (l : List Int) : fndB es l = decide (l ∈ es.map (·.1)) := by
  have key : ∀ es : List Ent, (0 ≤ fIdx (fun x : Ent => decide (x.1 = l)) es ↔ l ∈ es.map (·.1)) ∧ -1 ≤ fIdx (fun x : Ent => decide (x.1 = l)) es := by
    intro es
    induction es with
    | nil => exact ⟨by simp [fIdx], by simp [fIdx]⟩
    | cons x xs ih =>
      rw [fIdx]
      by_cases h : x.1 = l
      · simp [h]
      · simp only [decide_eq_true_eq, h, if_false, List.map_cons, List.mem_cons]
        have h' : ¬ l = x.1 := fun e => h e.symm
        obtain ⟨i1, i2⟩ := ih
        split
        · rename_i hq
          constructor
          · constructor
            · intro h3; omega
            · rintro (h3 | h3)
              · exact absurd h3 h'
              · have := i1.2 h3; omega
          · omega
        · rename_i hq
          constructor
          · constructor
            · intro h3; exact .inr (i1.1 (by omega))
            · rintro (h3 | h3)
              · exact absurd h3 h'
              · have := i1.2 h3; omega
          · omega
  unfold fndB findW
  rw [Bool.eq_iff_iff, decide_eq_true_eq, decide_eq_true_eq]
  exact (key es).1
theorem RSt.addEntry {B : Nat} {W W' : World} {pb : Nat} {st : TSt} {rv ev v' c u : Value} {vs : List (Value × Value)} {o : Obj} {x : Ent} (h3 : Rd8 W pb (st.1.getD []) rv ev st.1.isSome)
    (h4 : W.ownsRow B 61 4 rv st.2.1.length (st.2.1.flatMap rgCells)) (h5 : W.ownsRow B 45 2 ev st.2.2.length (vs.flatMap evCells)) (h6 : EVs B W st.2.2 vs) (h7 : st.2.1.Pairwise (fun x y => x.1 ≤ y.1)) (h8 : st.2.1.length ≤ 5000000)
    (h9 : st.2.2.length < 4000) (h10 : ∀ x ∈ st.2.2, x.1.length ≤ 8 ∧ x.2.length ≤ 16) (hx : x.1.length ≤ 8 ∧ x.2.length ≤ 16) (hc : IntsIn (Lf B W) .i32 W c x.1) (hu : ElsIn (Lf B W) W u x.2)
    (hg : (W.alloc o).grownBy W' ev.ownBlock) (hown : W'.ownsRow B 45 2 v' (st.2.2.length + 1) (vs.flatMap evCells ++ [c, u])) :
    RSt B (W'.setCell ⟨pb, 2, none⟩ v') pb (st.1, st.2.1, st.2.2 ++ [x]) := by
  have F := TFrame.of_grown hg (row_block h5)
  have h3' : Rd8 W' pb (st.1.getD []) rv ev st.1.isSome := F.2 pb _ h3 (fun c fr e => by injection e with _ e _; exact absurd e (by decide))
  have hkk := F.lf (B := B) (by decide) (by decide)
  have hks := lf_set (B := B) (o := 2) (u := v') h3' (by decide) (by decide)
  refine ⟨rv, v', vs ++ [(c, u)], h3'.put2 v', row_set (F.row h4 (by decide)) h3' (by decide), ?_, ⟨by rw [List.length_append, List.length_append, h6.1]; rfl, fun i y cu hy hcu => ?_⟩, h7, h8, by simp only [List.length_append, List.length_cons, List.length_nil]; omega, fun y hy => ?_⟩
  · have := row_set (o := 2) (u := v') hown h3' (by decide)
    simpa [List.flatMap_append, evCells] using this
  · rcases Nat.lt_or_ge i st.2.2.length with hi | hi
    · simp only at hy hcu
      rw [List.getElem?_append_left hi] at hy
      rw [List.getElem?_append_left (by rw [h6.1]; exact hi)] at hcu
      have := ((h6.kept hkk).kept hks).2 i y cu hy hcu
      exact this
    · simp only at hy hcu
      rw [List.getElem?_append_right hi] at hy
      rw [List.getElem?_append_right (by rw [h6.1]; exact hi), h6.1] at hcu
      cases hk : i - st.2.2.length with
      | zero =>
        rw [hk] at hy hcu
        simp at hy hcu
        subst hy hcu
        exact ⟨(hc.lf hkk (Nat.le_refl _)).lf hks (Nat.le_refl _), (hu.lf hkk (Nat.le_refl _)).lf hks (Nat.le_refl _)⟩
      | succ k => rw [hk] at hy; simp at hy
  · rcases List.mem_append.1 hy with hy | hy
    · exact h10 y hy
    · simp at hy; subst hy; exact hx
theorem RSt.named {B : Nat} {W : World} {pb : Nat} {st : TSt} (h : RSt B W pb st) (x : Bs) : RSt B ((W.setCell ⟨pb, 3, none⟩ (.bool true)).setCell ⟨pb, 0, none⟩ (.string (mkB x))) pb (some x, st.2) := by
  obtain ⟨rv, ev, vs, h3, h4, h5, h6, h7⟩ := h
  have h3' := h3.put3 true
  exact ⟨rv, ev, vs, h3'.put0 x, row_set (row_set h4 h3 (by decide)) h3' (by decide), row_set (row_set h5 h3 (by decide)) h3' (by decide),
    (h6.kept (lf_set (B := B) h3 (by decide) (by decide))).kept (lf_set (B := B) h3' (by decide) (by decide)), h7⟩
theorem lineW_szs {l : Bs} {x : Ent} (h : lineW l = .ok x) : x.1.length ≤ 8 ∧ x.2.length ≤ 16 := ⟨(lineW_pt h).2, lineW_len h⟩
end Go.Proofs.YtjbcbejedaeedaaGreatDoor
/-! The reference of chapter 8: a line of its reader: walked. -/
namespace Go.Proofs.YtjbcbejedaeedaaGreatDoor
open Go.RowKit
open PlainAid (bt)

theorem Only.below' {S : Nat → Prop} {a b c : World} (h : Only S a b) (k : Below b.heap.size b c) : Only S a c := h.trans ((Only.refl S b).below k)
theorem rstep_of {B pb : Nat} {r : Except Int TSt} {w w1 w' : World} {e : Ending} (hB : B ≤ w.heap.size) (hb : Below w.heap.size w w1) (h : RStepEnd B pb r w1 e w') : RStepEnd B pb r w e w' :=
  ⟨((Only.refl (fun k => k = pb ∨ B ≤ k) w).below hb).trans h.1, h.2⟩
set_option maxHeartbeats 8000000 in
set_option maxRecDepth 100000 in
theorem rline8_any (B pb : Nat) (st : TSt) (s : ByteArray) (w : World) (hs : s.size ≤ 1000000) (hp : RSt B w pb st) (hB : B ≤ w.heap.size) (hpb : pb < B) (hrl : st.2.1.length < 5000000) :
    Calls Tryz.prog 26 #[.pointer (some ⟨pb, 0, none⟩), .string s] w (RStepEnd B pb (lineR st s.data.toList) w) := by
  have HP := Lib.hid hp
  have HPB := Lib.hid (And.intro hB (And.intro hpb hrl))
  have HS := Lib.hid hs
  have HA1 : Hid (∀ w, Calls Tryz.prog 57 #[.string s, .string ⟨#[64, 118, 101, 114, 115, 105, 111, 110]⟩] w fun e w' => e = .returned (afterV s.data.toList verK) ∧ w = w') := fun w => rafter_any s ⟨#[64, 118, 101, 114, 115, 105, 111, 110]⟩ w hs (by decide)
  have HA2 : Hid (∀ w, Calls Tryz.prog 57 #[.string s, .string ⟨#[64, 105, 109, 112, 108, 105, 99, 105, 116, 119, 101, 105, 103, 104, 116, 115]⟩] w fun e w' => e = .returned (afterV s.data.toList impK) ∧ w = w') := fun w => rafter_any s ⟨#[64, 105, 109, 112, 108, 105, 99, 105, 116, 119, 101, 105, 103, 104, 116, 115]⟩ w hs (by decide)
  have HA3 : Hid (∀ w, Calls Tryz.prog 57 #[.string s, .string ⟨#[64, 117, 110, 105, 102, 105, 101, 100]⟩] w fun e w' => e = .returned (afterV s.data.toList uniK) ∧ w = w') := fun w => rafter_any s ⟨#[64, 117, 110, 105, 102, 105, 101, 100]⟩ w hs (by decide)
  have HRL := Lib.hid (fun w => rline_any s w hs)
  have HL : Hid (lineR st s.data.toList = match afterW s.data.toList verK with
    | some v => if st.1 ≠ none ∨ (wordsW v).length ≠ 1 then .error 80 else if verB v = true then .ok (some v, st.2) else .error 114
    | none => match afterW s.data.toList impK with
      | some x => ruleR st true x
      | none => match afterW s.data.toList uniK with
        | some x => ruleR st false x
        | none => match lineW s.data.toList with
          | .error e => .error e
          | .ok x => if x.1 ∈ st.2.2.map (·.1) then .error 91 else if st.2.2.length = 4000 then .error 2 else .ok (st.1, st.2.1, st.2.2 ++ [x])) := rfl
  generalize lineR st s.data.toList = rr at *
  have hle1 : ∀ v, afterW s.data.toList verK = some v → v.length ≤ s.size := fun v h => by have := afterW_len h; rwa [size_data] at this
  have hle2 : ∀ v, afterW s.data.toList impK = some v → v.length ≤ s.size := fun v h => by have := afterW_len h; rwa [size_data] at this
  have hle3 : ∀ v, afterW s.data.toList uniK = some v → v.length ≤ s.size := fun v h => by have := afterW_len h; rwa [size_data] at this
  unfold afterV at HA1 HA2 HA3
  generalize afterW s.data.toList verK = a1 at *
  generalize afterW s.data.toList impK = a2 at *
  generalize afterW s.data.toList uniK = a3 at *
  clear hp hB hpb hrl
  cases a1 with
  | some v =>
    simp only at HA1 HL
    have hv := hle1 v rfl
    have HWD := Lib.hid (fun w => rwords_any (mkB v) w (by rw [size_mkB]; omega))
    have HVE := Lib.hid (fun w => rversion_any (mkB v) w (by rw [size_mkB]; omega))
    rw [data_mkB] at HWD HVE
    unfold WordsEnd at HWD
    clear hle1 hle2 hle3 HA2 HA3 HRL hv
    go_enter Tryz.func26, Tryz.ntmps26
    go_wp2_with (go_at_call 57; with_reducible refine (HA1.out _).mono ?_; rintro e w' ⟨rfl, rfl⟩)
    refine (HWD.out _).mono ?_
    rintro e w1 ⟨wv, rfl, hown, hb1⟩
    have HB1 := Lib.hid hb1
    have hp1 := HP.out.below hb1
    have HP1 := Lib.hid hp1
    obtain ⟨wp, wc, rfl⟩ := row_slice hown
    obtain ⟨n, hn⟩ : ∃ n, n = (wordsW v).length := ⟨_, rfl⟩
    rw [← hn] at HL ⊢
    have HNN := Lib.hid hn
    obtain ⟨rv, ev, vs, h3, _⟩ := hp1
    obtain ⟨_, _, _, c3, fz, hpl⟩ := h3.cells
    have fz3 := fz 3
    have fz0 := fz 0
    have HERR : Hid (∀ z, rr = .error z → RStepEnd B pb rr w (.returned (.int .i64 z)) w1) := fun z h => rstep_err HB1.out h
    clear hb1 hown hn h3 fz
    cases hst : st.1 with
    | some v0 =>
      have HE : Hid (rr = .error 80) := by show _ = _; rw [HL.out, if_pos (.inl (by rw [hst]; simp))]
      rw [hst] at c3
      simp only [Option.isSome_some] at c3
      clear hst
      go_wp2_with fail
      go_ret
      exact HERR.out 80 HE.out
    | none =>
      rw [hst] at c3
      simp only [Option.isSome_none] at c3
      by_cases hw : n = 1
      · have g1 : ((n : Int) != 1) = false := by rw [hw]; rfl
        have g2 : ((n : Int) == 1) = true := by rw [hw]; rfl
        have HL2 : Hid (rr = if verB v = true then .ok (some v, st.2) else .error 114) := by show _ = _; rw [HL.out, if_neg (by rw [not_or]; exact ⟨fun h => h hst, fun h => h hw⟩)]
        clear hst hw
        cases hvb : verB v with
        | false =>
          have HE : Hid (rr = .error 114) := by show _ = _; rw [HL2.out, hvb]; rfl
          rw [hvb] at HVE
          clear hvb
          go_wp2_with (go_at_call 59; with_reducible refine (HVE.out _).mono ?_; rintro e w' ⟨rfl, rfl⟩)
          go_ret
          exact HERR.out 114 HE.out
        | true =>
          have HE : Hid (rr = .ok (some v, st.2)) := by show _ = _; rw [HL2.out, hvb]; rfl
          rw [hvb] at HVE
          clear hvb
          go_wp2_with (go_at_call 59; with_reducible refine (HVE.out _).mono ?_; rintro e w' ⟨rfl, rfl⟩)
          go_ret
          exact ⟨((((Only.refl (fun k => k = pb ∨ B ≤ k) w).below HB1.out).setCell (p := ⟨pb, 3, none⟩) (.inl rfl) _).setCell (p := ⟨pb, 0, none⟩) (.inl rfl) _), .inl ⟨_, HE.out, rfl, HP1.out.named v⟩⟩
      · have g1 : ((n : Int) != 1) = true := bne_iff_ne.2 (by omega)
        have g2 : ((n : Int) == 1) = false := beq_eq_false_iff_ne.2 (by omega)
        have HE : Hid (rr = .error 80) := by show _ = _; rw [HL.out, if_pos (.inr hw)]
        clear hst hw
        go_wp2_with fail
        go_ret
        exact HERR.out 80 HE.out
  | none =>
    simp only at HA1 HL
    cases a2 with
    | some x =>
      simp only at HA2 HL
      have hv := hle2 x rfl
      have hru := rrule_any B pb st (mkB x) true w (by rw [size_mkB]; omega) HP.out HPB.out.1 HPB.out.2.1 HPB.out.2.2
      rw [data_mkB, ← HL.out] at hru
      have HRU := Lib.hid hru
      clear hru hle1 hle2 hle3 HA3 HRL hv
      go_enter Tryz.func26, Tryz.ntmps26
      go_wp2_with (go_at_call 57; first | (with_reducible refine (HA1.out _).mono ?_; rintro e w' ⟨rfl, rfl⟩) | (with_reducible refine (HA2.out _).mono ?_; rintro e w' ⟨rfl, rfl⟩))
      refine HRU.out.mono ?_
      rintro e w1 ⟨h1, ⟨st', h2, rfl, h3⟩ | ⟨z, h2, rfl⟩⟩
      · have HX := Lib.hid (And.intro h1 (And.intro h2 h3))
        clear h1 h2 h3
        go_wp2_with fail
        go_ret
        exact ⟨HX.out.1, .inl ⟨st', HX.out.2.1, rfl, HX.out.2.2⟩⟩
      · have HX := Lib.hid (And.intro h1 h2)
        clear h1 h2
        go_wp2_with fail
        go_ret
        exact ⟨HX.out.1, .inr ⟨z, HX.out.2, rfl⟩⟩
    | none =>
      simp only at HA2 HL
      cases a3 with
      | some x =>
        simp only at HA3 HL
        have hv := hle3 x rfl
        have hru := rrule_any B pb st (mkB x) false w (by rw [size_mkB]; omega) HP.out HPB.out.1 HPB.out.2.1 HPB.out.2.2
        rw [data_mkB, ← HL.out] at hru
        have HRU := Lib.hid hru
        clear hru hle1 hle2 hle3 HRL hv
        go_enter Tryz.func26, Tryz.ntmps26
        go_wp2_with (go_at_call 57; first | (with_reducible refine (HA1.out _).mono ?_; rintro e w' ⟨rfl, rfl⟩) | (with_reducible refine (HA2.out _).mono ?_; rintro e w' ⟨rfl, rfl⟩) | (with_reducible refine (HA3.out _).mono ?_; rintro e w' ⟨rfl, rfl⟩))
        refine HRU.out.mono ?_
        rintro e w1 ⟨h1, ⟨st', h2, rfl, h3⟩ | ⟨z, h2, rfl⟩⟩
        · have HX := Lib.hid (And.intro h1 (And.intro h2 h3))
          clear h1 h2 h3
          go_wp2_with fail
          go_ret
          exact ⟨HX.out.1, .inl ⟨st', HX.out.2.1, rfl, HX.out.2.2⟩⟩
        · have HX := Lib.hid (And.intro h1 h2)
          clear h1 h2
          go_wp2_with fail
          go_ret
          exact ⟨HX.out.1, .inr ⟨z, HX.out.2, rfl⟩⟩
      | none =>
        simp only at HA3 HL
        clear hle1 hle2 hle3
        go_enter Tryz.func26, Tryz.ntmps26
        go_wp2_with (go_at_call 57; first | (with_reducible refine (HA1.out _).mono ?_; rintro e w' ⟨rfl, rfl⟩) | (with_reducible refine (HA2.out _).mono ?_; rintro e w' ⟨rfl, rfl⟩) | (with_reducible refine (HA3.out _).mono ?_; rintro e w' ⟨rfl, rfl⟩))
        refine (HRL.out _).mono ?_
        clear HA1 HA2 HA3 HRL
        rintro e w1 ⟨hb1, ⟨x, cv, uv, hlx, rfl, hcv, huv⟩ | ⟨z, hlz, rfl⟩⟩
        rotate_left
        · have HE : Hid (rr = .error z) := by show _ = _; rw [HL.out, hlz]
          have z1 : (z == 0) = false := beq_eq_false_iff_ne.2 (lineW_ne hlz)
          have HB1 := Lib.hid hb1
          clear hb1 hlz
          go_wp2_with fail
          go_ret
          exact rstep_err (HB1.out.alloc HB1.out.size _) HE.out
        · rw [hlx] at HL
          simp only at HL
          have hxs := lineW_szs hlx
          obtain ⟨cp, cc, rfl⟩ := row_slice hcv
          obtain ⟨up, uc, rfl⟩ := row_slice huv
          have HB1 := Lib.hid hb1
          have HCV := Lib.hid hcv
          have HUV := Lib.hid huv
          have HXS := Lib.hid hxs
          clear hb1 hcv huv hlx hxs
          go_wp2_with fail
          have hbx : Below w1.heap.size w1 (w1.alloc (.cells #[.slice cp x.1.length cc, .slice up x.2.length uc] 45)) := (Below.refl _ w1).alloc (Nat.le_refl _) _
          have hx8 : TwoAt (w1.alloc (.cells #[.slice cp x.1.length cc, .slice up x.2.length uc] 45)) w1.heap.size (.slice cp x.1.length cc) (.slice up x.2.length uc) := World.alloc_heap_new w1 _
          generalize w1.alloc (.cells #[.slice cp x.1.length cc, .slice up x.2.length uc] 45) = W2 at *
          have HBX := Lib.hid (HB1.out.trans (hbx.mono HB1.out.size))
          have HX8 := Lib.hid hx8
          have hcv2 := ownsRow_growT HCV.out hbx
          have huv2 := ownsRow_growT HUV.out hbx
          have hBw : B ≤ w.heap.size + 1 := Nat.le_succ_of_le HPB.out.1
          have HCI : Hid (IntsIn (Lf B W2) .i32 W2 (.slice cp x.1.length cc) x.1) := intsIn_row (ownsRow_base hcv2 hBw)
          have HUI : Hid (ElsIn (Lf B W2) W2 (.slice up x.2.length uc) x.2) := elsIn_row (ownsRow_base huv2 hBw)
          obtain ⟨xb, hxb⟩ : ∃ xb, xb = w1.heap.size := ⟨_, rfl⟩
          rw [← hxb] at HX8 ⊢
          have HXB : Hid (B ≤ xb) := by show _ ≤ _; rw [hxb]; exact Nat.le_trans HPB.out.1 HB1.out.size
          obtain ⟨rv, ev, vs, j3, j4, j5, j6, h7, h8, h9, h10⟩ := HP.out
          have h3 : Rd8 W2 pb (st.1.getD []) rv ev st.1.isSome := (HBX.out.block pb j3.cells.2.2.2.2.2).trans j3
          have h4 := ownsRow_growT j4 HBX.out
          have h5 := ownsRow_growT j5 HBX.out
          have h6 := j6.kept (Kept.below HBX.out)
          obtain ⟨rp, rc, rfl⟩ := row_slice h4
          have HEN := Lib.hid (entsIn_row h5 h6)
          obtain ⟨ep, ec, rfl⟩ := row_slice h5
          have HEB : Hid (∀ j, (Value.slice ep st.2.2.length ec).ownBlock = some j → B ≤ j ∧ j < xb) := fun j hj => ⟨(j5.lt j hj).1, Nat.lt_of_lt_of_le (j5.lt j hj).2 (by rw [hxb]; exact HB1.out.size)⟩
          clear j3 j4 j5 j6
          obtain ⟨c0, c1, c2, c3, fz, hpl⟩ := h3.cells
          obtain ⟨y0, y1, yf, yl⟩ := HX8.out.cells
          have HCA : Hid (∀ u', Calls Tryz.prog 12 #[.agg #[.string (mkB (st.1.getD [])), .slice rp st.2.1.length rc, .slice ep st.2.2.length ec], .slice cp x.1.length cc] (over W2 u') fun e w' => e = .returned (.tuple #[.int .i64 (fndI st.2.2 x.1), .bool (fndB st.2.2 x.1)]) ∧ Below (over W2 u').heap.size (over W2 u') w') :=
            fun u' => rFind_any _ _ st.2.2 x.1 (mkB (st.1.getD [])) rp st.2.1.length rc _ _ _ (HEN.out.kept (Kept.below (below_over W2 u'))) (HCI.out.kept (Kept.below (below_over W2 u'))) (fun y hy => by have := (h10 y hy).1; omega) (by have := HXS.out.1; omega) (by omega)
          have H3 := Lib.hid h3
          have H4 := Lib.hid h4
          have H5 := Lib.hid h5
          have H6 := Lib.hid h6
          have HS7 := Lib.hid (And.intro h7 (And.intro h8 (And.intro h9 h10)))
          obtain ⟨m, hm⟩ : ∃ m, m = st.2.2.length := ⟨_, rfl⟩
          obtain ⟨n, hn⟩ : ∃ n, n = st.2.1.length := ⟨_, rfl⟩
          rw [← hm] at c2 HCA HL HEB
          rw [← hn] at c1 HCA
          have hm4 : m ≤ 4000 := by omega
          have HM := Lib.hid hm
          have HNN := Lib.hid hn
          have HW2 : Hid (∀ W, Below W2.heap.size W2 W → W.cell? ⟨pb, 2, none⟩ = some (.slice ep m ec) ∧ W.cell? ⟨xb, 0, none⟩ = some (.slice cp x.1.length cc) ∧ W.cell? ⟨xb, 1, none⟩ = some (.slice up x.2.length uc) ∧ pb < W.heap.size ∧ xb < W.heap.size) := by
            show ∀ W, _
            intro W hW
            exact ⟨(hW.cell (p := ⟨pb, 2, none⟩) hpl).trans c2, (hW.cell (p := ⟨xb, 0, none⟩) yl).trans y0, (hW.cell (p := ⟨xb, 1, none⟩) yl).trans y1, Nat.lt_of_lt_of_le hpl hW.size, Nat.lt_of_lt_of_le yl hW.size⟩
          clear hbx hx8 hcv2 huv2 hBw hxb h3 h4 h5 h6 h7 h8 h9 h10 hm hn fz yf c3
          rw [fnd_mem] at HCA
          by_cases hmem : x.1 ∈ st.2.2.map (·.1)
          · have HE : Hid (rr = .error 91) := by show _ = _; rw [HL.out, if_pos hmem]
            rw [decide_eq_true hmem] at HCA
            clear hmem
            go_wp2_with fail
            refine wp_region_over (by kernel_rfl) (by kernel_rfl) ?_; (repeat (go_big_quiet_step (((go_at_call 12; exact over_of (HCA.out _)))))); refine wpQuiet_nil ?_; intro w2 hb2
            have HB2 := Lib.hid (HBX.out.trans (hb2.mono HBX.out.size))
            clear hb2
            go_wp2_with fail
            go_ret
            exact rstep_err HB2.out HE.out
          · have HL2 : Hid (rr = if m = 4000 then .error 2 else .ok (st.1, st.2.1, st.2.2 ++ [x])) := by show _ = _; rw [HL.out, if_neg hmem]
            rw [decide_eq_false hmem] at HCA
            clear hmem HL
            by_cases h40 : m = 4000
            · have HE : Hid (rr = .error 2) := by show _ = _; rw [HL2.out, if_pos h40]
              have g1 : ((m : Int) == 4000) = true := by rw [h40]; rfl
              subst h40
              go_wp2_with fail
              refine wp_region_over (by kernel_rfl) (by kernel_rfl) ?_; (repeat (go_big_quiet_step (((go_at_call 12; exact over_of (HCA.out _)))))); refine wpQuiet_nil ?_; intro w2 hb2
              have HB2 := Lib.hid (HBX.out.trans (hb2.mono HBX.out.size))
              obtain ⟨d2, z0, z1, hpl2, yl2⟩ := HW2.out w2 hb2
              clear hb2 c0 c1 c2 y0 y1
              go_wp2_with fail
              go_ret
              exact rstep_err HB2.out HE.out
            · have HE : Hid (rr = .ok (st.1, st.2.1, st.2.2 ++ [x])) := by show _ = _; rw [HL2.out, if_neg h40]
              have g1 : ((m : Int) == 4000) = false := beq_eq_false_iff_ne.2 (by omega)
              have h4 : m < 4000 := by omega
              clear h40
              go_wp2_with fail
              refine wp_region_over (by kernel_rfl) (by kernel_rfl) ?_; (repeat (go_big_quiet_step (((go_at_call 12; exact over_of (HCA.out _)))))); refine wpQuiet_nil ?_; intro w2 hb2
              have HB2 := Lib.hid (HBX.out.trans (hb2.mono HBX.out.size))
              obtain ⟨d2, z0, z1, hpl2, yl2⟩ := HW2.out w2 hb2
              have HBB := Lib.hid hb2
              clear hb2 c0 c1 c2 y0 y1 hpl yl
              go_wp2_with fail
              go_upto_region 25 with fail
              obtain ⟨i0, hi, hz0, hz1, hz2⟩ := info_parts Tryz.infoEn
              have hY3 : Rd8 w2 pb (st.1.getD []) (.slice rp st.2.1.length rc) (.slice ep st.2.2.length ec) st.1.isSome := (HBB.out.block pb H3.out.cells.2.2.2.2.2).trans H3.out
              have hY4 := ownsRow_growT H4.out HBB.out
              have hY5 := ownsRow_growT H5.out HBB.out
              have hY6 := H6.out.kept (Kept.below HBB.out)
              have hYC := HCI.out.lf (A' := B) (Kept.below HBB.out) (Nat.le_refl _)
              have hYU := HUI.out.lf (A' := B) (Kept.below HBB.out) (Nat.le_refl _)
              have HY := Lib.hid (And.intro hY3 (And.intro hY4 (And.intro hY5 (And.intro hY6 (And.intro hYC hYU)))))
              have hre : w2.ownsRow B 45 2 (.slice ep m ec) m (vs.flatMap evCells) := by rw [HM.out]; exact hY5
              have HRE := Lib.hid hre
              clear hY3 hY4 hY5 hY6 hYC hYU hre
              have hS0 : (fun V : World => V.cell? ⟨pb, 2, none⟩ = some (.slice ep m ec) ∧ V.cell? ⟨xb, 0, none⟩ = some (.slice cp x.1.length cc) ∧ V.cell? ⟨xb, 1, none⟩ = some (.slice up x.2.length uc)) w2.drew := ⟨d2, z0, z1⟩
              refine wp_region_S (fun V : World => V.cell? ⟨pb, 2, none⟩ = some (.slice ep m ec) ∧ V.cell? ⟨xb, 0, none⟩ = some (.slice cp x.1.length cc) ∧ V.cell? ⟨xb, 1, none⟩ = some (.slice up x.2.length uc)) 12 (by kernel_rfl) ?_
              refine sTake (i := 0) (v := ?_) rfl (by kernel_rfl) (by kernel_rfl) (by kernel_rfl) (by kernel_rfl) (fun _ _ _ h => h) (Or.inl ⟨by first | rfl | kernel_rfl, ?_⟩) hS0 ?_; rotate_left 1; (first | (focus (intro w hSw; (try dsimp only at hSw); go_simp; done)) | (focus (intro w hSw; (try dsimp only at hSw); go_simp; with_reducible rfl)) | (focus (intro w hSw; (try dsimp only at hSw); simp [hSw, go_sem]; done))); (try simp only [Act.put, List.setIfInBounds_toArray, List.set_cons_zero, List.set_cons_succ])
              refine sTake (i := 1) (v := ?_) rfl (by kernel_rfl) (by kernel_rfl) (by kernel_rfl) (by kernel_rfl) (fun _ _ _ h => h) (Or.inl ⟨by first | rfl | kernel_rfl, ?_⟩) hS0 ?_; rotate_left 1; (first | (focus (intro w hSw; (try dsimp only at hSw); go_simp; done)) | (focus (intro w hSw; (try dsimp only at hSw); go_simp; with_reducible rfl)) | (focus (intro w hSw; (try dsimp only at hSw); simp [hSw, go_sem]; done))); (try simp only [Act.put, List.setIfInBounds_toArray, List.set_cons_zero, List.set_cons_succ])
              refine sTake (i := 2) (v := ?_) rfl (by kernel_rfl) (by kernel_rfl) (by kernel_rfl) (by kernel_rfl) (fun _ _ _ h => h) (Or.inl ⟨by first | rfl | kernel_rfl, ?_⟩) hS0 ?_; rotate_left 1; (first | (focus (intro w hSw; (try dsimp only at hSw); go_simp; done)) | (focus (intro w hSw; (try dsimp only at hSw); go_simp; with_reducible rfl)) | (focus (intro w hSw; (try dsimp only at hSw); simp [hSw, go_sem]; done))); (try simp only [Act.put, List.setIfInBounds_toArray, List.set_cons_zero, List.set_cons_succ])
              refine sTake (i := 3) (v := ?_) rfl (by kernel_rfl) (by kernel_rfl) (by kernel_rfl) (by kernel_rfl) (fun _ _ _ h => h) (Or.inl ⟨by first | rfl | kernel_rfl, ?_⟩) hS0 ?_; rotate_left 1; (first | (focus (intro w hSw; (try dsimp only at hSw); go_simp; done)) | (focus (intro w hSw; (try dsimp only at hSw); go_simp; with_reducible rfl)) | (focus (intro w hSw; (try dsimp only at hSw); simp [hSw, go_sem]; done))); (try simp only [Act.put, List.setIfInBounds_toArray, List.set_cons_zero, List.set_cons_succ])
              refine sTake (i := 4) (v := ?_) rfl (by kernel_rfl) (by kernel_rfl) (by kernel_rfl) (by kernel_rfl) (fun _ _ _ h => h) (Or.inl ⟨by first | rfl | kernel_rfl, ?_⟩) hS0 ?_; rotate_left 1; (first | (focus (intro w hSw; (try dsimp only at hSw); go_simp; done)) | (focus (intro w hSw; (try dsimp only at hSw); go_simp; with_reducible rfl)) | (focus (intro w hSw; (try dsimp only at hSw); simp [hSw, go_sem]; done))); (try simp only [Act.put, List.setIfInBounds_toArray, List.set_cons_zero, List.set_cons_succ])
              refine sTake (i := 5) (v := ?_) rfl (by kernel_rfl) (by kernel_rfl) (by kernel_rfl) (by kernel_rfl) (fun _ _ _ h => h) (Or.inl ⟨by first | rfl | kernel_rfl, ?_⟩) hS0 ?_; rotate_left 1; (first | (focus (intro w hSw; (try dsimp only at hSw); go_simp; done)) | (focus (intro w hSw; (try dsimp only at hSw); go_simp; with_reducible rfl)) | (focus (intro w hSw; (try dsimp only at hSw); simp [hSw, go_sem]; done))); (try simp only [Act.put, List.setIfInBounds_toArray, List.set_cons_zero, List.set_cons_succ])
              refine sTake (i := 6) (v := ?_) rfl (by kernel_rfl) (by kernel_rfl) (by kernel_rfl) (by kernel_rfl) (fun _ _ _ h => h) (Or.inl ⟨by first | rfl | kernel_rfl, ?_⟩) hS0 ?_; rotate_left 1; (first | (focus (intro w hSw; (try dsimp only at hSw); go_simp; done)) | (focus (intro w hSw; (try dsimp only at hSw); go_simp; with_reducible rfl)) | (focus (intro w hSw; (try dsimp only at hSw); simp [hSw, go_sem]; done))); (try simp only [Act.put, List.setIfInBounds_toArray, List.set_cons_zero, List.set_cons_succ])
              refine sOne (i := 7) (by kernel_rfl) rfl (by rfl) (fun K hK => ?_); have HK := Lib.hid hK; clear hK; go_simp
              have hbA : Below w2.heap.size w2 (w2.drew.alloc (.cells #[.slice cp x.1.length cc, .slice up x.2.length uc] 45)) := (Below.refl _ w2).drew.alloc (Nat.le_refl _) _
              have HNW : Hid (∀ (j : Nat) u', [Value.slice cp x.1.length cc, .slice up x.2.length uc][j]? = some u' → (w2.drew.alloc (.cells #[.slice cp x.1.length cc, .slice up x.2.length uc] 45)).cell? ((⟨w2.heap.size, 0, none⟩ : Addr).add j) = some u') := cells_new w2.drew _ _
              have HRW : Hid ((w2.drew.alloc (.cells #[.slice cp x.1.length cc, .slice up x.2.length uc] 45)).ownsRow B 45 2 (.slice ep m ec) m (vs.flatMap evCells)) := ownsRow_growT HRE.out hbA
              have HSA : Hid ((w2.drew.alloc (.cells #[.slice cp x.1.length cc, .slice up x.2.length uc] 45)).cell? ⟨pb, 2, none⟩ = some (.slice ep m ec) ∧ (w2.drew.alloc (.cells #[.slice cp x.1.length cc, .slice up x.2.length uc] 45)).cell? ⟨xb, 0, none⟩ = some (.slice cp x.1.length cc) ∧ (w2.drew.alloc (.cells #[.slice cp x.1.length cc, .slice up x.2.length uc] 45)).cell? ⟨xb, 1, none⟩ = some (.slice up x.2.length uc)) :=
                ⟨(hbA.cell (p := ⟨pb, 2, none⟩) hpl2).trans d2, (hbA.cell (p := ⟨xb, 0, none⟩) yl2).trans z0, (hbA.cell (p := ⟨xb, 1, none⟩) yl2).trans z1⟩
              refine HK.out _ _ HSA.out ?_
              clear HK
              (try simp only [Act.put, List.setIfInBounds_toArray, List.set_cons_zero, List.set_cons_succ])
              refine sOne (i := 8) (by kernel_rfl) rfl (by rfl) (fun K hK => ?_)
              have HK := Lib.hid hK
              clear hK
              refine Go.wp_append_lies _ (.tmp 93) (.tmp 95) 24 rfl B 45 i0 (.agg #[.slice none 0 0, .slice none 0 0]) 2 48 Tryz.underlying24 hi hz0 hz1 hz2 rfl (by decide) (.slice ep m ec) m (vs.flatMap evCells) rfl HRW.out ⟨w2.heap.size, 0, none⟩ 1 1 [.slice cp x.1.length cc, .slice up x.2.length uc] rfl rfl HNW.out (by simp [Value.oneCell']) (by decide) (by unfold maxLen; omega) (by omega) (by have := HB2.out.size; have := HPB.out.1; simp; omega) _ rfl ?_
              intro g8 cap8 w8 hown8 hgrow0 hor8 hlt8
              have hgrow8 : (w2.drew.alloc (.cells #[.slice cp x.1.length cc, .slice up x.2.length uc] 45)).grownBy w8 (Value.slice ep m ec).ownBlock := hgrow0
              clear hgrow0
              have HA := Lib.hid (RSt.addEntry (W := w2.drew) (x := x) (c := .slice cp x.1.length cc) (u := .slice up x.2.length uc) HY.out.1 HY.out.2.1 HY.out.2.2.1 HY.out.2.2.2.1 HS7.out.1 HS7.out.2.1 (by rw [← HM.out]; exact h4) HS7.out.2.2.2 HXS.out HY.out.2.2.2.2.1 HY.out.2.2.2.2.2 (by rw [← HM.out]; exact hgrow8) (by rw [← HM.out]; exact hown8))
              have hp8 : w8.heap[pb]? = (w2.drew.alloc (.cells #[.slice cp x.1.length cc, .slice up x.2.length uc] 45)).heap[pb]? := hgrow8.block pb (Nat.lt_of_lt_of_le hpl2 hbA.size) (fun e => by have := (HEB.out pb e.symm).1; have := HPB.out.2.1; omega)
              have hx8 : w8.heap[xb]? = (w2.drew.alloc (.cells #[.slice cp x.1.length cc, .slice up x.2.length uc] 45)).heap[xb]? := hgrow8.block xb (Nat.lt_of_lt_of_le yl2 hbA.size) (fun e => by have := (HEB.out xb e.symm).2; omega)
              have hr8 : Rd8 w8 pb (st.1.getD []) (.slice rp st.2.1.length rc) (.slice ep st.2.2.length ec) st.1.isSome := hp8.trans ((hbA.block pb hpl2).trans HY.out.1)
              obtain ⟨_, _, d8, _, fz8, hpl8⟩ := hr8.cells
              rw [← HM.out] at d8
              have fz82 := fz8 2
              have HS8 : Hid (w8.cell? ⟨pb, 2, none⟩ = some (.slice ep m ec) ∧ w8.cell? ⟨xb, 0, none⟩ = some (.slice cp x.1.length cc) ∧ w8.cell? ⟨xb, 1, none⟩ = some (.slice up x.2.length uc)) :=
                ⟨d8, (World.cell?_of_block (a := ⟨xb, 0, none⟩) hx8).trans HSA.out.2.1, (World.cell?_of_block (a := ⟨xb, 1, none⟩) hx8).trans HSA.out.2.2⟩
              have HB8 : Hid (Only (fun k => k = pb ∨ B ≤ k) w w8) := ps_grown (((Only.refl (fun k => k = pb ∨ B ≤ k) w).below HB2.out).below' hbA) hgrow8 (fun j hj => .inr (HEB.out j hj).1)
              refine HK.out _ _ HS8.out ?_
              clear HK hown8 hgrow8 hor8 hlt8 hp8 hx8 hr8 fz8 d2 z0 z1 yl2 hpl2 hS0 hbA
              (try simp only [Act.put, List.setIfInBounds_toArray, List.set_cons_zero, List.set_cons_succ])
              refine sOne (i := 9) (by kernel_rfl) rfl (by rfl) (fun K hK => ?_); have HK := Lib.hid hK; clear hK; go_simp
              refine HK.out _ _ HS8.out ?_
              clear HK
              (try simp only [Act.put, List.setIfInBounds_toArray, List.set_cons_zero, List.set_cons_succ])
              refine sOne (i := 10) (by kernel_rfl) rfl (by rfl) (fun K hK => ?_); have HK := Lib.hid hK; clear hK; go_simp
              refine HK.out _ _ HS8.out ?_
              clear HK
              (try simp only [Act.put, List.setIfInBounds_toArray, List.set_cons_zero, List.set_cons_succ])
              refine sOne (i := 11) (by kernel_rfl) rfl (by rfl) (fun K hK => ?_); have HK := Lib.hid hK; clear hK; go_simp
              refine HK.out _ _ HS8.out ?_
              clear HK
              (try simp only [Act.put, List.setIfInBounds_toArray, List.set_cons_zero, List.set_cons_succ])
              refine sLast (by kernel_rfl) rfl (by rfl) (fun K hK => ?_)
              have HK := Lib.hid hK
              clear hK
              go_simp
              refine HK.out _ _ ?_
              clear HK
              (try simp only [Act.put, List.setIfInBounds_toArray, List.set_cons_zero, List.set_cons_succ])
              refine sDone (by kernel_rfl) ?_ _
              go_wp2_with fail
              go_ret
              exact ⟨HB8.out.setCell (p := ⟨pb, 2, none⟩) (.inl rfl) _, .inl ⟨_, HE.out, rfl, HA.out⟩⟩
end Go.Proofs.YtjbcbejedaeedaaGreatDoor
