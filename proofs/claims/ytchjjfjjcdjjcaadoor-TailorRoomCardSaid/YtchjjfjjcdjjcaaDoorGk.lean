/- Package tailor: a text is read: the walk. -/
import Derived.Test.YtchjjfjjcdjjcaaDoorGj
namespace Go.Proofs.YtchjjfjjcdjjcaaDoor
open Go.RowKit
open PlainAid (bt)

theorem Tryd.infoR : (Tryd.prog.info? 21).map (fun i => (i.zero, i.size, i.bytes)) = some (some (.int .i32 0), 1, 4) := by kernel_rfl
theorem skip_bd {s : ByteArray} {i : Nat} (hi : i ≤ s.size) (h : BD s i = none) : BD s (skipT s i) = none := by
  have key : ∀ n j, s.size - j ≤ n → j ≤ s.size → BD s j = none → BD s (skipF s n j) = none := by
    intro n
    induction n with
    | zero => intro j _ _ hb; exact hb
    | succ n ih =>
      intro j hn hj hb
      rw [skipF]
      split
      · rename_i hlt
        split
        · rename_i hbl
          have : bt s j < 128 := by unfold blank at hbl; simp at hbl; omega
          exact ih _ (by omega) (by omega) (bd_next hb hlt this)
        · split
          · rename_i h35
            have hg := eolT_gt s j hlt (by omega)
            have hle := eolT_le s j hj
            refine ih _ (by omega) hle (bd_ascii _ _ _ (Nat.le_refl _) hb (Nat.le_of_lt hg) hle (fun hl => ?_))
            unfold eolT at hl ⊢
            split
            · rename_i hq; rw [if_pos hq] at hl; omega
            · rename_i hq
              rw [if_neg hq] at hl
              obtain ⟨m, hm⟩ : ∃ m : Nat, Lib.indexByte (s.data.toList.drop j) 10 = m := ⟨_, (Int.toNat_of_nonneg (by omega)).symm⟩
              have h1 := (Lib.indexByte_some hm).1
              rw [hm, Int.toNat_natCast] at hl ⊢
              rw [list_bt, if_pos hl] at h1
              have h2 := congrArg UInt8.toNat (Option.some.inj h1)
              have h3 := PlainAid.bt_nonneg s (j + m)
              have h4 := PlainAid.bt_le s (j + m)
              rw [UInt8.toNat_ofNat'] at h2
              have h5 : (bt s (j + m)).toNat % 2 ^ 8 = (bt s (j + m)).toNat := Nat.mod_eq_of_lt (by omega)
              rw [h5] at h2
              have h6 : (UInt8.toNat 10) = 10 := rfl
              omega
          · exact hb
      · exact hb
  exact key _ _ (Nat.le_refl _) hi h
theorem skip_ge (s : ByteArray) (i : Nat) (hi : i ≤ s.size) : i ≤ skipT s i := by
  have key : ∀ n j, j ≤ s.size → j ≤ skipF s n j := by
    intro n
    induction n with
    | zero => intro j _; exact Nat.le_refl _
    | succ n ih =>
      intro j hj
      rw [skipF]
      split
      · rename_i hlt
        split
        · have := ih (j + 1) (by omega); omega
        · split
          · rename_i h35
            have := eolT_gt s j hlt (by omega)
            have := ih (eolT s j) (eolT_le s j hj); omega
          · exact Nat.le_refl _
      · exact Nat.le_refl _
  exact key _ _ hi
theorem skip_le (s : ByteArray) (i : Nat) (hi : i ≤ s.size) : skipT s i ≤ s.size := by
  have key : ∀ n j, j ≤ s.size → skipF s n j ≤ s.size := by
    intro n
    induction n with
    | zero => intro j h; exact h
    | succ n ih =>
      intro j hj
      rw [skipF]
      split
      · split
        · exact ih _ (by omega)
        · split
          · exact ih _ (eolT_le s j hj)
          · exact hj
      · exact hj
  exact key _ _ hi
theorem TxAt.form {s : ByteArray} {pb : Nat} {lv : Value} {w W : World} {j : Nat} {acc : List Int} {v : Value} (h : TxAt s pb lv w j acc v W) : ∃ p cap, v = .slice p acc.length cap := by
  rcases h.row.2 with ⟨rfl, h0⟩ | ⟨g, cap, cur, rfl, _⟩
  · exact ⟨none, 0, by rw [h0]⟩
  · exact ⟨_, _, rfl⟩
/-- how a text's reader ends -/
def TextEnd (s : ByteArray) (pb i : Nat) (lv : Value) (w : World) (e : Ending) (w' : World) : Prop :=
  Only (fun k => k = pb) w w' ∧
    ((∃ xs a v, textT s i = (some xs, a) ∧ e = .returned v ∧ Runes w.heap.size w' v xs ∧ xs ≠ [] ∧ xs.length ≤ s.size ∧ PsAt w' pb s a lv ∧ i ≤ a ∧ a ≤ s.size ∧ BD s a = none) ∨
      (∃ a : Nat, textT s i = (none, a) ∧ e = .panicked (chainT a 100)))
set_option maxHeartbeats 4000000 in
set_option maxRecDepth 100000 in
theorem text_any (s : ByteArray) (pb i : Nat) (lv : Value) (w : World) (h : PsAt w pb s i lv) (hi : i ≤ s.size) (hs : s.size ≤ 1000000) (hb : BD s i = none) :
    Calls Tryd.prog 37 #[.pointer (some ⟨pb, 0, none⟩)] w (TextEnd s pb i lv w) := by
  have hmf : ∀ (fn : Fn) (first cap : Array Value) (w : World), (Instr.makeFunc fn first cap).run Tryd.prog w = .ok (.func fn first cap) w := fun _ _ _ _ => rfl
  have hbt := PlainAid.get_bt s
  have HP := Lib.hid h
  have hpl := h.cells.2.2.2.2
  have hk := skip_any s pb i lv
  have hbk := skip_bd hi hb
  have HTT : Hid (textT s i = someT (textF s (s.size - skipT s i) (skipT s i) [])) := rfl
  have HSI : Hid (i ≤ skipT s i) := skip_ge s i hi
  clear h
  obtain ⟨i0, hti, hz0, hz1, hz2⟩ := info_parts Tryd.infoR
  go_enter Tryd.func37, Tryd.ntmps37
  go_wp2_with (go_at_call 17; refine (hk _ HP.out hi hs).mono ?_; rintro e w1 ⟨rfl, hp1, hle1, ho1⟩)
  generalize skipT s i = i1 at *
  have HP1 := Lib.hid hp1
  have HO1 := Lib.hid ho1
  clear hk hp1 ho1 HP
  have hpl1 : pb < w1.heap.size := Nat.lt_of_lt_of_le hpl HO1.out.size
  go_loopg [3] (s.size - i1) (fun g lv3 wr => ∃ (j : Nat) (acc : List Int), TxAt s pb lv w1 j acc lv3 wr ∧ j ≤ s.size ∧ i1 ≤ j ∧ s.size - j ≤ g ∧ BD s j = none ∧ textF s g j acc = textF s (s.size - i1) i1 [] ∧ acc.length ≤ j)
  case atStart => exact ⟨i1, [], ⟨World.ownsRow_nil _ _ _ _, HP1.out, Only.refl _ _, hpl1⟩, hle1, Nat.le_refl _, Nat.le_refl _, hbk, rfl, Nat.zero_le _⟩
  case round =>
    obtain ⟨j, acc, hT, hj, hij, hjg, hbj, hF, hal⟩ := hrel
    have HT := Lib.hid hT
    have HF := Lib.hid hF
    obtain ⟨c0, c1, c2, cf, _⟩ := hT.ps.cells
    have f1 := cf 1
    clear hT hF cf
    by_cases hlt : j < s.size
    · have hlt' : decide (j < s.size) = true := decide_eq_true hlt
      have hlz : decide ((j : Int) < (s.size : Int)) = true := decide_eq_true (by omega)
      go_wp2_with fail
      go_quiet (fail)
      go_wp2_with fail
      go_quiet (fail)
      obtain ⟨g, rfl⟩ : ∃ g, gk = g + 1 := ⟨gk - 1, by omega⟩
      have HEQ : Hid (textF s (g + 1) j acc = if bt s j = 92 then (match escT s j with | none => (none, j) | some x => textF s g (j + x.2) (acc ++ [x.1]))
          else if bt s j = 39 then (match quoT s j with | none => (none, j) | some x => textF s g (j + x.2) (acc ++ x.1))
          else if stopB (bt s j) = true then (some acc, j) else textF s g (j + fmN s j) (acc ++ [fmR s j])) := by
        show _ = _
        rw [textF, if_pos hlt]; rfl
      have hesc := fun x m (h : escT s j = some (x, m)) (h92 : bt s j = 92) => esc_some h hlt h92 hbj
      have hquo := fun x m (h : quoT s j = some (x, m)) (h39 : bt s j = 39) => quo_some h hlt h39 hbj
      obtain ⟨q, hq⟩ : ∃ q, Lib.indexByte (⟨#[32, 9, 10, 38, 60, 61, 47, 35]⟩ : ByteArray).data.toList (bt s j).toNat.toUInt8 = q := ⟨_, rfl⟩
      have hst : decide (0 ≤ q) = stopB (bt s j) := by rw [← hq]; exact stop_is (bt s j) (PlainAid.bt_nonneg s j) (PlainAid.bt_le s j)
      have HQQ := Lib.hid hq
      clear hq
      have HESC := Lib.hid hesc
      have HQUO := Lib.hid hquo
      have HST := Lib.hid hst
      have HCH := Lib.hid (And.intro (PlainAid.bt_nonneg s j) (PlainAid.bt_le s j))
      clear hesc hquo hst c0 c1 c2
      by_cases h92 : bt s j = 92
      · have e92 : (bt s j == 92) = true := by simpa using h92
        rw [if_pos h92] at HEQ
        go_wp2_with fail
        refine (escape_any s pb j lv _ (HT.out.ps.drewN _) hlt hs h92).mono ?_
        rintro e w5 ⟨ho5, ⟨x, m, he, rfl, hp5⟩ | ⟨he, rfl⟩⟩
        · have hfac := HESC.out x m he h92
          have HEF : Hid (textF s g (j + m) (acc ++ [x]) = textF s (s.size - i1) i1 []) := by
            show _ = _
            rw [← HF.out, HEQ.out, he]
          have HT5 := Lib.hid ((HT.out.drewN _).call ho5 hp5)
          have HT6 := Lib.hid (HT5.out.below ((Below.refl _ w5).alloc (Nat.le_refl _) (.cells #[.int .i32 x] 21)))
          have hsz := HT6.out.only.size
          have HFAC := Lib.hid hfac
          clear he hfac ho5 hp5 HEQ HESC HQUO HT e92 h92 HST HF
          go_wp2_with (at_builtin; refine gStop ⟨_, _, rfl⟩ ?_)
          refine Lib.hid ?_
          refine wpList_append_own_at _ rfl _ _ 43 rfl w1.heap.size 21 i0 (.int .i32 0) 1 4 Tryd.underlying43 hti hz0 hz1 hz2 rfl (by decide) _ acc.length (acc.map (Value.int .i32)) rfl HT6.out.row ⟨w5.heap.size, 0, none⟩ 1 1 [.int .i32 x] rfl rfl (gCells _ _ _) (by simp [Value.oneCell']) (by unfold maxLen; omega) (by omega) hsz ?_
          intro v7 w7 hrow7 hg7 _ _
          have HT7 := Lib.hid (HT6.out.app (acc' := acc ++ [x]) (by rw [List.length_append, List.map_append]; exact hrow7) hg7)
          clear hrow7 hg7 HT6 HT5 hsz
          go_wp2_with fail
          go_roundg g
          case measure => omega
          case rel => exact ⟨j + m, acc ++ [x], HT7.out, HFAC.out.2.1, by omega, by have := HFAC.out.1; omega, HFAC.out.2.2.1, HEF.out, by have := HFAC.out.1; simp; omega⟩
        · have HE : Hid (textT s i = (none, j)) := by
            show _ = _
            rw [HTT.out, ← HF.out, HEQ.out, he]; rfl
          exact ⟨rfl, (HO1.out.trans (HT.out.only)).trans ((only_drewN (Only.refl _ _) _).trans ho5), .inr ⟨j, HE.out, rfl⟩⟩
      · have e92 : (bt s j == 92) = false := by simpa using h92
        rw [if_neg h92] at HEQ
        clear h92 HESC
        by_cases h39 : bt s j = 39
        · have e39 : (bt s j == 39) = true := by simpa using h39
          rw [if_pos h39] at HEQ
          go_wp2_with fail
          refine (quote_any s pb j lv _ (HT.out.ps.drewN _) hlt hs h39 hbj).mono ?_
          rintro e w5 ⟨ho5, ⟨x, m, v, he, rfl, hr5, hp5⟩ | ⟨he, rfl⟩⟩
          · have hfac := HQUO.out x m he h39
            have HEF : Hid (textF s g (j + m) (acc ++ x) = textF s (s.size - i1) i1 []) := by
              show _ = _
              rw [← HF.out, HEQ.out, he]
            have HT5 := Lib.hid ((HT.out.drewN _).call ho5 hp5)
            have hsz := HT5.out.only.size
            obtain ⟨b, o, cap, rfl, _, _, hcells⟩ := gPlace hr5 (List.length_pos_iff.2 hfac.2.2.2.1)
            have HFAC := Lib.hid hfac
            have HCL := Lib.hid (gNews hcells)
            have HXL : Hid (x.length ≤ 1000000) := by show _ ≤ _; omega
            clear he hfac ho5 hp5 HEQ HQUO HT e92 e39 h39 HST HF hr5 hcells
            go_wp2_with (at_builtin; refine gStop ⟨_, _, rfl⟩ ?_)
            refine Lib.hid ?_
            refine wpList_append_own_at _ rfl _ _ 43 rfl w1.heap.size 21 i0 (.int .i32 0) 1 4 Tryd.underlying43 hti hz0 hz1 hz2 rfl (by decide) _ acc.length (acc.map (Value.int .i32)) rfl HT5.out.row ⟨b, o, none⟩ x.length cap (x.map (Value.int .i32)) rfl (by simp) HCL.out (by simp [Value.oneCell']) (by unfold maxLen; have := HXL.out; omega) (by have := HXL.out; omega) hsz ?_
            intro v7 w7 hrow7 hg7 _ _
            have HT7 := Lib.hid (HT5.out.app (acc' := acc ++ x) (by rw [List.length_append, List.map_append]; exact hrow7) hg7)
            clear hrow7 hg7 HT5 hsz HCL
            go_wp2_with fail
            go_roundg g
            case measure => omega
            case rel => exact ⟨j + m, acc ++ x, HT7.out, HFAC.out.2.1, by omega, by have := HFAC.out.1; omega, HFAC.out.2.2.1, HEF.out, by have := HFAC.out; simp; omega⟩
          · have HE : Hid (textT s i = (none, j)) := by
              show _ = _
              rw [HTT.out, ← HF.out, HEQ.out, he]; rfl
            exact ⟨rfl, (HO1.out.trans (HT.out.only)).trans ((only_drewN (Only.refl _ _) _).trans ho5), .inr ⟨j, HE.out, rfl⟩⟩
        · have e39 : (bt s j == 39) = false := by simpa using h39
          rw [if_neg h39] at HEQ
          clear h39 HQUO
          cases hsb : stopB (bt s j) with
          | true =>
            rw [hsb, if_pos rfl] at HEQ
            rw [hsb] at HST
            have HFIN : Hid (textT s i = someT (some acc, j)) := by
              show _ = _
              rw [HTT.out, ← HF.out, HEQ.out]
            have HT5 := Lib.hid (fun n => HT.out.drewN n)
            obtain ⟨_, c1, _, _, _⟩ := HT.out.ps.cells
            obtain ⟨p3, cap3, rfl⟩ := HT.out.form
            obtain ⟨n3, hn3⟩ : ∃ n3, n3 = acc.length := ⟨_, rfl⟩
            rw [← hn3]
            have HN3 := Lib.hid hn3
            clear hn3
            have g1 : 0 ≤ q := of_decide_eq_true HST.out
            by_cases hz : n3 = 0
            · have hzz : decide (0 < n3) = false := decide_eq_false (by omega)
              have HE : Hid (textT s i = (none, j)) := by
                show _ = _
                rw [HFIN.out, List.eq_nil_of_length_eq_zero (HN3.out.symm.trans hz)]; rfl
              clear hz
              go_wp2_with (first | (go_at_call 34; refine (indexByte_any _ _ _).mono ?_; rintro e w5 ⟨rfl, rfl⟩; rw [HQQ.out]) | (go_at_call 36; refine (must_no _ _ _).mono ?_; rintro e w' ⟨rfl, rfl⟩))
              exact ⟨rfl, HO1.out.trans (HT5.out _).only, .inr ⟨j, HE.out, rfl⟩⟩
            · have hzz : decide (0 < n3) = true := decide_eq_true (by omega)
              have HE : Hid (textT s i = (some acc, j) ∧ acc ≠ []) := by
                have hne : acc ≠ [] := fun e => hz (by have := HN3.out; rw [e] at this; exact this)
                refine ⟨?_, hne⟩
                rw [HFIN.out, someT, if_neg hne]
              clear hz
              go_wp2_with (first | (go_at_call 34; refine (indexByte_any _ _ _).mono ?_; rintro e w5 ⟨rfl, rfl⟩; rw [HQQ.out]) | (go_at_call 36; refine (must_ok _ _ _).mono ?_; rintro e w' ⟨rfl, rfl⟩))
              go_ret
              refine ⟨HO1.out.trans (HT5.out _).only, .inl ⟨acc, j, _, HE.out.1, rfl, ?_, HE.out.2, by have := HN3.out; omega, (HT5.out _).ps, by have := HSI.out; omega, hj, hbj⟩⟩
              rw [HN3.out]
              exact (gRunes (HT5.out _).row).mono HO1.out.size
          | false =>
            have hfac := bd_step hbj hlt
            have HEF : Hid (textF s g (j + fmN s j) (acc ++ [fmR s j]) = textF s (s.size - i1) i1 []) := by
              show _ = _
              rw [← HF.out, HEQ.out, hsb, if_neg (by simp)]
            have g1 : ¬ 0 ≤ q := of_decide_eq_false (HST.out.trans hsb)
            have hnx : ∀ W : World, Calls Tryd.prog 57 #[.string s, .int .i64 j] W fun e w' => e = .returned (.tuple #[.int .i32 (fmR s j), .int .i64 (fmN s j), .int .i64 (erN (fmN s j))]) ∧ Below W.heap.size W w' := fun W => next_in s j W (by omega) hlt
            have HNX := Lib.hid hnx
            have HFAC := Lib.hid hfac
            clear hnx hfac hsb
            go_wp2_with (go_at_call 34; refine (indexByte_any _ _ _).mono ?_; rintro e w5 ⟨rfl, h5⟩; rw [HQQ.out]; have HT5 := Lib.hid (show TxAt s pb lv w1 j acc u3 w5 from h5 ▸ HT.out.drewN _); clear h5; obtain ⟨c0, c1, _, cf5, hlw⟩ := HT5.out.ps.cells; have f5 := cf5 1; clear cf5)
            refine wp_region_over (by kernel_rfl) (by kernel_rfl) ?_; (repeat (go_big_quiet_step (((go_at_call 57; exact over_of (HNX.out _)))))); refine wpQuiet_nil ?_; intro w2 hb2
            have HT6 := Lib.hid (HT5.out.below hb2)
            have HT7 := Lib.hid (HT6.out.below ((Below.refl _ w2).alloc (Nat.le_refl _) (.cells #[.int .i32 (fmR s j)] 21)))
            have hsz := HT7.out.only.size
            have hfl := fmN_le s j
            clear hb2 HT5 HNX c0 c1 f5 hlw
            generalize fmR s j = r at *
            generalize fmN s j = m at *
            generalize erN m = em at *
            go_wp2_with (at_builtin; refine gStop ⟨_, _, rfl⟩ ?_)
            refine Lib.hid ?_
            refine wpList_append_own_at _ rfl _ _ 43 rfl w1.heap.size 21 i0 (.int .i32 0) 1 4 Tryd.underlying43 hti hz0 hz1 hz2 rfl (by decide) _ acc.length (acc.map (Value.int .i32)) rfl HT7.out.row ⟨w2.heap.size, 0, none⟩ 1 1 [.int .i32 r] rfl rfl (gCells _ _ _) (by simp [Value.oneCell']) (by unfold maxLen; omega) (by omega) hsz ?_
            intro v7 w7 hrow7 hg7 _ _
            have HT8 := Lib.hid (HT7.out.app (acc' := acc ++ [r]) (by rw [List.length_append, List.map_append]; exact hrow7) hg7)
            clear hrow7 hg7 HT7 HT6 hsz
            obtain ⟨c0, c1, _, cf8, hlw⟩ := HT8.out.ps.cells
            have f8 := cf8 1
            clear cf8 c0
            go_wp2_with fail
            go_roundg g
            case measure => omega
            case rel =>
              refine ⟨j + m, acc ++ [r], ?_, HFAC.out.2.2, by omega, by have := HFAC.out.1; omega, HFAC.out.2.1, HEF.out, by have := HFAC.out.1; simp; omega⟩
              rw [show (j : Int) + (m : Int) = ((j + m : Nat) : Int) from by omega]
              exact HT8.out.go (j + m)
    · have hlt' : decide (j < s.size) = false := decide_eq_false hlt
      have hlz : decide ((j : Int) < (s.size : Int)) = false := decide_eq_false (by omega)
      have HFIN : Hid (textT s i = someT (some acc, j)) := by
        show _ = _
        rw [HTT.out, ← HF.out]
        cases gk with
        | zero => rfl
        | succ n => rw [textF, if_neg hlt]
      have HQQ : Hid True := trivial
      go_wp2_with fail
      go_quiet (fail)
      have HT5 := Lib.hid (fun n => HT.out.drewN n)
      obtain ⟨p3, cap3, rfl⟩ := HT.out.form
      obtain ⟨n3, hn3⟩ : ∃ n3, n3 = acc.length := ⟨_, rfl⟩
      rw [← hn3]
      have HN3 := Lib.hid hn3
      clear hn3
      by_cases hz : n3 = 0
      · have hzz : decide (0 < n3) = false := decide_eq_false (by omega)
        have HE : Hid (textT s i = (none, j)) := by
          show _ = _
          rw [HFIN.out, List.eq_nil_of_length_eq_zero (HN3.out.symm.trans hz)]; rfl
        clear hz
        go_wp2_with (first | (go_at_call 36; refine (must_no _ _ _).mono ?_; rintro e w' ⟨rfl, rfl⟩))
        exact ⟨rfl, HO1.out.trans (HT5.out _).only, .inr ⟨j, HE.out, rfl⟩⟩
      · have hzz : decide (0 < n3) = true := decide_eq_true (by omega)
        have HE : Hid (textT s i = (some acc, j) ∧ acc ≠ []) := by
          have hne : acc ≠ [] := fun e => hz (by have := HN3.out; rw [e] at this; exact this)
          refine ⟨?_, hne⟩
          rw [HFIN.out, someT, if_neg hne]
        clear hz
        go_wp2_with (first | (go_at_call 36; refine (must_ok _ _ _).mono ?_; rintro e w' ⟨rfl, rfl⟩))
        go_ret
        refine ⟨HO1.out.trans (HT5.out _).only, .inl ⟨acc, j, _, HE.out.1, rfl, ?_, HE.out.2, by have := HN3.out; omega, (HT5.out _).ps, by have := HSI.out; omega, hj, hbj⟩⟩
        rw [HN3.out]
        exact (gRunes (HT5.out _).row).mono HO1.out.size
end Go.Proofs.YtchjjfjjcdjjcaaDoor
