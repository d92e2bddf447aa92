/- The reference's reader of rules: texts. -/
import Derived.Test.YtchjjfjjcdjjcaaDoorHf
namespace Go.Proofs.YtchjjfjjcdjjcaaDoor
open Go.RowKit
open PlainAid (bt)

/-- how the reference's reader of texts ends -/
def RtxEnd (s : ByteArray) (pb i : Nat) (w : World) (e : Ending) (w' : World) : Prop :=
  Only (fun k => k = pb) w w' ∧
    ((∃ xs j v a, textT s i = (some xs, j) ∧ e = .returned v ∧ Runes w.heap.size w' v xs ∧ xs ≠ [] ∧ xs.length ≤ s.size ∧ RdAt w' pb s j a 0 ∧ i ≤ j ∧ j ≤ s.size ∧ BD s j = none) ∨
      (∃ (j k : Nat) (v : Option Addr) (n : Nat), textT s i = (none, j) ∧ e = .returned (.slice v 0 n) ∧ (n ≤ maxLen) ∧ RdAt w' pb s k j 100 ∧ k ≤ s.size))
theorem plain_stop {c : Int} (h0 : 0 ≤ c) (h1 : c ≤ 255) (h92 : c ≠ 92) (h39 : c ≠ 39) : (!specL.contains c) = !stopB c := by
  rw [spec_is c h0 h1]
  have a1 : (c == 39) = false := by simpa using h39
  have a2 : (c == 92) = false := by simpa using h92
  rw [a1, a2]; simp
set_option maxHeartbeats 8000000 in
set_option maxRecDepth 100000 in
theorem rtext_any (s : ByteArray) (pb i : Nat) (a : Int) (w : World) (h : RdAt w pb s i a 0) (hi : i ≤ s.size) (hs : s.size ≤ 1000000) (hb : BD s i = none) :
    Calls Tryd.prog 22 #[.pointer (some ⟨pb, 0, none⟩)] w (RtxEnd s pb i w) := by
  have hbt := PlainAid.get_bt s
  have HP := Lib.hid h
  have hpl := h.cells.2.2.2.2.2
  have hk := rskip_any s pb i a 0
  have hbk := skip_bd hi hb
  have hle1 := skip_le s i hi
  have HTT : Hid (textT s i = someT (textF s (s.size - skipT s i) (skipT s i) [])) := rfl
  have HSI : Hid (i ≤ skipT s i) := skip_ge s i hi
  clear h
  obtain ⟨i0, hti, hz0, hz1, hz2⟩ := info_parts Tryd.infoR
  go_enter Tryd.func22, Tryd.ntmps22
  go_wp2_with (go_at_call 20; refine (hk _ HP.out hi hs).mono ?_; rintro e w1 ⟨rfl, hp1, ho1⟩)
  generalize skipT s i = i1 at *
  have HP1 := Lib.hid hp1
  have HO1 := Lib.hid ho1
  clear hk hp1 ho1 HP
  have hpl1 : pb < w1.heap.size := Nat.lt_of_lt_of_le hpl HO1.out.size
  go_loopg [3] (s.size - i1) (fun g lv3 wr => ∃ (j : Nat) (acc : List Int), RxAt s pb a 0 w1 j acc lv3 wr ∧ j ≤ s.size ∧ i1 ≤ j ∧ s.size - j ≤ g ∧ BD s j = none ∧ textF s g j acc = textF s (s.size - i1) i1 [] ∧ acc.length ≤ j)
  case atStart => exact ⟨i1, [], ⟨World.ownsRow_nil _ _ _ _, HP1.out, Only.refl _ _, hpl1⟩, hle1, Nat.le_refl _, Nat.le_refl _, hbk, rfl, Nat.zero_le _⟩
  case round =>
    obtain ⟨j, acc, hT, hj, hij, hjg, hbj, hF, hal⟩ := hrel
    have HT := Lib.hid hT
    have HF := Lib.hid hF
    obtain ⟨c0, c1, c2, c3, cf, _⟩ := hT.rd.cells
    have f1 := cf 1
    clear hT hF cf c2
    by_cases hlt : j < s.size
    · have hlt' : decide (j < s.size) = true := decide_eq_true hlt
      have hlz : decide ((j : Int) < (s.size : Int)) = true := decide_eq_true (by omega)
      go_wp2_with fail
      go_quiet (fail)
      go_wp2_with fail
      go_quiet (fail)
      obtain ⟨g, rfl⟩ : ∃ g, gk = g + 1 := ⟨gk - 1, by omega⟩
      have HEQ : Hid (textF s (g + 1) j acc = if bt s j = 92 then (match escT s j with | none => (none, j) | some x => textF s g (j + x.2) (acc ++ [x.1]))
          else if bt s j = 39 then (match quoT s j with | none => (none, j) | some x => textF s g (j + x.2) (acc ++ x.1))
          else if stopB (bt s j) = true then (some acc, j) else textF s g (j + fmN s j) (acc ++ [fmR s j])) := by
        show _ = _
        rw [textF, if_pos hlt]; rfl
      have hesc := fun x m (h : escT s j = some (x, m)) (h92 : bt s j = 92) => esc_some h hlt h92 hbj
      have hquo := fun x m (h : quoT s j = some (x, m)) (h39 : bt s j = 39) => quo_some h hlt h39 hbj
      have HESC := Lib.hid hesc
      have HQUO := Lib.hid hquo
      have hcb := And.intro (PlainAid.bt_nonneg s j) (PlainAid.bt_le s j)
      have HCH := Lib.hid hcb
      clear hesc hquo hcb
      by_cases h92 : bt s j = 92
      · have e92 : (bt s j == 92) = true := by simpa using h92
        rw [if_pos h92] at HEQ
        go_wp2_with fail
        refine (rescape_any s pb j a 0 _ (HT.out.rd.drewN _) hlt hs h92).mono ?_
        rintro e w5 (⟨x, m, he, rfl, hp5, ho5⟩ | ⟨he, rfl, hp5, ho5⟩)
        · have hfac := HESC.out x m he h92
          have HEF : Hid (textF s g (j + m) (acc ++ [x]) = textF s (s.size - i1) i1 []) := by
            show _ = _
            rw [← HF.out, HEQ.out, he]
          have HT5 := Lib.hid ((HT.out.drewN _).call ho5 hp5)
          have HT6 := Lib.hid (HT5.out.below ((Below.refl _ w5).alloc (Nat.le_refl _) (.cells #[.int .i32 x] 21)))
          have hsz := HT6.out.only.size
          have HFAC := Lib.hid hfac
          clear he hfac ho5 hp5 HEQ HESC HQUO HT e92 h92 HF c0 c1 c3 f1
          go_wp2_with (at_builtin; refine gStop ⟨_, _, rfl⟩ ?_)
          refine Lib.hid ?_
          refine wpList_append_own_at _ rfl _ _ 43 rfl w1.heap.size 21 i0 (.int .i32 0) 1 4 Tryd.underlying43 hti hz0 hz1 hz2 rfl (by decide) _ acc.length (acc.map (Value.int .i32)) rfl HT6.out.row ⟨w5.heap.size, 0, none⟩ 1 1 [.int .i32 x] rfl rfl (gCells _ _ _) (by simp [Value.oneCell']) (by unfold maxLen; omega) (by omega) hsz ?_
          intro v7 w7 hrow7 hg7 _ _
          have HT7 := Lib.hid (HT6.out.app (acc' := acc ++ [x]) (by rw [List.length_append, List.map_append]; exact hrow7) hg7)
          clear hrow7 hg7 HT6 HT5 hsz
          go_wp2_with fail
          go_roundg g
          case measure => omega
          case rel => exact ⟨j + m, acc ++ [x], HT7.out, HFAC.out.2.1, by omega, by have := HFAC.out.1; omega, HFAC.out.2.2.1, HEF.out, by have := HFAC.out.1; simp; omega⟩
        · have HE : Hid (textT s i = (none, j)) := by
            show _ = _
            rw [HTT.out, ← HF.out, HEQ.out, he]; rfl
          have HON : Hid (Only (fun k => k = pb) w w5) := (HO1.out.trans (HT.out.only)).trans ((only_drewN (Only.refl _ _) _).trans ho5)
          have HR5 := Lib.hid hp5
          clear hp5 ho5 he HEQ HT HF e92 h92 HESC HQUO c0 c1 c3 f1
          go_wp2_with fail
          refine (rfail_ok s pb j a j _ HR5.out).mono ?_
          rintro e w6 ⟨rfl, hp6, ho6⟩
          have HR6 := Lib.hid hp6
          have HO6 := Lib.hid (HON.out.trans ho6)
          clear hp6 ho6 HR5 HON
          go_wp2_with fail
          go_ret
          exact ⟨HO6.out, .inr ⟨j, j, _, _, HE.out, rfl, Nat.zero_le _, HR6.out, hj⟩⟩
      · have e92 : (bt s j == 92) = false := by simpa using h92
        rw [if_neg h92] at HEQ
        have H92 := Lib.hid h92
        clear h92 HESC
        by_cases h39 : bt s j = 39
        · have e39 : (bt s j == 39) = true := by simpa using h39
          rw [if_pos h39] at HEQ
          go_wp2_with fail
          refine (rquote_any s pb j a 0 _ (HT.out.rd.drewN _) hlt hs h39 hbj).mono ?_
          rintro e w5 (⟨x, m, v, he, rfl, hr5, hp5, ho5⟩ | ⟨he, rfl, hp5, ho5⟩)
          · have hfac := HQUO.out x m he h39
            have HEF : Hid (textF s g (j + m) (acc ++ x) = textF s (s.size - i1) i1 []) := by
              show _ = _
              rw [← HF.out, HEQ.out, he]
            have HT5 := Lib.hid ((HT.out.drewN _).call ho5 hp5)
            have hsz := HT5.out.only.size
            obtain ⟨b, o, cap, rfl, _, _, hcells⟩ := gPlace hr5 (List.length_pos_iff.2 hfac.2.2.2.1)
            have HFAC := Lib.hid hfac
            have HCL := Lib.hid (gNews hcells)
            have HXL : Hid (x.length ≤ 1000000) := by show _ ≤ _; omega
            clear he hfac ho5 hp5 HEQ HQUO HT e92 e39 h39 HF hr5 hcells H92 c0 c1 c3 f1
            go_wp2_with (at_builtin; refine gStop ⟨_, _, rfl⟩ ?_)
            refine Lib.hid ?_
            refine wpList_append_own_at _ rfl _ _ 43 rfl w1.heap.size 21 i0 (.int .i32 0) 1 4 Tryd.underlying43 hti hz0 hz1 hz2 rfl (by decide) _ acc.length (acc.map (Value.int .i32)) rfl HT5.out.row ⟨b, o, none⟩ x.length cap (x.map (Value.int .i32)) rfl (by simp) HCL.out (by simp [Value.oneCell']) (by unfold maxLen; have := HXL.out; omega) (by have := HXL.out; omega) hsz ?_
            intro v7 w7 hrow7 hg7 _ _
            have HT7 := Lib.hid (HT5.out.app (acc' := acc ++ x) (by rw [List.length_append, List.map_append]; exact hrow7) hg7)
            clear hrow7 hg7 HT5 hsz HCL
            go_wp2_with fail
            go_roundg g
            case measure => omega
            case rel => exact ⟨j + m, acc ++ x, HT7.out, HFAC.out.2.1, by omega, by have := HFAC.out.1; omega, HFAC.out.2.2.1, HEF.out, by have := HFAC.out; simp; omega⟩
          · have HE : Hid (textT s i = (none, j)) := by
              show _ = _
              rw [HTT.out, ← HF.out, HEQ.out, he]; rfl
            have HON : Hid (Only (fun k => k = pb) w w5) := (HO1.out.trans (HT.out.only)).trans ((only_drewN (Only.refl _ _) _).trans ho5)
            have HR5 := Lib.hid hp5
            clear hp5 ho5 he HEQ HT HF e92 h39 HQUO H92 c0 c1 c3 f1
            go_wp2_with fail
            refine (rfail_ok s pb j a j _ HR5.out).mono ?_
            rintro e w6 ⟨rfl, hp6, ho6⟩
            have HR6 := Lib.hid hp6
            have HO6 := Lib.hid (HON.out.trans ho6)
            clear hp6 ho6 HR5 HON
            go_wp2_with fail
            go_ret
            exact ⟨HO6.out, .inr ⟨j, j, _, _, HE.out, rfl, Nat.zero_le _, HR6.out, hj⟩⟩
        · have e39 : (bt s j == 39) = false := by simpa using h39
          rw [if_neg h39] at HEQ
          have HPL : Hid ((!specL.contains (bt s j)) = !stopB (bt s j)) := plain_stop HCH.out.1 HCH.out.2 H92.out h39
          clear h39 HQUO H92
          cases hsb : stopB (bt s j) with
          | true =>
            rw [hsb, if_pos rfl] at HEQ
            rw [hsb] at HPL
            have HFIN : Hid (textT s i = someT (some acc, j)) := by
              show _ = _
              rw [HTT.out, ← HF.out, HEQ.out]
            have HT5 := Lib.hid (fun n => HT.out.drewN n)
            obtain ⟨p3, cap3, rfl⟩ := HT.out.form
            obtain ⟨n3, hn3⟩ : ∃ n3, n3 = acc.length := ⟨_, rfl⟩
            rw [← hn3]
            have HN3 := Lib.hid hn3
            clear hn3 hsb
            by_cases hz : n3 = 0
            · have hzz : ((n3 : Int) == 0) = true := by rw [hz]; rfl
              have HZ := Lib.hid hz
              have HE : Hid (textT s i = (none, j)) := by
                show _ = _
                rw [HFIN.out, List.eq_nil_of_length_eq_zero (HN3.out.symm.trans hz)]; rfl
              clear hz
              go_wp2_with (first | (go_at_call 42; refine (rplain_any _ _).mono ?_; rintro e w5 ⟨rfl, h5⟩; rw [HPL.out]; subst h5) | (go_at_call 40; refine (rfail_ok s pb j a j _ (HT5.out _).rd).mono ?_; rintro e w6 ⟨rfl, hp6, ho6⟩))
              go_ret
              refine ⟨(HO1.out.trans (HT5.out _).only).trans ho6, .inr ⟨j, j, p3, cap3, HE.out, by rw [HZ.out]; rfl, ?_, hp6, hj⟩⟩
              have hrow := HT.out.row.2
              rcases hrow with ⟨e, _⟩ | ⟨g, cap, cur, e, _, _, _, h2, _⟩
              · injection e with _ _ e3; rw [e3]; exact Nat.zero_le _
              · injection e with _ _ e3; rw [e3]; exact h2
            · have hzz : ((n3 : Int) == 0) = false := by simp; omega
              have HE : Hid (textT s i = (some acc, j) ∧ acc ≠ []) := by
                have hne : acc ≠ [] := fun e => hz (by have := HN3.out; rw [e] at this; exact this)
                refine ⟨?_, hne⟩
                rw [HFIN.out, someT, if_neg hne]
              clear hz
              go_wp2_with (go_at_call 42; refine (rplain_any _ _).mono ?_; rintro e w5 ⟨rfl, h5⟩; rw [HPL.out]; subst h5)
              go_ret
              refine ⟨HO1.out.trans (HT5.out _).only, .inl ⟨acc, j, _, a, HE.out.1, rfl, ?_, HE.out.2, by have := HN3.out; omega, (HT5.out _).rd, by have := HSI.out; omega, hj, hbj⟩⟩
              rw [HN3.out]
              exact (gRunes (HT5.out _).row).mono HO1.out.size
          | false =>
            have hfac := bd_step hbj hlt
            rw [hsb] at HPL
            have HEF : Hid (textF s g (j + fmN s j) (acc ++ [fmR s j]) = textF s (s.size - i1) i1 []) := by
              show _ = _
              rw [← HF.out, HEQ.out, hsb, if_neg (by simp)]
            have hnx : ∀ W : World, Calls Tryd.prog 43 #[.string s, .int .i64 j] W fun e w' => e = .returned (.tuple #[.int .i32 (fmR s j), .int .i64 (fmN s j), .int .i64 (erN (fmN s j))]) ∧ Below W.heap.size W w' := fun W => rnext_in s j W (by omega) hlt
            have HNX := Lib.hid hnx
            have HFAC := Lib.hid hfac
            clear hnx hfac hsb f1
            go_wp2_with (go_at_call 42; refine (rplain_any _ _).mono ?_; rintro e w5 ⟨rfl, h5⟩; rw [HPL.out]; have HT5 := Lib.hid (show RxAt s pb a 0 w1 j acc u3 w5 from h5 ▸ HT.out.drewN _); clear h5; obtain ⟨d0, d1, _, _, cf5, hlw⟩ := HT5.out.rd.cells; have f5 := cf5 1; clear cf5)
            refine wp_region_over (by kernel_rfl) (by kernel_rfl) ?_; (repeat (go_big_quiet_step (((go_at_call 43; exact over_of (HNX.out _)))))); refine wpQuiet_nil ?_; intro w2 hb2
            have HT6 := Lib.hid (HT5.out.below hb2)
            have HT7 := Lib.hid (HT6.out.below ((Below.refl _ w2).alloc (Nat.le_refl _) (.cells #[.int .i32 (fmR s j)] 21)))
            have hsz := HT7.out.only.size
            have hfl := fmN_le s j
            clear hb2 HT5 HNX c0 c1 c3 d0 d1 f5 hlw
            generalize fmR s j = r at *
            generalize fmN s j = m at *
            generalize erN m = em at *
            go_wp2_with (at_builtin; refine gStop ⟨_, _, rfl⟩ ?_)
            refine Lib.hid ?_
            refine wpList_append_own_at _ rfl _ _ 43 rfl w1.heap.size 21 i0 (.int .i32 0) 1 4 Tryd.underlying43 hti hz0 hz1 hz2 rfl (by decide) _ acc.length (acc.map (Value.int .i32)) rfl HT7.out.row ⟨w2.heap.size, 0, none⟩ 1 1 [.int .i32 r] rfl rfl (gCells _ _ _) (by simp [Value.oneCell']) (by unfold maxLen; omega) (by omega) hsz ?_
            intro v7 w7 hrow7 hg7 _ _
            have HT8 := Lib.hid (HT7.out.app (acc' := acc ++ [r]) (by rw [List.length_append, List.map_append]; exact hrow7) hg7)
            clear hrow7 hg7 HT7 HT6 hsz
            obtain ⟨c0, c1, _, _, cf8, hlw⟩ := HT8.out.rd.cells
            have f8 := cf8 1
            clear cf8 c0
            go_wp2_with fail
            go_roundg g
            case measure => omega
            case rel =>
              refine ⟨j + m, acc ++ [r], ?_, HFAC.out.2.2, by omega, by have := HFAC.out.1; omega, HFAC.out.2.1, HEF.out, by have := HFAC.out.1; simp; omega⟩
              rw [show (j : Int) + (m : Int) = ((j + m : Nat) : Int) from by omega]
              exact HT8.out.go (j + m)
    · have hlt' : decide (j < s.size) = false := decide_eq_false hlt
      have hlz : decide ((j : Int) < (s.size : Int)) = false := decide_eq_false (by omega)
      have HFIN : Hid (textT s i = someT (some acc, j)) := by
        show _ = _
        rw [HTT.out, ← HF.out]
        cases gk with
        | zero => rfl
        | succ n => rw [textF, if_neg hlt]
      obtain ⟨p3, cap3, rfl⟩ := HT.out.form
      have HT5 := Lib.hid (fun n => HT.out.drewN n)
      obtain ⟨n3, hn3⟩ : ∃ n3, n3 = acc.length := ⟨_, rfl⟩
      rw [← hn3]
      have HN3 := Lib.hid hn3
      clear hn3
      by_cases hz : n3 = 0
      · have hzz : ((n3 : Int) == 0) = true := by rw [hz]; rfl
        have HZ := Lib.hid hz
        have HE : Hid (textT s i = (none, j)) := by
          show _ = _
          rw [HFIN.out, List.eq_nil_of_length_eq_zero (HN3.out.symm.trans hz)]; rfl
        clear hz
        go_wp2_with fail
        go_quiet (fail)
        go_wp2_with (go_at_call 40; refine (rfail_ok s pb j a j _ (HT5.out _).rd).mono ?_; rintro e w6 ⟨rfl, hp6, ho6⟩)
        go_ret
        refine ⟨(HO1.out.trans (HT5.out _).only).trans ho6, .inr ⟨j, j, p3, cap3, HE.out, by rw [HZ.out]; rfl, ?_, hp6, hj⟩⟩
        have hrow := HT.out.row.2
        rcases hrow with ⟨e, _⟩ | ⟨g, cap, cur, e, _, _, _, h2, _⟩
        · injection e with _ _ e3; rw [e3]; exact Nat.zero_le _
        · injection e with _ _ e3; rw [e3]; exact h2
      · have hzz : ((n3 : Int) == 0) = false := by simp; omega
        have HE : Hid (textT s i = (some acc, j) ∧ acc ≠ []) := by
          have hne : acc ≠ [] := fun e => hz (by have := HN3.out; rw [e] at this; exact this)
          refine ⟨?_, hne⟩
          rw [HFIN.out, someT, if_neg hne]
        clear hz
        go_wp2_with fail
        go_quiet (fail)
        go_wp2_with fail
        go_ret
        refine ⟨HO1.out.trans (HT5.out _).only, .inl ⟨acc, j, _, a, HE.out.1, rfl, ?_, HE.out.2, by have := HN3.out; omega, (HT5.out _).rd, by have := HSI.out; omega, hj, hbj⟩⟩
        rw [HN3.out]
        exact (gRunes (HT5.out _).row).mono HO1.out.size
end Go.Proofs.YtchjjfjjcdjjcaaDoor
