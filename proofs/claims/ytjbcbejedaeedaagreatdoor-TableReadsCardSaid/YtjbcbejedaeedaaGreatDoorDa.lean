/- Package table: any line is read; the lines of a text, told: walked. Package table: the lines of a text, told to a loop: walked. Package table: a line under guard: walked. -/
import Derived.Test.YtjbcbejedaeedaaGreatDoorAz
import Derived.Test.YtjbcbejedaeedaaGreatDoorKc
import Derived.OwnWalkIn
import Derived.TacticsInMore
import Derived.LoopNIn
import Derived.LoopIn
/-! Package table: any line is read; the lines of a text, told: walked. -/
namespace Go.Proofs.YtjbcbejedaeedaaGreatDoor
open Go.RowKit
open PlainAid (bt)
attribute [local go_sem] Oper.semAt_some

theorem pline_any (B pb mb : Nat) (st : TSt) (s : ByteArray) (w : World) (hs : s.size ≤ 1000000) (hp : Prs B w pb mb st) (hB : B ≤ w.heap.size) (hm : ML w) (hrl : st.2.1.length < 5000000) :
    Calls Tryz.prog 20 #[.pointer (some ⟨pb, 0, none⟩), .string s] w (StepEnd B pb mb (stepW st s.data.toList) w) := by
  cases h : Lib.hasPrefix s.data.toList [64]
  · exact entryLine_any B pb mb st s w hs hp hB hm h
  · exact markLine_any B pb mb st s w hs hp hB hm hrl h
theorem lines_fn (s : ByteArray) (w : World) :
    Calls Tryz.prog 17 #[.string s] w fun e w' => e = .returned (.func (.func 41) #[] #[.pointer (some ⟨w.heap.size, 0, none⟩)]) ∧ w.alloc (.cells #[.string s] 9) = w' := by
  have hmf : ∀ (fn : Fn) (first cap : Array Value) (w : World), (Instr.makeFunc fn first cap).run Tryz.prog w = .ok (.func fn first cap) w := fun _ _ _ _ => rfl
  go_enter Tryz.func17, Tryz.ntmps17
  go_wp2
  go_ret
  exact ⟨rfl, rfl⟩
/-- rows of strings from block N on are as they were -/
def KeepS (N : Nat) (A B : World) : Prop := A.heap.size ≤ B.heap.size ∧ ∀ (k : Nat) c fr, N ≤ k → A.heap[k]? = some (.cells c 9 fr) → B.heap[k]? = some (.cells c 9 fr)
theorem KeepS.refl (N : Nat) (A : World) : KeepS N A A := ⟨Nat.le_refl _, fun _ _ _ _ h => h⟩
theorem KeepS.trans {N : Nat} {A B C : World} (h : KeepS N A B) (k : KeepS N B C) : KeepS N A C := ⟨Nat.le_trans h.1 k.1, fun i c fr hi ha => k.2 i c fr hi (h.2 i c fr hi ha)⟩
theorem KeepS.below {N : Nat} {A B : World} (h : Below A.heap.size A B) : KeepS N A B := ⟨h.size, fun i c fr _ ha => (h.block i (Array.getElem?_eq_some_iff.1 ha).1).trans ha⟩
theorem split2_any (s : ByteArray) (w : World) (hs : s.size < 4294967281) (hm : ML w) :
    Calls Tryz.prog 42 #[.string s, .string ⟨#[10]⟩] w fun e w' => e = .returned (.slice (some ⟨w.heap.size, 0, none⟩) (piecesW s.data.toList).length (piecesW s.data.toList).length) ∧ (∃ c, w'.heap[w.heap.size]? = some (.cells c 9 (0, 0)) ∧ ∀ (i : Nat) x, (piecesW s.data.toList)[i]? = some x → c[i]? = some (.string (mkB x))) ∧ Below w.heap.size w w' := by
  obtain ⟨⟨m, hm⟩, _⟩ := hm
  refine (Any.strings_Split (ρ := Tryz.lays146_ren) Tryz.lays146 Tryz.infoS9 s ⟨#[10]⟩ m w hs hm (by decide)).mono fun e w' ⟨h1', h2⟩ => ?_
  have hlen := Lib.splitB_all ⟨#[10]⟩ (by decide) 0 _ s rfl
  have hm2 := split_mkB s
  subst h2
  have hl2 : (piecesW s.data.toList).length = (Lib.splitB ⟨#[10]⟩ 0 (Lib.countB s ⟨#[10]⟩) s).length := by rw [hm2, List.length_map]
  refine ⟨?_, ⟨_, World.alloc_heap_new _ _, fun i x hx => ?_⟩, (Below.refl _ _).alloc (Nat.le_refl _) _⟩
  · rw [h1', hl2, hlen]
  · rw [List.getElem?_toArray, List.getElem?_map, hm2, List.getElem?_map, hx]; rfl
/-- the rounds -/
def stepL (l : Bs) (i : Nat) (_ : World) (vs : Array Value) (j : Nat) : Prop := ∃ x, (linesW l)[i]? = some x ∧ vs = #[.int .i64 (x.1 : Int), .string (mkB x.2)] ∧ j = i + 1
end Go.Proofs.YtjbcbejedaeedaaGreatDoor
/-! Package table: the lines of a text, told to a loop: walked. -/
namespace Go.Proofs.YtjbcbejedaeedaaGreatDoor
open Go.RowKit
open PlainAid (bt)
attribute [local go_sem] Oper.semAt_some

theorem lineOf_def (l : Bs) : lineOf l = trimW (Lib.cut (Lib.trimSuffix l [13]) [35]).1 := rfl
theorem suffix_le (l : Bs) : (Lib.trimSuffix l [13]).length ≤ l.length := by unfold Lib.trimSuffix; split <;> simp
theorem linesF_take {ps : List Bs} {k : Nat} {p : Bs} (h : ps[k]? = some p) : linesF 0 (ps.take (k + 1)) = linesF 0 (ps.take k) ++ (if lineOf p = [] then [] else [(k + 1, lineOf p)]) := by
  rw [take_snocR h, linesF_snoc]
  have hk := (List.getElem?_eq_some_iff.1 h).1
  rw [List.length_take, Nat.min_eq_left (Nat.le_of_lt hk), Nat.zero_add]
theorem linesF_pre (ps : List Bs) (k : Nat) : linesF 0 ps = linesF 0 (ps.take k) ++ linesF (0 + (ps.take k).length) (ps.drop k) := by rw [← linesF_append, List.take_append_drop]
/-- between two rounds: k lines are behind -/
def LnsRel (l : Bs) (A : Nat) (c : Array Value) (N : Nat) (W1 : World) (k : Nat) (W : World) (J : Nat → World → Prop) : Prop :=
  k ≤ (piecesW l).length ∧ J (linesF 0 ((piecesW l).take k)).length W ∧ W.heap[A]? = some (.cells c 9 (0, 0)) ∧ KeepS N W1 W
set_option maxHeartbeats 4000000 in
set_option maxRecDepth 100000 in
theorem lines1_iter (s : ByteArray) (hs : s.size ≤ 4194304) (b N : Nat) :
    IterR Tryz.prog 41 #[.pointer (some ⟨b, 0, none⟩)] N (KeepS N) Grows (stepL s.data.toList) (fun i => i = (linesW s.data.toList).length) 0
      (fun W => ML W ∧ W.cell? ⟨b, 0, none⟩ = some (.string s)) := by
  intro l J Jx W hN hJ hJx hPre hPreX hY h0
  obtain ⟨hm, hc⟩ := hPre _ _ h0
  have HSP := Lib.hid (split2_any s W (by omega) hm)
  have HPRE := Lib.hid hPre
  have HY := Lib.hid hY
  have HJ := Lib.hid hJ
  have HJ0 := Lib.hid h0
  have HN := Lib.hid hN
  have hcnt : (piecesW s.data.toList).length ≤ 4194305 := by have := pieces_count s.data.toList; rw [size_data] at this; omega
  have HLE : Hid (∀ p ∈ piecesW s.data.toList, p.length ≤ 4194304) := by
    show ∀ p, _
    intro p hp
    have := pieces_le _ p hp
    rw [size_data] at this; omega
  clear hm h0 hPre hPreX hJx hY hN hs
  refine callsIn_wide (n := 0) |>.1 ?_
  refine callsIn_of_wp Tryz.func41 rfl trivial ?_ rfl
  simp only [Tryz.ntmps41, List.size_toArray, List.length_cons, List.length_nil, Nat.reduceAdd, Nat.reduceSub, Array.replicate_succ, Array.replicate_zero, List.push_toArray, List.append_toArray, List.nil_append, List.cons_append]
  gi_wp2_with fail
  refine ⟨trivial, rfl, (callsIn_wide.2 HSP.out).mono ?_⟩
  rintro e W1 ⟨rfl, ⟨c, hA, hcc⟩, hb1⟩
  have HB1 : Hid (Grows W W1) := hb1
  have HA := Lib.hid hA
  have HCC := Lib.hid hcc
  have HNA : Hid (N ≤ W.heap.size) := HN.out
  generalize W.heap.size = A at *
  clear hb1 hA hcc HSP
  obtain ⟨n, hn⟩ : ∃ n, n = (piecesW s.data.toList).length := ⟨_, rfl⟩
  rw [← hn] at hcnt ⊢
  have HNN := Lib.hid hn
  clear hn
  gi_wp2_with fail
  have HJ1 : Hid (J 0 W1) := HJ.out _ _ _ HJ0.out HB1.out
  gi_loopw [8] (fun iv wr => ∃ k : Nat, iv = .int .i64 k ∧ k ≤ n ∧ LnsRel s.data.toList A c N W k wr J) (fun iv _ => n - (intOf iv).toNat)
  case atStart => exact ⟨0, rfl, Nat.zero_le _, Nat.zero_le _, HJ1.out, HA.out, KeepS.below (show Below W.heap.size W W1 from HB1.out)⟩
  case round =>
    obtain ⟨k, rfl, hkn, hr⟩ := hrel
    have HR := Lib.hid hr
    clear hr
    by_cases hlt : k < n
    · have g1 : (k : Int) < (n : Int) := by omega
      obtain ⟨p, hp⟩ : ∃ p, (piecesW s.data.toList)[k]? = some p := ⟨_, List.getElem?_eq_getElem (by have := HNN.out; omega)⟩
      have c0 : wr.cell? ⟨A, k, none⟩ = some (.string (mkB p)) := by
        have h1 := HR.out.2.2.1
        have h2 := HCC.out k p hp
        simp [World.cell?, h1, h2]
      have hAl : A < wr.heap.size := (Array.getElem?_eq_some_iff.1 HR.out.2.2.1).1
      have hpl := HLE.out p (List.mem_of_getElem? hp)
      have HTS : Hid (∀ w, Calls Tryz.prog 43 #[.string (mkB p), .string ⟨#[13]⟩] w fun e w' => e = .returned (.string (mkB (Lib.trimSuffix p [13]))) ∧ w = w') := by
        show ∀ w, _
        intro w
        have := trimSuffix_any (mkB p) ⟨#[13]⟩ w (by rw [size_mkB]; omega)
        rwa [data_mkB] at this
      have hl1 := suffix_le p
      have HCT : Hid (∀ w, ML w → Calls Tryz.prog 44 #[.string (mkB (Lib.trimSuffix p [13])), .string ⟨#[35]⟩] w fun e w' => e = .returned (.tuple #[.string (mkB (Lib.cut (Lib.trimSuffix p [13]) [35]).1), .string (mkB (Lib.cut (Lib.trimSuffix p [13]) [35]).2.1), .bool (Lib.cut (Lib.trimSuffix p [13]) [35]).2.2]) ∧ Below w.heap.size w w') := by
        show ∀ w, _
        intro w hm
        have := cutS_any (mkB (Lib.trimSuffix p [13])) ⟨#[35]⟩ w (by rw [size_mkB]; omega) hm
        rwa [data_mkB] at this
      have hl2 := (cut_le (Lib.trimSuffix p [13]) [35]).1
      have HTR : Hid (∀ w, Calls Tryz.prog 45 #[.string (mkB (Lib.cut (Lib.trimSuffix p [13]) [35]).1), .string ⟨#[32, 9]⟩] w fun e w' => e = .returned (.string (mkB (lineOf p))) ∧ Below w.heap.size w w') := by
        show ∀ w, _
        intro w
        have := trim_any (mkB (Lib.cut (Lib.trimSuffix p [13]) [35]).1) w (by rw [size_mkB]; omega)
        rwa [data_mkB] at this
      have HLT := Lib.hid (linesF_take hp)
      have HPP := Lib.hid hp
      have HPR : Hid (linesW s.data.toList = linesF 0 ((piecesW s.data.toList).take (k + 1)) ++ linesF (0 + ((piecesW s.data.toList).take (k + 1)).length) ((piecesW s.data.toList).drop (k + 1))) := linesF_pre _ _
      generalize Lib.cut (Lib.trimSuffix p [13]) [35] = ct at *
      obtain ⟨ct1, ct2, ct3⟩ := ct
      simp only at HCT HTR hl2
      generalize Lib.trimSuffix p [13] = ts at *
      generalize lineOf p = lp at *
      clear hl1 hl2 hpl hp
      gi_wp2_with fail
      refine ⟨trivial, rfl, (callsIn_wide.2 (HTS.out _)).mono ?_⟩
      rintro e w' ⟨rfl, rfl⟩
      gi_wp2_with fail
      refine ⟨trivial, rfl, (callsIn_wide.2 (HCT.out _ (HPRE.out _ _ HR.out.2.1).1)).mono ?_⟩
      rintro e w2 ⟨rfl, hb2⟩
      have HB2 := Lib.hid hb2
      clear hb2
      gi_wp2_with fail
      refine ⟨trivial, rfl, (callsIn_wide.2 (HTR.out _)).mono ?_⟩
      rintro e w3 ⟨rfl, hb3⟩
      have HB3 : Hid (Below wr.heap.size wr w3) := HB2.out.trans (hb3.mono HB2.out.size)
      have HJ3 := Lib.hid (HJ.out _ _ _ HR.out.2.1 HB3.out)
      have HA3 : Hid (w3.heap[A]? = some (.cells c 9 (0, 0))) := (HB3.out.block A hAl).trans HR.out.2.2.1
      have HK3 : Hid (KeepS N W w3) := HR.out.2.2.2.trans (KeepS.below HB3.out)
      clear hb3 c0
      by_cases hlp : lp = []
      · subst hlp
        have he : (mkB []).toList = [] := by rw [Lib.toList_data, data_mkB]
        have HLT2 : Hid (linesF 0 ((piecesW s.data.toList).take (k + 1)) = linesF 0 ((piecesW s.data.toList).take k)) := by
          show _ = _
          have := HLT.out
          rw [if_pos rfl, List.append_nil] at this; exact this
        gi_wp2_with fail
        refine ⟨fun f h => (by cases h), ?_⟩
        gi_wp2
        go_roundw
        case rel => exact ⟨k + 1, by go_num, hlt, by have := HNN.out; omega, by rw [HLT2.out]; exact HJ3.out, HA3.out, HK3.out⟩
        case measure => simp [intOf]; omega
      · have he := empty_mkB lp hlp
        have HLT2 : Hid (linesF 0 ((piecesW s.data.toList).take (k + 1)) = linesF 0 ((piecesW s.data.toList).take k) ++ [(k + 1, lp)]) := by
          show _ = _
          have := HLT.out
          rw [if_neg hlp] at this; exact this
        have hst : stepL s.data.toList (linesF 0 ((piecesW s.data.toList).take k)).length w3 #[.int .i64 ((k : Int) + 1), .string (mkB lp)] ((linesF 0 ((piecesW s.data.toList).take k)).length + 1) := by
          refine ⟨(k + 1, lp), ?_, by simp, rfl⟩
          have h1 := HPR.out
          rw [HLT2.out] at h1
          rw [h1, List.append_assoc, List.getElem?_append_right (Nat.le_refl _), Nat.sub_self]; rfl
        obtain ⟨fn, tmps, assign, body, hy, hR⟩ := HY.out _ _ _ _ HJ3.out hst
        have HRR := Lib.hid hR
        clear hlp hst hR
        gi_wp2
        refine ⟨rfl, HRR.out.mono ?_⟩
        rintro e w4 ⟨hk4, ⟨rfl, hj4⟩ | ⟨rfl, hjx⟩⟩
        · have HK4 : Hid (KeepS N W w4) := HK3.out.trans hk4
          have HA4 : Hid (w4.heap[A]? = some (.cells c 9 (0, 0))) := hk4.2 A c _ HNA.out HA3.out
          have HJ4 := Lib.hid hj4
          clear hk4 hj4
          gi_wp2
          go_roundw
          case rel => exact ⟨k + 1, by go_num, hlt, by have := HNN.out; omega, by rw [HLT2.out, List.length_append]; exact HJ4.out, HA4.out, HK4.out⟩
          case measure => simp [intOf]; omega
        · have HK4 : Hid (KeepS N W w4) := HK3.out.trans hk4
          have HJX := Lib.hid hjx
          clear hk4 hjx
          gi_wp2
          refine bodyPost_ret (results_none rfl _ _ _) rfl ?_
          exact ⟨⟨_, rfl⟩, HK4.out, .inr HJX.out⟩
    · have g1 : ¬ (k : Int) < (n : Int) := by omega
      obtain rfl : k = n := by omega
      have HE : Hid ((linesF 0 ((piecesW s.data.toList).take k)).length = (linesW s.data.toList).length) := by
        show _ = _
        rw [List.take_of_length_le (by rw [← HNN.out]; exact Nat.le_refl _)]; rfl
      clear hlt
      gi_wp2
      go_end0
      exact ⟨⟨_, rfl⟩, HR.out.2.2.2, .inl (by rw [← HE.out]; exact HR.out.2.1)⟩
end Go.Proofs.YtjbcbejedaeedaaGreatDoor
/-! Package table: a line under guard: walked. -/
namespace Go.Proofs.YtjbcbejedaeedaaGreatDoor
open Go.RowKit
open PlainAid (bt)

theorem codesW_ne {l : Bs} {z : Int} (h : codesW l = .error z) : z ≠ 0 := by
  unfold codesW at h
  repeat' split at h
  all_goals cases h
  all_goals decide
theorem elsF_ne : ∀ (n : Nat) (l : Bs) (z : Int), elsF n l = .error z → z ≠ 0
  | 0, l, z, h => by cases h
  | n + 1, l, z, h => by
    rw [elsF] at h
    split at h
    · cases h
    · split at h
      · cases h; decide
      · split at h
        · cases h; decide
        · split at h
          · cases h
          · rename_i e he; cases h; exact elsF_ne n _ _ he
theorem lineW_ne {l : Bs} {z : Int} (h : lineW l = .error z) : z ≠ 0 := by
  unfold lineW at h
  split at h
  · cases h; decide
  · split at h
    · cases h; decide
    · split at h
      · rename_i e he; cases h; exact codesW_ne he
      · split at h
        · rename_i e he; cases h; exact elsF_ne _ _ _ he
        · split at h
          · cases h
          · cases h; decide
theorem rangeW_ne {b : Bool} {l : Bs} {z : Int} (h : rangeW b l = .error z) : z ≠ 0 := by
  unfold rangeW at h
  repeat' split at h
  all_goals cases h
  all_goals decide
theorem markW_ne {st : TSt} {a b : Bs} {z : Int} (h : markW st a b = .error z) : z ≠ 0 := by
  unfold markW at h
  split at h
  · split at h
    · split at h
      · cases h
      · cases h; decide
    · cases h; decide
  · split at h
    · split at h
      · rename_i e he; cases h; exact rangeW_ne he
      · cases h
    · split at h
      · split at h
        · rename_i e he; cases h; exact rangeW_ne he
        · cases h
      · cases h; decide
theorem stepW_ne {st : TSt} {l : Bs} {z : Int} (h : stepW st l = .error z) : z ≠ 0 := by
  unfold stepW at h
  split at h
  · split at h
    · exact markW_ne h
    · cases h; decide
  · split at h
    · rename_i e he; cases h; exact lineW_ne he
    · split at h
      · cases h; decide
      · split at h
        · cases h
        · cases h; decide
theorem parse1_any (B pb mb px lx : Nat) (st : TSt) (s : ByteArray) (w : World) (hs : s.size ≤ 1000000) (hp : Prs B w pb mb st) (hB : B ≤ w.heap.size) (hm : ML w) (hrl : st.2.1.length < 5000000)
    (h1 : w.cell? ⟨px, 0, none⟩ = some (.pointer (some ⟨pb, 0, none⟩))) (h2 : w.cell? ⟨lx, 0, none⟩ = some (.string s)) :
    Calls Tryz.prog 19 #[.pointer (some ⟨px, 0, none⟩), .pointer (some ⟨lx, 0, none⟩)] w (StepEnd B pb mb (stepW st s.data.toList) w) := by
  have H := Lib.hid (pline_any B pb mb st s w hs hp hB hm hrl)
  generalize stepW st s.data.toList = r at *
  clear hs hp hB hm hrl
  go_enter Tryz.func19, Tryz.ntmps19
  go_wp2_with fail
  refine H.out.mono ?_
  rintro e w' ⟨hb, hk, ⟨st', rfl, rfl, hp'⟩ | ⟨z, rfl, rfl⟩⟩
  · have HH : Hid (StepEnd B pb mb (.ok st') w (.returned (.tuple #[])) w') := ⟨hb, hk, .inl ⟨st', rfl, rfl, hp'⟩⟩
    clear hb hk hp'
    go_wp2_with fail
    go_end0
    exact HH.out
  · exact ⟨rfl, hb, hk, .inr ⟨z, rfl, rfl⟩⟩
/-- how a guarded step ends -/
def GrdEnd (B pb mb : Nat) (r : Except Int TSt) (w : World) (e : Ending) (w' : World) : Prop :=
  Only (PS B pb mb) w w' ∧ PKeep pb mb w w' ∧ ((∃ st', r = .ok st' ∧ e = .returned (.int .i64 0) ∧ Prs B w' pb mb st') ∨ ∃ z, r = .error z ∧ e = .returned (.int .i64 z))
theorem TFrame.of_only {T : TypeId} {a b : World} {x : Nat} {c : Array Value} {fr : Nat × Nat} (h : Only (fun k => k = x) a b) (hx : a.heap[x]? = some (.cells c T fr)) : TFrame T a b :=
  ⟨h.size, fun k o hk hn => (h.block k (Array.getElem?_eq_some_iff.1 hk).1 (fun e => by subst e; rw [hx] at hk; cases hk; exact hn c fr rfl)).trans hk⟩
theorem gstep_any (B pb mb px lx : Nat) (st : TSt) (s : ByteArray) (w : World) (hs : s.size ≤ 1000000) (hp : Prs B w pb mb st) (hB : B ≤ w.heap.size) (hm : ML w) (hrl : st.2.1.length < 5000000)
    (h1 : w.cell? ⟨px, 0, none⟩ = some (.pointer (some ⟨pb, 0, none⟩))) (h2 : w.cell? ⟨lx, 0, none⟩ = some (.string s)) :
    Calls Tryz.prog 18 #[.func (.func 19) #[] #[.pointer (some ⟨px, 0, none⟩), .pointer (some ⟨lx, 0, none⟩)]] w (GrdEnd B pb mb (stepW st s.data.toList) w) := by
  have hpl := hp.lt hB
  have hb : Below w.heap.size w (w.alloc (.cells #[.int .i64 0] 27)) := (Below.refl _ w).alloc (Nat.le_refl _) _
  have hx : (w.alloc (.cells #[.int .i64 0] 27)).heap[w.heap.size]? = some (.cells #[.int .i64 0] 27 (0, 0)) := World.alloc_heap_new _ _
  have hc := parse1_any B pb mb px lx st s (w.alloc (.cells #[.int .i64 0] 27)) hs (hp.below hb) (Nat.le_trans hB hb.size) (hm.below hb) hrl ((hb.cell (p := ⟨px, 0, none⟩) (cell_lt h1)).trans h1) ((hb.cell (p := ⟨lx, 0, none⟩) (cell_lt h2)).trans h2)
  have hxk : ∀ w', PKeep pb mb (w.alloc (.cells #[.int .i64 0] 27)) w' → w'.heap[w.heap.size]? = some (.cells #[.int .i64 0] 27 (0, 0)) := fun w' hk =>
    hk.2 w.heap.size _ hx (by omega) (by omega) (fun c fr e => by injection e with _ e _; exact absurd e (by decide)) (fun c fr e => by injection e with _ e _; exact absurd e (by decide))
  refine (guardedT_any 19 _ _ w (enters_of Tryz.func19 (by kernel_rfl) rfl) hc ?_).mono ?_
  · rintro e w' ⟨ho, hk, h⟩
    have h3 := hxk w' hk
    refine ⟨?_, (Array.getElem?_eq_some_iff.1 h3).1, by simp [World.cell?, h3], by simp [World.frozen?, h3]⟩
    rcases h with ⟨st', _, rfl, _⟩ | ⟨z, _, rfl⟩
    · exact .inl rfl
    · exact .inr ⟨z, rfl⟩
  · rintro e w' ⟨e1, w1, ⟨ho, hk, h⟩, ho2, he⟩
    have h3 := hxk w1 hk
    have F := TFrame.of_only ho2 h3
    refine ⟨(((ps_below hb).trans ho)).trans (ps_only ho2 (fun k hk => .inr (.inr (by omega)))), ?_, ?_⟩
    · refine ⟨Nat.le_trans hb.size (Nat.le_trans hk.1 ho2.size), fun k o a1 a2 a3 a4 a5 => ?_⟩
      have hkl := (Array.getElem?_eq_some_iff.1 a1).1
      have b1 := hk.2 k o ((hb.block k hkl).trans a1) a2 a3 a4 a5
      exact (ho2.block k (Array.getElem?_eq_some_iff.1 b1).1 (by omega)).trans b1
    · rcases h with ⟨st', hr, rfl, hp'⟩ | ⟨z, hr, rfl⟩
      · left
        rcases he with ⟨_, rfl⟩ | ⟨a, h, _⟩
        · refine ⟨st', hr, rfl, ?_⟩
          obtain ⟨rv, ev, vs, g3, g4, g5, g6, g7, g8⟩ := hp'
          exact ⟨rv, ev, vs, F.par g3 (by decide), F.row g4 (by decide), F.row g5 (by decide), g6.kept (F.lf (by decide) (by decide)), F.smp g7, g8⟩
        · cases h
      · right
        rcases he with ⟨h, _⟩ | ⟨a, h, rfl⟩
        · cases h
        · unfold chainE at h
          simp only [Ending.panicked.injEq, List.cons.injEq, PanicEntry.mk.injEq, Value.iface.injEq, Value.agg.injEq] at h
          refine ⟨z, hr, ?_⟩
          have := h.1.1.2
          simp at this
          rw [this]
end Go.Proofs.YtjbcbejedaeedaaGreatDoor
