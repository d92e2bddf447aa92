/- TailorRoom: the law, walked. -/
import Derived.Test.YtchjjfjjcdjjcaaDoorRc
namespace Go.Proofs.YtchjjfjjcdjjcaaDoor
open Go.RowKit

theorem elB_of {x : El} (h : elWf x) : ElB x := by
  have e1 : IntKind.i64.min = -9223372036854775808 := by kernel_rfl
  have e2 : IntKind.i64.max = 9223372036854775807 := by kernel_rfl
  have key : ∀ z : Int, (Lit.int .i64 z).wf = true → inI z := fun z hz => by
    rw [Lit.wf, Bool.and_eq_true, decide_eq_true_eq, decide_eq_true_eq, e1, e2] at hz
    exact hz
  exact ⟨key _ h.1, key _ h.2.1, key _ h.2.2⟩
theorem behR_okQ {es : List Ent} {e : List El} {lv : Int} {a : Nat} {x nx : El} (h : behR es e lv = .inl (a, x, nx)) :
    (1 ≤ lv ∧ lv ≤ 3) ∧ a < e.length ∧ nextT lv x = some nx ∧ okB (upT lv x) es e = true := by
  unfold behR at h
  split at h
  · rename_i hlv
    split at h
    · cases h
    · rename_i a' ha
      split at h
      · cases h
      · rename_i x' hx
        split at h
        · split at h
          · cases h
          · rename_i nx' hn
            split at h
            · rename_i hok
              cases h
              exact ⟨hlv, (bAtF_lt e lv _ _ ha).1, hn, hok⟩
            · cases h
        · cases h
  · cases h
/-- the elements of the first entries -/
def allE (es : List Ent) (i : Nat) : List El := (es.take i).flatMap (·.2)
theorem allE_step {es : List Ent} {i : Nat} {x : Ent} (h : es[i]? = some x) : allE es (i + 1) = allE es i ++ x.2 := by
  unfold allE; rw [take_snocQ h]; simp
theorem allE_mem {es : List Ent} {i : Nat} {y : El} (h : y ∈ allE es i) : ∃ x ∈ es, y ∈ x.2 := by
  unfold allE at h
  obtain ⟨x, hx, hy⟩ := List.mem_flatMap.1 h
  exact ⟨x, List.mem_of_mem_take hx, hy⟩
theorem allE_len (es : List Ent) (i : Nat) : (allE es i).length ≤ sumQ es := by
  induction es generalizing i with
  | nil => simp [allE]
  | cons x xs ih =>
    cases i with
    | zero => simp [allE]
    | succ i =>
      have := ih i
      unfold allE sumQ at *
      simp only [List.take_succ_cons, List.flatMap_cons, List.length_append, List.map_cons, List.sum_cons]
      omega
theorem cell_hh {W : World} {b k : Nat} {cs : Array Value} {t : TypeId} {u : Value} (h : W.heap[b]? = some (.cells cs t (0, 0))) (hu : cs[k]? = some u) : W.cell? ⟨b, k, none⟩ = some u := by simp [World.cell?, h, hu]
/-- the first loop: what has been put together -/
def RmRel (es : List Ent) (U : El → El) (W5 : World) (i : Nat) (av bv : Value) (W : World) : Prop :=
  W.ownsRow W5.heap.size 42 4 av (allE es i).length ((allE es i).flatMap elCells) ∧ W.ownsRow W5.heap.size 42 4 bv (allE es i).length (((allE es i).map U).flatMap elCells) ∧
    (∀ g, av.ownBlock = some g → bv.ownBlock ≠ some g) ∧ Below W5.heap.size W5 W
theorem row_form {W : World} {B : Nat} {t : TypeId} {k n : Nat} {v : Value} {us : List Value} (h : W.ownsRow B t k v n us) : ∃ p c, v = .slice p n c := by
  rcases h.2 with ⟨rfl, e⟩ | ⟨g, cap, cur, rfl, _⟩
  · exact ⟨none, 0, by rw [e]⟩
  · exact ⟨_, _, rfl⟩
theorem row_kept {W W' : World} {B : Nat} {t : TypeId} {k n : Nat} {v : Value} {us : List Value} (h : W.ownsRow B t k v n us) {row : Option Nat} (hg : W.grownBy W' row) (hne : ∀ g, v.ownBlock = some g → row ≠ some g) : W'.ownsRow B t k v n us := by
  rcases h.2 with ⟨e1, e2⟩ | ⟨g, cap, cur, e1, e2, e3, e4⟩
  · exact ⟨h.1, .inl ⟨e1, e2⟩⟩
  · exact ⟨h.1, .inr ⟨g, cap, cur, e1, e2, by rw [hg.block g (Array.getElem?_eq_some_iff.1 e3).1 (fun e => hne g (by rw [e1]; rfl) e.symm)]; exact e3, e4⟩⟩
set_option maxHeartbeats 8000000 in
set_option maxRecDepth 100000 in
theorem tailorRoom_any (es : List Ent) (e : List El) (lv : Int) (ver : ByteArray) (rs : List Rng) (rv ev e2v : Value) (w : World) (hr : RngsIn (· < w.heap.size) w rv rs) (he : EntsIn (· < w.heap.size) w ev es) (hf : ElsIn (· < w.heap.size) w e2v e)
    (hn : rs.length ≤ 5864062014808) (hel : es.length ≤ 140737488351232) (hok : ∀ x ∈ es, EntWf x) (hel2 : e.length ≤ 140737488351232) (hok2 : ∀ y ∈ e, elWf y) (hlv : (Lit.int .i64 lv).wf = true) :
    Calls Tryd.prog 4 #[.agg #[.string ver, rv, ev], e2v, .int .i64 lv] w fun e w' => e = .returned (.bool true) ∧ Below w.heap.size w w' := by
  have HR := Lib.hid hr
  have HE := Lib.hid he
  have HF := Lib.hid hf
  have HOK := Lib.hid hok
  have HOK2 := Lib.hid hok2
  have HLV := Lib.hid hlv
  obtain ⟨p1, c1, rfl, _⟩ := hr
  obtain ⟨p2, c2, rfl, _⟩ := he
  obtain ⟨p3, c3, rfl, _⟩ := hf
  obtain ⟨m, hm⟩ : ∃ m, m = es.length := ⟨_, rfl⟩
  obtain ⟨l, hl⟩ : ∃ l, l = e.length := ⟨_, rfl⟩
  obtain ⟨n, hnn⟩ : ∃ n, n = rs.length := ⟨_, rfl⟩
  have HM : Hid (m = es.length ∧ l = e.length ∧ n = rs.length) := ⟨hm, hl, hnn⟩
  have HN := Lib.hid (show rs.length ≤ 5864062014808 from hn)
  have HEL := Lib.hid hel
  rw [← hm] at HE hel ⊢
  rw [← hl] at HF hel2 ⊢
  rw [← hnn] at HR ⊢
  clear hok hok2 hlv hn hm hl hnn
  go_enter Tryd.func4, Tryd.ntmps4
  go_wp2_with fail
  have hA0 : SrcAt (w.alloc (.cells #[.string ver, .slice p1 n c1, .slice p2 m c2] 34)) w.heap.size (.string ver) (.slice p1 n c1) (.slice p2 m c2) := World.alloc_heap_new _ _
  have hb0 : Below w.heap.size w (w.alloc (.cells #[.string ver, .slice p1 n c1, .slice p2 m c2] 34)) := (Below.refl _ w).alloc (Nat.le_refl _) _
  generalize w.alloc (.cells #[.string ver, .slice p1 n c1, .slice p2 m c2] 34) = W0 at *
  have HA0 := Lib.hid hA0
  have HB0 := Lib.hid hb0
  clear hA0 hb0
  refine (awake10_any _).mono ?_
  rintro e' w1 ⟨rfl, hb1⟩
  have HB1 : Hid (Below w.heap.size w w1) := HB0.out.trans (hb1.mono HB0.out.size)
  have hA1 := HA0.out.below hb1
  obtain ⟨a0, a1, a2, _, al⟩ := hA1.cells
  have HA1 := Lib.hid hA1
  clear hb1 hA1
  have fin : ∀ W, Below w.heap.size w W → True := fun _ _ => trivial
  by_cases h40 : 40 < m
  · have d1 : decide ((40 : Int) < (m : Int)) = true := decide_eq_true (by omega)
    have d2 : decide (40 < m) = true := decide_eq_true h40
    have HFW := Lib.hid (fun W (h : Below w.heap.size w W) => few10_any _ es ver n c1 p1 (.slice p2 m c2) W (HE.out.kept (Kept.below h)) HOK.out HEL.out (by rw [HM.out.2.2]; exact HN.out))
    clear h40
    go_wp2_with fail
    refine (HFW.out _ HB1.out).mono ?_
    rintro e' w2 ⟨b, rfl, hb2⟩
    have HB2 : Hid (Below w.heap.size w w2) := HB1.out.trans (hb2.mono HB1.out.size)
    have hA2 := HA1.out.below hb2
    obtain ⟨a0, a1, a2, _, al⟩ := hA2.cells
    clear hb2 hA2
    cases b
    · go_wp2_with fail
      go_ret
      exact ⟨rfl, HB2.out⟩
    · by_cases h2 : 200 < l
      · have d3 : decide ((200 : Int) < (l : Int)) = true := decide_eq_true (by omega)
        have d4 : decide (200 < l) = true := decide_eq_true h2
        clear h2
        go_wp2_with fail
        go_ret
        exact ⟨rfl, HB2.out⟩
      · have d3 : decide ((200 : Int) < (l : Int)) = false := decide_eq_false (by omega)
        have d4 : decide (200 < l) = false := decide_eq_false h2
        clear h2
        go_wp2_with fail
        go_ret
        exact ⟨rfl, HB2.out⟩
  · have d1 : decide ((40 : Int) < (m : Int)) = false := decide_eq_false (by omega)
    have d2 : decide (40 < m) = false := decide_eq_false h40
    have hm40 : m ≤ 40 := by omega
    have HFW := Lib.hid (fun W (h : Below w.heap.size w W) => few10_small _ es ver n c1 p1 (.slice p2 m c2) W (HE.out.kept (Kept.below h)) HOK.out (by rw [← HM.out.1]; exact hm40) (by rw [HM.out.2.2]; exact HN.out))
    by_cases ht : es.length + n + sumQ es ≤ 1200
    · have HTT : Hid (decide (es.length + n + sumQ es ≤ 1200) = true) := decide_eq_true ht
      have HT := Lib.hid ht
      rw [HTT.out] at HFW
      by_cases h2 : 200 < l
      · have d3 : decide ((200 : Int) < (l : Int)) = true := decide_eq_true (by omega)
        have d4 : decide (200 < l) = true := decide_eq_true h2
        clear h2 h40 ht
        go_wp2_with fail
        refine (HFW.out _ HB1.out).mono ?_
        rintro e' w2 ⟨rfl, hb2⟩
        have HB2 : Hid (Below w.heap.size w w2) := HB1.out.trans (hb2.mono HB1.out.size)
        have hA2 := HA1.out.below hb2
        obtain ⟨a0, a1, a2, _, al⟩ := hA2.cells
        clear hb2 hA2
        go_wp2_with fail
        go_ret
        exact ⟨rfl, HB2.out⟩
      · have d3 : decide ((200 : Int) < (l : Int)) = false := decide_eq_false (by omega)
        have d4 : decide (200 < l) = false := decide_eq_false h2
        have HL2 := Lib.hid h2
        clear h2 h40 ht
        go_wp2_with fail
        refine (HFW.out _ HB1.out).mono ?_
        rintro e' w2 ⟨rfl, hb2⟩
        have HB2 : Hid (Below w.heap.size w w2) := HB1.out.trans (hb2.mono HB1.out.size)
        have hA2 := HA1.out.below hb2
        obtain ⟨a0, a1, a2, _, al⟩ := hA2.cells
        have HA2 := Lib.hid hA2
        clear hb2 hA2
        go_wp2_with fail
        refine (rCheckw_any _ es _ _ (HE.out.kept (Kept.below HB2.out)) HOK.out HEL.out).mono ?_
        rintro e' w3 ⟨za, z, rfl, hb3⟩
        have HB3 : Hid (Below w.heap.size w w3) := HB2.out.trans (hb3.mono HB2.out.size)
        have hA3 := HA2.out.below hb3
        obtain ⟨a0, a1, a2, _, al⟩ := hA3.cells
        have HA3 := Lib.hid hA3
        clear hb3 hA3
        by_cases hz : z = 0
        · have hne : (z != 0) = false := by simpa using hz
          have HBH := Lib.hid (tbehind_any _ _ es e lv ver n (.slice p1 n c1) (.slice p2 m c2) (.slice p3 l c3) w3 (by have h := (HR.out.kept (Kept.below HB3.out)).cells; rw [← HM.out.2.2] at h; exact h) (HE.out.kept (Kept.below HB3.out)) (HF.out.kept (Kept.below HB3.out))
            (by have := HT.out; omega) (by have := HT.out; omega) (fun x hx => by have := sumQ_mem hx; have := HT.out; omega) (by rw [← HM.out.2.1]; have := HL2.out; omega) (fun x hx y hy => elB_of ((HOK.out x hx).2.2.2 y hy)) (fun y hy => elB_of (HOK2.out y hy)))
          clear hz
          go_wp2_with fail
          refine HBH.out.mono ?_
          rintro e' w4 ⟨hb4, ⟨a, x, nx, p, c, v, ts, cs, ov, hF, rfl, hen, hov⟩ | ⟨z, hF, rfl⟩⟩
          · have HB4 : Hid (Below w.heap.size w w4) := HB3.out.trans (hb4.mono HB3.out.size)
            obtain ⟨_, hal, hnx, hokb⟩ := behR_okQ hF
            have hoall := (okB_iff _ _ _).1 hokb
            have HCM : Hid (∀ y z, y ∈ allE es m → z ∈ allE es m → cmpC (upU (upT lv x) y) (upU (upT lv x) z) = cmpC y z) := fun y z hy hz => by
              obtain ⟨x1, h1, h2⟩ := allE_mem hy
              obtain ⟨x2, h3, h4⟩ := allE_mem hz
              exact cmp_up (hoall.1 x1 h1 y h2) (hoall.1 x2 h3 z h4)
            have HNX : Hid (∀ y, y ∈ allE es m → _) := fun y hy => by
              obtain ⟨x1, h1, h2⟩ := allE_mem hy
              exact next_free hnx (hoall.1 x1 h1 y h2)
            generalize upU (upT lv x) = U at *
            obtain ⟨lp, lcap, rfl⟩ := hen.form
            have hln : (es.map (raiE U)).length = m := by rw [List.length_map, ← HM.out.1]
            have hlo : ((e.take a).map U ++ [nx]).length = a + 1 := by rw [List.length_append, List.length_map, List.length_take]; simp; omega
            have hnxa : ((e.take a).map U ++ [nx])[a]? = some nx := by rw [List.getElem?_append_right (by rw [List.length_map, List.length_take]; omega)]; simp; rw [show a - min a e.length = 0 by omega]; rfl
            obtain ⟨vp, vcap, rfl, _⟩ := id hov
            obtain ⟨ob, oo, rfl, _, hob, n0, n1, n2, n3⟩ := hov.at a nx hnxa
            rw [hln] at hen ⊢
            rw [hlo]
            have HEN := Lib.hid hen
            have hA4 := HA3.out.below hb4
            obtain ⟨a0, a1, a2, _, al⟩ := hA4.cells
            have HA4 := Lib.hid hA4
            have ha200 : a < 200 := by have := HL2.out; have := HM.out.2.1; omega
            obtain ⟨np, ns, nt, nv⟩ := nx
            simp only at n0 n1 n2 n3
            have y71 : ((a : Int) + 1 == 0) = false := by rw [beq_eq_false_iff_ne]; omega
            clear hb4 hF hokb hoall hnx hen hov hA4 hln hlo hnxa hal
            go_wp2_with fail
            have hbz : Below w4.heap.size w4 ((w4.alloc (.cells #[.string ver, .slice p n c, .slice lp m lcap] 34)).alloc (.cells #[.int .i64 np, .int .i64 ns, .int .i64 nt, .bool nv] 42)) := ((Below.refl _ w4).alloc (Nat.le_refl _) _).alloc (by simp) _
            have hT5 : SrcAt ((w4.alloc (.cells #[.string ver, .slice p n c, .slice lp m lcap] 34)).alloc (.cells #[.int .i64 np, .int .i64 ns, .int .i64 nt, .bool nv] 42)) w4.heap.size (.string ver) (.slice p n c) (.slice lp m lcap) := at_more (World.alloc_heap_new _ _)
            have hN5 : El4 ((w4.alloc (.cells #[.string ver, .slice p n c, .slice lp m lcap] 34)).alloc (.cells #[.int .i64 np, .int .i64 ns, .int .i64 nt, .bool nv] 42)) (w4.heap.size + 1) 0 (np, ns, nt, nv) := by
              have hh : ((w4.alloc (.cells #[.string ver, .slice p n c, .slice lp m lcap] 34)).alloc (.cells #[.int .i64 np, .int .i64 ns, .int .i64 nt, .bool nv] 42)).heap[w4.heap.size + 1]? = some (.cells #[.int .i64 np, .int .i64 ns, .int .i64 nt, .bool nv] 42 (0, 0)) := at_new _ _ (by simp)
              exact ⟨cell_hh hh rfl, cell_hh hh rfl, cell_hh hh rfl, cell_hh hh rfl⟩
            have hsz5 : ((w4.alloc (.cells #[.string ver, .slice p n c, .slice lp m lcap] 34)).alloc (.cells #[.int .i64 np, .int .i64 ns, .int .i64 nt, .bool nv] 42)).heap.size = w4.heap.size + 2 := by simp
            generalize (w4.alloc (.cells #[.string ver, .slice p n c, .slice lp m lcap] 34)).alloc (.cells #[.int .i64 np, .int .i64 ns, .int .i64 nt, .bool nv] 42) = W5 at *
            have HB5 : Hid (Below w.heap.size w W5) := HB4.out.trans (hbz.mono HB4.out.size)
            have HA5 := Lib.hid (HA4.out.below hbz)
            have HEN5 := Lib.hid (HEN.out.below hbz)
            have HE5 := Lib.hid (HE.out.kept (Kept.below HB5.out))
            have HT5 := Lib.hid hT5
            have HN5 := Lib.hid hN5
            obtain ⟨tb, htb⟩ : ∃ tb, tb = w4.heap.size := ⟨_, rfl⟩
            rw [← htb] at HT5 HN5 hsz5 hT5 ⊢
            obtain ⟨sb, hsb⟩ : ∃ sb, sb = w.heap.size := ⟨_, rfl⟩
            rw [← hsb] at HA5 ⊢
            obtain ⟨t0, t1, t2, _, tl⟩ := hT5.cells
            obtain ⟨s0, s1, s2, _, sl⟩ := HA5.out.cells
            have HTB := Lib.hid (show tb + 1 < W5.heap.size by omega)
            clear hbz hT5 hN5 hsz5 htb hsb n0 n1 n2 n3 a0 a1 a2 al HEN HBH HFW
            go_loopw [13, 14, 82] (fun av bv iv wr => ∃ i : Nat, iv = .int .i64 i ∧ i ≤ m ∧ RmRel es U W5 i av bv wr) (fun _ _ iv _ => m - (intOf iv).toNat)
            case atStart => exact ⟨0, rfl, Nat.zero_le _, by unfold RmRel allE; exact ⟨World.ownsRow_nil _ _ _ _, World.ownsRow_nil _ _ _ _, fun g hg => by simp [Value.ownBlock] at hg, Below.refl _ _⟩⟩
            case round =>
              obtain ⟨i, rfl, him, hra, hrb, hap, hbw⟩ := hrel
              have HRA := Lib.hid hra
              have HRB := Lib.hid hrb
              have HAP := Lib.hid hap
              have HBW := Lib.hid hbw
              obtain ⟨pa, ca, rfl⟩ := row_form hra
              obtain ⟨pb, cb, rfl⟩ := row_form hrb
              have HLE : Hid ((allE es i).length ≤ 1200) := by show _ ≤ _; have := allE_len es i; have := HT.out; omega
              obtain ⟨k0, k1, k2, _, kl⟩ := (HA5.out.below hbw).cells
              obtain ⟨q0, q1, q2, _, ql⟩ := (HT5.out.below hbw).cells
              by_cases hlt : i < m
              · have g1 : (i : Int) < (m : Int) := by omega
                obtain ⟨x0, hx0⟩ : ∃ y, es[i]? = some y := ⟨es[i]'(by rw [← HM.out.1]; exact hlt), List.getElem?_eq_getElem _⟩
                have HX0 := Lib.hid hx0
                obtain ⟨eb, eo, cv, uv, rfl, _, ebl, e0, e1, hci, hui⟩ := HE5.out.at i x0 hx0
                have hT0 : (es.map (raiE U))[i]? = some (raiE U x0) := by rw [List.getElem?_map, hx0]; rfl
                obtain ⟨⟨tc, tu⟩, tt, _, _, hti, htu, tg, tcap, hlv', _, tgl, f0, f1⟩ := HEN5.out.get hT0
                have hlp : lp = some ⟨tg, 0, none⟩ := by injection hlv'
                subst hlp
                have hlm : (raiE U x0).2.length = x0.2.length := List.length_map _
                have htu' := htu.els
                simp only at f0 f1 hti htu'
                have HCI := Lib.hid hci
                have HUI := Lib.hid hui
                have HTI := Lib.hid hti
                have HTU := Lib.hid htu'
                have hx0l := sumQ_mem (List.mem_of_getElem? hx0)
                have HXL : Hid (x0.1.length ≤ 1200 ∧ x0.2.length ≤ 1200) := by have := HT.out; exact ⟨by omega, by omega⟩
                obtain ⟨cp, cc, rfl, _⟩ := hci
                obtain ⟨up, uc, rfl, _⟩ := hui
                obtain ⟨tcp, tcc, rfl, _⟩ := hti
                obtain ⟨tup, tuc, rfl, _⟩ := htu'
                have h1l : (raiE U x0).1.length = x0.1.length := rfl
                rw [hlm] at HTU f1
                rw [h1l] at HTI f0
                have HAT : Hid (∀ W, Below W5.heap.size W5 W → W.cell? ⟨sb, 2, none⟩ = some (.slice (some ⟨eb, eo, none⟩) m c2) ∧ W.cell? ⟨tb, 2, none⟩ = some (.slice (some ⟨tg, 0, none⟩) m lcap) ∧ W.cell? ⟨eb, eo + i * 2, none⟩ = some (.slice cp x0.1.length cc) ∧ W.cell? ⟨eb, eo + i * 2 + 1, none⟩ = some (.slice up x0.2.length uc) ∧
                    W.cell? ⟨tg, i * 2, none⟩ = some (.slice tcp x0.1.length tcc) ∧ W.cell? ⟨tg, i * 2 + 1, none⟩ = some (.slice tup x0.2.length tuc) ∧ sb < W.heap.size ∧ tb < W.heap.size ∧ eb < W.heap.size ∧ tg < W.heap.size) := fun W h =>
                  ⟨(h.cell (p := ⟨sb, 2, none⟩) sl).trans s2, (h.cell (p := ⟨tb, 2, none⟩) tl).trans t2, (h.cell (p := ⟨eb, eo + i * 2, none⟩) ebl).trans e0, (h.cell (p := ⟨eb, eo + i * 2 + 1, none⟩) ebl).trans e1, (h.cell (p := ⟨tg, i * 2, none⟩) tgl).trans f0, (h.cell (p := ⟨tg, i * 2 + 1, none⟩) tgl).trans f1,
                    Nat.lt_of_lt_of_le sl h.size, Nat.lt_of_lt_of_le tl h.size, Nat.lt_of_lt_of_le ebl h.size, Nat.lt_of_lt_of_le tgl h.size⟩
                have HS : Hid (∀ u', Calls Tryd.prog 12 #[.slice tcp x0.1.length tcc, .slice cp x0.1.length cc] (over wr u') fun e w' => e = .returned (.bool true) ∧ Below (over wr u').heap.size (over wr u') w') := fun u' => by
                  have h := runes5_any _ _ x0.1 x0.1 (.slice tcp x0.1.length tcc) (.slice cp x0.1.length cc) (over wr u') ((HTI.out.kept (Kept.below HBW.out)).kept (Kept.below (below_over wr u'))) ((HCI.out.kept (Kept.below HBW.out)).kept (Kept.below (below_over wr u'))) (by have := HXL.out.1; omega) (by have := HXL.out.1; omega)
                  rw [decide_eq_true rfl] at h
                  exact h
                have n1 : ((x0.2.length : Int) != (x0.2.length : Int)) = false := by simp
                have n2 : ((x0.2.length : Int) == (x0.2.length : Int)) = true := by simp
                obtain ⟨z0, z1, z2, z3, z4, z5, zs, zt, ze, zg⟩ := HAT.out _ hbw
                clear hx0 hT0 htu hlv' hlm h1l hx0l hbw hra hrb hap e0 e1 f0 f1 k0 k1 k2 kl q0 q1 q2 ql s0 s1 s2 sl t0 t1 t2 tl hlt
                go_wp2_with fail
                refine wp_region_over (by kernel_rfl) (by kernel_rfl) ?_; (repeat (go_big_quiet_step (((go_at_call 12; exact over_of (HS.out _)))))); refine wpQuiet_nil ?_; intro w2 hb2
                have HB6 : Hid (Below W5.heap.size W5 w2) := HBW.out.trans (hb2.mono HBW.out.size)
                have HRA6 := Lib.hid (ownsRow_growW HRA.out hb2)
                have HRB6 := Lib.hid (ownsRow_growW HRB.out hb2)
                obtain ⟨z0, z1, z2, z3, z4, z5, zs, zt, ze, zg⟩ := HAT.out _ HB6.out
                have hz6 := HB6.out.size
                clear hb2 HS
                go_wp2_with (at_builtin; refine gStop ⟨_, _, rfl⟩ ?_)
                refine Lib.hid ?_
                refine wpList_append_elsQ rfl _ _ rfl W5.heap.size (.slice pa (allE es i).length ca) (.slice up x0.2.length uc) (allE es i) x0.2 rfl HRA6.out rfl (HUI.out.kept (Kept.below HB6.out)) (by have := HLE.out; have := HXL.out.2; omega) hz6 ?_
                intro av w7 hrow7 hg7 hor7
                have HB7 : Hid (Below W5.heap.size W5 w7) := HB6.out.grown hg7 hz6 (fun g hg => (HRA6.out.lt g hg).1)
                have HRA7 := Lib.hid hrow7
                have HRB7 := Lib.hid (row_kept HRB6.out hg7 (fun g hg e => HAP.out g e hg))
                have HAP7 : Hid (∀ g, av.ownBlock = some g → (Value.slice pb (allE es i).length cb).ownBlock ≠ some g) := fun g hg e => by
                  rcases hor7 with h | h
                  · exact HAP.out g (h ▸ hg) e
                  · rw [h] at hg; cases hg
                    exact absurd (HRB6.out.lt _ e).2 (Nat.lt_irrefl _)
                obtain ⟨z0, z1, z2, z3, z4, z5, zs, zt, ze, zg⟩ := HAT.out _ HB7.out
                have hz7 := HB7.out.size
                obtain ⟨pv, cv7, rfl⟩ := row_form hrow7
                clear hrow7 hg7 hor7 HRA6 HRB6
                go_wp2_with (at_builtin; refine gStop ⟨_, _, rfl⟩ ?_)
                refine Lib.hid ?_
                refine wpList_append_elsQ rfl _ _ rfl W5.heap.size (.slice pb (allE es i).length cb) (.slice tup x0.2.length tuc) ((allE es i).map U) (x0.2.map U) rfl (by rw [List.length_map]; exact HRB7.out) rfl (HTU.out.kept (Kept.below HB7.out)) (by have := HLE.out; have := HXL.out.2; rw [List.length_map, List.length_map]; omega) hz7 ?_
                intro bv w8 hrow8 hg8 hor8
                have HB8 : Hid (Below W5.heap.size W5 w8) := HB7.out.grown hg8 hz7 (fun g hg => (HRB7.out.lt g hg).1)
                have HRA8 := Lib.hid (row_kept HRA7.out hg8 (fun g hg e => HAP7.out g hg e))
                have HAP8 : Hid (∀ g, (Value.slice pv (allE es i ++ x0.2).length cv7).ownBlock = some g → bv.ownBlock ≠ some g) := fun g hg e => by
                  rcases hor8 with h | h
                  · exact HAP7.out g hg (h ▸ e)
                  · rw [h] at e; cases e
                    exact absurd (HRA7.out.lt _ hg).2 (Nat.lt_irrefl _)
                have HRB8 := Lib.hid hrow8
                have HST := Lib.hid (allE_step HX0.out)
                clear hrow8 hg8 hor8
                go_wp2_with fail
                go_roundw
                case rel =>
                  refine ⟨i + 1, by go_num, by omega, ?_, ?_, ?_, HB8.out⟩
                  · rw [HST.out]; have h := HRA8.out; simp only [List.length_append] at h ⊢; exact h
                  · rw [HST.out, List.map_append]; have h := HRB8.out; rw [← List.map_append, List.length_map, List.map_append] at h; exact h
                  · have h := HAP8.out; simp only [List.length_append] at h ⊢; exact h
                case measure => (show m - ((i : Int) + 1).toNat < m - (i : Int).toNat; omega)
              · obtain rfl : i = m := by omega
                have g1 : ¬ ((i : Int) < (i : Int)) := by omega
                have HA := Lib.hid ((elsIn_row hra).mono (fun b h _ => h.1))
                have HBB := Lib.hid ((elsIn_row (xs := (allE es i).map U) (by rw [List.length_map]; exact hrb)).mono (fun b h _ => h.1))
                have HB9 : Hid (Below w.heap.size w wr) := HB5.out.trans (hbw.mono HB5.out.size)
                have HN9 : Hid (El4 wr (tb + 1) 0 (np, ns, nt, nv)) := HN5.out.of (hbw.block _ HTB.out)
                have HTB9 : Hid (tb + 1 < wr.heap.size) := Nat.lt_of_lt_of_le HTB.out hbw.size
                obtain ⟨k, hk⟩ : ∃ k, k = (allE es i).length := ⟨_, rfl⟩
                have HK := Lib.hid hk
                have hk1200 : k ≤ 1200 := by rw [hk]; exact HLE.out
                have hkm : ((allE es i).map U).length = k := by rw [List.length_map, hk]
                rw [← hk] at HA HBB ⊢
                generalize allE es i = A at *
                clear hk hkm hra hrb hap hbw HRA HRB HAP HBW HE5 HEN5 HA5 HT5 HN5 HTB HB5 s0 s1 s2 sl t0 t1 t2 tl k0 k1 k2 kl q0 q1 q2 ql hlt HLE HOK HOK2 HE HF HR HA0 HA1 HA2 HA3 HA4 HB0 HB1 HB2 HB3 HB4
                obtain ⟨wo, rfl⟩ : ∃ wo : World, wo = wr := ⟨_, rfl⟩
                go_wp2_with fail
                go_loopw [135] (fun iv W => ∃ j : Nat, iv = .int .i64 j ∧ j ≤ k ∧ Below wo.heap.size wo W) (fun iv _ => k - (intOf iv).toNat)
                case atStart => exact ⟨0, rfl, Nat.zero_le _, Below.refl _ _⟩
                case round =>
                  obtain ⟨j, rfl, hj, hbj⟩ := hrel
                  have HBJ := Lib.hid hbj
                  by_cases hlt : j < k
                  · have g2 : (j : Int) < (k : Int) := by omega
                    obtain ⟨y, hy⟩ : ∃ y, A[j]? = some y := ⟨A[j]'(by rw [← HK.out]; exact hlt), List.getElem?_eq_getElem _⟩
                    have hym := List.mem_of_getElem? hy
                    obtain ⟨ab, ao, rfl, _, abl, hA4⟩ := HA.out.at j y hy
                    obtain ⟨bb, bo, rfl, _, bbl, hB4⟩ := HBB.out.at j (U y) (by rw [List.getElem?_map, hy]; rfl)
                    have HNY := Lib.hid (HNX.out y hym)
                    have HCY : Hid (∀ z, z ∈ A → cmpC (U y) (U z) = cmpC y z) := fun z hz => HCM.out y z hym hz
                    obtain ⟨u, hU⟩ : ∃ u, u = U y := ⟨_, rfl⟩
                    rw [← hU] at hB4 HNY HCY
                    obtain ⟨yp, ys, yt, yv⟩ := y
                    obtain ⟨up, us, ut, uv⟩ := u
                    have HAY : Hid (∀ W, Below wo.heap.size wo W → El4 W ab (ao + j * 4) (yp, ys, yt, yv) ∧ El4 W bb (bo + j * 4) (up, us, ut, uv) ∧ El4 W (tb + 1) 0 (np, ns, nt, nv) ∧ ab < W.heap.size ∧ bb < W.heap.size ∧ tb + 1 < W.heap.size) := fun W h =>
                      ⟨hA4.of (h.block _ abl), hB4.of (h.block _ bbl), HN9.out.of (h.block _ HTB9.out), Nat.lt_of_lt_of_le abl h.size, Nat.lt_of_lt_of_le bbl h.size, Nat.lt_of_lt_of_le HTB9.out h.size⟩
                    clear hy hym hA4 hB4 hU hbj hlt abl bbl
                    go_wp2_with fail
                    go_loopw [140] (fun iv W => ∃ q : Nat, iv = .int .i64 q ∧ q ≤ k ∧ Below wo.heap.size wo W) (fun iv _ => k - (intOf iv).toNat)
                    case atStart => exact ⟨0, rfl, Nat.zero_le _, HBJ.out⟩
                    case round =>
                      obtain ⟨q, rfl, hq, hbq⟩ := hrel
                      have HBQ := Lib.hid hbq
                      obtain ⟨⟨x0, x1, x2, x3⟩, ⟨v0, v1, v2, v3⟩, ⟨m0, m1, m2, m3⟩, abl, bbl, mbl⟩ := HAY.out _ hbq
                      simp only [Nat.zero_add] at x0 x1 x2 x3 v0 v1 v2 v3 m0 m1 m2 m3
                      by_cases hlt : q < k
                      · have g3 : (q : Int) < (k : Int) := by omega
                        obtain ⟨y', hy'⟩ : ∃ y, A[q]? = some y := ⟨A[q]'(by rw [← HK.out]; exact hlt), List.getElem?_eq_getElem _⟩
                        obtain ⟨_, _, he, _, _, hA4⟩ := HA.out.at q y' hy'
                        cases he
                        obtain ⟨_, _, he, _, _, hB4⟩ := HBB.out.at q (U y') (by rw [List.getElem?_map, hy']; rfl)
                        cases he
                        have hc := HCY.out y' (List.mem_of_getElem? hy')
                        obtain ⟨u', hU'⟩ : ∃ u, u = U y' := ⟨_, rfl⟩
                        rw [← hU'] at hB4 hc
                        obtain ⟨p', s', t', v'⟩ := y'
                        obtain ⟨p'', s'', t'', v''⟩ := u'
                        have c1' : (cmpC (yp, ys, yt, yv) (p', s', t', v') != cmpC (up, us, ut, uv) (p'', s'', t'', v'')) = false := by rw [hc]; simp
                        obtain ⟨i0, i1, i2, i3⟩ := hA4.of (hbq.block _ (by have := HAY.out _ (Below.refl _ _); exact this.2.2.2.1))
                        obtain ⟨j0, j1, j2, j3⟩ := hB4.of (hbq.block _ (by have := HAY.out _ (Below.refl _ _); exact this.2.2.2.2.1))
                        simp only at i0 i1 i2 i3 j0 j1 j2 j3
                        clear hy' hA4 hB4 hc hU' hbq hlt m0 m1 m2 m3
                        go_wp2_with fail
                        refine wp_region_over (by kernel_rfl) (by kernel_rfl) ?_; (repeat (go_big_quiet_step (((go_at_call 13; exact over_of (cmp4_any _ _ _ _ _ _ _ _ _)))))); refine wpQuiet_nil ?_; intro w2 hb2
                        have HB10 : Hid (Below wo.heap.size wo w2) := HBQ.out.trans (hb2.mono HBQ.out.size)
                        clear hb2 i0 i1 i2 i3 j0 j1 j2 j3 x0 x1 x2 x3 v0 v1 v2 v3
                        go_wp2_with fail
                        go_roundw
                        case rel => exact ⟨q + 1, by go_num, by omega, HB10.out⟩
                        case measure => (show k - ((q : Int) + 1).toNat < k - (q : Int).toNat; omega)
                      · have g3 : ¬ ((q : Int) < (k : Int)) := by omega
                        have HNY2 := HNY.out
                        clear hbq hlt x0 x1 x2 x3
                        by_cases l1 : lv = 1
                        · subst l1
                          have e1 : (up == np) = false := beq_eq_false_iff_ne.2 (HNY2.1 rfl)
                          clear HNY2
                          go_wp2_with fail
                          refine wp_region_over (by kernel_rfl) (by kernel_rfl) ?_; (repeat (go_big_quiet_step ((fail)))); refine wpQuiet_nil ?_; intro w2 hb2
                          have HB10 : Hid (Below wo.heap.size wo w2) := HBQ.out.trans (hb2.mono HBQ.out.size)
                          clear hb2 v0 v1 v2 v3 m0 m1 m2 m3
                          go_wp2_with fail
                          go_roundw
                          case rel => exact ⟨j + 1, by go_num, by omega, HB10.out⟩
                          case measure => (show k - ((j : Int) + 1).toNat < k - (j : Int).toNat; omega)
                        · have b1 : (lv == 1) = false := beq_eq_false_iff_ne.2 l1
                          by_cases l2 : lv = 2
                          · subst l2
                            have h2 := HNY2.2.1 rfl
                            by_cases e : up = np
                            · have e1 : (up == np) = true := beq_iff_eq.2 e
                              have e2 : (us == ns) = false := beq_eq_false_iff_ne.2 (fun h => h2 ⟨e, h⟩)
                              clear HNY2 h2 e
                              go_wp2_with fail
                              refine wp_region_over (by kernel_rfl) (by kernel_rfl) ?_; (repeat (go_big_quiet_step ((fail)))); refine wpQuiet_nil ?_; intro w2 hb2
                              have HB10 : Hid (Below wo.heap.size wo w2) := HBQ.out.trans (hb2.mono HBQ.out.size)
                              clear hb2 v0 v1 v2 v3 m0 m1 m2 m3
                              go_wp2_with fail
                              go_roundw
                              case rel => exact ⟨j + 1, by go_num, by omega, HB10.out⟩
                              case measure => (show k - ((j : Int) + 1).toNat < k - (j : Int).toNat; omega)
                            · have e1 : (up == np) = false := beq_eq_false_iff_ne.2 e
                              clear HNY2 h2 e
                              go_wp2_with fail
                              refine wp_region_over (by kernel_rfl) (by kernel_rfl) ?_; (repeat (go_big_quiet_step ((fail)))); refine wpQuiet_nil ?_; intro w2 hb2
                              have HB10 : Hid (Below wo.heap.size wo w2) := HBQ.out.trans (hb2.mono HBQ.out.size)
                              clear hb2 v0 v1 v2 v3 m0 m1 m2 m3
                              go_wp2_with fail
                              go_roundw
                              case rel => exact ⟨j + 1, by go_num, by omega, HB10.out⟩
                              case measure => (show k - ((j : Int) + 1).toNat < k - (j : Int).toNat; omega)
                          · have b2 : (lv == 2) = false := beq_eq_false_iff_ne.2 l2
                            have h2 := HNY2.2.2 l1 l2
                            by_cases e : up = np
                            · have e1 : (up == np) = true := beq_iff_eq.2 e
                              by_cases f : us = ns
                              · have e2 : (us == ns) = true := beq_iff_eq.2 f
                                have e3 : (ut == nt) = false := beq_eq_false_iff_ne.2 (fun h => h2 ⟨e, f, h⟩)
                                clear HNY2 h2 e f l1 l2
                                go_wp2_with fail
                                refine wp_region_over (by kernel_rfl) (by kernel_rfl) ?_; (repeat (go_big_quiet_step ((fail)))); refine wpQuiet_nil ?_; intro w2 hb2
                                have HB10 : Hid (Below wo.heap.size wo w2) := HBQ.out.trans (hb2.mono HBQ.out.size)
                                clear hb2 v0 v1 v2 v3 m0 m1 m2 m3
                                go_wp2_with fail
                                go_roundw
                                case rel => exact ⟨j + 1, by go_num, by omega, HB10.out⟩
                                case measure => (show k - ((j : Int) + 1).toNat < k - (j : Int).toNat; omega)
                              · have e2 : (us == ns) = false := beq_eq_false_iff_ne.2 f
                                clear HNY2 h2 e f l1 l2
                                go_wp2_with fail
                                refine wp_region_over (by kernel_rfl) (by kernel_rfl) ?_; (repeat (go_big_quiet_step ((fail)))); refine wpQuiet_nil ?_; intro w2 hb2
                                have HB10 : Hid (Below wo.heap.size wo w2) := HBQ.out.trans (hb2.mono HBQ.out.size)
                                clear hb2 v0 v1 v2 v3 m0 m1 m2 m3
                                go_wp2_with fail
                                go_roundw
                                case rel => exact ⟨j + 1, by go_num, by omega, HB10.out⟩
                                case measure => (show k - ((j : Int) + 1).toNat < k - (j : Int).toNat; omega)
                            · have e1 : (up == np) = false := beq_eq_false_iff_ne.2 e
                              clear HNY2 h2 e l1 l2
                              go_wp2_with fail
                              refine wp_region_over (by kernel_rfl) (by kernel_rfl) ?_; (repeat (go_big_quiet_step ((fail)))); refine wpQuiet_nil ?_; intro w2 hb2
                              have HB10 : Hid (Below wo.heap.size wo w2) := HBQ.out.trans (hb2.mono HBQ.out.size)
                              clear hb2 v0 v1 v2 v3 m0 m1 m2 m3
                              go_wp2_with fail
                              go_roundw
                              case rel => exact ⟨j + 1, by go_num, by omega, HB10.out⟩
                              case measure => (show k - ((j : Int) + 1).toNat < k - (j : Int).toNat; omega)
                  · have g2 : ¬ ((j : Int) < (k : Int)) := by omega
                    clear hbj hlt
                    go_wp2_with fail
                    go_ret
                    exact ⟨rfl, HB9.out.trans (HBJ.out.mono HB9.out.size)⟩
          · have HB4 : Hid (Below w.heap.size w w4) := HB3.out.trans (hb4.mono HB3.out.size)
            have hzz := behR_err hF
            have hne2 : (z != 0) = true := by rw [bne_iff_ne]; omega
            clear hb4 hF hzz
            go_wp2_with fail
            go_ret
            exact ⟨rfl, by have := HB4.out.alloc (o := .cells #[.string ⟨#[]⟩, .slice none 0 0, .slice none 0 0] 34) HB4.out.size; exact this⟩
        · have hne : (z != 0) = true := by simpa using hz
          clear hz
          go_wp2_with fail
          go_ret
          exact ⟨rfl, HB3.out⟩
    · have HTT : Hid (decide (es.length + n + sumQ es ≤ 1200) = false) := decide_eq_false ht
      rw [HTT.out] at HFW
      clear h40 ht
      go_wp2_with fail
      refine (HFW.out _ HB1.out).mono ?_
      rintro e' w2 ⟨rfl, hb2⟩
      have HB2 : Hid (Below w.heap.size w w2) := HB1.out.trans (hb2.mono HB1.out.size)
      have hA2 := HA1.out.below hb2
      obtain ⟨a0, a1, a2, _, al⟩ := hA2.cells
      clear hb2 hA2
      go_wp2_with fail
      go_ret
      exact ⟨rfl, HB2.out⟩
end Go.Proofs.YtchjjfjjcdjjcaaDoor
