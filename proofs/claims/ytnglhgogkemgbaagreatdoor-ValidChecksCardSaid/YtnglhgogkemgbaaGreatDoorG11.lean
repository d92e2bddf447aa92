/- New of package trie: walked. -/
import Derived.Test.YtnglhgogkemgbaaGreatDoorG10
import Derived.Deep.RegionLaw
import Derived.Deep.AppendLies
namespace Go.Proofs.YtnglhgogkemgbaaGreatDoor
open Go.RowKit

theorem NewAt.cells {B : Nat} {W : World} {tb root n : Nat} {es fs : List Ent} {S : List (List Int)} {N : NMap} {lv : Value} {asked : Int} {vs : List (Value × Value)} (h : NewAt B W tb es fs S N root lv n asked vs) : W.cell? ⟨tb, 0, none⟩ = some (.int .i64 1) ∧ W.cell? ⟨tb, 1, none⟩ = some (.pointer (some ⟨root, 0, none⟩)) ∧ W.cell? ⟨tb, 2, none⟩ = some lv ∧ W.cell? ⟨tb, 3, none⟩ = some (.int .i64 asked) ∧ (∀ o, W.frozen? ⟨tb, o, none⟩ = false) := by
  refine ⟨?_, ?_, ?_, ?_, fun o => ?_⟩ <;> simp [World.cell?, World.frozen?, h.tcell]
theorem Tryz.infoN : (Tryz.prog.info? 45).map (fun i => (i.zero, i.size, i.bytes)) = some (some (.agg #[.slice none 0 0, .slice none 0 0]), 2, 48) := by kernel_rfl
theorem NewAt.rowCell {B : Nat} {W w2 : World} {tb root n : Nat} {es fs : List Ent} {S : List (List Int)} {N : NMap} {lv : Value} {asked : Int} {vs : List (Value × Value)} (h : NewAt B W tb es fs S N root lv n asked vs) {c : Array Value} {t : TypeId} (hg : (W.alloc (.cells c t)).grownBy w2 lv.ownBlock) :
    w2.cell? ⟨tb, 2, none⟩ = some lv ∧ w2.frozen? ⟨tb, 2, none⟩ = false := by
  have hl := h.tlt
  have e : w2.heap[tb]? = some (.cells #[.int .i64 1, .pointer (some ⟨root, 0, none⟩), lv, .int .i64 asked] 177 (0, 0)) := by
    rw [hg.block tb (by simp; omega) (fun e => h.rowNe h.tcell (by decide) e.symm), Below.heap_alloc _ _ _ hl]; exact h.tcell
  constructor <;> simp [World.cell?, World.frozen?, e]
theorem take_snocE {es : List Ent} {i : Nat} {x : Ent} (h : es[i]? = some x) : es.take (i + 1) = es.take i ++ [x] := by rw [List.take_add_one, h]; rfl
/-- the bounds that a list of entries comes with -/
def EntOk (x : Ent) : Prop := x.1.length * 4 ≤ 140737488351232 ∧ x.2.length * 32 ≤ 140737488351232 ∧ ∀ r ∈ x.1, (Lit.int .i32 r).wf = true
theorem fresh_at (n : Nat) (w : World) (hn : w.heap.size = n) :
    Calls Tryz.prog 95 #[] w fun e w' => e = .returned (.pointer (some ⟨n + 1, 0, none⟩)) ∧ (w.alloc (.map #[] 0)).alloc (.cells #[.map (some n), .int .i64 (-1)] 181) = w' := by
  subst hn; exact fresh_any w
/-- behind New -/
def NewEnd (es : List Ent) (w : World) (e : Ending) (w' : World) : Prop :=
  Below w.heap.size w w' ∧ ((ckE es = 0 ∧ ∃ tb N root lv n vs, e = .returned (.tuple #[.pointer (some ⟨tb, 0, none⟩), .int .i64 0, .int .i64 0]) ∧ NewAt w.heap.size w' tb es es (es.map (·.1)) N root lv n 0 vs) ∨
    (ckE es ≠ 0 ∧ e = .returned (.tuple #[.pointer none, .int .i64 (ckA es), .int .i64 (ckE es)])))
/-- the same, and how many nodes a map may have -/
def NewEnd9 (es : List Ent) (w : World) (e : Ending) (w' : World) : Prop :=
  Below w.heap.size w w' ∧ ((ckE es = 0 ∧ ∃ tb N root lv n vs, n ≤ 9 * es.length ∧ e = .returned (.tuple #[.pointer (some ⟨tb, 0, none⟩), .int .i64 0, .int .i64 0]) ∧ NewAt w.heap.size w' tb es es (es.map (·.1)) N root lv n 0 vs) ∨
    (ckE es ≠ 0 ∧ e = .returned (.tuple #[.pointer none, .int .i64 (ckA es), .int .i64 (ckE es)])))
/-- between two entries -/
def OutRel (es : List Ent) (w : World) (tb root i : Nat) (W : World) : Prop :=
  i ≤ es.length ∧ (∀ j, j < i → badAt es j = 0) ∧ Below w.heap.size w W ∧ ∃ N lv n vs, NewAt w.heap.size W tb (es.take i) (es.take i) ((es.take i).map (·.1)) N root lv n 0 vs ∧ n ≤ 9 * i
/-- between two code points -/
def InRel (es : List Ent) (w : World) (tb root i eb : Nat) (c u lv : Value) (vs : List (Value × Value)) (x : Ent) (j nb : Nat) (W : World) : Prop :=
  j ≤ x.1.length ∧ Below w.heap.size w W ∧ W.heap[eb]? = some (.cells #[c, u] 45 (0, 0)) ∧ ∃ N n mb, NewAt w.heap.size W tb (es.take i) (es.take i) ((es.take i).map (·.1) ++ [x.1.take j]) N root lv n 0 vs ∧ N (x.1.take j) = some (nb, mb) ∧ n ≤ 9 * i + j
theorem newAt_start (w : World) : NewAt w.heap.size (((w.alloc (.map #[] 0)).alloc (.cells #[.map (some w.heap.size), .int .i64 (-1)] 181)).alloc (.cells #[.int .i64 1, .pointer (some ⟨w.heap.size + 1, 0, none⟩), .slice none 0 0, .int .i64 0] 177))
    (w.heap.size + 2) [] [] [] (fun p => if p = [] then some (w.heap.size + 1, w.heap.size) else none) (w.heap.size + 1) (.slice none 0 0) 0 0 [] := by
  have h0 : ((w.alloc (.map #[] 0)).alloc (.cells #[.map (some w.heap.size), .int .i64 (-1)] 181)).heap.size = w.heap.size + 2 := by simp
  have h1 : (w.alloc (.map #[] 0)).heap.size = w.heap.size + 1 := by simp
  have t := World.alloc_heap_new ((w.alloc (.map #[] 0)).alloc (.cells #[.map (some w.heap.size), .int .i64 (-1)] 181)) (.cells #[.int .i64 1, .pointer (some ⟨w.heap.size + 1, 0, none⟩), .slice none 0 0, .int .i64 0] 177)
  rw [h0] at t
  have nd := World.alloc_heap_new (w.alloc (.map #[] 0)) (.cells #[.map (some w.heap.size), .int .i64 (-1)] 181)
  rw [h1] at nd
  refine ⟨t, ⟨_, rfl⟩, ⟨?_, ?_, ?_, ?_, ?_⟩, ?_, World.ownsRow_nil _ _ _ _, rfl, by simp, by omega⟩
  · intro p nb mb hp
    by_cases e : p = []
    · rw [if_pos e] at hp; cases hp
      rw [Below.heap_alloc _ _ _ (by rw [h0]; omega), nd, e]; rfl
    · rw [if_neg e] at hp; cases hp
  · intro p nb mb hp
    by_cases e : p = []
    · rw [if_pos e] at hp; cases hp
      have := (((PMap.made (P := Tryz.prog) (k := 21) w).kept (World.grownBy_alloc _ (.cells #[.map (some w.heap.size), .int .i64 (-1)] 181) none) (by simp)).kept (World.grownBy_alloc _ (.cells #[.int .i64 1, .pointer (some ⟨w.heap.size + 1, 0, none⟩), .slice none 0 0, .int .i64 0] 177) none) (by simp))
      refine cast ?_ this
      congr 1
      funext r
      rw [if_neg (by simp)]; rfl
    · rw [if_neg e] at hp; cases hp
  · intro p nb mb hp
    by_cases e : p = []
    · rw [if_pos e] at hp; cases hp; omega
    · rw [if_neg e] at hp; cases hp
  · intro p q nb mb nb' mb' hp hq _
    by_cases e : p = []
    · by_cases e' : q = []
      · rw [e, e']
      · rw [if_neg e'] at hq; cases hq
    · rw [if_neg e] at hp; cases hp
  · intro p r hp
    simp at hp
  · intro p
    by_cases e : p = []
    · subst e; simp [Dom]
    · rw [if_neg e]; simp [Dom, e]

set_option maxHeartbeats 8000000 in
set_option maxRecDepth 100000 in
theorem new_any9 (es : List Ent) (v : Value) (w : World) (hv : EntsIn (· < w.heap.size) w v es) (hok : ∀ x ∈ es, EntOk x) (hlen : es.length ≤ 140737488351232) :
    Calls Tryz.prog 51 #[v] w (NewEnd9 es w) := by
  have HV := Lib.hid hv
  obtain ⟨p, cp, rfl, _⟩ := hv
  have HOK := Lib.hid hok
  clear hok
  by_cases hbig : 4000 < es.length
  · have hb1 : decide ((4000 : Int) < (es.length : Int)) = true := decide_eq_true (by omega)
    have hb2 : decide (4000 < es.length) = true := decide_eq_true hbig
    have HE : Hid (ckA es = 0 ∧ ckE es = 2) := ⟨if_pos hbig, if_pos hbig⟩
    clear hbig
    go_enter Tryz.func51, Tryz.ntmps51
    go_wp2
    go_ret3
    exact ⟨Below.refl _ _, .inr ⟨by rw [HE.out.2]; decide, by rw [HE.out.1, HE.out.2]; rfl⟩⟩
  · have hb1 : decide ((4000 : Int) < (es.length : Int)) = false := decide_eq_false (by omega)
    have hb2 : decide (4000 < es.length) = false := decide_eq_false hbig
    have HBIG := Lib.hid hbig
    have hl4 : es.length ≤ 4000 := by omega
    clear hbig
    go_enter Tryz.func51, Tryz.ntmps51
    go_wp2_with fail
    refine (fresh_any _).mono ?_
    rintro e w1 ⟨rfl, rfl⟩
    go_wp2
    go_loopw [20] (fun ix wr => ∃ i : Nat, ix = .int .i64 i ∧ OutRel es w (w.heap.size + 1 + 1) (w.heap.size + 1) i wr) (fun ix _ => es.length - (intOf ix).toNat)
    case atStart =>
      refine ⟨0, rfl, Nat.zero_le _, fun j hj => by omega, ?_, _, _, 0, [], newAt_start w, by omega⟩
      exact (((Below.refl _ _).alloc (Nat.le_refl _) _).alloc (by simp) _).alloc (by simp; omega) _
    case round =>
      obtain ⟨i, rfl, hr⟩ := hrel
      obtain ⟨wo, rfl⟩ : ∃ wo : World, wo = wr := ⟨_, rfl⟩
      have HR := Lib.hid hr
      clear hr
      by_cases hlt : i < es.length
      · have hlt' : decide (i < es.length) = true := decide_eq_true hlt
        obtain ⟨x, hx⟩ : ∃ x, es[i]? = some x := ⟨es[i], List.getElem?_eq_getElem hlt⟩
        obtain ⟨b, o, c, u, rfl, hbR, hbl, hd0, hd1, hci, hue⟩ := HV.out.at i x hx
        have hc0 : wo.cell? ⟨b, o + i * 2, none⟩ = some c := (HR.out.2.2.1.cell (p := ⟨b, o + i * 2, none⟩) hbR).trans hd0
        have hc1 : wo.cell? ⟨b, o + i * 2 + 1, none⟩ = some u := (HR.out.2.2.1.cell (p := ⟨b, o + i * 2 + 1, none⟩) hbR).trans hd1
        clear hd0 hd1
        have HX := Lib.hid hx
        have HLT := Lib.hid hlt
        have HOX := Lib.hid (HOK.out x (List.mem_of_getElem? hx))
        have HCI := Lib.hid hci
        have HUE := Lib.hid hue
        obtain ⟨pc, cc, rfl, _⟩ := hci
        obtain ⟨pu, cu, rfl, _⟩ := hue
        clear hx hlt
        go_wp2_with fail
        refine (may_any (· < w.heap.size) x _ _ _ (HCI.out.kept (Kept.below (HR.out.2.2.1.alloc HR.out.2.2.1.size _))) (HUE.out.kept (Kept.below (HR.out.2.2.1.alloc HR.out.2.2.1.size _))) HOX.out.1 HOX.out.2.1).mono ?_
        rintro e w2 ⟨rfl, hb2'⟩
        obtain ⟨h1, h2, h3, N0, lv, n0, vs, h4, h5⟩ := HR.out
        have hw2 : Below wo.heap.size wo w2 := ((Below.refl _ wo).alloc (Nat.le_refl _) _).trans (hb2'.mono (by simp))
        have HW2 : Hid (Below w.heap.size w w2) := h3.trans (hw2.mono h3.size)
        have HEB : Hid (w2.heap[wo.heap.size]? = some (.cells #[.slice pc x.1.length cc, .slice pu x.2.length cu] 45 (0, 0))) := (hb2'.block _ (by simp)).trans (World.alloc_heap_new _ _)
        have HN := Lib.hid (h4.below hw2)
        have H1 := Lib.hid h2
        have H5 := Lib.hid h5
        have hi4 : i < 4000 := by have := HLT.out; omega
        clear hb2' hw2 h1 h2 h3 h4 h5
        by_cases he : eErr x = 0
        · have HE := Lib.hid he
          have hx8 : x.1.length ≤ 8 := (eErr_zero he).2.1
          have hne : (eErr x != 0) = false := by rw [he]; rfl
          obtain ⟨t0, t1, t2, t3, tf⟩ := HN.out.cells
          have e0 : w2.cell? ⟨wo.heap.size, 0, none⟩ = some (.slice pc x.1.length cc) := by simp [World.cell?, HEB.out]
          clear he t0 t2 t3 tf
          go_wp2
          go_loopw [9, 38] (fun av jx wr => ∃ j nb : Nat, av = .pointer (some ⟨nb, 0, none⟩) ∧ jx = .int .i64 j ∧ InRel es w (w.heap.size + 1 + 1) (w.heap.size + 1) i wo.heap.size (.slice pc x.1.length cc) (.slice pu x.2.length cu) lv vs x j nb wr) (fun _ jx _ => x.1.length - (intOf jx).toNat)
          case atStart =>
            obtain ⟨rm, hrm⟩ := HN.out.rootN
            refine ⟨0, _, rfl, rfl, Nat.zero_le _, HW2.out, HEB.out, N0, n0, rm, ?_, hrm, H5.out⟩
            refine HN.out.sameDom fun p => ?_
            rw [List.take_zero, dom_snoc]
            refine ⟨.inl, fun h => h.elim id fun h => .inl (List.prefix_nil.1 h)⟩
          case round =>
            obtain ⟨j, nb, rfl, rfl, hr⟩ := hrel
            obtain ⟨wi, rfl⟩ : ∃ wi : World, wi = wr := ⟨_, rfl⟩
            obtain ⟨hj, hbw, heb, N, n, mb, hN, hNq, hn⟩ := hr
            have HBW := Lib.hid hbw
            have HEB2 := Lib.hid heb
            have HNA := Lib.hid hN
            have HNQ := Lib.hid hNq
            have HNB := Lib.hid hn
            have c0 := hN.mem.cell0 hNq
            have c1 := hN.mem.cell1 hNq
            have HJ := Lib.hid hj
            clear hbw heb hN hNq hn
            by_cases hjl : j < x.1.length
            · have hjl' : decide (j < x.1.length) = true := decide_eq_true hjl
              obtain ⟨b', o', rfl, _, _, hcr⟩ := (HCI.out.kept (Kept.below HBW.out)).at j hjl
              have hwf : (Lit.int .i32 (x.1.getD j 0)).wf = true := HOX.out.2.2 _ (by rw [List.getD_eq_getElem?_getD, List.getElem?_eq_getElem hjl]; exact List.getElem_mem _)
              have htk : x.1.take (j + 1) = x.1.take j ++ [x.1.getD j 0] := take_snoc' (by rw [List.getD_eq_getElem?_getD, List.getElem?_eq_getElem hjl]; rfl)
              have hz : ∀ w, (zeroValue 171).run Tryz.prog w = .ok (.pointer none) w := fun _ => by kernel_rfl
              have HTK := Lib.hid htk
              have HJL := Lib.hid hjl
              obtain ⟨r, hre⟩ : ∃ r, r = x.1.getD j 0 := ⟨_, rfl⟩
              rw [← hre] at hcr hwf HTK
              have HWF := Lib.hid hwf
              have hpm := HNA.out.mem.map _ nb mb HNQ.out
              clear hre hwf htk hjl
              cases hn : N (x.1.take j ++ [r]) with
              | some pr =>
                obtain ⟨nb', mb'⟩ := pr
                have hlook := hpm.lookup (t := 179) (e := 171) Tryz.underlying21 Tryz.underlying179 hz r HWF.out
                simp only [hn, Option.map_some, ptrV] at hlook
                have HGO := Lib.hid (HNA.out.go (r := r) (by rw [hn]; simp))
                have HNN := Lib.hid hn
                clear hpm hn hz
                go_wp2
                go_roundw
                case rel => exact ⟨j + 1, nb', rfl, by go_num, HJL.out, HBW.out, HEB2.out, N, n, mb', by rw [HTK.out]; exact HGO.out, by rw [HTK.out]; exact HNN.out, by have := HNB.out; omega⟩
                case measure => (have hq := HJL.out; simp [intOf]; omega)
              | none =>
                have hlook := hpm.lookup (t := 179) (e := 171) Tryz.underlying21 Tryz.underlying179 hz r HWF.out
                simp only [hn, Option.map_none, ptrV] at hlook
                have HNN := Lib.hid hn
                have HD : Hid (Below wi.heap.size wi ((wi.alloc (.map #[] 0)).alloc (.cells #[.map (some wi.heap.size), .int .i64 (-1)] 181)).drew) := (((Below.refl _ wi).alloc (Nat.le_refl _) _).alloc (by simp) _).drew
                obtain ⟨w4, hrun, hpm4, hg4⟩ := (hpm.same (HD.out.block _ hpm.lt)).update (t := 179) (e := 171) Tryz.underlying21 Tryz.underlying179 (by have := HNB.out; unfold maxLen; omega) r HWF.out (wi.heap.size + 1)
                have HADD : Hid (NewAt w.heap.size w4 (w.heap.size + 1 + 1) (es.take i) (es.take i) ((es.take i).map (·.1) ++ [x.1.take j ++ [r]]) (fun p => if p = x.1.take j ++ [r] then some (wi.heap.size + 1, wi.heap.size) else N p) (w.heap.size + 1) lv (n + 1) 0 vs) := by
                  refine HNA.out.add (fun y hy => List.mem_map_of_mem hy) HNQ.out hn (Nat.le_succ _) (Nat.le_refl _) HD.out ?_ ?_ hg4 hpm4
                  · have := World.alloc_heap_new (wi.alloc (.map #[] 0)) (.cells #[.map (some wi.heap.size), .int .i64 (-1)] 181); rwa [World.size_alloc] at this
                  · exact ((PMap.made (P := Tryz.prog) (k := 21) wi).kept (World.grownBy_alloc _ (.cells #[.map (some wi.heap.size), .int .i64 (-1)] 181) none) (by simp)).mono (Nat.zero_le _)
                have hlook4 := hpm4.lookup (t := 179) (e := 171) Tryz.underlying21 Tryz.underlying179 hz r HWF.out
                simp only [if_true, ptrV] at hlook4
                have c04 : w4.cell? ⟨nb, 0, none⟩ = some (.map (some mb)) := by
                  refine HADD.out.mem.cell0 (p := x.1.take j) ?_
                  rw [if_neg (by intro e; have := congrArg List.length e; simp at this)]; exact HNQ.out
                have HBW4 : Hid (Below w.heap.size w w4) := (HBW.out.trans (HD.out.mono HBW.out.size)).grown hg4 (Nat.le_trans HBW.out.size HD.out.size) (fun k hk => by cases hk; exact (HNA.out.mem.ge _ _ _ HNQ.out).2)
                have HEB4 : Hid (w4.heap[wo.heap.size]? = some (.cells #[.slice (some ⟨b', o', none⟩) x.1.length cc, .slice pu x.2.length cu] 45 (0, 0))) := by
                  have hl := (Array.getElem?_eq_some_iff.1 HEB2.out).1
                  show _ = _
                  rw [hg4.block _ (Nat.lt_of_lt_of_le hl HD.out.size) (fun e => by cases e; obtain ⟨L, ⟨es', c'', h4, _⟩, _⟩ := hpm; rw [HEB2.out] at h4; cases h4), HD.out.block _ hl]; exact HEB2.out
                clear hpm hpm4 hg4 hn hz
                have HF := fresh_at wi.heap.size wi.drew rfl
                have hnbl : nb < wi.heap.size := HNA.out.mem.ltN HNQ.out
                have hnbl2 : nb < wi.heap.size + 1 := (by omega)
                go_wp2
                go_region_with (refine HF.mono ?_; rintro e w3 ⟨rfl, rfl⟩)
                all_goals
                  clear hrun hlook HF
                  go_wp2
                  go_roundw
                  case rel => exact ⟨j + 1, wi.heap.size + 1, rfl, by go_num, HJL.out, HBW4.out, HEB4.out, _, n + 1, wi.heap.size, by rw [HTK.out]; exact HADD.out, by rw [HTK.out]; exact if_pos rfl, by have := HNB.out; omega⟩
                  case measure => (have hq := HJL.out; simp [intOf]; omega)
            · have hjl' : decide (j < x.1.length) = false := decide_eq_false hjl
              have hje : x.1.take j = x.1 := List.take_of_length_le (by omega)
              rw [hje] at c1
              have HNA2 : Hid (NewAt w.heap.size wi (w.heap.size + 1 + 1) (es.take i) (es.take i) ((es.take i).map (·.1) ++ [x.1]) N (w.heap.size + 1) lv n 0 vs) := by have := HNA.out; rw [hje] at this; exact this
              have HNQ2 : Hid (N x.1 = some (nb, mb)) := by have := HNQ.out; rw [hje] at this; exact this
              have htl : (es.take i).length = i := by rw [List.length_take]; have := HLT.out; omega
              have HTL := Lib.hid htl
              clear hjl hje htl
              cases hix : idx (es.take i) x.1 with
              | some k =>
                rw [entOf_pos hix] at c1
                have HBD : Hid (fstBad es = some i ∧ badAt es i = 91) := by
                  have h91 := badAt_twin HX.out HE.out hix
                  exact ⟨fst_here HLT.out H1.out (by rw [h91]; decide), h91⟩
                have HCK : Hid (ckA es = i ∧ ckE es = 91) := by
                  refine ⟨?_, ?_⟩
                  · unfold ckA; rw [if_neg HBIG.out, HBD.out.1]
                  · unfold ckE; rw [if_neg HBIG.out, HBD.out.1]; exact HBD.out.2
                clear hix
                go_wp2
                go_ret3
                exact ⟨HBW.out, .inr ⟨by rw [HCK.out.2]; decide, by rw [HCK.out.1, HCK.out.2]; rfl⟩⟩
              | none =>
                rw [entOf_neg hix] at c1
                have HIX := Lib.hid hix
                have hfz := HNA2.out.mem.frozen HNQ2.out 1
                have HS : Hid (NewAt w.heap.size (wi.setCell ⟨nb, 1, none⟩ (.int .i64 i)) (w.heap.size + 1 + 1) (es.take i) (es.take i ++ [x]) ((es.take i).map (·.1) ++ [x.1]) N (w.heap.size + 1) lv n 0 vs) := by
                  have := HNA2.out.setEnt HNQ2.out HIX.out; rw [HTL.out] at this; exact this
                have HEBS : Hid ((wi.setCell ⟨nb, 1, none⟩ (.int .i64 i)).heap[wo.heap.size]? = some (.cells #[.slice pc x.1.length cc, .slice pu x.2.length cu] 45 (0, 0))) := by
                  show _ = _
                  rw [Below.heap_setCell _ _ _ _ (fun e => by have := HNA2.out.mem.node _ _ _ HNQ2.out; rw [show nb = wo.heap.size from e.symm, HEB2.out] at this; cases this)]; exact HEB2.out
                have HBS : Hid (Below w.heap.size w (wi.setCell ⟨nb, 1, none⟩ (.int .i64 i))) := HBW.out.setCell (HNA2.out.mem.ge _ _ _ HNQ2.out).1 _
                clear hix c0
                go_wp2
                clear c1 hfz
                generalize wi.setCell ⟨nb, 1, none⟩ (.int .i64 i) = WS at *
                obtain ⟨s0, s1, s2, s3, sf⟩ := HS.out.cells
                have b0 : WS.cell? ⟨wo.heap.size, 0, none⟩ = some (.slice pc x.1.length cc) := by simp [World.cell?, HEBS.out]
                have b1 : WS.cell? ⟨wo.heap.size, 1, none⟩ = some (.slice pu x.2.length cu) := by simp [World.cell?, HEBS.out]
                have HT := twin_any (· < w.heap.size) x _ _ WS.drew (HCI.out.kept (Kept.below HBS.out.drew)) (HUE.out.kept (Kept.below HBS.out.drew)) HOX.out.1 HOX.out.2.1
                clear s0 s1 s3
                have HLen : Hid ((es.take i).length = i) := HTL.out
                obtain ⟨i0, hi0, hz0, hz1, hz2⟩ := info_parts Tryz.infoN
                have htb : w.heap.size + 1 + 1 < WS.heap.size := HS.out.tlt
                have sf2 := sf 2
                clear sf
                go_region_law (first
                  | (rw [if_pos (by rfl)]; go_simp; refine HT.mono ?_; rintro e w5 ⟨c5, u5, rfl, hc5, hu5, hb5⟩; have B5 : Hid (Below WS.heap.size WS w5) := (Below.refl _ WS).drew.trans hb5; have HC5 := Lib.hid hc5; have HU5 := Lib.hid hu5; obtain ⟨p5, q5, rfl, _⟩ := hc5; obtain ⟨p6, q6, rfl, _⟩ := hu5; have s25 := ((HS.out.below B5.out).cells).2.2.1; have ht5 : w.heap.size + 1 + 1 < w5.heap.size := (HS.out.below B5.out).tlt; have RW5 : Hid ((w5.alloc (.cells #[.slice p5 x.1.length q5, .slice p6 x.2.length q6] 45)).ownsRow w.heap.size 45 2 lv i (flatVs vs)) := (by have := (HS.out.below B5.out).row.alloc (.cells #[.slice p5 x.1.length q5, .slice p6 x.2.length q6] 45); rw [HTL.out] at this; exact this); clear hb5)
                  | (refine step_append_lies _ (by rfl) (.tmp 76) (.tmp 79) 23 (by rfl) w.heap.size 45 i0 (.agg #[.slice none 0 0, .slice none 0 0]) 2 48 Tryz.underlying23 hi0 hz0 hz1 hz2 rfl (by decide) lv i (flatVs vs) (by rfl) (RW5.out) ⟨w5.heap.size, 0, none⟩ 1 1 [.slice p5 x.1.length q5, .slice p6 x.2.length q6] (by rfl) (by rfl) (cells_new _ _ _) (by simp [Value.oneCell']) (by decide) (by unfold maxLen; omega) (by omega) (by have := HBS.out.size; have := B5.out.size; simp at this ⊢; omega) _ rfl ?_; intro g6 cap6 w6 hown6 hgrow6 _ _; have n6 := (HS.out.below B5.out).rowCell hgrow6; obtain ⟨n62, n6f⟩ := n6))
                all_goals
                  have HP : Hid (NewAt w.heap.size (w6.setCell ⟨w.heap.size + 1 + 1, 2, none⟩ (.slice (some ⟨g6, 0, none⟩) (i + 1) cap6)) (w.heap.size + 1 + 1) (es.take i ++ [x]) (es.take i ++ [x]) ((es.take i).map (·.1) ++ [x.1]) N (w.heap.size + 1) (.slice (some ⟨g6, 0, none⟩) (i + 1) cap6) n 0 (vs ++ [(.slice p5 x.1.length q5, .slice p6 x.2.length q6)])) :=
                    HS.out.push B5.out HC5.out HU5.out (by rw [HTL.out]; exact hown6) hgrow6
                  have HBB : Hid (Below w.heap.size w (w6.setCell ⟨w.heap.size + 1 + 1, 2, none⟩ (.slice (some ⟨g6, 0, none⟩) (i + 1) cap6))) := by
                    refine Below.setCell ?_ (show w.heap.size ≤ w.heap.size + 1 + 1 by omega) _
                    have hs := HBS.out.size
                    have h5 := HBS.out.trans (B5.out.mono hs)
                    exact (h5.alloc h5.size _).grown hgrow6 (by have := h5.size; simp; omega) (fun k hk => (HS.out.row.lt k hk).1)
                  clear hown6 hgrow6 HT n62 n6f s25
                  go_wp2
                  go_roundw
                  case rel =>
                    have htk := take_snocE HX.out
                    refine ⟨i + 1, by go_num, HLT.out, fun j' hj' => ?_, HBB.out, N, _, n, _, by rw [htk, List.map_append]; exact HP.out, by have := HNB.out; have := HJ.out; omega⟩
                    by_cases c : j' = i
                    · rw [c]; exact badAt_ok HX.out HE.out HIX.out
                    · exact H1.out j' (by omega)
                  case measure => (have hq := HLT.out; simp [intOf]; omega)
        · have hne : (eErr x != 0) = true := by rw [bne_iff_ne]; exact he
          have HBD : Hid (fstBad es = some i ∧ badAt es i = eErr x) := by
            have h91 := badAt_err HX.out he
            exact ⟨fst_here HLT.out H1.out (by rw [h91]; exact he), h91⟩
          have HCK : Hid (ckA es = i ∧ ckE es = eErr x) := by
            refine ⟨?_, ?_⟩
            · unfold ckA; rw [if_neg HBIG.out, HBD.out.1]
            · unfold ckE; rw [if_neg HBIG.out, HBD.out.1]; exact HBD.out.2
          have HNE : Hid (eErr x ≠ 0) := he
          clear he
          go_wp2
          go_ret3
          exact ⟨HW2.out, .inr ⟨by rw [HCK.out.2]; exact HNE.out, by rw [HCK.out.1, HCK.out.2]; rfl⟩⟩
      · have hlt' : decide (i < es.length) = false := decide_eq_false hlt
        have hie : es.take i = es := List.take_of_length_le (by omega)
        have HI : Hid (i = es.length) := (show i = es.length by have := HR.out.1; omega)
        have HCK : Hid (ckE es = 0) := by
          show _ = _
          unfold ckE; rw [if_neg HBIG.out, fst_none (fun j hj => HR.out.2.1 j (by have := HI.out; omega))]
        clear hlt
        go_wp2
        go_ret3
        obtain ⟨_, _, hb, N, lv, n, vs, hN, hn9⟩ := HR.out
        rw [hie] at hN
        exact ⟨hb, .inl ⟨HCK.out, _, N, _, lv, n, vs, by have := HI.out; omega, rfl, hN⟩⟩
theorem new_any (es : List Ent) (v : Value) (w : World) (hv : EntsIn (· < w.heap.size) w v es) (hok : ∀ x ∈ es, EntOk x) (hlen : es.length ≤ 140737488351232) :
    Calls Tryz.prog 51 #[v] w (NewEnd es w) :=
  (new_any9 es v w hv hok hlen).mono fun _ _ h => ⟨h.1, h.2.imp (fun ⟨h1, tb, N, root, lv, n, vs, _, h2⟩ => ⟨h1, tb, N, root, lv, n, vs, h2⟩) id⟩
end Go.Proofs.YtnglhgogkemgbaaGreatDoor
