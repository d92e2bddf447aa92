/- Package table: the parser reads a line of an entry; any line: walked. -/
import Derived.Test.YtjbcbejedaeedaaGreatDoorAw
import Derived.Test.YtjbcbejedaeedaaGreatDoorHeldS
import Derived.Test.YtjbcbejedaeedaaGreatDoorHeldL
import Derived.Deep.AppendLies
namespace Go.Proofs.YtjbcbejedaeedaaGreatDoor
open Go.RowKit
open PlainAid (bt)
theorem stepW_no (st : TSt) (l : Bs) (h : Lib.hasPrefix l [64] = false) : stepW st l = match lineW l with
    | .error e => .error e
    | .ok x => if x.1 ∈ st.2.2.map (·.1) then .error 91 else if st.2.2.length < 4000 then .ok (st.1, st.2.1, st.2.2 ++ [x]) else .error 2 := by
  unfold stepW; rw [if_neg (by rw [h]; exact fun h => Bool.noConfusion h)]; cases lineW l <;> rfl
theorem codesW_pt {l : Bs} {xs : List Int} (h : codesW l = .ok xs) : xs.all pt = true ∧ xs.length ≤ 8 := by
  unfold codesW at h
  split at h
  · cases h
  · split at h
    · cases h
    · split at h
      · rename_i hh; cases h; exact ⟨hh.2, hh.1⟩
      · cases h
theorem lineW_pt {l : Bs} {x : Ent} (h : lineW l = .ok x) : x.1.all pt = true ∧ x.1.length ≤ 8 := by
  unfold lineW at h
  split at h
  · cases h
  · split at h
    · cases h
    · split at h
      · cases h
      · rename_i hc
        split at h
        · cases h
        · split at h
          · cases h; exact codesW_pt hc
          · cases h
theorem pt_range {xs : List Int} (h : xs.all pt = true) : ∀ x ∈ xs, 0 ≤ x ∧ x < 4294967296 := by
  intro x hx
  have := List.all_eq_true.1 h x hx
  simp [pt] at this
  omega
/-- what was seen are the entries' code points -/
theorem seen_mem (es : List Ent) (c : List Int) (h : ∀ x ∈ es, x.1.all pt = true) (hc : c.all pt = true) : showW c ∈ es.map (fun x => showW x.1) ↔ c ∈ es.map (·.1) := by
  constructor
  · intro hm
    obtain ⟨x, hx, he⟩ := List.mem_map.1 hm
    exact List.mem_map.2 ⟨x, hx, showW_inj _ _ (pt_range (h x hx)) (pt_range hc) he⟩
  · intro hm
    obtain ⟨x, hx, he⟩ := List.mem_map.1 hm
    exact List.mem_map.2 ⟨x, hx, by rw [he]⟩
theorem seenF_bd (es : List Ent) (k : Bs) : 0 ≤ seenF es k ∧ seenF es k ≤ 1000000000 := by unfold seenF; split <;> omega
theorem Tryz.infoEn : (Tryz.prog.info? 45).map (fun i => (i.zero, i.size, i.bytes)) = some (some (.agg #[.slice none 0 0, .slice none 0 0]), 2, 48) := by kernel_rfl
theorem Prs.addEntry {B : Nat} {W W' : World} {pb mb : Nat} {st : TSt} {rv ev v' c u : Value} {vs : List (Value × Value)} {o : Obj} {x : Ent} {n : Nat} {f : Bs → Int} (h3 : ParAt W pb mb (st.1.getD []) rv ev (toldO st.1))
    (h4 : W.ownsRow B 61 4 rv st.2.1.length (st.2.1.flatMap rgCells)) (h5 : W.ownsRow B 45 2 ev st.2.2.length (vs.flatMap evCells)) (h6 : EVs B W st.2.2 vs) (h7 : SMp W mb n f) (h8 : ∀ x ∈ st.2.2, x.1.all pt = true) (h9 : st.2.1.length ≤ 5000000) (h10 : st.2.2.length < 4000)
    (hf : f = seenF (st.2.2 ++ [x])) (hn : n = (st.2.2 ++ [x]).length) (hx : x.1.all pt = true) (hc : IntsIn (Lf B W) .i32 W c x.1) (hu : ElsIn (Lf B W) W u x.2)
    (hg : (W.alloc o).grownBy W' ev.ownBlock) (hown : W'.ownsRow B 45 2 v' (st.2.2.length + 1) (vs.flatMap evCells ++ [c, u])) :
    Prs B (W'.setCell ⟨pb, 2, none⟩ v') pb mb (st.1, st.2.1, st.2.2 ++ [x]) ∧ PKeep pb mb W (W'.setCell ⟨pb, 2, none⟩ v') := by
  have F := TFrame.of_grown hg (row_block h5)
  have h3' := F.par h3 (by decide)
  have h7' := F.smp h7
  have hne := prs_mb h3' h7'
  have hkk := F.lf (B := B) (by decide) (by decide)
  have hks := lf_set (B := B) (o := 2) (u := v') h3' (by decide) (by decide)
  subst hf hn
  refine ⟨⟨rv, v', vs ++ [(c, u)], h3'.put2 v', row_set (F.row h4 (by decide)) h3' (by decide), ?_, ⟨by rw [List.length_append, List.length_append, h6.1]; rfl, fun i y cu hy hcu => ?_⟩, smp_set h7' hne, fun y hy => ?_, h9, by simp only [List.length_append, List.length_cons, List.length_nil]; omega⟩, (F.keep pb mb (.inr rfl)).trans (.set _ _)⟩
  · have := row_set (o := 2) (u := v') hown h3' (by decide)
    simpa [List.flatMap_append, evCells] using this
  · rcases Nat.lt_or_ge i st.2.2.length with hi | hi
    · simp only at hy hcu
      rw [List.getElem?_append_left hi] at hy
      rw [List.getElem?_append_left (by rw [h6.1]; exact hi)] at hcu
      have := ((h6.kept hkk).kept hks).2 i y cu hy hcu
      exact this
    · simp only at hy hcu
      rw [List.getElem?_append_right hi] at hy
      rw [List.getElem?_append_right (by rw [h6.1]; exact hi), h6.1] at hcu
      cases hk : i - st.2.2.length with
      | zero =>
        rw [hk] at hy hcu
        simp at hy hcu
        subst hy hcu
        exact ⟨(hc.lf hkk (Nat.le_refl _)).lf hks (Nat.le_refl _), (hu.lf hkk (Nat.le_refl _)).lf hks (Nat.le_refl _)⟩
      | succ k => rw [hk] at hy; simp at hy
  · rcases List.mem_append.1 hy with hy | hy
    · exact h8 y hy
    · simp at hy; subst hy; exact hx
/-- no cells have turned -/
def CFrame (W W' : World) : Prop := W.heap.size ≤ W'.heap.size ∧ ∀ (k : Nat) c t fr, W.heap[k]? = some (.cells c t fr) → W'.heap[k]? = some (.cells c t fr)
theorem CFrame.of_map {W W' : World} {mb n : Nat} {f : Bs → Int} (h : Only (fun i => i = mb) W W') (hm : SMp W mb n f) : CFrame W W' := by
  obtain ⟨L, ⟨es, c, h1, _⟩, _⟩ := hm
  exact ⟨h.size, fun k c' t fr hk => (h.block k (Array.getElem?_eq_some_iff.1 hk).1 (fun e => by subst e; rw [hk] at h1; cases h1)).trans hk⟩
theorem CFrame.par {W W' : World} (h : CFrame W W') {pb mb : Nat} {ver : Bs} {rv ev : Value} {told : Int} (hp : ParAt W pb mb ver rv ev told) : ParAt W' pb mb ver rv ev told := h.2 pb _ _ _ hp
theorem CFrame.row {W W' : World} (h : CFrame W W') {B : Nat} {e : TypeId} {k : Nat} {v : Value} {n : Nat} {xs : List Value} (hr : W.ownsRow B e k v n xs) : W'.ownsRow B e k v n xs := by
  obtain ⟨h1, h2⟩ := hr
  refine ⟨h1, h2.imp id ?_⟩
  rintro ⟨g, cap, cur, e1, e2, e3, e4⟩
  exact ⟨g, cap, cur, e1, e2, h.2 g _ _ _ e3, e4⟩
theorem CFrame.lf {W W' : World} (h : CFrame W W') {B : Nat} : Kept (Lf B W) W W' := by
  refine ⟨h.1, fun k hk _ => ?_⟩
  obtain ⟨_, c, t, h3, h4⟩ := hk
  rw [h3]
  exact h.2 k _ _ _ h3
theorem seenF_snoc (es : List Ent) (x : Ent) (h : seenF es (showW x.1) = 0) : (fun q => if q = showW x.1 then seenF es (showW x.1) + 1 else seenF es q) = seenF (es ++ [x]) := by
  funext q
  by_cases hq : q = showW x.1
  · rw [if_pos hq, h]
    unfold seenF
    rw [if_pos (by rw [hq]; simp)]; rfl
  · rw [if_neg hq]
    unfold seenF
    have : q ∈ (es ++ [x]).map (fun x => showW x.1) ↔ q ∈ es.map (fun x => showW x.1) := by simp [hq]
    by_cases h1 : q ∈ es.map (fun x => showW x.1)
    · rw [if_pos h1, if_pos (this.2 h1)]
    · rw [if_neg h1, if_neg (fun h2 => h1 (this.1 h2))]
set_option maxHeartbeats 8000000 in
set_option maxRecDepth 100000 in
theorem entryLine_any (B pb mb : Nat) (st : TSt) (s : ByteArray) (w : World) (hs : s.size ≤ 1000000) (hp : Prs B w pb mb st) (hB : B ≤ w.heap.size) (hm : ML w) (hpre : Lib.hasPrefix s.data.toList [64] = false) :
    Calls Tryz.prog 20 #[.pointer (some ⟨pb, 0, none⟩), .string s] w (StepEnd B pb mb (stepW st s.data.toList) w) := by
  have HST := Lib.hid (stepW_no st s.data.toList hpre)
  have HPF := Lib.hid (fun w => hasPrefix_any s ⟨#[64]⟩ w)
  have HLN := Lib.hid (line_any s w hs hm)
  have HPT := Lib.hid (fun x (h : lineW s.data.toList = .ok x) => lineW_pt h)
  have HLT := Lib.hid (hp.lt hB)
  have HP := Lib.hid hp
  have HM := Lib.hid hm
  rw [show (⟨#[64]⟩ : ByteArray).data.toList = [64] from rfl, hpre] at HPF
  generalize stepW st s.data.toList = rs at *
  obtain ⟨i0, hi, hz0, hz1, hz2⟩ := info_parts Tryz.infoEn
  clear hp hm hs hpre hB
  go_enter Tryz.func20, Tryz.ntmps20
  go_wp2_with fail
  refine (HPF.out _).mono ?_
  rintro e w' ⟨rfl, rfl⟩
  go_wp2_with fail
  refine HLN.out.mono ?_
  rintro e w1 ⟨hb1, ⟨x, c, u, hlw, rfl, hc, hu⟩ | ⟨z, hlw, rfl⟩⟩
  rotate_left
  · have HE : Hid (rs = .error z) := by show _ = _; rw [HST.out, hlw]
    exact ⟨rfl, ps_below hb1, .of_below hb1, .inr ⟨z, HE.out, rfl⟩⟩
  obtain ⟨hpt, hl8⟩ := HPT.out x hlw
  have HPX := Lib.hid (And.intro hpt hl8)
  have HRS : Hid (rs = if x.1 ∈ st.2.2.map (·.1) then .error 91 else if st.2.2.length < 4000 then .ok (st.1, st.2.1, st.2.2 ++ [x]) else .error 2) := by show _ = _; rw [HST.out, hlw]
  have HB1 := Lib.hid hb1
  have HCV := Lib.hid hc
  have HUV := Lib.hid hu
  obtain ⟨cp, cc, rfl, _⟩ := hc
  obtain ⟨up, uc, rfl, _⟩ := hu
  clear hlw hb1 hpt hl8 HST HLN HPF
  go_wp2_with fail
  have h2 : TwoAt (w1.alloc (.cells #[.slice cp x.1.length cc, .slice up x.2.length uc] 45)) w1.heap.size (.slice cp x.1.length cc) (.slice up x.2.length uc) := World.alloc_heap_new w1 _
  have hbW : Below w1.heap.size w1 (w1.alloc (.cells #[.slice cp x.1.length cc, .slice up x.2.length uc] 45)) := (Below.refl _ w1).alloc (Nat.le_refl _) _
  have HXZ : Hid ((w1.alloc (.cells #[.slice cp x.1.length cc, .slice up x.2.length uc] 45)).heap.size = w1.heap.size + 1) := by show _ = _; simp
  generalize w1.alloc (.cells #[.slice cp x.1.length cc, .slice up x.2.length uc] 45) = W1 at *
  obtain ⟨xb, hxb⟩ : ∃ xb, xb = w1.heap.size := ⟨_, rfl⟩
  rw [← hxb] at h2 ⊢
  have HXB := Lib.hid hxb
  have HBW : Hid (Below w.heap.size w W1) := HB1.out.trans (hbW.mono HB1.out.size)
  have HCW : Hid (IntsIn (Lf w.heap.size W1) .i32 W1 (.slice cp x.1.length cc) x.1) := HCV.out.lf (Kept.below hbW) (Nat.le_refl _)
  have HUW : Hid (ElsIn (Lf w.heap.size W1) W1 (.slice up x.2.length uc) x.2) := HUV.out.lf (Kept.below hbW) (Nat.le_refl _)
  obtain ⟨rv, ev, vs, hpar0, hrr0, hre0, hev0, hmp0, hpt, hbd1, hbd2⟩ := HP.out
  have hpar : ParAt W1 pb mb (st.1.getD []) rv ev (toldO st.1) := (HBW.out.block pb hpar0.cells.2.2.2.2.2.2).trans hpar0
  have hrr := ownsRow_growT hrr0 HBW.out
  have hre := ownsRow_growT hre0 HBW.out
  have hev := hev0.kept (Kept.below HBW.out)
  have hmp : SMp W1 mb st.2.2.length (seenF st.2.2) := hmp0.same (HBW.out.block mb hmp0.lt)
  have HEB : Hid (∀ j, ev.ownBlock = some j → B ≤ j ∧ j < xb) := by
    show ∀ j, _
    intro j hj
    have h1 := hre0.lt j hj
    have h2 := HB1.out.size
    exact ⟨h1.1, by omega⟩
  clear hpar0 hrr0 hre0 hev0 hmp0
  obtain ⟨_, _, c2, c3, _, fz, hpl⟩ := hpar.cells
  obtain ⟨x0, x1, xf, xl⟩ := h2.cells
  have HX := Lib.hid (And.intro hpar (And.intro hrr (And.intro hre (And.intro hev (And.intro hpt (And.intro hbd1 hbd2))))))
  have HMW : Hid (ML W1) := HM.out.below HBW.out
  have HSE : Hid (∀ V, Below W1.heap.size W1 V → Calls Tryz.prog 52 #[.map (some mb), .slice cp x.1.length cc] V (SeenEnd mb st.2.2.length (seenF st.2.2) (showW x.1) V)) := by
    show ∀ V, _
    intro V hV
    exact seen_any _ mb st.2.2.length (seenF st.2.2) x.1 _ V (HCW.out.kept (Kept.below hV)) (by have := HPX.out.2; omega) (HMW.out.below hV) (hmp.same (hV.block mb hmp.lt)) (by omega) (seenF_bd st.2.2)
  have H2 := Lib.hid h2
  have hpbm := prs_mb hpar hmp
  have hxmb : xb ≠ mb ∧ xb ≠ pb := by
    have h3 := HLT.out
    have h4 := HB1.out.size
    constructor <;> omega
  have HNE := Lib.hid (And.intro hpbm hxmb)
  have HML : Hid (mb < W1.heap.size) := hmp.lt
  have HMP1 := Lib.hid hmp
  clear hxb hbW hpar hrr hre hev hmp hpt hbd1 hbd2 fz xf h2 hpbm hxmb HCV HUV
  have HKS : Hid (∀ w2, Only (fun i => i = mb) W1.drew w2 → w2.cell? ⟨pb, 3, none⟩ = some (.map (some mb)) ∧ w2.cell? ⟨xb, 0, none⟩ = some (.slice cp x.1.length cc)) := by
    show ∀ w2, _
    intro w2 ho
    exact ⟨(World.cell?_of_block (a := ⟨pb, 3, none⟩) (ho.block pb hpl (fun e => HNE.out.1 e.symm))).trans c3, (World.cell?_of_block (a := ⟨xb, 0, none⟩) (ho.block xb xl HNE.out.2.1)).trans x0⟩
  by_cases hmem : showW x.1 ∈ st.2.2.map (fun x => showW x.1)
  · have hsf : seenF st.2.2 (showW x.1) = 1 := by unfold seenF; rw [if_pos hmem]
    have HE : Hid (rs = .error 91) := by
      show _ = _
      rw [HRS.out, if_pos ((seen_mem st.2.2 x.1 HX.out.2.2.2.2.1 HPX.out.1).1 hmem)]
    have HSN : Hid (∀ V, Below W1.heap.size W1 V → Calls Tryz.prog 52 #[.map (some mb), .slice cp x.1.length cc] V fun e w' => e = .returned (.bool false) ∧ Only (fun i => i = mb) V w') := by
      show ∀ V, _
      intro V hV
      refine (HSE.out V hV).mono ?_
      rintro e w' ⟨he, _, ho⟩
      rw [hsf] at he
      exact ⟨he, ho⟩
    have HFIN : Hid (∀ w2, Only (fun i => i = mb) W1.drew w2 → StepEnd B pb mb rs w (.panicked (chainE 91)) w2) := by
      show ∀ w2, _
      intro w2 ho
      have h1 : Only (fun i => i = mb) W1 w2 := ((Only.refl (fun i => i = mb) W1).drew).trans ho
      exact ⟨(ps_below HBW.out).trans (ps_only h1 (fun k hk => .inr (.inl hk))), (PKeep.of_below HBW.out).trans (.of_only h1 (fun k hk => .inr hk)), .inr ⟨91, HE.out, rfl⟩⟩
    clear hmem hsf
    have hS0 : (fun V : World => V.cell? ⟨pb, 3, none⟩ = some (.map (some mb)) ∧ V.cell? ⟨xb, 0, none⟩ = some (.slice cp x.1.length cc)) W1.drew := ⟨c3, x0⟩
    refine wp_region_held_drew (S := (fun V : World => V.cell? ⟨pb, 3, none⟩ = some (.map (some mb)) ∧ V.cell? ⟨xb, 0, none⟩ = some (.slice cp x.1.length cc))) (by kernel_rfl) hS0 (fun hH => ?_)
    refine hTakeL (i := 0) (v := ?_) rfl (by kernel_rfl) (by kernel_rfl) (by kernel_rfl) (fun _ _ _ h => h) (Or.inl ⟨by first | rfl | kernel_rfl, ?_⟩) hH ?_; rotate_left 1; (first | (focus (intro w hSw; (try dsimp only at hSw); go_simp; done)) | (focus (intro w hSw; (try dsimp only at hSw); go_simp; with_reducible rfl)) | (focus (intro w hSw; (try dsimp only at hSw); simp [hSw, go_sem]; done))); (try simp only [Act.put, List.setIfInBounds_toArray, List.set_cons_zero, List.set_cons_succ])
    refine hTakeL (i := 1) (v := ?_) rfl (by kernel_rfl) (by kernel_rfl) (by kernel_rfl) (fun _ _ _ h => h) (Or.inl ⟨by first | rfl | kernel_rfl, ?_⟩) hH ?_; rotate_left 1; (first | (focus (intro w hSw; (try dsimp only at hSw); go_simp; done)) | (focus (intro w hSw; (try dsimp only at hSw); go_simp; with_reducible rfl)) | (focus (intro w hSw; (try dsimp only at hSw); simp [hSw, go_sem]; done))); (try simp only [Act.put, List.setIfInBounds_toArray, List.set_cons_zero, List.set_cons_succ])
    refine hTakeL (i := 2) (v := ?_) rfl (by kernel_rfl) (by kernel_rfl) (by kernel_rfl) (fun _ _ _ h => h) (Or.inl ⟨by first | rfl | kernel_rfl, ?_⟩) hH ?_; rotate_left 1; (first | (focus (intro w hSw; (try dsimp only at hSw); go_simp; done)) | (focus (intro w hSw; (try dsimp only at hSw); go_simp; with_reducible rfl)) | (focus (intro w hSw; (try dsimp only at hSw); simp [hSw, go_sem]; done))); (try simp only [Act.put, List.setIfInBounds_toArray, List.set_cons_zero, List.set_cons_succ])
    refine hTakeL (i := 3) (v := ?_) rfl (by kernel_rfl) (by kernel_rfl) (by kernel_rfl) (fun _ _ _ h => h) (Or.inl ⟨by first | rfl | kernel_rfl, ?_⟩) hH ?_; rotate_left 1; (first | (focus (intro w hSw; (try dsimp only at hSw); go_simp; done)) | (focus (intro w hSw; (try dsimp only at hSw); go_simp; with_reducible rfl)) | (focus (intro w hSw; (try dsimp only at hSw); simp [hSw, go_sem]; done))); (try simp only [Act.put, List.setIfInBounds_toArray, List.set_cons_zero, List.set_cons_succ])
    refine hTakeL (i := 4) (v := ?_) rfl (by kernel_rfl) (by kernel_rfl) (by kernel_rfl) (fun _ _ _ h => h) (Or.inl ⟨by first | rfl | kernel_rfl, ?_⟩) hH ?_; rotate_left 1; (first | (focus (intro w hSw; (try dsimp only at hSw); go_simp; done)) | (focus (intro w hSw; (try dsimp only at hSw); go_simp; with_reducible rfl)) | (focus (intro w hSw; (try dsimp only at hSw); simp [hSw, go_sem]; done))); (try simp only [Act.put, List.setIfInBounds_toArray, List.set_cons_zero, List.set_cons_succ])
    refine hTakeL (i := 5) (v := ?_) rfl (by kernel_rfl) (by kernel_rfl) (by kernel_rfl) (fun _ _ _ h => h) (Or.inl ⟨by first | rfl | kernel_rfl, ?_⟩) hH ?_; rotate_left 1; (first | (focus (intro w hSw; (try dsimp only at hSw); go_simp; done)) | (focus (intro w hSw; (try dsimp only at hSw); go_simp; with_reducible rfl)) | (focus (intro w hSw; (try dsimp only at hSw); simp [hSw, go_sem]; done))); (try simp only [Act.put, List.setIfInBounds_toArray, List.set_cons_zero, List.set_cons_succ])
    refine hOneL (i := 6) (by kernel_rfl) rfl (by rfl) (fun K hK => ?_); have HK := Lib.hid hK; clear hK; go_simp
    refine (HSN.out _ ((Below.refl _ W1).drew)).mono ?_
    rintro e w2 ⟨rfl, ho2⟩
    have HO2 := Lib.hid ho2
    refine HK.out _ _ (HKS.out _ ho2) ?_
    clear HK ho2
    (try simp only [Act.put, List.setIfInBounds_toArray, List.set_cons_zero, List.set_cons_succ])
    refine hOneL (i := 7) (by kernel_rfl) rfl (by rfl) (fun K hK => ?_); have HK := Lib.hid hK; clear hK; go_simp
    (with_reducible refine (must_no _ _).mono ?_)
    rintro e w' ⟨rfl, rfl⟩
    exact ⟨rfl, HFIN.out _ HO2.out⟩
  · have hsf : seenF st.2.2 (showW x.1) = 0 := by unfold seenF; rw [if_neg hmem]
    have HIF : Hid (rs = if st.2.2.length < 4000 then .ok (st.1, st.2.1, st.2.2 ++ [x]) else .error 2) := by
      show _ = _
      rw [HRS.out, if_neg (fun h => hmem ((seen_mem st.2.2 x.1 HX.out.2.2.2.2.1 HPX.out.1).2 h))]
    have HSN : Hid (∀ V, Below W1.heap.size W1 V → Calls Tryz.prog 52 #[.map (some mb), .slice cp x.1.length cc] V fun e w' => e = .returned (.bool true) ∧ SMp w' mb (st.2.2.length + 1) (seenF (st.2.2 ++ [x])) ∧ Only (fun i => i = mb) V w') := by
      show ∀ V, _
      intro V hV
      refine (HSE.out V hV).mono ?_
      rintro e w' ⟨he, hm, ho⟩
      rw [hsf] at he
      rw [seenF_snoc st.2.2 x hsf] at hm
      exact ⟨he, hm, ho⟩
    clear hmem hsf
    have hS0 : (fun V : World => V.cell? ⟨pb, 3, none⟩ = some (.map (some mb)) ∧ V.cell? ⟨xb, 0, none⟩ = some (.slice cp x.1.length cc)) W1.drew := ⟨c3, x0⟩
    refine wp_region_held_drew (S := (fun V : World => V.cell? ⟨pb, 3, none⟩ = some (.map (some mb)) ∧ V.cell? ⟨xb, 0, none⟩ = some (.slice cp x.1.length cc))) (by kernel_rfl) hS0 (fun hH => ?_)
    refine hTakeL (i := 0) (v := ?_) rfl (by kernel_rfl) (by kernel_rfl) (by kernel_rfl) (fun _ _ _ h => h) (Or.inl ⟨by first | rfl | kernel_rfl, ?_⟩) hH ?_; rotate_left 1; (first | (focus (intro w hSw; (try dsimp only at hSw); go_simp; done)) | (focus (intro w hSw; (try dsimp only at hSw); go_simp; with_reducible rfl)) | (focus (intro w hSw; (try dsimp only at hSw); simp [hSw, go_sem]; done))); (try simp only [Act.put, List.setIfInBounds_toArray, List.set_cons_zero, List.set_cons_succ])
    refine hTakeL (i := 1) (v := ?_) rfl (by kernel_rfl) (by kernel_rfl) (by kernel_rfl) (fun _ _ _ h => h) (Or.inl ⟨by first | rfl | kernel_rfl, ?_⟩) hH ?_; rotate_left 1; (first | (focus (intro w hSw; (try dsimp only at hSw); go_simp; done)) | (focus (intro w hSw; (try dsimp only at hSw); go_simp; with_reducible rfl)) | (focus (intro w hSw; (try dsimp only at hSw); simp [hSw, go_sem]; done))); (try simp only [Act.put, List.setIfInBounds_toArray, List.set_cons_zero, List.set_cons_succ])
    refine hTakeL (i := 2) (v := ?_) rfl (by kernel_rfl) (by kernel_rfl) (by kernel_rfl) (fun _ _ _ h => h) (Or.inl ⟨by first | rfl | kernel_rfl, ?_⟩) hH ?_; rotate_left 1; (first | (focus (intro w hSw; (try dsimp only at hSw); go_simp; done)) | (focus (intro w hSw; (try dsimp only at hSw); go_simp; with_reducible rfl)) | (focus (intro w hSw; (try dsimp only at hSw); simp [hSw, go_sem]; done))); (try simp only [Act.put, List.setIfInBounds_toArray, List.set_cons_zero, List.set_cons_succ])
    refine hTakeL (i := 3) (v := ?_) rfl (by kernel_rfl) (by kernel_rfl) (by kernel_rfl) (fun _ _ _ h => h) (Or.inl ⟨by first | rfl | kernel_rfl, ?_⟩) hH ?_; rotate_left 1; (first | (focus (intro w hSw; (try dsimp only at hSw); go_simp; done)) | (focus (intro w hSw; (try dsimp only at hSw); go_simp; with_reducible rfl)) | (focus (intro w hSw; (try dsimp only at hSw); simp [hSw, go_sem]; done))); (try simp only [Act.put, List.setIfInBounds_toArray, List.set_cons_zero, List.set_cons_succ])
    refine hTakeL (i := 4) (v := ?_) rfl (by kernel_rfl) (by kernel_rfl) (by kernel_rfl) (fun _ _ _ h => h) (Or.inl ⟨by first | rfl | kernel_rfl, ?_⟩) hH ?_; rotate_left 1; (first | (focus (intro w hSw; (try dsimp only at hSw); go_simp; done)) | (focus (intro w hSw; (try dsimp only at hSw); go_simp; with_reducible rfl)) | (focus (intro w hSw; (try dsimp only at hSw); simp [hSw, go_sem]; done))); (try simp only [Act.put, List.setIfInBounds_toArray, List.set_cons_zero, List.set_cons_succ])
    refine hTakeL (i := 5) (v := ?_) rfl (by kernel_rfl) (by kernel_rfl) (by kernel_rfl) (fun _ _ _ h => h) (Or.inl ⟨by first | rfl | kernel_rfl, ?_⟩) hH ?_; rotate_left 1; (first | (focus (intro w hSw; (try dsimp only at hSw); go_simp; done)) | (focus (intro w hSw; (try dsimp only at hSw); go_simp; with_reducible rfl)) | (focus (intro w hSw; (try dsimp only at hSw); simp [hSw, go_sem]; done))); (try simp only [Act.put, List.setIfInBounds_toArray, List.set_cons_zero, List.set_cons_succ])
    refine hOneL (i := 6) (by kernel_rfl) rfl (by rfl) (fun K hK => ?_); have HK := Lib.hid hK; clear hK; go_simp
    refine (HSN.out _ ((Below.refl _ W1).drew)).mono ?_
    rintro e w2 ⟨rfl, hm2, ho2⟩
    have HO2 : Hid (Only (fun i => i = mb) W1 w2) := ((Only.refl (fun i => i = mb) W1).drew).trans ho2
    have HM2 := Lib.hid hm2
    refine HK.out _ _ (HKS.out _ ho2) ?_
    clear HK hm2
    (try simp only [Act.put, List.setIfInBounds_toArray, List.set_cons_zero, List.set_cons_succ])
    refine hOneL (i := 7) (by kernel_rfl) rfl (by rfl) (fun K hK => ?_); have HK := Lib.hid hK; clear hK; go_simp
    (with_reducible refine (must_ok _ _).mono ?_)
    rintro e w' ⟨rfl, rfl⟩
    refine HK.out _ _ (HKS.out _ ho2) ?_
    clear HK ho2
    (try simp only [Act.put, List.setIfInBounds_toArray, List.set_cons_zero, List.set_cons_succ])
    refine wpAnyH_done (by kernel_rfl) ?_ _
    have hF := CFrame.of_map HO2.out HMP1.out
    have hpar2 := hF.par HX.out.1
    have hrr2 := hF.row HX.out.2.1
    have hre2 := hF.row HX.out.2.2.1
    have hev2 := HX.out.2.2.2.1.kept hF.lf
    have hcv2 := HCW.out.lf (A' := B) hF.lf HLT.out.2.2
    have huv2 := HUW.out.lf (A' := B) hF.lf HLT.out.2.2
    have h22 : TwoAt w2 xb (.slice cp x.1.length cc) (.slice up x.2.length uc) := hF.2 xb _ _ _ H2.out
    obtain ⟨p0, e0, rfl⟩ : ∃ p c, ev = .slice p st.2.2.length c := by
      rcases hre2.2 with ⟨h1, h0⟩ | ⟨g, cap, cur, h1, _⟩
      · exact ⟨none, 0, by rw [h1, h0]⟩
      · exact ⟨_, _, h1⟩
    obtain ⟨_, _, d2, d3, _, fz, hpl2⟩ := hpar2.cells
    obtain ⟨y0, y1, yf, yl⟩ := h22.cells
    have HY := Lib.hid (And.intro hpar2 (And.intro hrr2 (And.intro hre2 (And.intro hev2 (And.intro hcv2 (And.intro huv2 h22))))))
    have HB2 : Hid (Only (PS B pb mb) w w2) := (ps_below HBW.out).trans (ps_only HO2.out (fun k hk => .inr (.inl hk)))
    have HK2 : Hid (PKeep pb mb w w2) := (PKeep.of_below HBW.out).trans (.of_only HO2.out (fun k hk => .inr hk))
    obtain ⟨n, hn⟩ : ∃ n, n = st.2.2.length := ⟨_, rfl⟩
    rw [← hn] at d2 HIF hre2
    have HN := Lib.hid hn
    have hre2' := hre2
    clear hF hpar2 hrr2 hre2 hev2 hcv2 huv2 h22 hn c2 c3 x0 x1 xl yf
    by_cases h4 : n < 4000
    · have HE : Hid (rs = .ok (st.1, st.2.1, st.2.2 ++ [x])) := by show _ = _; rw [HIF.out, if_pos h4]
      have g1 : decide ((n : Int) < 4000) = true := decide_eq_true (by omega)
      go_wp2_with fail
      ((with_reducible refine (must_ok _ _).mono ?_); rintro e w' ⟨rfl, rfl⟩)
      go_upto_region 9 with fail
      have hS0 : (fun V : World => V.cell? ⟨pb, 2, none⟩ = some (.slice p0 n e0) ∧ V.cell? ⟨xb, 0, none⟩ = some (.slice cp x.1.length cc) ∧ V.cell? ⟨xb, 1, none⟩ = some (.slice up x.2.length uc)) w2.drew := ⟨d2, y0, y1⟩
      refine wp_region_S (fun V : World => V.cell? ⟨pb, 2, none⟩ = some (.slice p0 n e0) ∧ V.cell? ⟨xb, 0, none⟩ = some (.slice cp x.1.length cc) ∧ V.cell? ⟨xb, 1, none⟩ = some (.slice up x.2.length uc)) 12 (by kernel_rfl) ?_
      refine sTake (i := 0) (v := ?_) rfl (by kernel_rfl) (by kernel_rfl) (by kernel_rfl) (by kernel_rfl) (fun _ _ _ h => h) (Or.inl ⟨by first | rfl | kernel_rfl, ?_⟩) hS0 ?_; rotate_left 1; (first | (focus (intro w hSw; (try dsimp only at hSw); go_simp; done)) | (focus (intro w hSw; (try dsimp only at hSw); go_simp; with_reducible rfl)) | (focus (intro w hSw; (try dsimp only at hSw); simp [hSw, go_sem]; done))); (try simp only [Act.put, List.setIfInBounds_toArray, List.set_cons_zero, List.set_cons_succ])
      refine sTake (i := 1) (v := ?_) rfl (by kernel_rfl) (by kernel_rfl) (by kernel_rfl) (by kernel_rfl) (fun _ _ _ h => h) (Or.inl ⟨by first | rfl | kernel_rfl, ?_⟩) hS0 ?_; rotate_left 1; (first | (focus (intro w hSw; (try dsimp only at hSw); go_simp; done)) | (focus (intro w hSw; (try dsimp only at hSw); go_simp; with_reducible rfl)) | (focus (intro w hSw; (try dsimp only at hSw); simp [hSw, go_sem]; done))); (try simp only [Act.put, List.setIfInBounds_toArray, List.set_cons_zero, List.set_cons_succ])
      refine sTake (i := 2) (v := ?_) rfl (by kernel_rfl) (by kernel_rfl) (by kernel_rfl) (by kernel_rfl) (fun _ _ _ h => h) (Or.inl ⟨by first | rfl | kernel_rfl, ?_⟩) hS0 ?_; rotate_left 1; (first | (focus (intro w hSw; (try dsimp only at hSw); go_simp; done)) | (focus (intro w hSw; (try dsimp only at hSw); go_simp; with_reducible rfl)) | (focus (intro w hSw; (try dsimp only at hSw); simp [hSw, go_sem]; done))); (try simp only [Act.put, List.setIfInBounds_toArray, List.set_cons_zero, List.set_cons_succ])
      refine sTake (i := 3) (v := ?_) rfl (by kernel_rfl) (by kernel_rfl) (by kernel_rfl) (by kernel_rfl) (fun _ _ _ h => h) (Or.inl ⟨by first | rfl | kernel_rfl, ?_⟩) hS0 ?_; rotate_left 1; (first | (focus (intro w hSw; (try dsimp only at hSw); go_simp; done)) | (focus (intro w hSw; (try dsimp only at hSw); go_simp; with_reducible rfl)) | (focus (intro w hSw; (try dsimp only at hSw); simp [hSw, go_sem]; done))); (try simp only [Act.put, List.setIfInBounds_toArray, List.set_cons_zero, List.set_cons_succ])
      refine sTake (i := 4) (v := ?_) rfl (by kernel_rfl) (by kernel_rfl) (by kernel_rfl) (by kernel_rfl) (fun _ _ _ h => h) (Or.inl ⟨by first | rfl | kernel_rfl, ?_⟩) hS0 ?_; rotate_left 1; (first | (focus (intro w hSw; (try dsimp only at hSw); go_simp; done)) | (focus (intro w hSw; (try dsimp only at hSw); go_simp; with_reducible rfl)) | (focus (intro w hSw; (try dsimp only at hSw); simp [hSw, go_sem]; done))); (try simp only [Act.put, List.setIfInBounds_toArray, List.set_cons_zero, List.set_cons_succ])
      refine sTake (i := 5) (v := ?_) rfl (by kernel_rfl) (by kernel_rfl) (by kernel_rfl) (by kernel_rfl) (fun _ _ _ h => h) (Or.inl ⟨by first | rfl | kernel_rfl, ?_⟩) hS0 ?_; rotate_left 1; (first | (focus (intro w hSw; (try dsimp only at hSw); go_simp; done)) | (focus (intro w hSw; (try dsimp only at hSw); go_simp; with_reducible rfl)) | (focus (intro w hSw; (try dsimp only at hSw); simp [hSw, go_sem]; done))); (try simp only [Act.put, List.setIfInBounds_toArray, List.set_cons_zero, List.set_cons_succ])
      refine sTake (i := 6) (v := ?_) rfl (by kernel_rfl) (by kernel_rfl) (by kernel_rfl) (by kernel_rfl) (fun _ _ _ h => h) (Or.inl ⟨by first | rfl | kernel_rfl, ?_⟩) hS0 ?_; rotate_left 1; (first | (focus (intro w hSw; (try dsimp only at hSw); go_simp; done)) | (focus (intro w hSw; (try dsimp only at hSw); go_simp; with_reducible rfl)) | (focus (intro w hSw; (try dsimp only at hSw); simp [hSw, go_sem]; done))); (try simp only [Act.put, List.setIfInBounds_toArray, List.set_cons_zero, List.set_cons_succ])
      refine sOne (i := 7) (by kernel_rfl) rfl (by rfl) (fun K hK => ?_); have HK := Lib.hid hK; clear hK; go_simp
      have hbA : Below w2.heap.size w2 (w2.drew.alloc (.cells #[.slice cp x.1.length cc, .slice up x.2.length uc] 45)) := (Below.refl _ w2).drew.alloc (Nat.le_refl _) _
      have HNW : Hid (∀ (j : Nat) u', [Value.slice cp x.1.length cc, .slice up x.2.length uc][j]? = some u' → (w2.drew.alloc (.cells #[.slice cp x.1.length cc, .slice up x.2.length uc] 45)).cell? ((⟨w2.heap.size, 0, none⟩ : Addr).add j) = some u') := cells_new w2.drew _ _
      have HRW : Hid ((w2.drew.alloc (.cells #[.slice cp x.1.length cc, .slice up x.2.length uc] 45)).ownsRow B 45 2 (.slice p0 n e0) n (vs.flatMap evCells)) := ownsRow_growT hre2' hbA
      have HSA : Hid ((w2.drew.alloc (.cells #[.slice cp x.1.length cc, .slice up x.2.length uc] 45)).cell? ⟨pb, 2, none⟩ = some (.slice p0 n e0) ∧ (w2.drew.alloc (.cells #[.slice cp x.1.length cc, .slice up x.2.length uc] 45)).cell? ⟨xb, 0, none⟩ = some (.slice cp x.1.length cc) ∧ (w2.drew.alloc (.cells #[.slice cp x.1.length cc, .slice up x.2.length uc] 45)).cell? ⟨xb, 1, none⟩ = some (.slice up x.2.length uc)) :=
        ⟨(hbA.cell (p := ⟨pb, 2, none⟩) hpl2).trans d2, (hbA.cell (p := ⟨xb, 0, none⟩) yl).trans y0, (hbA.cell (p := ⟨xb, 1, none⟩) yl).trans y1⟩
      refine HK.out _ _ HSA.out ?_
      clear HK
      (try simp only [Act.put, List.setIfInBounds_toArray, List.set_cons_zero, List.set_cons_succ])
      refine sOne (i := 8) (by kernel_rfl) rfl (by rfl) (fun K hK => ?_)
      have HK := Lib.hid hK
      clear hK
      refine Go.wp_append_lies _ (.tmp 55) (.tmp 57) 24 rfl B 45 i0 (.agg #[.slice none 0 0, .slice none 0 0]) 2 48 Tryz.underlying24 hi hz0 hz1 hz2 rfl (by decide) (.slice p0 n e0) n (vs.flatMap evCells) rfl HRW.out ⟨w2.heap.size, 0, none⟩ 1 1 [.slice cp x.1.length cc, .slice up x.2.length uc] rfl rfl HNW.out (by simp [Value.oneCell']) (by decide) (by unfold maxLen; omega) (by omega) (by have := HB2.out.size; have := HLT.out.2.2; simp; omega) _ rfl ?_
      intro g8 cap8 w8 hown8 hgrow0 hor8 hlt8
      have hgrow8 : (w2.drew.alloc (.cells #[.slice cp x.1.length cc, .slice up x.2.length uc] 45)).grownBy w8 (Value.slice p0 n e0).ownBlock := hgrow0
      clear hgrow0
      have HA := Lib.hid (Prs.addEntry (W := w2.drew) (x := x) (c := .slice cp x.1.length cc) (u := .slice up x.2.length uc) (n := st.2.2.length + 1) (f := seenF (st.2.2 ++ [x])) HY.out.1 HY.out.2.1 HY.out.2.2.1 HY.out.2.2.2.1 HM2.out HX.out.2.2.2.2.1 HX.out.2.2.2.2.2.1 (by rw [← HN.out]; exact h4) rfl (by simp) HPX.out.1 HY.out.2.2.2.2.1 HY.out.2.2.2.2.2.1 (by rw [← HN.out]; exact hgrow8) (by rw [← HN.out]; exact hown8))
      have hF8 := TFrame.of_grown hgrow8 (row_block (W := w2.drew) hre2')
      have hpar8 := hF8.par HY.out.1 (by decide)
      obtain ⟨_, _, d8, _, _, fz8, hpl8⟩ := hpar8.cells
      have fz82 := fz8 2
      have hx8 : w8.heap[xb]? = (w2.drew.alloc (.cells #[.slice cp x.1.length cc, .slice up x.2.length uc] 45)).heap[xb]? := hgrow8.block xb (Nat.lt_of_lt_of_le yl hbA.size) (fun e => by have := (HEB.out xb (by rw [← HN.out]; exact e.symm)).2; omega)
      have HS8 : Hid (w8.cell? ⟨pb, 2, none⟩ = some (.slice p0 n e0) ∧ w8.cell? ⟨xb, 0, none⟩ = some (.slice cp x.1.length cc) ∧ w8.cell? ⟨xb, 1, none⟩ = some (.slice up x.2.length uc)) :=
        ⟨by rw [HN.out]; exact d8, (World.cell?_of_block (a := ⟨xb, 0, none⟩) hx8).trans HSA.out.2.1, (World.cell?_of_block (a := ⟨xb, 1, none⟩) hx8).trans HSA.out.2.2⟩
      have HB8 : Hid (Only (PS B pb mb) w w8) := ps_grown (HB2.out.trans (ps_below hbA)) hgrow8 (fun j hj => .inr (.inr (HEB.out j (by rw [← HN.out]; exact hj)).1))
      refine HK.out _ _ HS8.out ?_
      clear HK hown8 hgrow8 hor8 hlt8 hF8 hpar8 hx8 fz8 d2 y0 y1 yl hpl hpl2 hre2' hS0 hbA
      (try simp only [Act.put, List.setIfInBounds_toArray, List.set_cons_zero, List.set_cons_succ])
      refine sOne (i := 9) (by kernel_rfl) rfl (by rfl) (fun K hK => ?_); have HK := Lib.hid hK; clear hK; go_simp
      refine HK.out _ _ HS8.out ?_
      clear HK
      (try simp only [Act.put, List.setIfInBounds_toArray, List.set_cons_zero, List.set_cons_succ])
      refine sOne (i := 10) (by kernel_rfl) rfl (by rfl) (fun K hK => ?_); have HK := Lib.hid hK; clear hK; go_simp
      refine HK.out _ _ HS8.out ?_
      clear HK
      (try simp only [Act.put, List.setIfInBounds_toArray, List.set_cons_zero, List.set_cons_succ])
      refine sOne (i := 11) (by kernel_rfl) rfl (by rfl) (fun K hK => ?_); have HK := Lib.hid hK; clear hK; go_simp
      refine HK.out _ _ HS8.out ?_
      clear HK
      (try simp only [Act.put, List.setIfInBounds_toArray, List.set_cons_zero, List.set_cons_succ])
      refine sLast (by kernel_rfl) rfl (by rfl) (fun K hK => ?_)
      have HK := Lib.hid hK
      clear hK
      go_simp
      refine HK.out _ _ ?_
      clear HK
      (try simp only [Act.put, List.setIfInBounds_toArray, List.set_cons_zero, List.set_cons_succ])
      refine sDone (by kernel_rfl) ?_ _
      go_wp2_with fail
      go_end0
      exact ⟨HB8.out.setCell (p := ⟨pb, 2, none⟩) (.inl rfl) _, HK2.out.trans HA.out.2, .inl ⟨_, HE.out, rfl, HA.out.1⟩⟩
    · have HE : Hid (rs = .error 2) := by show _ = _; rw [HIF.out, if_neg h4]
      have g1 : decide ((n : Int) < 4000) = false := decide_eq_false (by omega)
      clear h4
      go_wp2_with fail
      ((with_reducible refine (must_no _ _).mono ?_); rintro e w' ⟨rfl, rfl⟩)
      exact ⟨rfl, HB2.out, HK2.out, .inr ⟨2, HE.out, rfl⟩⟩
end Go.Proofs.YtjbcbejedaeedaaGreatDoor
