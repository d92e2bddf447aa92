/- Package tailor: what stands in quotes is read. Package tailor: a text is read. Package tailor: a text is read: the walk. -/
import Derived.Test.YtchjjfjjcdjjcaaGreatDoorGg
import Derived.Test.YtchjjfjjcdjjcaaGreatDoorGe
import Derived.Test.YtchjjfjjcdjjcaaGreatDoorVe
import Derived.Test.YtchjjfjjcdjjcaaGreatDoorVg
import Derived.Maps.AppendAt
/-! Package tailor: what stands in quotes is read. -/
namespace Go.Proofs.YtchjjfjjcdjjcaaGreatDoor
open Go.RowKit
open PlainAid (bt)

theorem runes_one (n : Nat) (W : World) (r : Int) (t : TypeId) (h : n ≤ W.heap.size) : Runes n (W.alloc (.cells #[.int .i32 r] t)) (.slice (some ⟨W.heap.size, 0, none⟩) 1 1) [r] := by
  refine ⟨_, _, rfl, ⟨Nat.le_refl _, by decide⟩, fun i x hx => ?_⟩
  cases i with
  | zero => cases hx; exact ⟨_, _, rfl, h, by simp, by simp [go_sem]⟩
  | succ i => simp at hx
set_option maxHeartbeats 4000000 in
set_option maxRecDepth 100000 in
theorem quote_any (s : ByteArray) (pb i : Nat) (lv : Value) (w : World) (h : PsAt w pb s i lv) (hi : i < s.size) (hs : s.size ≤ 1000000) (h39 : bt s i = 39) (hb : BD s i = none) :
    Calls Tryz.prog 78 #[.pointer (some ⟨pb, 0, none⟩)] w fun e w' => Only (fun k => k = pb) w w' ∧
      ((∃ x m v, quoT s i = some (x, m) ∧ e = .returned v ∧ Runes w.heap.size w' v x ∧ PsAt w' pb s (i + m) lv) ∨ (quoT s i = none ∧ e = .panicked (chainT i 100))) := by
  have hq := qE_is s (i + 1) (by omega)
  have HQE : Hid (qE s (i + 1) = if Lib.indexAny (s.data.toList.drop (i + 1)) [39, 10] < 0 then s.size else i + 1 + (Lib.indexAny (s.data.toList.drop (i + 1)) [39, 10]).toNat) := rfl
  have HQT : Hid (quoT s i = if qE s (i + 1) < s.size ∧ bt s (qE s (i + 1)) = 39 then some (if qE s (i + 1) = i + 1 then [39] else dTo s (i + 1) (qE s (i + 1)), qE s (i + 1) + 1 - i) else none) := rfl
  have HPI := fun J (h1 : J ≤ s.size) (h2 : i + 1 ≤ J) (h3 : J < s.size → bt s J < 128) => piece_is s (i + 1) J h1 h2 (bd_next hb hi (by omega)) h3
  have hbt := PlainAid.get_bt s
  obtain ⟨c0, c1, c2, cf, hpl⟩ := h.cells
  have f1 := cf 1
  have HP := Lib.hid h
  have hia := fun (w : World) => indexAny_any (s.extract (i + 1) s.size) ⟨#[39, 10]⟩ w rfl (by rw [size_extract' s (i + 1) s.size (Nat.le_refl _) (by omega)]; omega) (by
    intro j b hj
    have : b = 39 ∨ b = 10 := by
      have hm := List.mem_iff_getElem?.2 ⟨j, hj⟩
      simpa using hm
    rcases this with rfl | rfl <;> decide)
  rw [Lib.extract_to_end] at hia
  obtain ⟨J, hJ⟩ : ∃ J, qE s (i + 1) = J := ⟨_, rfl⟩
  rw [hJ] at hq HQE HQT
  obtain ⟨q1, q2, q3, q4⟩ := hq
  have hql : ∀ n : Nat, Lib.indexAny (s.data.toList.drop (i + 1)) [39, 10] = n → i + 1 + n < s.size := by
    intro n hn
    obtain ⟨_, x, h2, _⟩ := qe_yes hn
    rw [list_bt] at h2
    refine Nat.lt_of_not_le fun hle => ?_
    rw [if_neg (by omega)] at h2; cases h2
  have HQL := Lib.hid hql
  clear hql
  generalize Lib.indexAny (s.data.toList.drop (i + 1)) [39, 10] = q at *
  have HK : Hid (∀ V : World, Below w.heap.size w V → V.cell? ⟨pb, 0, none⟩ = some (.string s) ∧ V.cell? ⟨pb, 1, none⟩ = some (.int .i64 (i : Nat)) ∧ V.frozen? ⟨pb, 1, none⟩ = false) :=
    fun V hV => ⟨(hV.cell (p := ⟨pb, 0, none⟩) hpl).trans c0, (hV.cell (p := ⟨pb, 1, none⟩) hpl).trans c1, (hV.frozen (p := ⟨pb, 1, none⟩) hpl).trans f1⟩
  have HQ4 := Lib.hid q4
  clear h cf hJ q3 q4 hb
  obtain ⟨a, ha⟩ : ∃ a, a = i + 1 := ⟨_, rfl⟩
  have a1 : (i : Int) + 1 = (a : Int) := by omega
  have has : a ≤ s.size := by omega
  have sl1 : (0 : Int) ≤ (a : Int) ∧ (a : Int) ≤ (s.size : Int) := by omega
  rw [← ha] at hia HQE HQT HPI q1
  have HA := Lib.hid ha
  clear ha
  by_cases hneg : q < 0
  · have HE : Hid (quoT s i = none) := by
      show _ = _
      have := HQE.out
      rw [if_pos hneg] at this
      rw [HQT.out, this, if_neg (by omega)]
    have g1 : decide (0 ≤ q) = false := decide_eq_false (by omega)
    have g2 : ¬ 0 ≤ q := by omega
    clear HQ4 HPI
    go_enter Tryz.func78, Tryz.ntmps78
    go_wp2_with (first | (go_at_call 67; refine (hia _).mono ?_; rintro e w5 ⟨rfl, hb5⟩) | (go_at_call 57; refine (must_no _ _ _).mono ?_; rintro e w' ⟨rfl, rfl⟩))
    exact ⟨rfl, (Only.refl _ w).below hb5, .inr ⟨HE.out, rfl⟩⟩
  · obtain ⟨n, rfl⟩ : ∃ n : Nat, q = n := ⟨q.toNat, by omega⟩
    have HJ0 : Hid (J = a + n) := by have := HQE.out; rwa [if_neg hneg, Int.toNat_natCast] at this
    have j1 : (a : Int) + (n : Int) = (J : Int) := by have := HJ0.out; omega
    have hn0 : n ≤ s.size := by omega
    have hJs : J < s.size := by have := HQL.out n rfl; have := HJ0.out; have := HA.out; omega
    clear HQE hneg HQL
    · have hj2 : (0 : Int) ≤ (J : Int) ∧ (J : Int) < (s.size : Int) := by omega
      by_cases hc : bt s J = 39
      · have g1 : (bt s J == 39) = true := by simpa using hc
        have hpi := HPI J q2 q1 (fun _ => by omega)
        have HPI2 := Lib.hid hpi
        have hdz : ∀ w : World, Calls Tryz.prog 91 #[.string (s.extract a J)] w (DecPost (s.extract a J) w) := fun w => uDecode_any _ _ (by rw [size_extract' s a J q2 q1]; omega)
        have HD := Lib.hid hdz
        clear hdz hpi
        have HO : Hid (∀ V V' : World, Below w.heap.size w V → Below V.heap.size (V.setCell ⟨pb, 1, none⟩ (.int .i64 ((J + 1 : Nat) : Int))) V' → Only (fun k => k = pb) w V' ∧ PsAt V' pb s (J + 1) lv ∧ V'.cell? ⟨pb, 0, none⟩ = some (.string s)) := by
          intro V V' h1 h2
          have hp1 := (HP.out.below h1).go (J + 1)
          have h2' : Below (V.setCell ⟨pb, 1, none⟩ (.int .i64 ((J + 1 : Nat) : Int))).heap.size (V.setCell ⟨pb, 1, none⟩ (.int .i64 ((J + 1 : Nat) : Int))) V' := by simpa using h2
          have hp2 := hp1.below h2'
          exact ⟨((Only.below (Only.refl (fun k => k = pb) w) h1).setCell (p := ⟨pb, 1, none⟩) rfl _).below h2', hp2, hp2.cells.1⟩
        have HM : Hid (i + (J + 1 - i) = J + 1) := by show _ = _; have := HA.out; omega
        have e1 : (i : Int) + ((n : Int) + 2) = ((J + 1 : Nat) : Int) := by have := HJ0.out; have := HA.out; omega
        have e2 : (i : Int) + (n : Int) + 2 = ((J + 1 : Nat) : Int) := by omega
        obtain ⟨J1, hJ1⟩ : ∃ J1, J1 = J + 1 := ⟨_, rfl⟩
        rw [← hJ1] at HO HM e1 e2
        have HJ1 := Lib.hid hJ1
        clear hJ1
        by_cases hn : n = 0
        · have hnz : ((n : Int) == 0) = true := by rw [hn]; rfl
          have HE : Hid (quoT s i = some ([39], J + 1 - i)) := by
            show _ = _
            rw [HQT.out, if_pos ⟨hJs, hc⟩, if_pos (by have := HJ0.out; omega)]
          clear hn hc HD HPI2 HPI HQT HQ4
          go_enter Tryz.func78, Tryz.ntmps78
          go_wp2_with (first | (go_at_call 67; refine (hia _).mono ?_; rintro e w5 ⟨rfl, hb5⟩; obtain ⟨v0, v1, v2⟩ := HK.out w5 hb5) | (go_at_call 57; refine (must_ok _ _ _).mono ?_; rintro e w' ⟨rfl, rfl⟩))
          go_ret
          obtain ⟨k1, k2, _⟩ := HO.out w5 _ hb5 (Below.alloc (Below.refl _ _) (by simp) _)
          refine ⟨k1, .inl ⟨_, _, _, HE.out, rfl, ?_, ?_⟩⟩
          · have := runes_one w.heap.size (w5.setCell ⟨pb, 1, none⟩ (.int .i64 J1)) 39 21 (by simp; exact hb5.size)
            simpa using this
          · rw [← HJ1.out, HM.out]; exact k2
        · have hnz : ((n : Int) == 0) = false := by simpa using hn
          have HE : Hid (quoT s i = some (dTo s a J, J + 1 - i)) := by
            show _ = _
            rw [HQT.out, if_pos ⟨hJs, hc⟩, if_neg (by have := HJ0.out; omega)]
          have sl2 : (a : Int) ≤ (J : Int) := by omega
          have sl3 : (0 : Int) ≤ (J : Int) ∧ (J : Int) ≤ (s.size : Int) := by omega
          clear hn hc HPI HQT HQ4
          go_enter Tryz.func78, Tryz.ntmps78
          go_wp2_with (first | (go_at_call 67; refine (hia _).mono ?_; rintro e w5 ⟨rfl, hb5⟩; obtain ⟨v0, v1, v2⟩ := HK.out w5 hb5) | (go_at_call 57; refine (must_ok _ _ _).mono ?_; rintro e w' ⟨rfl, rfl⟩) | (go_at_call 91; refine (HD.out _).mono ?_; rintro e w7 ⟨v, rfl, hr7, hb7⟩))
          go_ret
          obtain ⟨k1, k2, _⟩ := HO.out w5 _ hb5 (by simpa using hb7)
          refine ⟨k1, .inl ⟨_, _, _, HE.out, rfl, ?_, ?_⟩⟩
          · rw [← HPI2.out.2]; exact hr7.mono (by simp; exact hb5.size)
          · rw [← HJ1.out, HM.out]; exact k2
      · have HE : Hid (quoT s i = none) := by
          show _ = _
          rw [HQT.out, if_neg (fun h => hc h.2)]
        have g1 : (bt s J == 39) = false := by simpa using hc
        clear hc HPI HQT HQ4
        go_enter Tryz.func78, Tryz.ntmps78
        go_wp2_with (first | (go_at_call 67; refine (hia _).mono ?_; rintro e w5 ⟨rfl, hb5⟩; obtain ⟨v0, v1, v2⟩ := HK.out w5 hb5) | (go_at_call 57; refine (must_no _ _ _).mono ?_; rintro e w' ⟨rfl, rfl⟩))
        exact ⟨rfl, (Only.refl _ w).below hb5, .inr ⟨HE.out, rfl⟩⟩
end Go.Proofs.YtchjjfjjcdjjcaaGreatDoor
/-! Package tailor: a text is read. -/
namespace Go.Proofs.YtchjjfjjcdjjcaaGreatDoor
open Go.RowKit
open PlainAid (bt)

theorem gPlace {R : Nat → Prop} {k : IntKind} {w : World} {v : Value} {xs : List Int} (h : IntsIn R k w v xs) (hne : 0 < xs.length) :
    ∃ b o cap, v = .slice (some ⟨b, o, none⟩) xs.length cap ∧ R b ∧ b < w.heap.size ∧ ∀ (i : Nat) (x : Int), xs[i]? = some x → w.cell? ⟨b, o + i, none⟩ = some (.int k x) := by
  obtain ⟨p, cap, rfl, _, h2⟩ := h
  obtain ⟨b, o, rfl, hb, hlt, _⟩ := h2 0 _ (List.getElem?_eq_getElem hne)
  refine ⟨b, o, cap, rfl, hb, hlt, fun i x hx => ?_⟩
  obtain ⟨b', o', e, _, _, h4⟩ := h2 i x hx
  cases e; exact h4
theorem gNews {k : IntKind} {w : World} {b o : Nat} {xs : List Int} (h : ∀ (i : Nat) (x : Int), xs[i]? = some x → w.cell? ⟨b, o + i, none⟩ = some (.int k x)) :
    ∀ (j : Nat) u, (xs.map (Value.int k))[j]? = some u → w.cell? ((⟨b, o, none⟩ : Addr).add j) = some u := by
  intro j u hj
  have : ((⟨b, o, none⟩ : Addr).add j) = ⟨b, o + j, none⟩ := by
    unfold Addr.add; split
    · rename_i h; rw [h, Nat.add_zero]
    · rfl
  rw [this]
  rw [List.getElem?_map] at hj
  cases hx : xs[j]? with
  | none => rw [hx] at hj; cases hj
  | some x => rw [hx] at hj; cases hj; exact h j x hx
theorem gCells (w : World) (l : List Value) (t : TypeId) : ∀ (j : Nat) u, l[j]? = some u → (w.alloc (.cells l.toArray t)).cell? ((⟨w.heap.size, 0, none⟩ : Addr).add j) = some u := by
  intro j u hj
  have : ((⟨w.heap.size, 0, none⟩ : Addr).add j) = ⟨w.heap.size, j, none⟩ := by
    unfold Addr.add; split
    · rename_i h; rw [h]
    · simp
  rw [this]
  unfold World.cell?
  rw [World.alloc_heap_new]
  simpa using hj
theorem gBlock {W W' : World} {B : Nat} {e : TypeId} {size : Nat} {v : Value} {n : Nat} {xs : List Value} (h : W.ownsRow B e size v n xs) (hb : ∀ j, v.ownBlock = some j → j < W.heap.size → W'.heap[j]? = W.heap[j]?) : W'.ownsRow B e size v n xs := by
  obtain ⟨h0, h⟩ := h
  rcases h with h | ⟨g, cap, cur, rfl, hg, hgb, h1⟩
  · exact ⟨h0, .inl h⟩
  · exact ⟨h0, .inr ⟨g, cap, cur, rfl, hg, by rw [hb g rfl (Array.getElem?_eq_some_iff.1 hgb).1]; exact hgb, h1⟩⟩
theorem gRunes {n : Nat} {w : World} {e : TypeId} {v : Value} {xs : List Int} (h : w.ownsRow n e 1 v xs.length (xs.map (Value.int .i32))) : Runes n w v xs := runes_of_row h
theorem gStop {P : Program} {ops : Array Oper} {Q : Exit → Act → World → Prop} {o : Oper} {rest : List Oper} {a : Act} {w : World} (_ : ∃ args ats, o.op = .call { callee := .builtin .append, args := args, argTypes := ats })
    (h : Hid (wpList P ops Q (o :: rest) a w)) : wpList P ops Q (o :: rest) a w := h.out
/-- between two rounds of a text's reader -/
structure TxAt (s : ByteArray) (pb : Nat) (lv : Value) (w : World) (j : Nat) (acc : List Int) (v : Value) (W : World) : Prop where
  row : W.ownsRow w.heap.size 21 1 v acc.length (acc.map (Value.int .i32))
  ps : PsAt W pb s j lv
  only : Only (fun k => k = pb) w W
  hpb : pb < w.heap.size
section
variable {s : ByteArray} {pb : Nat} {lv : Value} {w W W' : World} {j : Nat} {acc : List Int} {v : Value}
theorem TxAt.call (h : TxAt s pb lv w j acc v W) (ho : Only (fun k => k = pb) W W') {j' : Nat} (hp : PsAt W' pb s j' lv) : TxAt s pb lv w j' acc v W' :=
  ⟨gBlock h.row (fun i hi hl => ho.block i hl (fun e => by have := ownBlock_ge h.row hi; have := h.hpb; omega)), hp, h.only.trans ho, h.hpb⟩
theorem TxAt.below (h : TxAt s pb lv w j acc v W) (hb : Below W.heap.size W W') : TxAt s pb lv w j acc v W' :=
  h.call ((Only.refl _ W).below hb) (h.ps.below hb)
theorem TxAt.go (h : TxAt s pb lv w j acc v W) (i : Nat) : TxAt s pb lv w i acc v (W.setCell ⟨pb, 1, none⟩ (.int .i64 (i : Nat))) :=
  h.call ((Only.refl (fun k => k = pb) W).setCell (p := ⟨pb, 1, none⟩) rfl _) (h.ps.go i)
theorem TxAt.drewN (h : TxAt s pb lv w j acc v W) (n : Nat) : TxAt s pb lv w j acc v (W.drewN n) :=
  ⟨gBlock h.row (fun _ _ _ => rfl), h.ps.drewN n, only_drewN h.only n, h.hpb⟩
theorem TxAt.app (h : TxAt s pb lv w j acc v W) {v' : Value} {acc' : List Int} (hr : W'.ownsRow w.heap.size 21 1 v' acc'.length (acc'.map (Value.int .i32))) (hg : W.grownBy W' v.ownBlock) : TxAt s pb lv w j acc' v' W' := by
  have hne : ∀ k, k < w.heap.size → some k ≠ v.ownBlock := fun k hk e => by have := ownBlock_ge h.row e.symm; omega
  have hsz := h.only.size
  refine ⟨hr, ?_, ⟨hg.os.trans h.only.os, hg.tape.trans h.only.tape, hg.output.trans h.only.output, Nat.le_trans h.only.size hg.size, fun k hk hs => ?_⟩, h.hpb⟩
  · exact (hg.block pb (by have := h.hpb; omega) (hne pb h.hpb)).trans h.ps
  · exact (hg.block k (by omega) (hne k hk)).trans (h.only.block k hk hs)
end
theorem dT_len (s : ByteArray) (j : Nat) : ∀ (n a : Nat), BD s a = none → j ≤ s.size → (dT s n a j).length + a ≤ max a j
  | 0, a, _, _ => by simp [dT]; omega
  | n + 1, a, hb, hj => by
    rw [dT]
    split
    · rename_i hlt
      obtain ⟨h1, h2, h3⟩ := bd_step hb (by omega)
      by_cases hle : a + fmN s a ≤ j
      · have := dT_len s j n (a + fmN s a) h2 hj
        simp only [List.length_cons]; omega
      · cases n with
        | zero => simp [dT]; omega
        | succ n => rw [dT, if_neg (by omega)]; simp; omega
    · simp; omega
/-- what a quote tells -/
theorem quo_some {s : ByteArray} {i m : Nat} {x : List Int} (h : quoT s i = some (x, m)) (hi : i < s.size) (h39 : bt s i = 39) (hb : BD s i = none) :
    2 ≤ m ∧ i + m ≤ s.size ∧ BD s (i + m) = none ∧ x ≠ [] ∧ x.length + 1 ≤ m := by
  unfold quoT at h
  split at h
  · rename_i hc
    obtain ⟨q1, q2, q3, q4⟩ := qE_is s (i + 1) (by omega)
    have hb1 : BD s (i + 1) = none := bd_next hb hi (by omega)
    generalize qE s (i + 1) = J at *
    have hbJ := bd_ascii (s.size - (i + 1)) (i + 1) J (Nat.le_refl _) hb1 q1 q2 (fun _ => by omega)
    have hbJ1 := bd_next hbJ hc.1 (by omega)
    simp only [Option.some.injEq, Prod.mk.injEq] at h
    obtain ⟨rfl, rfl⟩ := h
    rw [show i + (J + 1 - i) = J + 1 by omega]
    refine ⟨by omega, by omega, hbJ1, ?_, ?_⟩
    · split
      · simp
      · rw [dTo_step hb1 q2 (by omega)]; simp
    · split
      · simp; omega
      · have := dT_len s J (J - (i + 1)) (i + 1) hb1 q2
        unfold dTo; omega
  · cases h
theorem hex_ascii {c : Int} (h : hexOk c) : c < 128 := by unfold hexOk at h; omega
/-- what an escape tells -/
theorem esc_some {s : ByteArray} {i m : Nat} {x : Int} (h : escT s i = some (x, m)) (hi : i < s.size) (h92 : bt s i = 92) (hb : BD s i = none) :
    2 ≤ m ∧ i + m ≤ s.size ∧ BD s (i + m) = none ∧ sc x = true := by
  unfold escT at h
  split at h
  · rename_i hc
    obtain ⟨c1, c2, c3, c4⟩ := hc
    simp only [Option.some.injEq, Prod.mk.injEq] at h
    obtain ⟨rfl, rfl⟩ := h
    refine ⟨by omega, by omega, ?_, c4⟩
    refine bd_run hb _ (by omega) (fun k hk => ?_)
    by_cases k0 : k = 0
    · subst k0; rw [Nat.add_zero]; omega
    · by_cases k1 : k = 1
      · subst k1
        unfold escN at c1
        split at c1
        · rename_i h; omega
        · split at c1
          · rename_i h; omega
          · omega
      · have := hex_ascii ((hexAll_iff s (i + 2) _).1 c3 (k - 2) (by omega))
        rwa [show i + 2 + (k - 2) = i + k by omega] at this
  · cases h
theorem stop_all : (List.range 256).all (fun n => decide (0 ≤ Lib.indexByte [32, 9, 10, 38, 60, 61, 47, 35] (n : Int).toNat.toUInt8) == stopB (n : Int)) = true := by kernel_rfl
theorem stop_is (c : Int) (h0 : 0 ≤ c) (h1 : c ≤ 255) : decide (0 ≤ Lib.indexByte [32, 9, 10, 38, 60, 61, 47, 35] c.toNat.toUInt8) = stopB c := by
  obtain ⟨n, rfl⟩ : ∃ n : Nat, c = n := ⟨c.toNat, by omega⟩
  have h := List.all_eq_true.1 stop_all n (by simp; omega)
  simpa using h
end Go.Proofs.YtchjjfjjcdjjcaaGreatDoor
/-! Package tailor: a text is read: the walk. -/
namespace Go.Proofs.YtchjjfjjcdjjcaaGreatDoor
open Go.RowKit
open PlainAid (bt)

theorem Tryz.infoR : (Tryz.prog.info? 21).map (fun i => (i.zero, i.size, i.bytes)) = some (some (.int .i32 0), 1, 4) := by kernel_rfl
theorem skip_bd {s : ByteArray} {i : Nat} (hi : i ≤ s.size) (h : BD s i = none) : BD s (skipT s i) = none := by
  have key : ∀ n j, s.size - j ≤ n → j ≤ s.size → BD s j = none → BD s (skipF s n j) = none := by
    intro n
    induction n with
    | zero => intro j _ _ hb; exact hb
    | succ n ih =>
      intro j hn hj hb
      rw [skipF]
      split
      · rename_i hlt
        split
        · rename_i hbl
          have : bt s j < 128 := by unfold blank at hbl; simp at hbl; omega
          exact ih _ (by omega) (by omega) (bd_next hb hlt this)
        · split
          · rename_i h35
            have hg := eolT_gt s j hlt (by omega)
            have hle := eolT_le s j hj
            refine ih _ (by omega) hle (bd_ascii _ _ _ (Nat.le_refl _) hb (Nat.le_of_lt hg) hle (fun hl => ?_))
            unfold eolT at hl ⊢
            split
            · rename_i hq; rw [if_pos hq] at hl; omega
            · rename_i hq
              rw [if_neg hq] at hl
              obtain ⟨m, hm⟩ : ∃ m : Nat, Lib.indexByte (s.data.toList.drop j) 10 = m := ⟨_, (Int.toNat_of_nonneg (by omega)).symm⟩
              have h1 := (Lib.indexByte_some hm).1
              rw [hm, Int.toNat_natCast] at hl ⊢
              rw [list_bt, if_pos hl] at h1
              have h2 := congrArg UInt8.toNat (Option.some.inj h1)
              have h3 := PlainAid.bt_nonneg s (j + m)
              have h4 := PlainAid.bt_le s (j + m)
              rw [UInt8.toNat_ofNat'] at h2
              have h5 : (bt s (j + m)).toNat % 2 ^ 8 = (bt s (j + m)).toNat := Nat.mod_eq_of_lt (by omega)
              rw [h5] at h2
              have h6 : (UInt8.toNat 10) = 10 := rfl
              omega
          · exact hb
      · exact hb
  exact key _ _ (Nat.le_refl _) hi h
theorem skip_ge (s : ByteArray) (i : Nat) (hi : i ≤ s.size) : i ≤ skipT s i := by
  have key : ∀ n j, j ≤ s.size → j ≤ skipF s n j := by
    intro n
    induction n with
    | zero => intro j _; exact Nat.le_refl _
    | succ n ih =>
      intro j hj
      rw [skipF]
      split
      · rename_i hlt
        split
        · have := ih (j + 1) (by omega); omega
        · split
          · rename_i h35
            have := eolT_gt s j hlt (by omega)
            have := ih (eolT s j) (eolT_le s j hj); omega
          · exact Nat.le_refl _
      · exact Nat.le_refl _
  exact key _ _ hi
theorem skip_le (s : ByteArray) (i : Nat) (hi : i ≤ s.size) : skipT s i ≤ s.size := by
  have key : ∀ n j, j ≤ s.size → skipF s n j ≤ s.size := by
    intro n
    induction n with
    | zero => intro j h; exact h
    | succ n ih =>
      intro j hj
      rw [skipF]
      split
      · split
        · exact ih _ (by omega)
        · split
          · exact ih _ (eolT_le s j hj)
          · exact hj
      · exact hj
  exact key _ _ hi
theorem TxAt.form {s : ByteArray} {pb : Nat} {lv : Value} {w W : World} {j : Nat} {acc : List Int} {v : Value} (h : TxAt s pb lv w j acc v W) : ∃ p cap, v = .slice p acc.length cap := by
  rcases h.row.2 with ⟨rfl, h0⟩ | ⟨g, cap, cur, rfl, _⟩
  · exact ⟨none, 0, by rw [h0]⟩
  · exact ⟨_, _, rfl⟩
/-- how a text's reader ends -/
def TextEnd (s : ByteArray) (pb i : Nat) (lv : Value) (w : World) (e : Ending) (w' : World) : Prop :=
  Only (fun k => k = pb) w w' ∧
    ((∃ xs a v, textT s i = (some xs, a) ∧ e = .returned v ∧ Runes w.heap.size w' v xs ∧ xs ≠ [] ∧ xs.length ≤ s.size ∧ PsAt w' pb s a lv ∧ i ≤ a ∧ a ≤ s.size ∧ BD s a = none) ∨
      (∃ a : Nat, textT s i = (none, a) ∧ e = .panicked (chainT a 100)))
set_option maxHeartbeats 4000000 in
set_option maxRecDepth 100000 in
theorem text_any (s : ByteArray) (pb i : Nat) (lv : Value) (w : World) (h : PsAt w pb s i lv) (hi : i ≤ s.size) (hs : s.size ≤ 1000000) (hb : BD s i = none) :
    Calls Tryz.prog 58 #[.pointer (some ⟨pb, 0, none⟩)] w (TextEnd s pb i lv w) := by
  have hmf : ∀ (fn : Fn) (first cap : Array Value) (w : World), (Instr.makeFunc fn first cap).run Tryz.prog w = .ok (.func fn first cap) w := fun _ _ _ _ => rfl
  have hbt := PlainAid.get_bt s
  have HP := Lib.hid h
  have hpl := h.cells.2.2.2.2
  have hk := skip_any s pb i lv
  have hbk := skip_bd hi hb
  have HTT : Hid (textT s i = someT (textF s (s.size - skipT s i) (skipT s i) [])) := rfl
  have HSI : Hid (i ≤ skipT s i) := skip_ge s i hi
  clear h
  obtain ⟨i0, hti, hz0, hz1, hz2⟩ := info_parts Tryz.infoR
  go_enter Tryz.func58, Tryz.ntmps58
  go_wp2_with (go_at_call 31; refine (hk _ HP.out hi hs).mono ?_; rintro e w1 ⟨rfl, hp1, hle1, ho1⟩)
  generalize skipT s i = i1 at *
  have HP1 := Lib.hid hp1
  have HO1 := Lib.hid ho1
  clear hk hp1 ho1 HP
  have hpl1 : pb < w1.heap.size := Nat.lt_of_lt_of_le hpl HO1.out.size
  go_loopg [3] (s.size - i1) (fun g lv3 wr => ∃ (j : Nat) (acc : List Int), TxAt s pb lv w1 j acc lv3 wr ∧ j ≤ s.size ∧ i1 ≤ j ∧ s.size - j ≤ g ∧ BD s j = none ∧ textF s g j acc = textF s (s.size - i1) i1 [] ∧ acc.length ≤ j)
  case atStart => exact ⟨i1, [], ⟨World.ownsRow_nil _ _ _ _, HP1.out, Only.refl _ _, hpl1⟩, hle1, Nat.le_refl _, Nat.le_refl _, hbk, rfl, Nat.zero_le _⟩
  case round =>
    obtain ⟨j, acc, hT, hj, hij, hjg, hbj, hF, hal⟩ := hrel
    have HT := Lib.hid hT
    have HF := Lib.hid hF
    obtain ⟨c0, c1, c2, cf, _⟩ := hT.ps.cells
    have f1 := cf 1
    clear hT hF cf
    by_cases hlt : j < s.size
    · have hlt' : decide (j < s.size) = true := decide_eq_true hlt
      have hlz : decide ((j : Int) < (s.size : Int)) = true := decide_eq_true (by omega)
      go_wp2_with fail
      go_quiet (fail)
      go_wp2_with fail
      go_quiet (fail)
      obtain ⟨g, rfl⟩ : ∃ g, gk = g + 1 := ⟨gk - 1, by omega⟩
      have HEQ : Hid (textF s (g + 1) j acc = if bt s j = 92 then (match escT s j with | none => (none, j) | some x => textF s g (j + x.2) (acc ++ [x.1]))
          else if bt s j = 39 then (match quoT s j with | none => (none, j) | some x => textF s g (j + x.2) (acc ++ x.1))
          else if stopB (bt s j) = true then (some acc, j) else textF s g (j + fmN s j) (acc ++ [fmR s j])) := by
        show _ = _
        rw [textF, if_pos hlt]; rfl
      have hesc := fun x m (h : escT s j = some (x, m)) (h92 : bt s j = 92) => esc_some h hlt h92 hbj
      have hquo := fun x m (h : quoT s j = some (x, m)) (h39 : bt s j = 39) => quo_some h hlt h39 hbj
      obtain ⟨q, hq⟩ : ∃ q, Lib.indexByte (⟨#[32, 9, 10, 38, 60, 61, 47, 35]⟩ : ByteArray).data.toList (bt s j).toNat.toUInt8 = q := ⟨_, rfl⟩
      have hst : decide (0 ≤ q) = stopB (bt s j) := by rw [← hq]; exact stop_is (bt s j) (PlainAid.bt_nonneg s j) (PlainAid.bt_le s j)
      have HQQ := Lib.hid hq
      clear hq
      have HESC := Lib.hid hesc
      have HQUO := Lib.hid hquo
      have HST := Lib.hid hst
      have HCH := Lib.hid (And.intro (PlainAid.bt_nonneg s j) (PlainAid.bt_le s j))
      clear hesc hquo hst c0 c1 c2
      by_cases h92 : bt s j = 92
      · have e92 : (bt s j == 92) = true := by simpa using h92
        rw [if_pos h92] at HEQ
        go_wp2_with fail
        refine (escape_any s pb j lv _ (HT.out.ps.drewN _) hlt hs h92).mono ?_
        rintro e w5 ⟨ho5, ⟨x, m, he, rfl, hp5⟩ | ⟨he, rfl⟩⟩
        · have hfac := HESC.out x m he h92
          have HEF : Hid (textF s g (j + m) (acc ++ [x]) = textF s (s.size - i1) i1 []) := by
            show _ = _
            rw [← HF.out, HEQ.out, he]
          have HT5 := Lib.hid ((HT.out.drewN _).call ho5 hp5)
          have HT6 := Lib.hid (HT5.out.below ((Below.refl _ w5).alloc (Nat.le_refl _) (.cells #[.int .i32 x] 21)))
          have hsz := HT6.out.only.size
          have HFAC := Lib.hid hfac
          clear he hfac ho5 hp5 HEQ HESC HQUO HT e92 h92 HST HF
          go_wp2_with (at_builtin; refine gStop ⟨_, _, rfl⟩ ?_)
          refine Lib.hid ?_
          refine wpList_append_own_at _ rfl _ _ 34 rfl w1.heap.size 21 i0 (.int .i32 0) 1 4 Tryz.underlying34 hti hz0 hz1 hz2 rfl (by decide) _ acc.length (acc.map (Value.int .i32)) rfl HT6.out.row ⟨w5.heap.size, 0, none⟩ 1 1 [.int .i32 x] rfl rfl (gCells _ _ _) (by simp [Value.oneCell']) (by unfold maxLen; omega) (by omega) hsz ?_
          intro v7 w7 hrow7 hg7 _ _
          have HT7 := Lib.hid (HT6.out.app (acc' := acc ++ [x]) (by rw [List.length_append, List.map_append]; exact hrow7) hg7)
          clear hrow7 hg7 HT6 HT5 hsz
          go_wp2_with fail
          go_roundg g
          case measure => omega
          case rel => exact ⟨j + m, acc ++ [x], HT7.out, HFAC.out.2.1, by omega, by have := HFAC.out.1; omega, HFAC.out.2.2.1, HEF.out, by have := HFAC.out.1; simp; omega⟩
        · have HE : Hid (textT s i = (none, j)) := by
            show _ = _
            rw [HTT.out, ← HF.out, HEQ.out, he]; rfl
          exact ⟨rfl, (HO1.out.trans (HT.out.only)).trans ((only_drewN (Only.refl _ _) _).trans ho5), .inr ⟨j, HE.out, rfl⟩⟩
      · have e92 : (bt s j == 92) = false := by simpa using h92
        rw [if_neg h92] at HEQ
        clear h92 HESC
        by_cases h39 : bt s j = 39
        · have e39 : (bt s j == 39) = true := by simpa using h39
          rw [if_pos h39] at HEQ
          go_wp2_with fail
          refine (quote_any s pb j lv _ (HT.out.ps.drewN _) hlt hs h39 hbj).mono ?_
          rintro e w5 ⟨ho5, ⟨x, m, v, he, rfl, hr5, hp5⟩ | ⟨he, rfl⟩⟩
          · have hfac := HQUO.out x m he h39
            have HEF : Hid (textF s g (j + m) (acc ++ x) = textF s (s.size - i1) i1 []) := by
              show _ = _
              rw [← HF.out, HEQ.out, he]
            have HT5 := Lib.hid ((HT.out.drewN _).call ho5 hp5)
            have hsz := HT5.out.only.size
            obtain ⟨b, o, cap, rfl, _, _, hcells⟩ := gPlace hr5 (List.length_pos_iff.2 hfac.2.2.2.1)
            have HFAC := Lib.hid hfac
            have HCL := Lib.hid (gNews hcells)
            have HXL : Hid (x.length ≤ 1000000) := by show _ ≤ _; omega
            clear he hfac ho5 hp5 HEQ HQUO HT e92 e39 h39 HST HF hr5 hcells
            go_wp2_with (at_builtin; refine gStop ⟨_, _, rfl⟩ ?_)
            refine Lib.hid ?_
            refine wpList_append_own_at _ rfl _ _ 34 rfl w1.heap.size 21 i0 (.int .i32 0) 1 4 Tryz.underlying34 hti hz0 hz1 hz2 rfl (by decide) _ acc.length (acc.map (Value.int .i32)) rfl HT5.out.row ⟨b, o, none⟩ x.length cap (x.map (Value.int .i32)) rfl (by simp) HCL.out (by simp [Value.oneCell']) (by unfold maxLen; have := HXL.out; omega) (by have := HXL.out; omega) hsz ?_
            intro v7 w7 hrow7 hg7 _ _
            have HT7 := Lib.hid (HT5.out.app (acc' := acc ++ x) (by rw [List.length_append, List.map_append]; exact hrow7) hg7)
            clear hrow7 hg7 HT5 hsz HCL
            go_wp2_with fail
            go_roundg g
            case measure => omega
            case rel => exact ⟨j + m, acc ++ x, HT7.out, HFAC.out.2.1, by omega, by have := HFAC.out.1; omega, HFAC.out.2.2.1, HEF.out, by have := HFAC.out; simp; omega⟩
          · have HE : Hid (textT s i = (none, j)) := by
              show _ = _
              rw [HTT.out, ← HF.out, HEQ.out, he]; rfl
            exact ⟨rfl, (HO1.out.trans (HT.out.only)).trans ((only_drewN (Only.refl _ _) _).trans ho5), .inr ⟨j, HE.out, rfl⟩⟩
        · have e39 : (bt s j == 39) = false := by simpa using h39
          rw [if_neg h39] at HEQ
          clear h39 HQUO
          cases hsb : stopB (bt s j) with
          | true =>
            rw [hsb, if_pos rfl] at HEQ
            rw [hsb] at HST
            have HFIN : Hid (textT s i = someT (some acc, j)) := by
              show _ = _
              rw [HTT.out, ← HF.out, HEQ.out]
            have HT5 := Lib.hid (fun n => HT.out.drewN n)
            obtain ⟨_, c1, _, _, _⟩ := HT.out.ps.cells
            obtain ⟨p3, cap3, rfl⟩ := HT.out.form
            obtain ⟨n3, hn3⟩ : ∃ n3, n3 = acc.length := ⟨_, rfl⟩
            rw [← hn3]
            have HN3 := Lib.hid hn3
            clear hn3
            have g1 : 0 ≤ q := of_decide_eq_true HST.out
            by_cases hz : n3 = 0
            · have hzz : decide (0 < n3) = false := decide_eq_false (by omega)
              have HE : Hid (textT s i = (none, j)) := by
                show _ = _
                rw [HFIN.out, List.eq_nil_of_length_eq_zero (HN3.out.symm.trans hz)]; rfl
              clear hz
              go_wp2_with (first | (go_at_call 55; refine (indexByte_any _ _ _).mono ?_; rintro e w5 ⟨rfl, rfl⟩; rw [HQQ.out]) | (go_at_call 57; refine (must_no _ _ _).mono ?_; rintro e w' ⟨rfl, rfl⟩))
              exact ⟨rfl, HO1.out.trans (HT5.out _).only, .inr ⟨j, HE.out, rfl⟩⟩
            · have hzz : decide (0 < n3) = true := decide_eq_true (by omega)
              have HE : Hid (textT s i = (some acc, j) ∧ acc ≠ []) := by
                have hne : acc ≠ [] := fun e => hz (by have := HN3.out; rw [e] at this; exact this)
                refine ⟨?_, hne⟩
                rw [HFIN.out, someT, if_neg hne]
              clear hz
              go_wp2_with (first | (go_at_call 55; refine (indexByte_any _ _ _).mono ?_; rintro e w5 ⟨rfl, rfl⟩; rw [HQQ.out]) | (go_at_call 57; refine (must_ok _ _ _).mono ?_; rintro e w' ⟨rfl, rfl⟩))
              go_ret
              refine ⟨HO1.out.trans (HT5.out _).only, .inl ⟨acc, j, _, HE.out.1, rfl, ?_, HE.out.2, by have := HN3.out; omega, (HT5.out _).ps, by have := HSI.out; omega, hj, hbj⟩⟩
              rw [HN3.out]
              exact (gRunes (HT5.out _).row).mono HO1.out.size
          | false =>
            have hfac := bd_step hbj hlt
            have HEF : Hid (textF s g (j + fmN s j) (acc ++ [fmR s j]) = textF s (s.size - i1) i1 []) := by
              show _ = _
              rw [← HF.out, HEQ.out, hsb, if_neg (by simp)]
            have g1 : ¬ 0 ≤ q := of_decide_eq_false (HST.out.trans hsb)
            have hnx : ∀ W : World, Calls Tryz.prog 79 #[.string s, .int .i64 j] W fun e w' => e = .returned (.tuple #[.int .i32 (fmR s j), .int .i64 (fmN s j), .int .i64 (erN (fmN s j))]) ∧ Below W.heap.size W w' := fun W => next_in s j W (by omega) hlt
            have HNX := Lib.hid hnx
            have HFAC := Lib.hid hfac
            clear hnx hfac hsb
            go_wp2_with (go_at_call 55; refine (indexByte_any _ _ _).mono ?_; rintro e w5 ⟨rfl, h5⟩; rw [HQQ.out]; have HT5 := Lib.hid (show TxAt s pb lv w1 j acc u3 w5 from h5 ▸ HT.out.drewN _); clear h5; obtain ⟨c0, c1, _, cf5, hlw⟩ := HT5.out.ps.cells; have f5 := cf5 1; clear cf5)
            refine wp_region_over (by kernel_rfl) (by kernel_rfl) ?_; (repeat (go_big_quiet_step (((go_at_call 79; exact over_of (HNX.out _)))))); refine wpQuiet_nil ?_; intro w2 hb2
            have HT6 := Lib.hid (HT5.out.below hb2)
            have HT7 := Lib.hid (HT6.out.below ((Below.refl _ w2).alloc (Nat.le_refl _) (.cells #[.int .i32 (fmR s j)] 21)))
            have hsz := HT7.out.only.size
            have hfl := fmN_le s j
            clear hb2 HT5 HNX c0 c1 f5 hlw
            generalize fmR s j = r at *
            generalize fmN s j = m at *
            generalize erN m = em at *
            go_wp2_with (at_builtin; refine gStop ⟨_, _, rfl⟩ ?_)
            refine Lib.hid ?_
            refine wpList_append_own_at _ rfl _ _ 34 rfl w1.heap.size 21 i0 (.int .i32 0) 1 4 Tryz.underlying34 hti hz0 hz1 hz2 rfl (by decide) _ acc.length (acc.map (Value.int .i32)) rfl HT7.out.row ⟨w2.heap.size, 0, none⟩ 1 1 [.int .i32 r] rfl rfl (gCells _ _ _) (by simp [Value.oneCell']) (by unfold maxLen; omega) (by omega) hsz ?_
            intro v7 w7 hrow7 hg7 _ _
            have HT8 := Lib.hid (HT7.out.app (acc' := acc ++ [r]) (by rw [List.length_append, List.map_append]; exact hrow7) hg7)
            clear hrow7 hg7 HT7 HT6 hsz
            obtain ⟨c0, c1, _, cf8, hlw⟩ := HT8.out.ps.cells
            have f8 := cf8 1
            clear cf8 c0
            go_wp2_with fail
            go_roundg g
            case measure => omega
            case rel =>
              refine ⟨j + m, acc ++ [r], ?_, HFAC.out.2.2, by omega, by have := HFAC.out.1; omega, HFAC.out.2.1, HEF.out, by have := HFAC.out.1; simp; omega⟩
              rw [show (j : Int) + (m : Int) = ((j + m : Nat) : Int) from by omega]
              exact HT8.out.go (j + m)
    · have hlt' : decide (j < s.size) = false := decide_eq_false hlt
      have hlz : decide ((j : Int) < (s.size : Int)) = false := decide_eq_false (by omega)
      have HFIN : Hid (textT s i = someT (some acc, j)) := by
        show _ = _
        rw [HTT.out, ← HF.out]
        cases gk with
        | zero => rfl
        | succ n => rw [textF, if_neg hlt]
      have HQQ : Hid True := trivial
      go_wp2_with fail
      go_quiet (fail)
      have HT5 := Lib.hid (fun n => HT.out.drewN n)
      obtain ⟨p3, cap3, rfl⟩ := HT.out.form
      obtain ⟨n3, hn3⟩ : ∃ n3, n3 = acc.length := ⟨_, rfl⟩
      rw [← hn3]
      have HN3 := Lib.hid hn3
      clear hn3
      by_cases hz : n3 = 0
      · have hzz : decide (0 < n3) = false := decide_eq_false (by omega)
        have HE : Hid (textT s i = (none, j)) := by
          show _ = _
          rw [HFIN.out, List.eq_nil_of_length_eq_zero (HN3.out.symm.trans hz)]; rfl
        clear hz
        go_wp2_with (first | (go_at_call 57; refine (must_no _ _ _).mono ?_; rintro e w' ⟨rfl, rfl⟩))
        exact ⟨rfl, HO1.out.trans (HT5.out _).only, .inr ⟨j, HE.out, rfl⟩⟩
      · have hzz : decide (0 < n3) = true := decide_eq_true (by omega)
        have HE : Hid (textT s i = (some acc, j) ∧ acc ≠ []) := by
          have hne : acc ≠ [] := fun e => hz (by have := HN3.out; rw [e] at this; exact this)
          refine ⟨?_, hne⟩
          rw [HFIN.out, someT, if_neg hne]
        clear hz
        go_wp2_with (first | (go_at_call 57; refine (must_ok _ _ _).mono ?_; rintro e w' ⟨rfl, rfl⟩))
        go_ret
        refine ⟨HO1.out.trans (HT5.out _).only, .inl ⟨acc, j, _, HE.out.1, rfl, ?_, HE.out.2, by have := HN3.out; omega, (HT5.out _).ps, by have := HSI.out; omega, hj, hbj⟩⟩
        rw [HN3.out]
        exact (gRunes (HT5.out _).row).mono HO1.out.size
end Go.Proofs.YtchjjfjjcdjjcaaGreatDoor
