/- Package tailor: a text is read. -/
import Derived.Test.YtchjjfjjcdjjcaaDoorGi
import Derived.Test.YtchjjfjjcdjjcaaDoorVg
import Derived.Maps.AppendAt
namespace Go.Proofs.YtchjjfjjcdjjcaaDoor
open Go.RowKit
open PlainAid (bt)

theorem gPlace {R : Nat → Prop} {k : IntKind} {w : World} {v : Value} {xs : List Int} (h : IntsIn R k w v xs) (hne : 0 < xs.length) :
    ∃ b o cap, v = .slice (some ⟨b, o, none⟩) xs.length cap ∧ R b ∧ b < w.heap.size ∧ ∀ (i : Nat) (x : Int), xs[i]? = some x → w.cell? ⟨b, o + i, none⟩ = some (.int k x) := by
  obtain ⟨p, cap, rfl, _, h2⟩ := h
  obtain ⟨b, o, rfl, hb, hlt, _⟩ := h2 0 _ (List.getElem?_eq_getElem hne)
  refine ⟨b, o, cap, rfl, hb, hlt, fun i x hx => ?_⟩
  obtain ⟨b', o', e, _, _, h4⟩ := h2 i x hx
  cases e; exact h4
theorem gNews {k : IntKind} {w : World} {b o : Nat} {xs : List Int} (h : ∀ (i : Nat) (x : Int), xs[i]? = some x → w.cell? ⟨b, o + i, none⟩ = some (.int k x)) :
    ∀ (j : Nat) u, (xs.map (Value.int k))[j]? = some u → w.cell? ((⟨b, o, none⟩ : Addr).add j) = some u := by
  intro j u hj
  have : ((⟨b, o, none⟩ : Addr).add j) = ⟨b, o + j, none⟩ := by
    unfold Addr.add; split
    · rename_i h; rw [h, Nat.add_zero]
    · rfl
  rw [this]
  rw [List.getElem?_map] at hj
  cases hx : xs[j]? with
  | none => rw [hx] at hj; cases hj
  | some x => rw [hx] at hj; cases hj; exact h j x hx
theorem gCells (w : World) (l : List Value) (t : TypeId) : ∀ (j : Nat) u, l[j]? = some u → (w.alloc (.cells l.toArray t)).cell? ((⟨w.heap.size, 0, none⟩ : Addr).add j) = some u := by
  intro j u hj
  have : ((⟨w.heap.size, 0, none⟩ : Addr).add j) = ⟨w.heap.size, j, none⟩ := by
    unfold Addr.add; split
    · rename_i h; rw [h]
    · simp
  rw [this]
  unfold World.cell?
  rw [World.alloc_heap_new]
  simpa using hj
theorem gBlock {W W' : World} {B : Nat} {e : TypeId} {size : Nat} {v : Value} {n : Nat} {xs : List Value} (h : W.ownsRow B e size v n xs) (hb : ∀ j, v.ownBlock = some j → j < W.heap.size → W'.heap[j]? = W.heap[j]?) : W'.ownsRow B e size v n xs := by
  obtain ⟨h0, h⟩ := h
  rcases h with h | ⟨g, cap, cur, rfl, hg, hgb, h1⟩
  · exact ⟨h0, .inl h⟩
  · exact ⟨h0, .inr ⟨g, cap, cur, rfl, hg, by rw [hb g rfl (Array.getElem?_eq_some_iff.1 hgb).1]; exact hgb, h1⟩⟩
theorem gRunes {n : Nat} {w : World} {e : TypeId} {v : Value} {xs : List Int} (h : w.ownsRow n e 1 v xs.length (xs.map (Value.int .i32))) : Runes n w v xs := runes_of_row h
theorem gStop {P : Program} {ops : Array Oper} {Q : Exit → Act → World → Prop} {o : Oper} {rest : List Oper} {a : Act} {w : World} (_ : ∃ args ats, o.op = .call { callee := .builtin .append, args := args, argTypes := ats })
    (h : Hid (wpList P ops Q (o :: rest) a w)) : wpList P ops Q (o :: rest) a w := h.out
/-- between two rounds of a text's reader -/
structure TxAt (s : ByteArray) (pb : Nat) (lv : Value) (w : World) (j : Nat) (acc : List Int) (v : Value) (W : World) : Prop where
  row : W.ownsRow w.heap.size 21 1 v acc.length (acc.map (Value.int .i32))
  ps : PsAt W pb s j lv
  only : Only (fun k => k = pb) w W
  hpb : pb < w.heap.size
section
variable {s : ByteArray} {pb : Nat} {lv : Value} {w W W' : World} {j : Nat} {acc : List Int} {v : Value}
theorem TxAt.call (h : TxAt s pb lv w j acc v W) (ho : Only (fun k => k = pb) W W') {j' : Nat} (hp : PsAt W' pb s j' lv) : TxAt s pb lv w j' acc v W' :=
  ⟨gBlock h.row (fun i hi hl => ho.block i hl (fun e => by have := ownBlock_ge h.row hi; have := h.hpb; omega)), hp, h.only.trans ho, h.hpb⟩
theorem TxAt.below (h : TxAt s pb lv w j acc v W) (hb : Below W.heap.size W W') : TxAt s pb lv w j acc v W' :=
  h.call ((Only.refl _ W).below hb) (h.ps.below hb)
theorem TxAt.go (h : TxAt s pb lv w j acc v W) (i : Nat) : TxAt s pb lv w i acc v (W.setCell ⟨pb, 1, none⟩ (.int .i64 (i : Nat))) :=
  h.call ((Only.refl (fun k => k = pb) W).setCell (p := ⟨pb, 1, none⟩) rfl _) (h.ps.go i)
theorem TxAt.drewN (h : TxAt s pb lv w j acc v W) (n : Nat) : TxAt s pb lv w j acc v (W.drewN n) :=
  ⟨gBlock h.row (fun _ _ _ => rfl), h.ps.drewN n, only_drewN h.only n, h.hpb⟩
theorem TxAt.app (h : TxAt s pb lv w j acc v W) {v' : Value} {acc' : List Int} (hr : W'.ownsRow w.heap.size 21 1 v' acc'.length (acc'.map (Value.int .i32))) (hg : W.grownBy W' v.ownBlock) : TxAt s pb lv w j acc' v' W' := by
  have hne : ∀ k, k < w.heap.size → some k ≠ v.ownBlock := fun k hk e => by have := ownBlock_ge h.row e.symm; omega
  have hsz := h.only.size
  refine ⟨hr, ?_, ⟨hg.os.trans h.only.os, hg.tape.trans h.only.tape, hg.output.trans h.only.output, Nat.le_trans h.only.size hg.size, fun k hk hs => ?_⟩, h.hpb⟩
  · exact (hg.block pb (by have := h.hpb; omega) (hne pb h.hpb)).trans h.ps
  · exact (hg.block k (by omega) (hne k hk)).trans (h.only.block k hk hs)
end
theorem dT_len (s : ByteArray) (j : Nat) : ∀ (n a : Nat), BD s a = none → j ≤ s.size → (dT s n a j).length + a ≤ max a j
  | 0, a, _, _ => by simp [dT]; omega
  | n + 1, a, hb, hj => by
    rw [dT]
    split
    · rename_i hlt
      obtain ⟨h1, h2, h3⟩ := bd_step hb (by omega)
      by_cases hle : a + fmN s a ≤ j
      · have := dT_len s j n (a + fmN s a) h2 hj
        simp only [List.length_cons]; omega
      · cases n with
        | zero => simp [dT]; omega
        | succ n => rw [dT, if_neg (by omega)]; simp; omega
    · simp; omega
/-- what a quote tells -/
theorem quo_some {s : ByteArray} {i m : Nat} {x : List Int} (h : quoT s i = some (x, m)) (hi : i < s.size) (h39 : bt s i = 39) (hb : BD s i = none) :
    2 ≤ m ∧ i + m ≤ s.size ∧ BD s (i + m) = none ∧ x ≠ [] ∧ x.length + 1 ≤ m := by
  unfold quoT at h
  split at h
  · rename_i hc
    obtain ⟨q1, q2, q3, q4⟩ := qE_is s (i + 1) (by omega)
    have hb1 : BD s (i + 1) = none := bd_next hb hi (by omega)
    generalize qE s (i + 1) = J at *
    have hbJ := bd_ascii (s.size - (i + 1)) (i + 1) J (Nat.le_refl _) hb1 q1 q2 (fun _ => by omega)
    have hbJ1 := bd_next hbJ hc.1 (by omega)
    simp only [Option.some.injEq, Prod.mk.injEq] at h
    obtain ⟨rfl, rfl⟩ := h
    rw [show i + (J + 1 - i) = J + 1 by omega]
    refine ⟨by omega, by omega, hbJ1, ?_, ?_⟩
    · split
      · simp
      · rw [dTo_step hb1 q2 (by omega)]; simp
    · split
      · simp; omega
      · have := dT_len s J (J - (i + 1)) (i + 1) hb1 q2
        unfold dTo; omega
  · cases h
theorem hex_ascii {c : Int} (h : hexOk c) : c < 128 := by unfold hexOk at h; omega
/-- what an escape tells -/
theorem esc_some {s : ByteArray} {i m : Nat} {x : Int} (h : escT s i = some (x, m)) (hi : i < s.size) (h92 : bt s i = 92) (hb : BD s i = none) :
    2 ≤ m ∧ i + m ≤ s.size ∧ BD s (i + m) = none ∧ sc x = true := by
  unfold escT at h
  split at h
  · rename_i hc
    obtain ⟨c1, c2, c3, c4⟩ := hc
    simp only [Option.some.injEq, Prod.mk.injEq] at h
    obtain ⟨rfl, rfl⟩ := h
    refine ⟨by omega, by omega, ?_, c4⟩
    refine bd_run hb _ (by omega) (fun k hk => ?_)
    by_cases k0 : k = 0
    · subst k0; rw [Nat.add_zero]; omega
    · by_cases k1 : k = 1
      · subst k1
        unfold escN at c1
        split at c1
        · rename_i h; omega
        · split at c1
          · rename_i h; omega
          · omega
      · have := hex_ascii ((hexAll_iff s (i + 2) _).1 c3 (k - 2) (by omega))
        rwa [show i + 2 + (k - 2) = i + k by omega] at this
  · cases h
theorem stop_all : (List.range 256).all (fun n => decide (0 ≤ Lib.indexByte [32, 9, 10, 38, 60, 61, 47, 35] (n : Int).toNat.toUInt8) == stopB (n : Int)) = true := by kernel_rfl
theorem stop_is (c : Int) (h0 : 0 ≤ c) (h1 : c ≤ 255) : decide (0 ≤ Lib.indexByte [32, 9, 10, 38, 60, 61, 47, 35] c.toNat.toUInt8) = stopB c := by
  obtain ⟨n, rfl⟩ : ∃ n : Nat, c = n := ⟨c.toNat, by omega⟩
  have h := List.all_eq_true.1 stop_all n (by simp; omega)
  simpa using h
end Go.Proofs.YtchjjfjjcdjjcaaDoor
