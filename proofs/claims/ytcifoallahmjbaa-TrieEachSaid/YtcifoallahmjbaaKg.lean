/- A trie's walk at one node, and at all. -/
import Derived.Test.YtcifoallahmjbaaKf
import Derived.Sort.CutIn
namespace Go.Proofs.Ytcifoallahmjbaa
open Go.RowKit

theorem Wk.Ok.here {k : Wk} (O : k.Ok) {p : List Int} {i : Nat} (h : idx k.es p = some i) : ∃ x, k.es[i]? = some x ∧ x.1 = p := idx_some h
theorem ints_own_r {B : Nat} {w : World} {v : Value} {e : TypeId} {xs : List Int} (h : w.ownsRow B e 1 v xs.length (xs.map (Value.int .i32))) : IntsIn (fun b => B ≤ b) .i32 w v xs := by
  rcases h.2 with ⟨rfl, h0⟩ | ⟨g, cap, cur, rfl, hg, hgb, h1, h2, h3, h4⟩
  · obtain rfl := List.eq_nil_of_length_eq_zero h0; exact .nil _ _ _
  · refine ⟨_, _, rfl, ⟨h1, h2⟩, fun i x hx => ⟨g, 0, rfl, hg, (Array.getElem?_eq_some_iff.1 hgb).1, ?_⟩⟩
    have hi : i < xs.length := (List.getElem?_eq_some_iff.1 hx).1
    have e : (cur.toList.take (xs.length * 1))[i]? = some (.int .i32 x) := by rw [h4]; simp [hx]
    rw [List.getElem?_take, if_pos (by omega)] at e
    simp only [World.cell?, hgb, Nat.zero_add]
    simp only [Option.isSome_none, Bool.false_eq_true, if_false]
    rw [← Array.getElem?_toList]; exact e
theorem pre_child {L A B C : List Nat} {s : Nat} (h : A ++ (B ++ C) <+: L.drop s) : B <+: L.drop (s + A.length) := by
  obtain ⟨y, hy⟩ := h
  refine ⟨C ++ y, ?_⟩
  rw [← List.drop_drop, ← hy, List.append_assoc, List.drop_left, List.append_assoc]
theorem flat_split {ks : List Int} {j : Nat} {r : Int} (f : Int → List Nat) (h : ks[j]? = some r) : ks.flatMap f = (ks.take j).flatMap f ++ (f r ++ (ks.drop (j + 1)).flatMap f) := by
  have e : ks = ks.take j ++ (r :: ks.drop (j + 1)) := by
    have hl := (List.getElem?_eq_some_iff.1 h).1
    rw [← List.take_append_drop j ks] 
    congr 1
    · rw [List.take_append_drop]
    · rw [List.take_append_drop, List.drop_eq_getElem_cons hl]
      congr 1
      have := (List.getElem?_eq_some_iff.1 h).2
      exact this
  conv => lhs; rw [e]
  rw [List.flatMap_append, List.flatMap_cons]
theorem flat_next {ks : List Int} {j : Nat} {r : Int} (f : Int → List Nat) (h : ks[j]? = some r) : ((ks.take (j + 1)).flatMap f).length = ((ks.take j).flatMap f).length + (f r).length := by
  rw [take_snoc' h, List.flatMap_append]; simp
theorem kept_above {M : Nat} {A B : World} (h : AboveM M A B) : Kept (fun b => M ≤ b) A B := ⟨h.1, fun b hb hl => h.2 b hb hl⟩
theorem NewAt.rowVs {B : Nat} {W : World} {tb : Nat} {es fs : List Ent} {S : List (List Int)} {N : NMap} {root : Nat} {lv : Value} {n : Nat} {asked : Int} {vs : List (Value × Value)} (h : NewAt B W tb es fs S N root lv n asked vs)
    {i g m cap : Nat} {c u : Value} (hlv : lv = .slice (some ⟨g, 0, none⟩) m cap) (hv : vs[i]? = some (c, u)) : W.cell? ⟨g, i * 2, none⟩ = some c ∧ W.cell? ⟨g, i * 2 + 1, none⟩ = some u := by
  have hrow := h.row
  constructor
  · have := hrow.cells (g := g) (by rw [hlv]; rfl) (i * 2 + 0) c (flat_at (fun x : Value × Value => [x.1, x.2]) 2 (fun _ => rfl) vs i 0 (c, u) c hv rfl)
    rw [addr_add, Nat.zero_add, Nat.add_zero] at this; exact this
  · have := hrow.cells (g := g) (by rw [hlv]; rfl) (i * 2 + 1) u (flat_at (fun x : Value × Value => [x.1, x.2]) 2 (fun _ => rfl) vs i 1 (c, u) u hv rfl)
    rw [addr_add, Nat.zero_add] at this; exact this
set_option maxHeartbeats 4000000 in
set_option maxRecDepth 1000000 in
theorem node_any (k : Wk) (O : k.Ok) (p : List Int) (hK : k.Kids p) (nb mb s : Nat) (W : World) (hp : k.N p = some (nb, mb)) (hpre : subT k.es k.T p <+: k.L.drop s) (hM : k.M ≤ W.heap.size) (hJ : k.J s W) :
    Calls Try.prog 38 #[.pointer (some ⟨k.tb, 0, none⟩), .pointer (some ⟨nb, 0, none⟩), .func (.yield k.l) #[] #[]] W (k.Word s p W) := by
  have HP := Lib.hid hpre
  have HK := Lib.hid hK
  clear hpre hK
  refine callsIn_wide (n := 0) |>.1 ?_
  refine callsIn_of_wp Try.func38 rfl trivial ?_ rfl
  simp only [Try.ntmps38, List.size_toArray, List.length_cons, List.length_nil, Nat.reduceAdd, Nat.reduceSub, Array.replicate_succ, Array.replicate_zero, List.push_toArray, List.append_toArray, List.nil_append, List.cons_append]
  gi_wp2_with fail
  obtain ⟨V, hV⟩ : ∃ V, ((W.alloc (.cells #[.pointer (some ⟨k.tb, 0, none⟩)] 25)).alloc (.cells #[.pointer (some ⟨nb, 0, none⟩)] 55)).alloc (.cells #[.func (.yield k.l) #[] #[]] 81) = V := ⟨_, rfl⟩
  have hbV : Below W.heap.size W V := by
    rw [← hV]; exact (((Below.refl _ W).alloc (Nat.le_refl _) _).alloc (by simp) _).alloc (by simp; omega) _
  have v0 : V.cell? ⟨W.heap.size, 0, none⟩ = some (.pointer (some ⟨k.tb, 0, none⟩)) := by rw [← hV]; simp [go_sem]
  have v1 : V.cell? ⟨W.heap.size + 1, 0, none⟩ = some (.pointer (some ⟨nb, 0, none⟩)) := by rw [← hV]; simp [go_sem]
  have v2 : V.cell? ⟨W.heap.size + 1 + 1, 0, none⟩ = some (.func (.yield k.l) #[] #[]) := by rw [← hV]; simp [go_sem]
  rw [hV]
  have hJV := O.turn s W V hJ (hbV.mono hM)
  have hMV : k.M ≤ V.heap.size := Nat.le_trans hM hbV.size
  clear hV
  have HBV := Lib.hid hbV
  have HJV := Lib.hid hJV
  clear hbV hJV hJ
  gi_cut [34] from 7 (fun s34 wc => ∃ b : Bool, s34 = .bool b ∧ AboveM k.M W wc ∧ (b = false → k.J (s + (hereT k.es p).length) wc) ∧ (b = true → k.Jx wc) ∧
    wc.cell? ⟨W.heap.size, 0, none⟩ = some (.pointer (some ⟨k.tb, 0, none⟩)) ∧ wc.cell? ⟨W.heap.size + 1, 0, none⟩ = some (.pointer (some ⟨nb, 0, none⟩)) ∧ wc.cell? ⟨W.heap.size + 1 + 1, 0, none⟩ = some (.func (.yield k.l) #[] #[]))
  case first =>
    have hN := O.pre s V HJV.out
    have HN := Lib.hid hN
    have e1 := hN.mem.cell1 hp
    clear hN
    cases hi : idx k.es p with
    | none =>
      rw [entOf_neg hi] at e1
      have HI := Lib.hid hi
      clear hi
      refine wp_region_yield (fun U : World => U.cell? ⟨W.heap.size + 1, 0, none⟩ = some (.pointer (some ⟨nb, 0, none⟩)) ∧ U.cell? ⟨nb, 1, none⟩ = some (.int .i64 (-1))) (by kernel_rfl) ?_
      have hH : (fun U : World => U.cell? ⟨W.heap.size + 1, 0, none⟩ = some (.pointer (some ⟨nb, 0, none⟩)) ∧ U.cell? ⟨nb, 1, none⟩ = some (.int .i64 (-1))) V.drew := ⟨v1, e1⟩
      refine wpHeld_takeL (i := 0) (v := ?_) rfl (by kernel_rfl) (by kernel_rfl) (by kernel_rfl) (fun _ _ _ h => h) (Or.inl ⟨by first | rfl | kernel_rfl, ?_⟩) hH ?_; rotate_left 1; (first | (focus (intro w hSw; (try dsimp only at hSw); go_simp; done)) | (focus (intro w hSw; (try dsimp only at hSw); go_simp; with_reducible rfl))); (try simp only [Act.put, List.setIfInBounds_toArray, List.set_cons_zero, List.set_cons_succ])
      refine wpHeld_takeL (i := 1) (v := ?_) rfl (by kernel_rfl) (by kernel_rfl) (by kernel_rfl) (fun _ _ _ h => h) (Or.inl ⟨by first | rfl | kernel_rfl, ?_⟩) hH ?_; rotate_left 1; (first | (focus (intro w hSw; (try dsimp only at hSw); go_simp; done)) | (focus (intro w hSw; (try dsimp only at hSw); go_simp; with_reducible rfl))); (try simp only [Act.put, List.setIfInBounds_toArray, List.set_cons_zero, List.set_cons_succ])
      refine wpHeld_takeL (i := 2) (v := ?_) rfl (by kernel_rfl) (by kernel_rfl) (by kernel_rfl) (fun _ _ _ h => h) (Or.inl ⟨by first | rfl | kernel_rfl, ?_⟩) hH ?_; rotate_left 1; (first | (focus (intro w hSw; (try dsimp only at hSw); go_simp; done)) | (focus (intro w hSw; (try dsimp only at hSw); go_simp; with_reducible rfl))); (try simp only [Act.put, List.setIfInBounds_toArray, List.set_cons_zero, List.set_cons_succ])
      refine wpHeld_takeL (i := 3) (v := ?_) rfl (by kernel_rfl) (by kernel_rfl) (by kernel_rfl) (fun _ _ _ h => h) (Or.inl ⟨by first | rfl | kernel_rfl, ?_⟩) hH ?_; rotate_left 1; (first | (focus (intro w hSw; (try dsimp only at hSw); go_simp; done)) | (focus (intro w hSw; (try dsimp only at hSw); go_simp; with_reducible rfl))); (try simp only [Act.put, List.setIfInBounds_toArray, List.set_cons_zero, List.set_cons_succ])
      refine wpHeld_takeL (i := 4) (v := ?_) rfl (by kernel_rfl) (by kernel_rfl) (by kernel_rfl) (fun _ _ _ h => h) (Or.inl ⟨by first | rfl | kernel_rfl, ?_⟩) hH ?_; rotate_left 1; (first | (focus (intro w hSw; (try dsimp only at hSw); go_simp; done)) | (focus (intro w hSw; (try dsimp only at hSw); go_simp; with_reducible rfl))); (try simp only [Act.put, List.setIfInBounds_toArray, List.set_cons_zero, List.set_cons_succ])
      refine wpHeld_takeL (i := 5) (v := ?_) rfl (by kernel_rfl) (by kernel_rfl) (by kernel_rfl) (fun _ _ _ h => h) (Or.inl ⟨by first | rfl | kernel_rfl, ?_⟩) hH ?_; rotate_left 1; (first | (focus (intro w hSw; (try dsimp only at hSw); go_simp; done)) | (focus (intro w hSw; (try dsimp only at hSw); go_simp; with_reducible rfl))); (try simp only [Act.put, List.setIfInBounds_toArray, List.set_cons_zero, List.set_cons_succ])
      refine wpHeld_takeL (i := 6) (v := undef) rfl (by kernel_rfl) (by kernel_rfl) (by kernel_rfl) (fun _ _ _ h => h) (Or.inr ⟨by first | rfl | kernel_rfl, rfl⟩) hH ?_; (try simp only [Act.put, List.setIfInBounds_toArray, List.set_cons_zero, List.set_cons_succ])
      refine wpHeld_takeL (i := 7) (v := undef) rfl (by kernel_rfl) (by kernel_rfl) (by kernel_rfl) (fun _ _ _ h => h) (Or.inr ⟨by first | rfl | kernel_rfl, rfl⟩) hH ?_; (try simp only [Act.put, List.setIfInBounds_toArray, List.set_cons_zero, List.set_cons_succ])
      refine wpHeld_takeL (i := 8) (v := undef) rfl (by kernel_rfl) (by kernel_rfl) (by kernel_rfl) (fun _ _ _ h => h) (Or.inr ⟨by first | rfl | kernel_rfl, rfl⟩) hH ?_; (try simp only [Act.put, List.setIfInBounds_toArray, List.set_cons_zero, List.set_cons_succ])
      refine wpHeld_takeL (i := 9) (v := undef) rfl (by kernel_rfl) (by kernel_rfl) (by kernel_rfl) (fun _ _ _ h => h) (Or.inr ⟨by first | rfl | kernel_rfl, rfl⟩) hH ?_; (try simp only [Act.put, List.setIfInBounds_toArray, List.set_cons_zero, List.set_cons_succ])
      refine wpHeld_takeL (i := 10) (v := undef) rfl (by kernel_rfl) (by kernel_rfl) (by kernel_rfl) (fun _ _ _ h => h) (Or.inr ⟨by first | rfl | kernel_rfl, rfl⟩) hH ?_; (try simp only [Act.put, List.setIfInBounds_toArray, List.set_cons_zero, List.set_cons_succ])
      refine wpHeld_takeL (i := 11) (v := undef) rfl (by kernel_rfl) (by kernel_rfl) (by kernel_rfl) (fun _ _ _ h => h) (Or.inr ⟨by first | rfl | kernel_rfl, rfl⟩) hH ?_; (try simp only [Act.put, List.setIfInBounds_toArray, List.set_cons_zero, List.set_cons_succ])
      refine wpHeld_takeL (i := 12) (v := undef) rfl (by kernel_rfl) (by kernel_rfl) (by kernel_rfl) (fun _ _ _ h => h) (Or.inr ⟨by first | rfl | kernel_rfl, rfl⟩) hH ?_; (try simp only [Act.put, List.setIfInBounds_toArray, List.set_cons_zero, List.set_cons_succ])
      refine wpHeld_takeL (i := 13) (v := undef) rfl (by kernel_rfl) (by kernel_rfl) (by kernel_rfl) (fun _ _ _ h => h) (Or.inr ⟨by first | rfl | kernel_rfl, rfl⟩) hH ?_; (try simp only [Act.put, List.setIfInBounds_toArray, List.set_cons_zero, List.set_cons_succ])
      refine wpHeld_takeL (i := 14) (v := undef) rfl (by kernel_rfl) (by kernel_rfl) (by kernel_rfl) (fun _ _ _ h => h) (Or.inr ⟨by first | rfl | kernel_rfl, rfl⟩) hH ?_; (try simp only [Act.put, List.setIfInBounds_toArray, List.set_cons_zero, List.set_cons_succ])
      refine wpHeld_takeL (i := 15) (v := undef) rfl (by kernel_rfl) (by kernel_rfl) (by kernel_rfl) (fun _ _ _ h => h) (Or.inr ⟨by first | rfl | kernel_rfl, rfl⟩) hH ?_; (try simp only [Act.put, List.setIfInBounds_toArray, List.set_cons_zero, List.set_cons_succ])
      refine wpHeld_takeL (i := 16) (v := undef) rfl (by kernel_rfl) (by kernel_rfl) (by kernel_rfl) (fun _ _ _ h => h) (Or.inr ⟨by first | rfl | kernel_rfl, rfl⟩) hH ?_; (try simp only [Act.put, List.setIfInBounds_toArray, List.set_cons_zero, List.set_cons_succ])
      refine wpHeld_takeL (i := 17) (v := undef) rfl (by kernel_rfl) (by kernel_rfl) (by kernel_rfl) (fun _ _ _ h => h) (Or.inr ⟨by first | rfl | kernel_rfl, rfl⟩) hH ?_; (try simp only [Act.put, List.setIfInBounds_toArray, List.set_cons_zero, List.set_cons_succ])
      refine wpHeld_takeL (i := 18) (v := undef) rfl (by kernel_rfl) (by kernel_rfl) (by kernel_rfl) (fun _ _ _ h => h) (Or.inr ⟨by first | rfl | kernel_rfl, rfl⟩) hH ?_; (try simp only [Act.put, List.setIfInBounds_toArray, List.set_cons_zero, List.set_cons_succ])
      refine wpHeld_takeL (i := 19) (v := undef) rfl (by kernel_rfl) (by kernel_rfl) (by kernel_rfl) (fun _ _ _ h => h) (Or.inr ⟨by first | rfl | kernel_rfl, rfl⟩) hH ?_; (try simp only [Act.put, List.setIfInBounds_toArray, List.set_cons_zero, List.set_cons_succ])
      refine wpHeld_takeL (i := 20) (v := undef) rfl (by kernel_rfl) (by kernel_rfl) (by kernel_rfl) (fun _ _ _ h => h) (Or.inr ⟨by first | rfl | kernel_rfl, rfl⟩) hH ?_; (try simp only [Act.put, List.setIfInBounds_toArray, List.set_cons_zero, List.set_cons_succ])
      refine wpHeld_takeL (i := 21) (v := undef) rfl (by kernel_rfl) (by kernel_rfl) (by kernel_rfl) (fun _ _ _ h => h) (Or.inr ⟨by first | rfl | kernel_rfl, rfl⟩) hH ?_; (try simp only [Act.put, List.setIfInBounds_toArray, List.set_cons_zero, List.set_cons_succ])
      refine wpHeld_takeL (i := 22) (v := undef) rfl (by kernel_rfl) (by kernel_rfl) (by kernel_rfl) (fun _ _ _ h => h) (Or.inr ⟨by first | rfl | kernel_rfl, rfl⟩) hH ?_; (try simp only [Act.put, List.setIfInBounds_toArray, List.set_cons_zero, List.set_cons_succ])
      refine wpHeld_takeL (i := 23) (v := undef) rfl (by kernel_rfl) (by kernel_rfl) (by kernel_rfl) (fun _ _ _ h => h) (Or.inr ⟨by first | rfl | kernel_rfl, rfl⟩) hH ?_; (try simp only [Act.put, List.setIfInBounds_toArray, List.set_cons_zero, List.set_cons_succ])
      refine wpHeld_takeL (i := 24) (v := ?_) rfl (by kernel_rfl) (by kernel_rfl) (by kernel_rfl) (fun _ _ _ h => h) (Or.inl ⟨by first | rfl | kernel_rfl, ?_⟩) hH ?_; rotate_left 1; (first | (focus (intro w hSw; (try dsimp only at hSw); go_simp; done)) | (focus (intro w hSw; (try dsimp only at hSw); go_simp; with_reducible rfl))); (try simp only [Act.put, List.setIfInBounds_toArray, List.set_cons_zero, List.set_cons_succ])
      refine wpHeld_done (by kernel_rfl) ?_ _
      gi_wp2
      gi_meet
      case rel => exact ⟨false, rfl, AboveM.below (HBV.out.drew), fun _ => (by unfold hereT; rw [HI.out]; exact O.turn s V _ HJV.out (Below.refl _ V).drew), fun h => (by cases h), v0, v1, v2⟩
    | some i =>
      rw [entOf_pos hi] at e1
      obtain ⟨x, hx, hxp⟩ := idx_some hi
      obtain ⟨g, cap, _, _, hlv, _, _, hgl, _, _⟩ := HN.out.rowAt hx
      obtain ⟨c, u, hvs, hci, hue⟩ := HN.out.vals i x hx
      obtain ⟨rc, ru⟩ := HN.out.rowVs hlv hvs
      have s2 := HN.out.cells.2.2.1
      rw [hlv] at s2
      have hil : i < k.es.length := (List.getElem?_eq_some_iff.1 hx).1
      have hLs : k.L[s]? = some i := by
        obtain ⟨t, ht⟩ := subT_here O.ord O.apart hi
        have h1 := HP.out
        rw [ht] at h1
        obtain ⟨y, hy⟩ := h1
        have h2 : (k.L.drop s)[0]? = some i := by rw [← hy]; rfl
        rwa [List.getElem?_drop, Nat.add_zero] at h2
      have HLS := Lib.hid hLs
      have HI := Lib.hid hi
      have HX := Lib.hid hx
      have HCI := Lib.hid hci
      have HUE := Lib.hid hue
      have HLV := Lib.hid hlv
      have HVS := Lib.hid hvs
      clear hi hx hxp hci hue hlv hLs hvs
      have HS : Hid (∀ A : World, k.At A → AboveM k.M V A → A.cell? ⟨W.heap.size, 0, none⟩ = some (.pointer (some ⟨k.tb, 0, none⟩)) ∧ A.cell? ⟨W.heap.size + 1, 0, none⟩ = some (.pointer (some ⟨nb, 0, none⟩)) ∧ A.cell? ⟨W.heap.size + 1 + 1, 0, none⟩ = some (.func (.yield k.l) #[] #[]) ∧ A.cell? ⟨nb, 1, none⟩ = some (.int .i64 (i : Nat)) ∧ A.cell? ⟨k.tb, 2, none⟩ = some (.slice (some ⟨g, 0, none⟩) k.es.length cap) ∧ A.cell? ⟨g, i * 2, none⟩ = some c ∧ A.cell? ⟨g, i * 2 + 1, none⟩ = some u) := by
        intro A hA hab
        have h1 := hA.mem.cell1 hp
        rw [entOf_pos HI.out] at h1
        have h2 := hA.cells.2.2.1
        rw [HLV.out] at h2
        exact ⟨hab.cell hM v0, hab.cell (by omega) v1, hab.cell (by omega) v2, h1, h2, hA.rowVs HLV.out HVS.out⟩
      refine wp_region_yield (fun U : World => U.cell? ⟨W.heap.size, 0, none⟩ = some (.pointer (some ⟨k.tb, 0, none⟩)) ∧ U.cell? ⟨W.heap.size + 1, 0, none⟩ = some (.pointer (some ⟨nb, 0, none⟩)) ∧ U.cell? ⟨W.heap.size + 1 + 1, 0, none⟩ = some (.func (.yield k.l) #[] #[]) ∧ U.cell? ⟨nb, 1, none⟩ = some (.int .i64 (i : Nat)) ∧ U.cell? ⟨k.tb, 2, none⟩ = some (.slice (some ⟨g, 0, none⟩) k.es.length cap) ∧ U.cell? ⟨g, i * 2, none⟩ = some c ∧ U.cell? ⟨g, i * 2 + 1, none⟩ = some u) (by kernel_rfl) ?_
      have hH : (fun U : World => U.cell? ⟨W.heap.size, 0, none⟩ = some (.pointer (some ⟨k.tb, 0, none⟩)) ∧ U.cell? ⟨W.heap.size + 1, 0, none⟩ = some (.pointer (some ⟨nb, 0, none⟩)) ∧ U.cell? ⟨W.heap.size + 1 + 1, 0, none⟩ = some (.func (.yield k.l) #[] #[]) ∧ U.cell? ⟨nb, 1, none⟩ = some (.int .i64 (i : Nat)) ∧ U.cell? ⟨k.tb, 2, none⟩ = some (.slice (some ⟨g, 0, none⟩) k.es.length cap) ∧ U.cell? ⟨g, i * 2, none⟩ = some c ∧ U.cell? ⟨g, i * 2 + 1, none⟩ = some u) V.drew := ⟨v0, v1, v2, e1, s2, rc, ru⟩
      refine wpHeld_takeL (i := 0) (v := ?_) rfl (by kernel_rfl) (by kernel_rfl) (by kernel_rfl) (fun _ _ _ h => h) (Or.inl ⟨by first | rfl | kernel_rfl, ?_⟩) hH ?_; rotate_left 1; (first | (focus (intro w hSw; (try dsimp only at hSw); go_simp; done)) | (focus (intro w hSw; (try dsimp only at hSw); go_simp; with_reducible rfl))); (try simp only [Act.put, List.setIfInBounds_toArray, List.set_cons_zero, List.set_cons_succ])
      refine wpHeld_takeL (i := 1) (v := ?_) rfl (by kernel_rfl) (by kernel_rfl) (by kernel_rfl) (fun _ _ _ h => h) (Or.inl ⟨by first | rfl | kernel_rfl, ?_⟩) hH ?_; rotate_left 1; (first | (focus (intro w hSw; (try dsimp only at hSw); go_simp; done)) | (focus (intro w hSw; (try dsimp only at hSw); go_simp; with_reducible rfl))); (try simp only [Act.put, List.setIfInBounds_toArray, List.set_cons_zero, List.set_cons_succ])
      refine wpHeld_takeL (i := 2) (v := ?_) rfl (by kernel_rfl) (by kernel_rfl) (by kernel_rfl) (fun _ _ _ h => h) (Or.inl ⟨by first | rfl | kernel_rfl, ?_⟩) hH ?_; rotate_left 1; (first | (focus (intro w hSw; (try dsimp only at hSw); go_simp; done)) | (focus (intro w hSw; (try dsimp only at hSw); go_simp; with_reducible rfl))); (try simp only [Act.put, List.setIfInBounds_toArray, List.set_cons_zero, List.set_cons_succ])
      refine wpHeld_takeL (i := 3) (v := ?_) rfl (by kernel_rfl) (by kernel_rfl) (by kernel_rfl) (fun _ _ _ h => h) (Or.inl ⟨by first | rfl | kernel_rfl, ?_⟩) hH ?_; rotate_left 1; (first | (focus (intro w hSw; (try dsimp only at hSw); go_simp; done)) | (focus (intro w hSw; (try dsimp only at hSw); go_simp; with_reducible rfl))); (try simp only [Act.put, List.setIfInBounds_toArray, List.set_cons_zero, List.set_cons_succ])
      refine wpHeld_takeL (i := 4) (v := ?_) rfl (by kernel_rfl) (by kernel_rfl) (by kernel_rfl) (fun _ _ _ h => h) (Or.inl ⟨by first | rfl | kernel_rfl, ?_⟩) hH ?_; rotate_left 1; (first | (focus (intro w hSw; (try dsimp only at hSw); go_simp; done)) | (focus (intro w hSw; (try dsimp only at hSw); go_simp; with_reducible rfl))); (try simp only [Act.put, List.setIfInBounds_toArray, List.set_cons_zero, List.set_cons_succ])
      refine wpHeld_takeL (i := 5) (v := ?_) rfl (by kernel_rfl) (by kernel_rfl) (by kernel_rfl) (fun _ _ _ h => h) (Or.inl ⟨by first | rfl | kernel_rfl, ?_⟩) hH ?_; rotate_left 1; (first | (focus (intro w hSw; (try dsimp only at hSw); go_simp; done)) | (focus (intro w hSw; (try dsimp only at hSw); go_simp; with_reducible rfl))); (try simp only [Act.put, List.setIfInBounds_toArray, List.set_cons_zero, List.set_cons_succ])
      refine wpHeld_takeL (i := 6) (v := ?_) rfl (by kernel_rfl) (by kernel_rfl) (by kernel_rfl) (fun _ _ _ h => h) (Or.inl ⟨by first | rfl | kernel_rfl, ?_⟩) hH ?_; rotate_left 1; (first | (focus (intro w hSw; (try dsimp only at hSw); go_simp; done)) | (focus (intro w hSw; (try dsimp only at hSw); go_simp; with_reducible rfl))); (try simp only [Act.put, List.setIfInBounds_toArray, List.set_cons_zero, List.set_cons_succ])
      refine wpHeld_takeL (i := 7) (v := ?_) rfl (by kernel_rfl) (by kernel_rfl) (by kernel_rfl) (fun _ _ _ h => h) (Or.inl ⟨by first | rfl | kernel_rfl, ?_⟩) hH ?_; rotate_left 1; (first | (focus (intro w hSw; (try dsimp only at hSw); go_simp; done)) | (focus (intro w hSw; (try dsimp only at hSw); go_simp; with_reducible rfl))); (try simp only [Act.put, List.setIfInBounds_toArray, List.set_cons_zero, List.set_cons_succ])
      refine wpHeld_takeL (i := 8) (v := ?_) rfl (by kernel_rfl) (by kernel_rfl) (by kernel_rfl) (fun _ _ _ h => h) (Or.inl ⟨by first | rfl | kernel_rfl, ?_⟩) hH ?_; rotate_left 1; (first | (focus (intro w hSw; (try dsimp only at hSw); go_simp; done)) | (focus (intro w hSw; (try dsimp only at hSw); go_simp; with_reducible rfl))); (try simp only [Act.put, List.setIfInBounds_toArray, List.set_cons_zero, List.set_cons_succ])
      refine wpHeld_takeL (i := 9) (v := ?_) rfl (by kernel_rfl) (by kernel_rfl) (by kernel_rfl) (fun _ _ _ h => h) (Or.inl ⟨by first | rfl | kernel_rfl, ?_⟩) hH ?_; rotate_left 1; (first | (focus (intro w hSw; (try dsimp only at hSw); go_simp; done)) | (focus (intro w hSw; (try dsimp only at hSw); go_simp; with_reducible rfl))); (try simp only [Act.put, List.setIfInBounds_toArray, List.set_cons_zero, List.set_cons_succ])
      refine wpHeld_takeL (i := 10) (v := ?_) rfl (by kernel_rfl) (by kernel_rfl) (by kernel_rfl) (fun _ _ _ h => h) (Or.inl ⟨by first | rfl | kernel_rfl, ?_⟩) hH ?_; rotate_left 1; (first | (focus (intro w hSw; (try dsimp only at hSw); go_simp; done)) | (focus (intro w hSw; (try dsimp only at hSw); go_simp; with_reducible rfl))); (try simp only [Act.put, List.setIfInBounds_toArray, List.set_cons_zero, List.set_cons_succ])
      refine wpHeld_takeL (i := 11) (v := ?_) rfl (by kernel_rfl) (by kernel_rfl) (by kernel_rfl) (fun _ _ _ h => h) (Or.inl ⟨by first | rfl | kernel_rfl, ?_⟩) hH ?_; rotate_left 1; (first | (focus (intro w hSw; (try dsimp only at hSw); go_simp; done)) | (focus (intro w hSw; (try dsimp only at hSw); go_simp; with_reducible rfl))); (try simp only [Act.put, List.setIfInBounds_toArray, List.set_cons_zero, List.set_cons_succ])
      refine wpHeld_takeL (i := 12) (v := ?_) rfl (by kernel_rfl) (by kernel_rfl) (by kernel_rfl) (fun _ _ _ h => h) (Or.inl ⟨by first | rfl | kernel_rfl, ?_⟩) hH ?_; rotate_left 1; (first | (focus (intro w hSw; (try dsimp only at hSw); go_simp; done)) | (focus (intro w hSw; (try dsimp only at hSw); go_simp; with_reducible rfl))); (try simp only [Act.put, List.setIfInBounds_toArray, List.set_cons_zero, List.set_cons_succ])
      refine wpHeld_takeL (i := 13) (v := ?_) rfl (by kernel_rfl) (by kernel_rfl) (by kernel_rfl) (fun _ _ _ h => h) (Or.inl ⟨by first | rfl | kernel_rfl, ?_⟩) hH ?_; rotate_left 1; (first | (focus (intro w hSw; (try dsimp only at hSw); go_simp; done)) | (focus (intro w hSw; (try dsimp only at hSw); go_simp; with_reducible rfl))); (try simp only [Act.put, List.setIfInBounds_toArray, List.set_cons_zero, List.set_cons_succ])
      refine wpHeld_takeL (i := 14) (v := ?_) rfl (by kernel_rfl) (by kernel_rfl) (by kernel_rfl) (fun _ _ _ h => h) (Or.inl ⟨by first | rfl | kernel_rfl, ?_⟩) hH ?_; rotate_left 1; (first | (focus (intro w hSw; (try dsimp only at hSw); go_simp; done)) | (focus (intro w hSw; (try dsimp only at hSw); go_simp; with_reducible rfl))); (try simp only [Act.put, List.setIfInBounds_toArray, List.set_cons_zero, List.set_cons_succ])
      refine wpHeld_takeL (i := 15) (v := ?_) rfl (by kernel_rfl) (by kernel_rfl) (by kernel_rfl) (fun _ _ _ h => h) (Or.inl ⟨by first | rfl | kernel_rfl, ?_⟩) hH ?_; rotate_left 1; (first | (focus (intro w hSw; (try dsimp only at hSw); go_simp; done)) | (focus (intro w hSw; (try dsimp only at hSw); go_simp; with_reducible rfl))); (try simp only [Act.put, List.setIfInBounds_toArray, List.set_cons_zero, List.set_cons_succ])
      refine wpHeld_takeL (i := 16) (v := ?_) rfl (by kernel_rfl) (by kernel_rfl) (by kernel_rfl) (fun _ _ _ h => h) (Or.inl ⟨by first | rfl | kernel_rfl, ?_⟩) hH ?_; rotate_left 1; (first | (focus (intro w hSw; (try dsimp only at hSw); go_simp; done)) | (focus (intro w hSw; (try dsimp only at hSw); go_simp; with_reducible rfl))); (try simp only [Act.put, List.setIfInBounds_toArray, List.set_cons_zero, List.set_cons_succ])
      refine wpHeld_takeL (i := 17) (v := ?_) rfl (by kernel_rfl) (by kernel_rfl) (by kernel_rfl) (fun _ _ _ h => h) (Or.inl ⟨by first | rfl | kernel_rfl, ?_⟩) hH ?_; rotate_left 1; (first | (focus (intro w hSw; (try dsimp only at hSw); go_simp; done)) | (focus (intro w hSw; (try dsimp only at hSw); go_simp; with_reducible rfl))); (try simp only [Act.put, List.setIfInBounds_toArray, List.set_cons_zero, List.set_cons_succ])
      refine wpHeld_takeL (i := 18) (v := ?_) rfl (by kernel_rfl) (by kernel_rfl) (by kernel_rfl) (fun _ _ _ h => h) (Or.inl ⟨by first | rfl | kernel_rfl, ?_⟩) hH ?_; rotate_left 1; (first | (focus (intro w hSw; (try dsimp only at hSw); go_simp; done)) | (focus (intro w hSw; (try dsimp only at hSw); go_simp; with_reducible rfl))); (try simp only [Act.put, List.setIfInBounds_toArray, List.set_cons_zero, List.set_cons_succ])
      refine wpHeld_takeL (i := 19) (v := ?_) rfl (by kernel_rfl) (by kernel_rfl) (by kernel_rfl) (fun _ _ _ h => h) (Or.inl ⟨by first | rfl | kernel_rfl, ?_⟩) hH ?_; rotate_left 1; (first | (focus (intro w hSw; (try dsimp only at hSw); go_simp; done)) | (focus (intro w hSw; (try dsimp only at hSw); go_simp; with_reducible rfl))); (try simp only [Act.put, List.setIfInBounds_toArray, List.set_cons_zero, List.set_cons_succ])
      refine wpHeld_takeL (i := 20) (v := ?_) rfl (by kernel_rfl) (by kernel_rfl) (by kernel_rfl) (fun _ _ _ h => h) (Or.inl ⟨by first | rfl | kernel_rfl, ?_⟩) hH ?_; rotate_left 1; (first | (focus (intro w hSw; (try dsimp only at hSw); go_simp; done)) | (focus (intro w hSw; (try dsimp only at hSw); go_simp; with_reducible rfl))); (try simp only [Act.put, List.setIfInBounds_toArray, List.set_cons_zero, List.set_cons_succ])
      refine wpHeld_oneL (i := 21) (by kernel_rfl) rfl (by rfl) (fun K hK => ?_)
      go_simp
      have hV2 : Below V.heap.size V V.drew := (Below.refl _ V).drew
      refine ⟨trivial, rfl, (callsIn_wide.2 (twin_any (Lf k.B V) x c u V.drew (HCI.out.kept (Kept.below hV2)) (HUE.out.kept (Kept.below hV2)) (O.ok x (List.mem_of_getElem? HX.out)).1 (O.ok x (List.mem_of_getElem? HX.out)).2.1)).mono ?_⟩
      rintro e w5 ⟨c5, u5, rfl, hc5, hu5, hb5⟩
      have hb6 : Below V.heap.size V w5 := hV2.trans hb5
      have hJ5 := O.turn s V w5 HJV.out (hb6.mono hMV)
      have hS5 := HS.out w5 (O.pre _ _ hJ5) (AboveM.below hb6)
      have hM5 : k.M ≤ w5.heap.size := Nat.le_trans hMV hb6.size
      have hstep : stepE k.es k.L k.M s w5 #[.int .i64 (i : Nat), .agg #[c5, u5]] (s + 1) := ⟨i, x, c5, u5, HLS.out, HX.out, rfl, hc5.mono (fun b hb _ => Nat.le_trans hMV hb.1), hu5.mono (fun b hb _ => Nat.le_trans hMV hb.1), rfl⟩
      obtain ⟨fn, tmps, assign, body, hy, hR⟩ := O.tell s w5 _ _ hJ5 hstep
      have HB6 := Lib.hid hb6
      clear hb5 hb6 hc5 hu5 hstep hJ5 hV2
      refine hK _ _ hS5 ?_
      clear hK
      (try simp only [Act.put, List.setIfInBounds_toArray, List.set_cons_zero, List.set_cons_succ])
      refine wpHeld_oneL (i := 22) (by kernel_rfl) rfl (by rfl) (fun K hK => ?_)
      go_simp
      refine ⟨rfl, hR.mono ?_⟩
      rintro e w7 ⟨hab, ⟨rfl, hj7⟩ | ⟨rfl, hjx⟩⟩
      · have hab7 : AboveM k.M V w7 := (AboveM.below HB6.out).trans hab
        have hS7 := HS.out w7 (O.pre _ _ hj7) hab7
        refine hK _ _ hS7 ?_
        clear hK
        (try simp only [Act.put, List.setIfInBounds_toArray, List.set_cons_zero, List.set_cons_succ])
        refine wpHeld_takeL (i := 23) (v := ?_) rfl (by kernel_rfl) (by kernel_rfl) (by kernel_rfl) (fun _ _ _ h => h) (Or.inl ⟨by first | rfl | kernel_rfl, ?_⟩) hS7 ?_; rotate_left 1; (first | (focus (intro w hSw; (try dsimp only at hSw); go_simp; done)) | (focus (intro w hSw; (try dsimp only at hSw); go_simp; with_reducible rfl))); (try simp only [Act.put, List.setIfInBounds_toArray, List.set_cons_zero, List.set_cons_succ])
        refine wpHeld_takeL (i := 24) (v := ?_) rfl (by kernel_rfl) (by kernel_rfl) (by kernel_rfl) (fun _ _ _ h => h) (Or.inl ⟨by first | rfl | kernel_rfl, ?_⟩) hS7 ?_; rotate_left 1; (first | (focus (intro w hSw; (try dsimp only at hSw); go_simp; done)) | (focus (intro w hSw; (try dsimp only at hSw); go_simp; with_reducible rfl))); (try simp only [Act.put, List.setIfInBounds_toArray, List.set_cons_zero, List.set_cons_succ])
        refine wpHeld_done (by kernel_rfl) ?_ _
        gi_wp2
        gi_meet
        case rel => exact ⟨false, rfl, (AboveM.below HBV.out).trans hab7, fun _ => (by unfold hereT; rw [HI.out]; exact hj7), fun h => (by cases h), hS7.1, hS7.2.1, hS7.2.2.1⟩
      · have hab7 : AboveM k.M V w7 := (AboveM.below HB6.out).trans hab
        have hS7 := HS.out w7 (O.preX _ hjx) hab7
        refine hK _ _ hS7 ?_
        clear hK
        (try simp only [Act.put, List.setIfInBounds_toArray, List.set_cons_zero, List.set_cons_succ])
        refine wpHeld_takeL (i := 23) (v := ?_) rfl (by kernel_rfl) (by kernel_rfl) (by kernel_rfl) (fun _ _ _ h => h) (Or.inl ⟨by first | rfl | kernel_rfl, ?_⟩) hS7 ?_; rotate_left 1; (first | (focus (intro w hSw; (try dsimp only at hSw); go_simp; done)) | (focus (intro w hSw; (try dsimp only at hSw); go_simp; with_reducible rfl))); (try simp only [Act.put, List.setIfInBounds_toArray, List.set_cons_zero, List.set_cons_succ])
        refine wpHeld_takeL (i := 24) (v := ?_) rfl (by kernel_rfl) (by kernel_rfl) (by kernel_rfl) (fun _ _ _ h => h) (Or.inl ⟨by first | rfl | kernel_rfl, ?_⟩) hS7 ?_; rotate_left 1; (first | (focus (intro w hSw; (try dsimp only at hSw); go_simp; done)) | (focus (intro w hSw; (try dsimp only at hSw); go_simp; with_reducible rfl))); (try simp only [Act.put, List.setIfInBounds_toArray, List.set_cons_zero, List.set_cons_succ])
        refine wpHeld_done (by kernel_rfl) ?_ _
        gi_wp2
        gi_meet
        case rel => exact ⟨true, rfl, (AboveM.below HBV.out).trans hab7, fun h => (by cases h), fun _ => hjx, hS7.1, hS7.2.1, hS7.2.2.1⟩
  case rest =>
    obtain ⟨b, rfl, hab, hj, hx, c0, c1, c2⟩ := hcut
    have HAB := Lib.hid hab
    cases b with
    | true =>
      have hjx := hx rfl
      clear hab hj hx
      gi_wp2
      refine bodyPost_ret (results_tmp rfl _ _ _) rfl ?_
      exact ⟨false, rfl, HAB.out, fun h => (by cases h), fun _ => hjx⟩
    | false =>
      have hjc := hj rfl
      have hNc := O.pre _ _ hjc
      have n0 := hNc.mem.cell0 hp
      have HM0 := Lib.hid (hNc.mem.map p nb mb hp)
      have HJC := Lib.hid hjc
      have HDOM := Lib.hid hNc.dom
      clear hab hj hx hNc hjc
      gi_wp2_with fail
      refine ⟨trivial, rfl, (callsIn_wide.2 (keysFn_any mb _)).mono ?_⟩
      rintro e w1 ⟨rfl, rfl⟩
      have hB1 : Below wc.heap.size wc (wc.alloc (.cells #[.map (some mb)] 70)) := (Below.refl _ wc).alloc (Nat.le_refl _) _
      have HS := Lib.hid (sortedKeys_any mb k.n wc.heap.size (fun r => (k.N (p ++ [r])).map (·.1)) (wc.alloc (.cells #[.map (some mb)] 70)) (by simp) (by simp [go_sem]) (HM0.out.same (hB1.block mb HM0.out.lt)) O.few)
      have HB1 := Lib.hid hB1
      clear hB1
      gi_wp2_with fail
      refine ⟨trivial, rfl, (callsIn_wide.2 HS.out).mono ?_⟩
      rintro e w2 ⟨v, ks, rfl, hpw, hmem, hrow, hb2⟩
      have HB2 : Hid (Below wc.heap.size wc w2) := HB1.out.trans (hb2.mono HB1.out.size)
      have hMc : k.M ≤ wc.heap.size := Nat.le_trans hM HAB.out.1
      have HKS : Hid (IntsIn (fun b => k.M ≤ b) .i32 w2 v ks) := (ints_own_r hrow).mono (fun b hb _ => by have := HB1.out.size; omega)
      have HPW := Lib.hid hpw
      have HMEM := Lib.hid hmem
      have HJ2 : Hid (k.J (s + (hereT k.es p).length) w2) := O.turn _ wc w2 HJC.out (HB2.out.mono hMc)
      have HAB2 : Hid (AboveM k.M W w2) := HAB.out.trans (AboveM.below HB2.out)
      have d0 := (AboveM.below (M := k.M) HB2.out).cell hM c0
      have d1 := (AboveM.below (M := k.M) HB2.out).cell (by omega) c1
      have d2 := (AboveM.below (M := k.M) HB2.out).cell (by omega) c2
      have HSUB : Hid (subT k.es k.T p = hereT k.es p ++ ks.flatMap fun r => subT k.es k.T (p ++ [r])) := subT_node O.ord O.apart p ks HPW.out (fun r => by
        rw [HMEM.out r]
        have := HDOM.out (p ++ [r])
        unfold Dom at this
        simp only [ne_eq, Option.map_eq_none_iff]
        rw [← ne_eq, this]
        constructor
        · rintro (h | ⟨c, hc, h⟩)
          · simp at h
          · obtain ⟨x, hx, rfl⟩ := List.mem_map.1 hc; exact ⟨x, hx, h⟩
        · rintro ⟨x, hx, h⟩; exact .inr ⟨x.1, List.mem_map_of_mem hx, h⟩)
      obtain ⟨pk, ck, rfl, hkl⟩ : ∃ pk ck, v = .slice pk ks.length ck ∧ ks.length ≤ maxLen := by
        obtain ⟨pk, ck, h1, h2, _⟩ := HKS.out; exact ⟨pk, ck, h1, by omega⟩
      unfold maxLen at hkl
      clear hpw hmem hrow hb2 HS HB1
      clear c0 c1 c2 n0
      gi_wp2_with fail
      gi_loopw [43] (fun iv wr => ∃ j : Nat, iv = .int .i64 j ∧ j ≤ ks.length ∧ k.J (s + (hereT k.es p).length + ((ks.take j).flatMap fun r => subT k.es k.T (p ++ [r])).length) wr ∧ AboveM k.M w2 wr) (fun iv _ => ks.length - (Go.RowKit.intOf iv).toNat)
      case atStart => exact ⟨0, rfl, Nat.zero_le _, by simpa using HJ2.out, AboveM.refl _ _⟩
      case round =>
        obtain ⟨j, rfl, hjk, hjr, har⟩ := hrel
        have HJR := Lib.hid hjr
        have HAR := Lib.hid har
        clear hjr har
        by_cases hjl : j < ks.length
        · have hjl' : decide (j < ks.length) = true := decide_eq_true hjl
          obtain ⟨b', o', rfl, _, _, hcr⟩ := (HKS.out.kept (kept_above HAR.out)).at j hjl
          obtain ⟨r, hre⟩ : ∃ r, ks[j]? = some r := ⟨_, List.getElem?_eq_getElem hjl⟩
          have hrd : ks.getD j 0 = r := by rw [List.getD_eq_getElem?_getD, hre]; rfl
          rw [hrd] at hcr
          have hrk : r ∈ ks := List.mem_of_getElem? hre
          have hN : k.N (p ++ [r]) ≠ none := fun h => (HMEM.out r).1 hrk (by rw [h]; rfl)
          obtain ⟨⟨nb', mb'⟩, hNr⟩ := Option.ne_none_iff_exists'.1 hN
          have hwr : (Lit.int .i32 r).wf = true := by
            rcases (HDOM.out _).1 hN with h | ⟨c, hc, h⟩
            · simp at h
            · obtain ⟨x, hx, rfl⟩ := List.mem_map.1 hc
              exact (O.ok x hx).2.2 r (h.subset (by simp))
          have hpc : subT k.es k.T (p ++ [r]) <+: k.L.drop (s + (hereT k.es p).length + ((ks.take j).flatMap fun r => subT k.es k.T (p ++ [r])).length) := by
            have h1 := HP.out
            rw [HSUB.out, flat_split _ hre, ← List.append_assoc] at h1
            have h2 := pre_child h1
            rwa [List.length_append, ← Nat.add_assoc] at h2
          have hMr : k.M ≤ wr.heap.size := by have := HAR.out.1; have := HB2.out.size; omega
          have HD := Lib.hid (deeper_any k O p HK.out r hwr nb mb nb' mb' _ W.heap.size wr hp hNr hpc hMr HJR.out hM (HAR.out.cell hM d0) (HAR.out.cell (by omega) d1) (HAR.out.cell (by omega) d2))
          have HNX := Lib.hid (flat_next (fun r => subT k.es k.T (p ++ [r])) hre)
          clear hre hrd hrk hN hNr hwr hpc hMr
          gi_wp2_with fail
          refine ⟨trivial, rfl, (callsIn_wide.2 HD.out).mono ?_⟩
          rintro e w5 ⟨b, rfl, hres⟩
          have HRES := Lib.hid hres
          clear hres HD
          cases b with
          | true =>
            gi_wp2
            go_roundw
            case rel =>
              refine ⟨j + 1, by simp, hjl, ?_, HAR.out.trans HRES.out.1⟩
              have h1 := HRES.out.2.1 rfl
              rw [HNX.out, ← Nat.add_assoc]
              exact h1
            case measure => simp [Go.RowKit.intOf]; omega
          | false =>
            gi_wp2
            refine bodyPost_ret (results_tmp rfl _ _ _) rfl ?_
            exact ⟨false, rfl, HAB2.out.trans (HAR.out.trans HRES.out.1), fun h => (by cases h), fun _ => HRES.out.2.2 rfl⟩
        · have hjl' : decide (j < ks.length) = false := decide_eq_false hjl
          have hje : j = ks.length := by omega
          have HFIN : Hid (k.J (s + (subT k.es k.T p).length) wr) := by
            have h1 := HJR.out
            rw [hje, List.take_length] at h1
            show k.J _ wr
            rw [HSUB.out, List.length_append, ← Nat.add_assoc]
            exact h1
          clear hje
          gi_wp2
          refine bodyPost_ret (results_tmp rfl _ _ _) rfl ?_
          exact ⟨true, rfl, HAB2.out.trans HAR.out, fun _ => HFIN.out, fun h => (by cases h)⟩
/-- the walk from any node -/
theorem walk_any (k : Wk) (O : k.Ok) : ∀ (d : Nat) (p : List Int) (nb mb s : Nat) (W : World), p.length + d = 9 → k.N p = some (nb, mb) → subT k.es k.T p <+: k.L.drop s → k.M ≤ W.heap.size → k.J s W →
    Calls Try.prog 38 #[.pointer (some ⟨k.tb, 0, none⟩), .pointer (some ⟨nb, 0, none⟩), .func (.yield k.l) #[] #[]] W (k.Word s p W)
  | 0, p, nb, mb, s, W, hd, hp, _, _, hJ => by
    have hN : k.N p ≠ none := by rw [hp]; simp
    rcases ((O.pre s W hJ).dom p).1 hN with h | ⟨c, hc, h⟩
    · subst h; simp at hd
    · obtain ⟨x, hx, rfl⟩ := List.mem_map.1 hc
      have := O.short x hx
      have := h.length_le
      omega
  | d + 1, p, nb, mb, s, W, hd, hp, hpre, hM, hJ =>
    node_any k O p (fun r nb' mb' s' W' h1 h2 h3 h4 => walk_any k O d (p ++ [r]) nb' mb' s' W' (by rw [List.length_append]; simp; omega) h1 h2 h3 h4) nb mb s W hp hpre hM hJ
end Go.Proofs.Ytcifoallahmjbaa
