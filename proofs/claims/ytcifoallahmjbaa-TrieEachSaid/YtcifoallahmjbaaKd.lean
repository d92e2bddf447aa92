/- The keys of a trie's node, sorted: slices.Sorted(maps.Keys(kids)). -/
import Derived.Test.YtcifoallahmjbaaKb
import Derived.Test.YtcifoallahmjbaaPm
namespace Go.Proofs.Ytcifoallahmjbaa
open Go.RowKit Go.Maps Go.Sort

theorem insertion_nil (p : Option Addr) (cap : Nat) (w : World) :
    Calls Try.prog 62 #[.slice p 0 cap, .int .i64 0, .int .i64 0] w fun e w' => e = .returned (.tuple #[]) ∧ w' = w := by
  go_enter Try.func62, Try.ntmps62
  go_wp2
  refine wp_loop_rounds 1 ?_
  rw [rounds_succ]
  go_wp2
  go_end0
  exact ⟨rfl, rfl⟩
set_option maxRecDepth 100000 in
theorem pdq_nil (p : Option Addr) (cap : Nat) (w : World) :
    Calls Try.prog 60 #[.slice p 0 cap, .int .i64 0, .int .i64 0, .int .i64 0] w fun e w' => e = .returned (.tuple #[]) ∧ w' = w := by
  go_enter Try.func60, Try.ntmps60
  go_wp2
  refine wp_loop_rounds 1 ?_
  rw [rounds_succ]
  go_wp2_with (first | (go_at_call 62; refine (insertion_nil p cap _).mono ?_; rintro e w' ⟨rfl, rfl⟩))
  refine bodyPost_ret (results_none rfl _ _ _) rfl ?_
  exact ⟨rfl, rfl⟩
set_option maxRecDepth 100000 in
theorem sort_nil (p : Option Addr) (cap : Nat) (w : World) :
    Calls Try.prog 56 #[.slice p 0 cap] w fun e w' => e = .returned (.tuple #[]) ∧ w' = w := by
  have hLen : ∀ w, Calls Try.prog 61 #[.int .u64 0] w fun e w' => e = .returned (.int .i64 0) ∧ w' = w := fun w => bitsLen_any 0 w (by omega)
  go_enter Try.func56, Try.ntmps56
  go_wp2_with (first
    | (go_at_call 61; refine (hLen _).mono ?_; rintro e w' ⟨rfl, rfl⟩)
    | (go_at_call 60; refine (pdq_nil p cap _).mono ?_; rintro e w' ⟨rfl, rfl⟩))
  go_end0
  exact ⟨rfl, rfl⟩
theorem sorts_wide (n : Nat) : kt_SortsIn Fence.wide n := by
  refine ⟨fun blk off cap ss W h1 h2 h3 => ?_, fun p cap W => ?_⟩
  · exact callsIn_wide.2 (slices_Sort_int blk off cap ss W h1 h2 h3)
  · exact callsIn_wide.2 (sort_nil p cap W)
theorem keysFn_any (b : Nat) (w : World) :
    Calls Try.prog 50 #[.map (some b)] w fun e w' =>
      e = .returned (.func (.func 57) #[] #[.pointer (some ⟨w.heap.size, 0, none⟩)]) ∧ w.alloc (.cells #[.map (some b)] 70) = w' :=
  (callsIn_wide.1 (kt_keys_in Fence.wide 0 trivial rfl (some b) w)).mono fun _ _ h => ⟨h.1, h.2.symm⟩
/-- what lies in a sorted list without doubles -/
theorem strict_of_sorted {ks : List Int} (h : ks.Pairwise (fun a b => decide (a ≤ b) = true)) (hn : ks.Nodup) : ks.Pairwise (· < ·) := by
  refine (h.and hn).imp ?_
  rintro a b ⟨h1, h2⟩
  have : a ≤ b := by simpa using h1
  have : a ≠ b := h2
  omega
theorem sortedKeys_any (b n Bm : Nat) (f : Int → Option Nat) (w : World) (hB : Bm < w.heap.size) (hc : w.cell? ⟨Bm, 0, none⟩ = some (.map (some b))) (h : PMap Try.prog 21 w b n f) (hn : n < 1000000000) :
    Calls Try.prog 49 #[.func (.func 57) #[] #[.pointer (some ⟨Bm, 0, none⟩)]] w fun e w' =>
      ∃ (v : Value) (ks : List Int), e = .returned v ∧ ks.Pairwise (· < ·) ∧ (∀ r, r ∈ ks ↔ f r ≠ none) ∧ w'.ownsRow w.heap.size 21 1 v ks.length (ks.map (Value.int .i32)) ∧ Below w.heap.size w w' := by
  obtain ⟨L, hown, hat, hall⟩ := h
  have hK : Keyed Try.prog 21 := int_keyed Try.underlying21
  have hsz : Maps.size (DataW.map L) ≤ n := hown.size_le
  have hgive := kt_keys_gives Fence.wide 10 trivial rfl (by omega) Bm b n (.map L) w hB hc hown
  have hS := callsIn_wide.1 (kt_sorted_in Fence.wide 13 trivial trivial trivial trivial rfl (by omega) (sorts_wide 12) (enters_of Try.func56 (by kernel_rfl) rfl)
    57 #[.pointer (some ⟨Bm, 0, none⟩)] trivial (enters_of Try.func57 (by kernel_rfl) rfl)
    _ _ (by unfold maxLen; omega) (by omega) w hgive)
  refine hS.mono ?_
  rintro e w' ⟨v, ss, rfl, hp, hrow, _, hb⟩
  obtain ⟨es, hD, hpw, _⟩ := hown.entries hK
  obtain rfl : L = es := by simpa using hD
  have hnd : (intKeys (DataW.map L)).Nodup := by
    show (L.map fun p => Go.intOf p.1).Nodup
    refine List.pairwise_map.2 (hpw.imp_of_mem fun {p q} hp' hq' hne e => hne ?_)
    obtain ⟨a, ha, _⟩ := hall p hp'
    obtain ⟨c, hc', _⟩ := hall q hq'
    rw [ha, hc'] at e ⊢
    simp only [Go.intOf] at e
    rw [e]
  have hmem : ∀ r, r ∈ intKeys (DataW.map L) ↔ f r ≠ none := by
    intro r
    show r ∈ L.map (fun p => Go.intOf p.1) ↔ _
    rw [List.mem_map]
    constructor
    · rintro ⟨p, hp', rfl⟩
      obtain ⟨a, ha, hf⟩ := hall p hp'
      rw [ha]; exact hf
    · intro hf
      have h1 := hat r
      cases hfind : L.find? (fun p => p.1.sameKey (.int .i32 r)) with
      | none =>
        have h2 : (DataW.map L).atKey (.int .i32 r) .nil = .nil := by simp only [DataW.atKey, hfind]
        rw [h2] at h1
        cases hr : f r with
        | none => exact absurd hr hf
        | some c => rw [hr] at h1; cases h1
      | some p =>
        have hpL := List.mem_of_find?_eq_some hfind
        have hs := List.find?_some hfind
        obtain ⟨a, ha, _⟩ := hall p hpL
        rw [ha] at hs
        refine ⟨p, hpL, ?_⟩
        rw [ha]
        simpa [Lit.sameKey, Go.intOf] using hs
  have hperm : (ss.mergeSort fun x y => decide (x ≤ y)).Perm (intKeys (DataW.map L)) := (List.mergeSort_perm _ _).trans hp
  refine ⟨v, ss.mergeSort fun x y => decide (x ≤ y), rfl, strict_of_sorted ?_ (hperm.nodup_iff.2 hnd), fun r => (hperm.mem_iff).trans (hmem r), ?_, hb⟩
  · refine List.pairwise_mergeSort (fun a b c h1 h2 => ?_) (fun a b => ?_) ss
    · simp only [decide_eq_true_eq] at *; omega
    · simp only [Bool.or_eq_true, decide_eq_true_eq]; omega
  · rw [List.length_mergeSort]; exact hrow
end Go.Proofs.Ytcifoallahmjbaa
