/- What lies under a beginning in a trie that nobody made: nothing is told. -/
import Derived.Test.YtcifoallahmjbaaTz
import Derived.Test.YtcifoallahmjbaaBase
import Derived.OwnWalkIn
import Derived.TacticsInMore
import Derived.LoopNIn
import Derived.LoopIn
namespace Go.Proofs.Ytcifoallahmjbaa
open Go.RowKit
attribute [local go_sem] Oper.semAt_some

theorem NotMade.below {w w' : World} {v : Value} (h : NotMade w v) (hb : Below w.heap.size w w') : NotMade w' v := by
  rcases h with h | ⟨z, h, hz⟩
  · exact .inl h
  · refine .inr ⟨z, h, ?_⟩
    have hl : z < w.heap.size := by
      rcases Nat.lt_or_ge z w.heap.size with h' | h'
      · exact h'
      · simp [World.cell?, Array.getElem?_eq_none h'] at hz
    rw [hb.cell (p := ⟨z, 0, none⟩) hl]; exact hz
set_option maxHeartbeats 1000000 in
set_option maxRecDepth 100000 in
theorem under1_iter (b c : Nat) (z : Value) :
    IterC (σ := Unit) Try.prog 39 #[.pointer (some ⟨b, 0, none⟩), .pointer (some ⟨c, 0, none⟩)] (fun _ => #[z]) id (fun _ => False) (fun _ => True) (fun _ _ => False) ()
      (fun W => ∃ v, W.cell? ⟨b, 0, none⟩ = some v ∧ NotMade W v) := by
  intro l J Jx W hJ hJx hPre hY h0
  obtain ⟨v, hc, hn⟩ := hPre _ _ h0
  have hl : b < W.heap.size := by
    rcases Nat.lt_or_ge b W.heap.size with h' | h'
    · exact h'
    · simp [World.cell?, Array.getElem?_eq_none h'] at hc
  have HJ1 := Lib.hid (hJ () _ _ h0 ((Below.refl W.heap.size W).alloc (Nat.le_refl _) (.cells #[.func (.yield l) #[] #[]] 83)))
  have HN := Lib.hid hn
  refine callsIn_wide (n := 0) |>.1 ?_
  refine callsIn_of_wp Try.func39 rfl trivial ?_ rfl
  simp only [Try.ntmps39, List.size_toArray, List.length_cons, List.length_nil, Nat.reduceAdd, Nat.reduceSub, Array.replicate_succ, Array.replicate_zero, List.push_toArray, List.append_toArray, List.nil_append, List.cons_append]
  clear hn h0 hPre
  gi_wp2_with fail
  refine ⟨trivial, rfl, (callsIn_wide.2 (is_not v _ (HN.out.below ((Below.refl _ W).alloc (Nat.le_refl _) _)))).mono ?_⟩
  rintro e w1 ⟨rfl, rfl⟩
  gi_wp2
  refine bodyPost_ret (results_none rfl _ _ _) rfl ?_
  exact .inl ⟨⟨_, rfl⟩, (), trivial, HJ1.out⟩
end Go.Proofs.Ytcifoallahmjbaa
