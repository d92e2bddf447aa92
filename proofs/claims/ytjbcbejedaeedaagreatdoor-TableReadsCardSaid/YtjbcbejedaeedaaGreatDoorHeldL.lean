/- A region that draws its order, its operations looked up in the list, over any program. -/
import Derived.Test.YtjbcbejedaeedaaGreatDoorBase
import Derived.Deep.RegionHeld
import Derived.OrdersHeld
namespace Go.Proofs.YtjbcbejedaeedaaGreatDoor
open Go.RowKit
section
variable {P : Program}
/-- an operation taken first, looked up in the list -/
theorem hTakeL {md : Region.Mode} {Q : Exit → Act → World → Prop} {S : World → Prop} {os : List Oper} {i : Nat} {oi : Oper} {v : Value} {fuel : Nat} {listed : Array Bool} {a : Act} {w : World} (hi : os[i]? = some oi)
    (hs : Region.noSelect os.toArray = true) (hf : Region.free md os.toArray listed i = true) (hr : (Region.ready md os.toArray listed).contains i = true)
    (hQ : ∀ c a w, Q (.panic c) (a.put oi.dst v) w → Q (.panic c) a w) (hy : YieldsIf P os.toArray S oi v a) (hS : S w)
    (h : wpAnyH P md os.toArray Q S fuel (listed.setIfInBounds i true) (a.put oi.dst v) w) : wpAnyH P md os.toArray Q S (fuel + 1) listed a w :=
  wpAnyH_take (by simpa using hi) hs hf hr hQ hy hS h
/-- just one may come up -/
theorem hOneL {md : Region.Mode} {Q : Exit → Act → World → Prop} {S : World → Prop} {os : List Oper} {i : Nat} {o : Oper} {fuel : Nat} {listed : Array Bool} {a : Act} {w : World} (hr : Region.ready md os.toArray listed = [i]) (ho : os[i]? = some o) (hw : Region.wanted o (yielded os.toArray a.tmps) = true)
    (h : ∀ K' : Act → World → Prop, (∀ a w, S w → wpAnyH P md os.toArray Q S fuel (listed.setIfInBounds i true) a w → K' a w) → Oper.wp P o a w K' Q) : wpAnyH P md os.toArray Q S (fuel + 1) listed a w := by
  refine wpAnyH_ready hr (by simp) (AllReadyH.cons (by simpa using ho) (fun K hK => ?_) AllReadyH.nil)
  rw [if_pos hw]
  exact h K (fun a w h1 h2 => hK.out a w h1 (fun _ => h2))
/-- just two may come up -/
theorem hTwoL {md : Region.Mode} {Q : Exit → Act → World → Prop} {S : World → Prop} {os : List Oper} {i j : Nat} {o p : Oper} {fuel : Nat} {listed : Array Bool} {a : Act} {w : World} (hr : Region.ready md os.toArray listed = [i, j]) (ho : os[i]? = some o) (hp : os[j]? = some p) (hw : Region.wanted o (yielded os.toArray a.tmps) = true) (hw' : Region.wanted p (yielded os.toArray a.tmps) = true)
    (h : ∀ K' : Act → World → Prop, (∀ a w, S w → wpAnyH P md os.toArray Q S fuel (listed.setIfInBounds i true) a w → K' a w) → Oper.wp P o a w K' Q)
    (h' : ∀ K' : Act → World → Prop, (∀ a w, S w → wpAnyH P md os.toArray Q S fuel (listed.setIfInBounds j true) a w → K' a w) → Oper.wp P p a w K' Q) : wpAnyH P md os.toArray Q S (fuel + 1) listed a w := by
  refine wpAnyH_ready hr (by simp) (AllReadyH.cons (by simpa using ho) (fun K hK => ?_) (AllReadyH.cons (by simpa using hp) (fun K hK => ?_) AllReadyH.nil))
  · rw [if_pos hw]
    exact h K (fun a w h1 h2 => hK.out a w h1 (fun _ => h2))
  · rw [if_pos hw']
    exact h' K (fun a w h1 h2 => hK.out a w h1 (fun _ => h2))
end
end Go.Proofs.YtjbcbejedaeedaaGreatDoor
