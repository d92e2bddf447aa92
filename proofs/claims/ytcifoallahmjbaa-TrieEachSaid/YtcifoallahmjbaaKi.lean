/- What a trie tells of the entries under a beginning. -/
import Derived.Test.YtcifoallahmjbaaKh
import Derived.OwnWalkIn
import Derived.TacticsInMore
import Derived.LoopNIn
import Derived.LoopIn
namespace Go.Proofs.Ytcifoallahmjbaa
open Go.RowKit
attribute [local go_sem] Oper.semAt_some

/-- what one round is told: the entry in new memory -/
def stepU (es : List Ent) (L : List Nat) (M : Nat) (s : Nat) (A : World) (vs : Array Value) (s' : Nat) : Prop :=
  ∃ i x c u, L[s]? = some i ∧ es[i]? = some x ∧ vs = #[.agg #[c, u]] ∧ IntsIn (fun b => M ≤ b) .i32 A c x.1 ∧ ElsIn (fun b => M ≤ b) A u x.2 ∧ s' = s + 1
/-- between two rounds of Under's own range -/
def UnI (J : Nat → World → Prop) (M : Nat) (V : World) (s : Nat) (A : World) : Prop := J s A ∧ AboveM M V A
theorem roundIn_round {n l l' : Nat} {P : Program} {f : FuncId} {tmps : Array Value} {assign body : Code} {w : World} {R : Ending → World → Prop} (h : RoundIn Fence.wide n P l f tmps assign body w R) : RoundIn (Fence.wide.inRound l') n P l f tmps assign body w R := h
theorem below_put {M D : Nat} {A : World} (h : M ≤ D) (o : Obj) : Below M A (A.putObj D o) := below_putObj (Below.refl _ _) h o
theorem above_putM {M D : Nat} {A : World} (h : D < M) (o : Obj) : AboveM M A (A.putObj D o) := ⟨by simp [World.putObj], fun k h1 _ => World.putObj_heap_other (by omega)⟩
theorem AboveM.belowR {M : Nat} {U A B : World} (h : AboveM M U A) (hb : Below (U.heap.size + 2) A B) : AboveM M U B := ⟨Nat.le_trans h.1 hb.size, fun k h1 h2 => (hb.block k (by omega)).trans (h.2 k h1 h2)⟩
theorem AboveM.putR {M : Nat} {U A : World} (h : AboveM M U A) {D : Nat} (hD : U.heap.size ≤ D) (o : Obj) : AboveM M U (A.putObj D o) :=
  ⟨by have := h.1; simpa [World.putObj] using this, fun k h1 h2 => (World.putObj_heap_other (by omega)).trans (h.2 k h1 h2)⟩
theorem unI_book {J : Nat → World → Prop} {M : Nat} {U : World} (hM : M ≤ U.heap.size) (hJ : ∀ s A B, J s A → Below M A B → J s B) : BookR U.heap.size (UnI J M U) := by
  refine ⟨fun s A o h hs => ⟨hJ s A _ h.1 ((Below.refl _ A).alloc (by omega) o), h.2.trans (AboveM.below ((Below.refl _ A).alloc (Nat.le_refl _) o))⟩, fun s A o h => ⟨hJ s A _ h.1 (below_put (by omega) o), ?_⟩⟩
  refine ⟨by have := h.2.1; simpa [World.putObj] using this, fun k h1 h2 => (World.putObj_heap_other (by omega)).trans (h.2.2 k h1 h2)⟩
set_option maxHeartbeats 4000000 in
set_option maxRecDepth 1000000 in
theorem under_iter (k : Tr) (O : k.Ok) (codes : List Int) (R : Nat → Prop) (pc : Option Addr) (nc cp : Nat) (hl : codes.length ≤ maxLen) (hw : ∀ r ∈ codes, (Lit.int .i32 r).wf = true) (b c M : Nat) :
    IterR Try.prog 39 #[.pointer (some ⟨b, 0, none⟩), .pointer (some ⟨c, 0, none⟩)] M (AboveM M) (Below M) (stepU k.es (subT k.es k.T codes) M) (fun s => s = (subT k.es k.T codes).length) 0
      (fun A => A.cell? ⟨b, 0, none⟩ = some (.pointer (some ⟨k.tb, 0, none⟩)) ∧ A.cell? ⟨c, 0, none⟩ = some (.slice pc nc cp) ∧ k.At A ∧ IntsIn R .i32 A (.slice pc nc cp) codes) := by
  intro l J Jx W hM hJ hJx hPre hPreX hY h0
  have HPRE := Lib.hid hPre
  have HPREX := Lib.hid hPreX
  have HJ := Lib.hid hJ
  have HJX := Lib.hid hJx
  have HY := Lib.hid hY
  have HW := Lib.hid hw
  have hb1 : Below W.heap.size W (W.alloc (.cells #[.func (.yield l) #[] #[]] 83)) := (Below.refl _ W).alloc (Nat.le_refl _) _
  have HJ1 : Hid (J 0 (W.alloc (.cells #[.func (.yield l) #[] #[]] 83))) := hJ 0 W _ h0 (hb1.mono hM)
  have v3 : (W.alloc (.cells #[.func (.yield l) #[] #[]] 83)).cell? ⟨W.heap.size, 0, none⟩ = some (.func (.yield l) #[] #[]) := by simp [go_sem]
  have hs1 : (W.alloc (.cells #[.func (.yield l) #[] #[]] 83)).heap.size = W.heap.size + 1 := by simp
  have HAB1 : Hid (AboveM M W (W.alloc (.cells #[.func (.yield l) #[] #[]] 83))) := AboveM.below hb1
  clear hPre hPreX hJ hJx hY hw h0 hb1
  refine callsIn_wide (n := 0) |>.1 ?_
  refine callsIn_of_wp_marks Try.func39 rfl trivial ?_ rfl
  simp only [Try.ntmps39, List.size_toArray, List.length_cons, List.length_nil, Nat.reduceAdd, Nat.reduceSub, Array.replicate_succ, Array.replicate_zero, List.push_toArray, List.append_toArray, List.nil_append, List.cons_append]
  generalize hV : W.alloc (.cells #[.func (.yield l) #[] #[]] 83) = V at *
  obtain ⟨c0, c1, hN, hC⟩ := HPRE.out 0 V HJ1.out
  have hi := is_yes (tb := k.tb) V hN.cells.1
  have hd := down_any R codes (.slice pc nc cp) hN hC hl HW.out
  have HDOM := Lib.hid hN.dom
  clear hN hC
  have HV := Lib.hid hV
  gi_wp2_with fail
  refine ⟨trivial, rfl, (callsIn_wide.2 hi).mono ?_⟩
  rintro e w1 ⟨rfl, rfl⟩
  gi_wp2_with fail
  refine ⟨trivial, rfl, (callsIn_wide.2 hd).mono ?_⟩
  rintro e w2 ⟨rfl, rfl⟩
  clear hi hd hV
  cases hnd : k.N codes with
  | none =>
    have hnil : subT k.es k.T codes = [] := by
      have h1 : ¬ Dom (k.es.map (·.1)) codes := fun h => (HDOM.out codes).2 h hnd
      rw [List.eq_nil_iff_forall_not_mem]
      intro i hi
      have hil := subT_mem O.ord hi
      unfold subT at hi
      rw [List.mem_filter] at hi
      have h2 : codes <+: cdAt k.es i := by simpa using hi.2
      refine h1 (.inr ⟨cdAt k.es i, ?_, h2⟩)
      obtain ⟨x, hx⟩ : ∃ x, k.es[i]? = some x := ⟨_, List.getElem?_eq_getElem hil⟩
      rw [cdAt_some hx]
      exact List.mem_map_of_mem (List.mem_of_getElem? hx)
    have HNIL := Lib.hid hnil
    clear hnil hnd
    simp only [ndV, ptrV, Option.map_none]
    gi_wp2
    refine ⟨_, results_none rfl _ _ _, ⟨_, rfl⟩, HAB1.out, .inl ⟨0, by rw [HNIL.out]; rfl, HJ1.out⟩⟩
  | some nd =>
    obtain ⟨nb, mb⟩ := nd
    have HND := Lib.hid hnd
    clear hnd
    simp only [ndV, ptrV, Option.map_some]
    gi_wp2_with fail
    refine ⟨trivial, rfl, (callsIn_wide.2 (below_fn _ _ _)).mono ?_⟩
    rintro e w3 ⟨rfl, rfl⟩
    gi_wp2_with fail
    have hbU : Below V.heap.size V ((V.alloc (.cells #[.pointer (some ⟨k.tb, 0, none⟩)] 25)).alloc (.cells #[.pointer (some ⟨nb, 0, none⟩)] 55)) := ((Below.refl _ V).alloc (Nat.le_refl _) _).alloc (by simp) _
    obtain ⟨U, hU⟩ : ∃ U, (V.alloc (.cells #[.pointer (some ⟨k.tb, 0, none⟩)] 25)).alloc (.cells #[.pointer (some ⟨nb, 0, none⟩)] 55) = U := ⟨_, rfl⟩
    have u1 : U.cell? ⟨W.heap.size + 1, 0, none⟩ = some (.pointer (some ⟨k.tb, 0, none⟩)) := by rw [← hU, ← hs1]; simp [go_sem]
    have u2 : U.cell? ⟨W.heap.size + 1 + 1, 0, none⟩ = some (.pointer (some ⟨nb, 0, none⟩)) := by rw [← hU, ← hs1]; simp [go_sem]
    have hsU : U.heap.size = W.heap.size + 3 := by rw [← hU]; simp [hs1]
    rw [hU] at hbU ⊢
    clear hU
    have hMV : M ≤ V.heap.size := by omega
    have u3 : U.cell? ⟨W.heap.size, 0, none⟩ = some (.func (.yield l) #[] #[]) := by rw [hbU.cell (p := ⟨W.heap.size, 0, none⟩) (by show W.heap.size < _; omega)]; exact v3
    have HJU : Hid (J 0 U) := HJ.out 0 V U HJ1.out (hbU.mono hMV)
    have HABU : Hid (AboveM M W U) := HAB1.out.trans (AboveM.below hbU)
    have hMU : M ≤ U.heap.size := by omega
    have hcl9 : codes.length ≤ 9 := by
      have h1 : k.N codes ≠ none := by rw [HND.out]; simp
      rcases (HDOM.out codes).1 h1 with h | ⟨c, hc, h⟩
      · rw [h]; simp
      · obtain ⟨x, hx, rfl⟩ := List.mem_map.1 hc
        have := O.short x hx; have := h.length_le; omega
    have hit := below_iter k O codes nb mb HND.out hcl9 (W.heap.size + 1) (W.heap.size + 1 + 1) (U.heap.size + 2)
    clear c0 c1 hcl9 v3
    refine wp_rangeR (gf := 51) (lb := #[.pointer (some ⟨W.heap.size + 1, 0, none⟩), .pointer (some ⟨W.heap.size + 1 + 1, 0, none⟩)]) rfl (enters_of Try.func51 (by kernel_rfl) rfl) hit
      (fun _ _ _ h k => h.trans k) (fun A o => above_putM (by omega) o) ?hps (UnI J M U) (fun c A => c = .ret ∧ Jx A ∧ AboveM M U A) ?hI ?hIx ?hIT ?hIxT ?hT ?hPre ?hPreX ⟨HJU.out, AboveM.refl _ _⟩ ?hround ?hdone ?hstop
    case hps => rintro s A vs s' ⟨i, x, c', u, _, _, rfl, _⟩; rfl
    case hI => exact unI_book hMU HJ.out
    case hIx => exact ⟨fun _ A o h hs => ⟨h.1, (unI_book (J := fun _ => Jx) hMU (fun _ => HJX.out)).1 0 A o h.2 hs⟩, fun _ A o h => ⟨h.1, (unI_book (J := fun _ => Jx) hMU (fun _ => HJX.out)).2 0 A o h.2⟩⟩
    case hIT => exact fun s A B h hb => ⟨HJ.out s A B h.1 (hb.mono (by omega)), h.2.belowR hb⟩
    case hIxT => exact fun s A B h hb => ⟨h.1, HJX.out A B h.2.1 (hb.mono (by omega)), h.2.2.belowR hb⟩
    case hT => exact fun A B hb k h1 h2 h3 => hb.block k (by omega)
    case hPre => exact fun s A h => ⟨h.2.cell (by omega) u1, h.2.cell (by omega) u2, (HPRE.out s A h.1).2.2.1⟩
    case hPreX => exact fun s A h => ⟨h.2.2.cell (by omega) u1, h.2.2.cell (by omega) u2, (HPREX.out A h.2.1).2.2.1⟩
    case hround =>
      rintro l' s A vs s' ⟨hJs, hab⟩ ⟨i, x, c', u, hLi, hx, rfl, hci, hui, rfl⟩ hAs
      have HJS := Lib.hid hJs
      have HABS := Lib.hid hab
      have HLI := Lib.hid hLi
      have HX := Lib.hid hx
      have HCI := Lib.hid hci
      have HUI := Lib.hid hui
      obtain ⟨p1, n1, rfl, _⟩ := hci
      obtain ⟨p2, n2, rfl, _⟩ := hui
      have HSU := Lib.hid hsU
      have hWU : W.heap.size < U.heap.size := by omega
      clear hJs hab hLi hx hsU hs1 hMV
      simp
      gi_wp2
      have hbA : Below A.heap.size A (A.alloc (.cells #[.slice p1 x.1.length n1, .slice p2 x.2.length n2] 35)) := (Below.refl _ A).alloc (Nat.le_refl _) _
      refine ⟨fun k h1 h2 => hbA.block k (by omega), AboveM.below hbA, fun o => ?_⟩
      obtain ⟨A2, hA2⟩ : ∃ A2, (A.alloc (.cells #[.slice p1 x.1.length n1, .slice p2 x.2.length n2] 35)).putObj (U.heap.size + 1) o = A2 := ⟨_, rfl⟩
      have e6 : A2.heap[A.heap.size]? = some (.cells #[.slice p1 x.1.length n1, .slice p2 x.2.length n2] 35 (0, 0)) := by
        rw [← hA2, World.putObj_heap_other (by omega)]; exact World.alloc_heap_new _ _
      have a60 : A2.cell? ⟨A.heap.size, 0, none⟩ = some (.slice p1 x.1.length n1) := by simp [World.cell?, e6]
      have a61 : A2.cell? ⟨A.heap.size, 1, none⟩ = some (.slice p2 x.2.length n2) := by simp [World.cell?, e6]
      have hkA : ∀ k, k < A.heap.size → k ≠ U.heap.size + 1 → A2.heap[k]? = A.heap[k]? := fun k h1 h2 => by rw [← hA2, World.putObj_heap_other h2]; exact hbA.block k h1
      have hzA : A2.heap.size = A.heap.size + 1 := by rw [← hA2]; simp [World.putObj]
      have hBA : Below M A A2 := by rw [← hA2]; exact (hbA.mono (by omega)).trans (below_put (by omega) _)
      have hab2 : AboveM M U A2 := ⟨by have := HABS.out.1; omega, fun k h1 h2 => (hkA k (by omega) (by omega)).trans (HABS.out.2 k h1 h2)⟩
      have a3 := hab2.cell hM u3
      have hJ2 := HJ.out s A A2 HJS.out hBA
      have hkp : Kept (fun b => U.heap.size + 2 ≤ b) A A2 := ⟨by omega, fun k h1 h2 => hkA k h2 (by omega)⟩
      have hstep : stepU k.es (subT k.es k.T codes) M s A2 #[.agg #[.slice p1 x.1.length n1, .slice p2 x.2.length n2]] (s + 1) :=
        ⟨i, x, _, _, HLI.out, HX.out, rfl, (HCI.out.kept hkp).mono (fun b hb _ => by omega), (HUI.out.kept hkp).mono (fun b hb _ => by omega), rfl⟩
      obtain ⟨fn, tmps, assign, body, hy, hR⟩ := HY.out s A2 _ _ hJ2 hstep
      rw [hA2]
      have HAB2 := Lib.hid hab2
      have HZA := Lib.hid hzA
      clear hA2 hbA e6 hkA hzA hBA hab2 hJ2 hkp hstep
      gi_wp2_with fail
      refine ⟨rfl, (roundIn_round hR).mono ?_⟩
      rintro e A5 ⟨hab5, ⟨rfl, hj⟩ | ⟨rfl, hjx⟩⟩
      · gi_wp2
        have h1 := HZA.out
        exact ⟨fun k h2 h3 => hab5.2 k (by omega) (by omega), ⟨hab5.1, fun k h2 h3 => hab5.2 k (by omega) h3⟩, hj, HAB2.out.trans hab5⟩
      · gi_wp2
        have h1 := HZA.out
        exact ⟨fun k h2 h3 => hab5.2 k (by omega) (by omega), ⟨hab5.1, fun k h2 h3 => hab5.2 k (by omega) h3⟩, rfl, hjx, HAB2.out.trans hab5⟩
    case hdone =>
      rintro D s A hD rfl hI hD2
      gi_wp2
      refine leave_mark hD2 (results_none rfl _ _ _) ⟨⟨_, rfl⟩, ?_, .inl ⟨_, rfl, HJ.out _ _ _ hI.1 (below_put (by omega) _)⟩⟩
      refine HABU.out.trans ?_
      exact hI.2.putR hD _
    case hstop =>
      rintro D c' A hD ⟨rfl, hx, hab⟩ hD2
      gi_wp2
      refine leave_mark hD2 (results_none rfl _ _ _) ⟨⟨_, rfl⟩, ?_, .inr (HJX.out _ _ hx (below_put (by omega) _))⟩
      exact HABU.out.trans (hab.putR hD _)
end Go.Proofs.Ytcifoallahmjbaa
