/- The small functions of a trie that is made: is, Len, Asked, down, Begins. -/
import Derived.Test.YtcifoallahmjbaaTo
namespace Go.Proofs.Ytcifoallahmjbaa
open Go.RowKit

variable {B : Nat} {W W' : World} {tb root n : Nat} {es fs : List Ent} {S : List (List Int)} {N : NMap} {lv : Value} {asked : Int} {vs : List (Value × Value)}
/-- one question more -/
theorem NewAt.ask (h : NewAt B W tb es fs S N root lv n asked vs) (a : Int) : NewAt B (W.setCell ⟨tb, 3, none⟩ (.int .i64 a)) tb es fs S N root lv n a vs := by
  have hother : ∀ k, k ≠ tb → (W.setCell ⟨tb, 3, none⟩ (.int .i64 a)).heap[k]? = W.heap[k]? := fun k hk => Below.heap_setCell _ _ _ _ hk
  have hk : Kept (Lf B W) W (W.setCell ⟨tb, 3, none⟩ (.int .i64 a)) := ⟨by simp [World.setCell], fun b hb _ => hother b (lf_apart hb h.tcell (by decide) (by decide))⟩
  refine ⟨?_, h.rootN, ?_, h.dom, ?_, h.vlen, fun j y hy => ?_, h.tB⟩
  · have := h.tcell
    unfold World.setCell
    simp [Array.getElem?_modify, this]
  · refine h.mem.same fun p nb mb hp => ⟨hother nb ?_, hother mb ?_⟩
    · rintro rfl; have := h.mem.node _ _ _ hp; rw [h.tcell] at this; cases this
    · rintro rfl
      obtain ⟨L, ⟨es', c'', h4, _⟩, _⟩ := h.mem.map _ _ _ hp
      rw [h.tcell] at h4; cases h4
  · exact h.row.kept (grownBy_setAt W ⟨tb, 3, none⟩ _) (.inr (h.rowNe h.tcell (by decide)))
  · obtain ⟨c, u, h1, h2, h3⟩ := h.vals j y hy
    exact ⟨c, u, h1, h2.lf hk (Nat.le_refl _), h3.lf hk (Nat.le_refl _)⟩
/-- an entry's two slices in the row -/
theorem NewAt.rowAt (h : NewAt B W tb es fs S N root lv n asked vs) {i : Nat} {x : Ent} (hx : es[i]? = some x) : ∃ g cap c u, lv = .slice (some ⟨g, 0, none⟩) es.length cap ∧ W.cell? ⟨g, i * 2, none⟩ = some c ∧ W.cell? ⟨g, i * 2 + 1, none⟩ = some u ∧ g < W.heap.size ∧
    IntsIn (Lf B W) .i32 W c x.1 ∧ ElsIn (Lf B W) W u x.2 := by
  obtain ⟨c, u, h1, h2, h3⟩ := h.vals i x hx
  have hi := (List.getElem?_eq_some_iff.1 hx).1
  have hrow := h.row
  rcases h.row.2 with ⟨_, e⟩ | ⟨g, cap, cur, e, hg, hr, _⟩
  · omega
  · refine ⟨g, cap, c, u, e, ?_, ?_, (Array.getElem?_eq_some_iff.1 hr).1, h2, h3⟩
    · have := hrow.cells (g := g) (by rw [e]; rfl) (i * 2 + 0) c (flat_at (fun x : Value × Value => [x.1, x.2]) 2 (fun _ => rfl) vs i 0 (c, u) c h1 rfl)
      rw [addr_add, Nat.zero_add, Nat.add_zero] at this; exact this
    · have := hrow.cells (g := g) (by rw [e]; rfl) (i * 2 + 1) u (flat_at (fun x : Value × Value => [x.1, x.2]) 2 (fun _ => rfl) vs i 1 (c, u) u h1 rfl)
      rw [addr_add, Nat.zero_add] at this; exact this
theorem NewAt.lvSlice (h : NewAt B W tb es fs S N root lv n asked vs) : ∃ p cap, lv = .slice p es.length cap := by
  rcases h.row.2 with ⟨e, e2⟩ | ⟨g, cap, cur, e, _⟩
  · exact ⟨none, 0, by rw [e, e2]⟩
  · exact ⟨_, _, e⟩

set_option maxHeartbeats 1000000 in
set_option maxRecDepth 100000 in
theorem is_yes (w : World) (h : w.cell? ⟨tb, 0, none⟩ = some (.int .i64 1)) :
    Calls Try.prog 31 #[.pointer (some ⟨tb, 0, none⟩)] w fun e w' => e = .returned (.bool true) ∧ w = w' := by
  go_enter Try.func31, Try.ntmps31
  go_wp2
  go_ret
  exact ⟨rfl, rfl⟩
set_option maxHeartbeats 1000000 in
set_option maxRecDepth 100000 in
theorem is_zero (w : World) (h : w.cell? ⟨tb, 0, none⟩ = some (.int .i64 0)) :
    Calls Try.prog 31 #[.pointer (some ⟨tb, 0, none⟩)] w fun e w' => e = .returned (.bool false) ∧ w = w' := by
  go_enter Try.func31, Try.ntmps31
  go_wp2
  go_ret
  exact ⟨rfl, rfl⟩
set_option maxHeartbeats 1000000 in
set_option maxRecDepth 100000 in
theorem is_nil (w : World) :
    Calls Try.prog 31 #[.pointer none] w fun e w' => e = .returned (.bool false) ∧ w = w' := by
  go_enter Try.func31, Try.ntmps31
  go_wp2
  go_ret
  exact ⟨rfl, rfl⟩
set_option maxHeartbeats 1000000 in
set_option maxRecDepth 100000 in
theorem len_any (h : NewAt B W tb es fs S N root lv n asked vs) :
    Calls Try.prog 11 #[.pointer (some ⟨tb, 0, none⟩)] W fun e w' => e = .returned (.int .i64 es.length) ∧ W = w' := by
  obtain ⟨s0, s1, s2, s3, sf⟩ := h.cells
  obtain ⟨p, cap, hl⟩ := h.lvSlice
  rw [hl] at s2
  clear hl s1 s3 sf
  go_enter Try.func11, Try.ntmps11
  go_wp2_with fail
  refine (is_yes _ s0).mono ?_
  rintro e w1 ⟨rfl, rfl⟩
  go_wp2_with fail
  go_ret
  exact ⟨rfl, rfl⟩
set_option maxHeartbeats 1000000 in
set_option maxRecDepth 100000 in
theorem asked_any (h : NewAt B W tb es fs S N root lv n asked vs) :
    Calls Try.prog 15 #[.pointer (some ⟨tb, 0, none⟩)] W fun e w' => e = .returned (.int .i64 asked) ∧ W = w' := by
  obtain ⟨s0, s1, s2, s3, sf⟩ := h.cells
  clear s1 s2 sf
  go_enter Try.func15, Try.ntmps15
  go_wp2_with fail
  refine (is_yes _ s0).mono ?_
  rintro e w1 ⟨rfl, rfl⟩
  go_wp2_with fail
  refine (load_any _ _ _ _ s3).mono ?_
  rintro e w1 ⟨rfl, rfl⟩
  go_wp2_with fail
  go_ret
  exact ⟨rfl, rfl⟩
/-- the node at the end of the way; none: there is none -/
def ndV (o : Option (Nat × Nat)) : Value := ptrV (o.map (·.1))

set_option maxHeartbeats 2000000 in
set_option maxRecDepth 100000 in
theorem down_any (R : Nat → Prop) (codes : List Int) (v : Value) (h : NewAt B W tb es fs S N root lv n asked vs) (hv : IntsIn R .i32 W v codes) (hl : codes.length ≤ maxLen) (hw : ∀ r ∈ codes, (Lit.int .i32 r).wf = true) :
    Calls Try.prog 33 #[.pointer (some ⟨tb, 0, none⟩), v] W fun e w' => e = .returned (ndV (N codes)) ∧ W = w' := by
  obtain ⟨s0, s1, s2, s3, sf⟩ := h.cells
  have HV := Lib.hid hv
  obtain ⟨p, cp, rfl, _⟩ := hv
  have HH := Lib.hid h
  have HW := Lib.hid hw
  unfold maxLen at hl
  obtain ⟨rm, hrm⟩ := h.rootN
  have HRM := Lib.hid hrm
  clear s0 s2 s3 sf hw hrm h
  go_enter Try.func33, Try.ntmps33
  go_wp2
  go_loop [5, 14] (fun av jx => ∃ j nb mb : Nat, av = .pointer (some ⟨nb, 0, none⟩) ∧ jx = .int .i64 j ∧ j ≤ codes.length ∧ N (codes.take j) = some (nb, mb)) (fun _ jx => codes.length - (intOf jx).toNat)
  case atStart => exact ⟨0, _, rm, rfl, rfl, Nat.zero_le _, HRM.out⟩
  case round =>
    obtain ⟨j, nb, mb, rfl, rfl, hj, hN⟩ := hrel
    have HN := Lib.hid hN
    have c0 := HH.out.mem.cell0 hN
    clear hN
    by_cases hjl : j < codes.length
    · have hjl' : decide (j < codes.length) = true := decide_eq_true hjl
      obtain ⟨b', o', rfl, _, _, hcr⟩ := HV.out.at j hjl
      have hwf : (Lit.int .i32 (codes.getD j 0)).wf = true := HW.out _ (by rw [List.getD_eq_getElem?_getD, List.getElem?_eq_getElem hjl]; exact List.getElem_mem _)
      have HTK : Hid (codes.take (j + 1) = codes.take j ++ [codes.getD j 0]) := take_snoc' (by rw [List.getD_eq_getElem?_getD, List.getElem?_eq_getElem hjl]; rfl)
      have hz : ∀ w, (zeroValue 55).run Try.prog w = .ok (.pointer none) w := fun _ => by kernel_rfl
      have HJL := Lib.hid hjl
      obtain ⟨r, hre⟩ : ∃ r, r = codes.getD j 0 := ⟨_, rfl⟩
      rw [← hre] at hcr hwf HTK
      have hlook := (HH.out.mem.map _ nb mb HN.out).lookup (t := 70) (e := 55) Try.underlying21 Try.underlying70 hz r hwf
      clear hre hwf hjl hz
      cases hn : N (codes.take j ++ [r]) with
      | some pr =>
        obtain ⟨nb', mb'⟩ := pr
        simp only [hn, Option.map_some, ptrV] at hlook
        have HNN := Lib.hid hn
        clear hn
        go_wp2
        go_round
        case rel => exact ⟨j + 1, nb', mb', rfl, by go_num, HJL.out, by rw [HTK.out]; exact HNN.out⟩
        case measure => (have hq := HJL.out; simp [intOf]; omega)
      | none =>
        simp only [hn, Option.map_none, ptrV] at hlook
        have HE : Hid (N codes = none) := by
          cases hc : N codes with
          | none => rfl
          | some pr =>
            have hd := (HH.out.dom codes).1 (by rw [hc]; simp)
            have := (HH.out.dom (codes.take j ++ [r])).2 (dom_pre hd (by rw [← HTK.out]; exact List.take_prefix _ _))
            exact absurd hn this
        clear hn
        go_wp2
        go_ret
        exact ⟨by rw [HE.out]; rfl, rfl⟩
    · have hjl' : decide (j < codes.length) = false := decide_eq_false hjl
      have HE : Hid (N codes = some (nb, mb)) := by have := HN.out; rwa [List.take_of_length_le (by omega)] at this
      clear hjl
      go_wp2
      go_ret
      exact ⟨by rw [HE.out]; rfl, rfl⟩

set_option maxHeartbeats 2000000 in
set_option maxRecDepth 100000 in
theorem begins_any (R : Nat → Prop) (codes : List Int) (v : Value) (h : NewAt B W tb es es (es.map (·.1)) N root lv n asked vs) (hv : IntsIn R .i32 W v codes) (hl : codes.length ≤ maxLen) (hw : ∀ r ∈ codes, (Lit.int .i32 r).wf = true) :
    Calls Try.prog 18 #[.pointer (some ⟨tb, 0, none⟩), v] W fun e w' => e = .returned (.bool (es.any fun x => decide (codes.length < x.1.length) && decide (codes <+: x.1))) ∧ W = w' := by
  obtain ⟨s0, s1, s2, s3, sf⟩ := h.cells
  have HD := Lib.hid (down_any R codes v h hv hl hw)
  obtain ⟨bg, hbg⟩ : ∃ bg, bg = (es.any fun x => decide (codes.length < x.1.length) && decide (codes <+: x.1)) := ⟨_, rfl⟩
  have HG : Hid (bg = true ↔ ∃ r, N (codes ++ [r]) ≠ none) := by
    show _ ↔ _
    rw [hbg, List.any_eq_true]
    have hb := begins_iff (es := es) (p := codes)
    constructor
    · rintro ⟨x, hx, h1⟩
      simp at h1
      obtain ⟨r, hr⟩ := hb.2 ⟨x, hx, h1.1, h1.2⟩
      exact ⟨r, (h.dom _).2 hr⟩
    · rintro ⟨r, hr⟩
      obtain ⟨x, hx, h1, h2⟩ := hb.1 ⟨r, (h.dom _).1 hr⟩
      exact ⟨x, hx, by simp [h1, h2]⟩
  rw [← hbg]
  have HH := Lib.hid h
  clear s1 s2 s3 sf hbg hv hl hw h
  cases hN : N codes with
  | none =>
    have hF : bg = false := by
      cases bg
      · rfl
      · obtain ⟨r, hr⟩ := HG.out.1 rfl
        exact absurd hN (HH.out.mem.closed codes r hr)
    subst hF
    have HN := Lib.hid hN
    clear hN
    go_enter Try.func18, Try.ntmps18
    go_wp2_with fail
    refine (is_yes _ s0).mono ?_
    rintro e w1 ⟨rfl, rfl⟩
    go_wp2_with fail
    refine HD.out.mono ?_
    rw [HN.out]
    rintro e w1 ⟨rfl, rfl⟩
    simp only [ndV, Option.map_none, ptrV]
    go_wp2_with fail
    go_ret
    exact ⟨rfl, rfl⟩
  | some pr =>
    obtain ⟨nb, mb⟩ := pr
    have c0 := HH.out.mem.cell0 hN
    obtain ⟨D, hown, hsz⟩ := (HH.out.mem.map _ nb mb hN).len
    have hlen := hown.len Try.underlying70 3
    have HF : Hid (decide (0 < Maps.size D) = bg) := by
      show _ = _
      rw [Bool.eq_iff_iff, decide_eq_true_eq, HG.out]
      constructor
      · intro h0
        apply Classical.byContradiction
        intro hno
        have : Maps.size D = 0 := hsz.2 (fun r => by
          cases hr : N (codes ++ [r]) with
          | none => rfl
          | some q => exact absurd ⟨r, by rw [hr]; simp⟩ hno)
        omega
      · rintro ⟨r, hr⟩
        apply Classical.byContradiction
        intro hno
        have := hsz.1 (by omega) r
        cases hq : N (codes ++ [r]) with
        | none => exact hr hq
        | some q => rw [hq] at this; cases this
    have HN := Lib.hid hN
    clear hN hsz
    go_enter Try.func18, Try.ntmps18
    go_wp2_with fail
    refine (is_yes _ s0).mono ?_
    rintro e w1 ⟨rfl, rfl⟩
    go_wp2_with fail
    refine HD.out.mono ?_
    rw [HN.out]
    rintro e w1 ⟨rfl, rfl⟩
    simp only [ndV, Option.map_some, ptrV]
    go_wp2
    go_ret
    exact ⟨by rw [← HF.out]; rfl, rfl⟩
end Go.Proofs.Ytcifoallahmjbaa
