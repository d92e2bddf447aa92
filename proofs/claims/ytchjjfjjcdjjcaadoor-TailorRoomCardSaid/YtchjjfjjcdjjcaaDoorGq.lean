/- Package tailor: Parse: what it answers. -/
import Derived.Test.YtchjjfjjcdjjcaaDoorGo
namespace Go.Proofs.YtchjjfjjcdjjcaaDoor
open Go.RowKit
open PlainAid (bt)

def parV (s : ByteArray) : List Rul := match parseT s with | .inl l => l | .inr _ => []
def parA (s : ByteArray) : Int := match parseT s with | .inl _ => 0 | .inr e => e.1
def parE (s : ByteArray) : Int := match parseT s with | .inl _ => 0 | .inr e => e.2
theorem par_ok {s : ByteArray} {l : List Rul} (h : parseT s = .inl l) : parV s = l ∧ parA s = 0 ∧ parE s = 0 := by unfold parV parA parE; rw [h]; exact ⟨rfl, rfl, rfl⟩
theorem par_bad {s : ByteArray} {a : Nat} {x : Int} (h : parseT s = .inr (a, x)) : parV s = [] ∧ parA s = a ∧ parE s = x := by unfold parV parA parE; rw [h]; exact ⟨rfl, rfl, rfl⟩
theorem ruleT_err {s : ByteArray} {i n : Nat} {a : Nat} {x : Int} (h : ruleT s i n = .inr (a, x)) : x = 100 ∨ x = 2 := by
  unfold ruleT at h
  split at h
  · split at h
    · split at h
      · cases h; exact .inl rfl
      · split at h
        · split at h
          · cases h; exact .inl rfl
          · cases h
        · cases h
    · cases h; exact .inr rfl
  · cases h; exact .inl rfl
theorem parseF_err {s : ByteArray} : ∀ {n i : Nat} {l : List Rul} {a : Nat} {x : Int}, parseF s n i l = .inr (a, x) → x = 100 ∨ x = 2
  | 0, i, l, a, x, h => by rw [parseF] at h; cases h
  | n + 1, i, l, a, x, h => by
    rw [parseF] at h
    split at h
    · split at h
      · rename_i e he; cases h; exact ruleT_err he
      · exact parseF_err h
    · cases h
set_option maxHeartbeats 4000000 in
set_option maxRecDepth 100000 in
theorem parse_any (s : ByteArray) (w : World) (hs : s.size ≤ 65536) :
    Calls Tryd.prog 6 #[.string s] w fun e w' => ∃ lv, e = .returned (.tuple #[lv, .int .i64 (parA s), .int .i64 (parE s)]) ∧ RulsIn (fun b => w.heap.size ≤ b) w' lv (parV s) ∧ Below w.heap.size w w' := by
  have hmf : ∀ (fn : Fn) (first cap : Array Value) (w : World), (Instr.makeFunc fn first cap).run Tryd.prog w = .ok (.func fn first cap) w := fun _ _ _ _ => rfl
  have hsz : decide (65536 < s.size) = false := decide_eq_false (by omega)
  have HUC := Lib.hid (fun W => uCheck_any s W (by omega))
  cases hbd : BD s 0 with
  | some a =>
    have hv := bd_some hbd
    have hp : parseT s = .inr (a, 40) := by unfold parseT; rw [hbd]
    have HPB := Lib.hid (par_bad hp)
    rw [hv.1, hv.2] at HUC
    clear hv hp hbd
    go_enter Tryd.func6, Tryd.ntmps6
    go_wp2_with fail
    refine (HUC.out _).mono ?_
    rintro e w2 ⟨rfl, hb2⟩
    go_wp2_with fail
    go_ret3
    refine ⟨_, by rw [HPB.out.2.1, HPB.out.2.2]; rfl, by rw [HPB.out.1]; exact .nil _ _, ?_⟩
    exact ((Below.refl _ w).alloc (Nat.le_refl _) _).trans (hb2.mono (by simp))
  | none =>
    have hv := bd_none hbd
    have HPT : Hid (parseT s = parseF s (s.size - skipT s 0) (skipT s 0) []) := by show _ = _; unfold parseT; rw [hbd]
    rw [hv.1, hv.2] at HUC
    have HBD := Lib.hid hbd
    clear hv hbd
    go_enter Tryd.func6, Tryd.ntmps6
    go_wp2_with fail
    refine (HUC.out _).mono ?_
    rintro e w2 ⟨rfl, hb2⟩
    have hc2 : w2.cell? ⟨w.heap.size, 0, none⟩ = some (.string s) := by rw [hb2.cell (p := ⟨w.heap.size, 0, none⟩) (by simp)]; simp [go_sem]
    have HB2 : Hid (Below w.heap.size w w2) := ((Below.refl _ w).alloc (Nat.le_refl _) _).trans (hb2.mono (by simp))
    have hl2 : w.heap.size < w2.heap.size := by have := hb2.size; simp at this; omega
    clear hb2 HUC
    go_wp2_with fail
    have hb0 : Below w2.heap.size w2 ((w2.alloc (.cells #[.string s, .int .i64 0, .slice none 0 0] 53)).alloc (.cells #[.pointer (some ⟨w2.heap.size, 0, none⟩)] 51)) :=
      ((Below.refl _ w2).alloc (Nat.le_refl _) _).alloc (by simp) _
    have hps0 : PsAt ((w2.alloc (.cells #[.string s, .int .i64 0, .slice none 0 0] 53)).alloc (.cells #[.pointer (some ⟨w2.heap.size, 0, none⟩)] 51)) w2.heap.size s 0 (.slice none 0 0) := by
      unfold PsAt
      rw [Below.heap_alloc _ _ _ (by simp), World.alloc_heap_new]
      rfl
    have hpp0 : ((w2.alloc (.cells #[.string s, .int .i64 0, .slice none 0 0] 53)).alloc (.cells #[.pointer (some ⟨w2.heap.size, 0, none⟩)] 51)).cell? ⟨w2.heap.size + 1, 0, none⟩ = some (.pointer (some ⟨w2.heap.size, 0, none⟩)) := by simp [go_sem]
    have hsb0 := (hb0.cell (p := ⟨w.heap.size, 0, none⟩) hl2).trans hc2
    have hz0 : ((w2.alloc (.cells #[.string s, .int .i64 0, .slice none 0 0] 53)).alloc (.cells #[.pointer (some ⟨w2.heap.size, 0, none⟩)] 51)).heap.size = w2.heap.size + 1 + 1 := by simp
    generalize (w2.alloc (.cells #[.string s, .int .i64 0, .slice none 0 0] 53)).alloc (.cells #[.pointer (some ⟨w2.heap.size, 0, none⟩)] 51) = W0 at *
    have hbg : Below W0.heap.size W0 ((W0.alloc (.cells #[.int .i64 0] 3)).alloc (.cells #[.int .i64 0] 24)) := ((Below.refl _ W0).alloc (Nat.le_refl _) _).alloc (by simp) _
    have hg0 : ((W0.alloc (.cells #[.int .i64 0] 3)).alloc (.cells #[.int .i64 0] 24)).heap[W0.heap.size]? = some (.cells #[.int .i64 0] 3 (0, 0)) := by
      rw [Below.heap_alloc _ _ _ (by simp), World.alloc_heap_new]
    have hg1 : ((W0.alloc (.cells #[.int .i64 0] 3)).alloc (.cells #[.int .i64 0] 24)).heap[W0.heap.size + 1]? = some (.cells #[.int .i64 0] 24 (0, 0)) := by
      have := World.alloc_heap_new (W0.alloc (.cells #[.int .i64 0] 3)) (.cells #[.int .i64 0] 24)
      rw [World.size_alloc] at this; exact this
    have hgz : ((W0.alloc (.cells #[.int .i64 0] 3)).alloc (.cells #[.int .i64 0] 24)).heap.size = W0.heap.size + 2 := by simp
    have hcall := parse1_any s w2.heap.size (w2.heap.size + 1) w.heap.size ((W0.alloc (.cells #[.int .i64 0] 3)).alloc (.cells #[.int .i64 0] 24)) (hps0.below hbg) ((hbg.cell (p := ⟨w2.heap.size + 1, 0, none⟩) (by show w2.heap.size + 1 < _; omega)).trans hpp0) ((hbg.cell (p := ⟨w.heap.size, 0, none⟩) (by show w.heap.size < _; omega)).trans hsb0) (by omega) (by omega) HBD.out
    refine (tguarded_any 16 #[.pointer (some ⟨w2.heap.size + 1, 0, none⟩), .pointer (some ⟨w.heap.size, 0, none⟩)] _ W0 (enters_of Tryd.func16 (by kernel_rfl) rfl) hcall ?_).mono ?_
    · intro e w' ⟨ho, hend⟩
      rw [hgz] at ho
      have k0 := ho.block W0.heap.size (by omega) (by omega)
      have k1 := ho.block (W0.heap.size + 1) (by omega) (by omega)
      rw [hg0] at k0
      rw [hg1] at k1
      have hz := ho.size
      refine ⟨?_, by omega, by simp [World.cell?, k0], by simp [World.cell?, k1], by simp [World.frozen?, k0], by simp [World.frozen?, k1]⟩
      rcases hend with ⟨_, _, _, _, h, _⟩ | ⟨a, x, _, h⟩
      · exact .inl h
      · exact .inr ⟨_, _, h⟩
    · rintro e w' ⟨e1, w1, ⟨ho, hend⟩, ho1, hq⟩
      rw [hgz] at ho
      have HON : Hid (Below w.heap.size w w') := by
        have b1 : Below w.heap.size w W0 := HB2.out.trans (hb0.mono HB2.out.size)
        have b2 := b1.trans (hbg.mono b1.size)
        have b3 := Only.toBelow b2 (by omega) ho (fun i hi => by have := HB2.out.size; omega)
        exact Only.toBelow b3 (by have := b3.size; omega) ho1 (fun i hi => by have := HB2.out.size; omega)
      have hz1 := ho.size
      have hz2 := ho1.size
      rcases hend with ⟨rs, j, lv, hF, he, hps, hrs⟩ | ⟨a, x, hF, he⟩
      · rcases hq with ⟨_, rfl⟩ | ⟨a, z, h1, _⟩
        · have HPV := Lib.hid (par_ok (HPT.out.trans hF))
          have hps' : PsAt w' w2.heap.size s j lv := hps.only ho1 (by omega)
          have hrl := hrs.ruls
          rw [hgz] at hrl
          have HRL : Hid (RulsIn (fun b => w.heap.size ≤ b) w' lv rs) := (hrl.kept (Kept.only ho1 (fun b hb hs => by omega))).mono (fun b hb _ => by omega)
          have hpb' : w'.cell? ⟨w2.heap.size + 1, 0, none⟩ = some (.pointer (some ⟨w2.heap.size, 0, none⟩)) := by
            have i1 := hbg.block (w2.heap.size + 1) (by omega)
            have i2 := ho.block (w2.heap.size + 1) (by omega) (by omega)
            have i3 := ho1.block (w2.heap.size + 1) (by omega) (by omega)
            rw [World.cell?_of_block (a := ⟨w2.heap.size + 1, 0, none⟩) (i3.trans (i2.trans i1))]; exact hpp0
          obtain ⟨_, _, d2, _, dl⟩ := hps'.cells
          clear hF he hps hrs hps' hrl ho ho1 hcall hg0 hg1 hbg hb0 hps0 hpp0 hsb0
          go_wp2_with fail
          go_ret3
          exact ⟨_, by rw [HPV.out.2.1, HPV.out.2.2]; rfl, by rw [HPV.out.1]; exact HRL.out, HON.out⟩
        · rw [he] at h1; cases h1
      · rcases hq with ⟨h1, _⟩ | ⟨a', z, h1, rfl⟩
        · rw [he] at h1; cases h1
        · have HPV := Lib.hid (par_bad (HPT.out.trans hF))
          rw [he] at h1
          have haz : (a : Int) = a' ∧ x = z := by
            simp only [Ending.panicked.injEq, chainT, List.cons.injEq, PanicEntry.mk.injEq, Value.iface.injEq, Value.agg.injEq, Array.mk.injEq, Value.int.injEq] at h1
            exact ⟨h1.1.1.2.1.2, h1.1.1.2.2.1.2⟩
          obtain ⟨rfl, rfl⟩ := haz
          have hxx := parseF_err hF
          have hnz : (x == 0) = false := beq_eq_false_iff_ne.2 (by omega)
          clear hF he h1 ho ho1 hcall hg0 hg1 hbg hb0 hps0 hpp0 hsb0
          go_wp2_with fail
          go_ret3
          exact ⟨_, by rw [HPV.out.2.1, HPV.out.2.2]; rfl, by rw [HPV.out.1]; exact .nil _ _, HON.out⟩
end Go.Proofs.YtchjjfjjcdjjcaaDoor
