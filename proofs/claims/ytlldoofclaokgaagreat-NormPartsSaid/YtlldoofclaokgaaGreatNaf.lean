/- Package norms: the small data. -/
import Derived.Test.YtlldoofclaokgaaGreatNae
namespace Go.Proofs.YtlldoofclaokgaaGreat
open Go.RowKit

def smallC : List T3 := [(768, 788, 230), (803, 806, 220), (807, 808, 202), (824, 824, 1), (837, 837, 240), (1456, 1456, 10), (2364, 2364, 7), (2381, 2381, 9)]
def smallD : List T3 := [(192, 65, 768), (193, 65, 769), (194, 65, 770), (195, 65, 771), (196, 65, 776), (197, 65, 778), (199, 67, 807), (200, 69, 768), (201, 69, 769), (202, 69, 770), (203, 69, 776), (209, 78, 771), (214, 79, 776), (220, 85, 776), (224, 97, 768), (225, 97, 769), (226, 97, 770), (227, 97, 771), (228, 97, 776), (229, 97, 778), (231, 99, 807), (232, 101, 768), (233, 101, 769), (234, 101, 770), (235, 101, 776), (241, 110, 771), (244, 111, 770), (246, 111, 776), (252, 117, 776), (255, 121, 776), (257, 97, 772), (469, 220, 772), (470, 252, 772), (836, 776, 769), (2392, 2325, 2364), (7691, 100, 775), (7693, 100, 803), (7779, 115, 803), (7785, 7779, 775), (7841, 97, 803), (7845, 226, 769), (7853, 7841, 770), (7865, 101, 803), (7879, 7865, 770), (8486, 937, 0), (8491, 197, 0)]
set_option maxRecDepth 100000 in
theorem small_ok : dataOk smallC smallD = true := by kernel_rfl
theorem smallD_len : smallD.length = 46 := rfl
theorem smallC_len : smallC.length = 8 := rfl
set_option maxRecDepth 100000 in
theorem smallD_cells : (triVs .i32 smallD).toArray = #[.int .i32 192, .int .i32 65, .int .i32 768, .int .i32 193, .int .i32 65, .int .i32 769, .int .i32 194, .int .i32 65, .int .i32 770, .int .i32 195, .int .i32 65, .int .i32 771, .int .i32 196, .int .i32 65, .int .i32 776, .int .i32 197, .int .i32 65, .int .i32 778, .int .i32 199, .int .i32 67, .int .i32 807, .int .i32 200, .int .i32 69, .int .i32 768, .int .i32 201, .int .i32 69, .int .i32 769, .int .i32 202, .int .i32 69, .int .i32 770, .int .i32 203, .int .i32 69, .int .i32 776, .int .i32 209, .int .i32 78, .int .i32 771, .int .i32 214, .int .i32 79, .int .i32 776, .int .i32 220, .int .i32 85, .int .i32 776, .int .i32 224, .int .i32 97, .int .i32 768, .int .i32 225, .int .i32 97, .int .i32 769, .int .i32 226, .int .i32 97, .int .i32 770, .int .i32 227, .int .i32 97, .int .i32 771, .int .i32 228, .int .i32 97, .int .i32 776, .int .i32 229, .int .i32 97, .int .i32 778, .int .i32 231, .int .i32 99, .int .i32 807, .int .i32 232, .int .i32 101, .int .i32 768, .int .i32 233, .int .i32 101, .int .i32 769, .int .i32 234, .int .i32 101, .int .i32 770, .int .i32 235, .int .i32 101, .int .i32 776, .int .i32 241, .int .i32 110, .int .i32 771, .int .i32 244, .int .i32 111, .int .i32 770, .int .i32 246, .int .i32 111, .int .i32 776, .int .i32 252, .int .i32 117, .int .i32 776, .int .i32 255, .int .i32 121, .int .i32 776, .int .i32 257, .int .i32 97, .int .i32 772, .int .i32 469, .int .i32 220, .int .i32 772, .int .i32 470, .int .i32 252, .int .i32 772, .int .i32 836, .int .i32 776, .int .i32 769, .int .i32 2392, .int .i32 2325, .int .i32 2364, .int .i32 7691, .int .i32 100, .int .i32 775, .int .i32 7693, .int .i32 100, .int .i32 803, .int .i32 7779, .int .i32 115, .int .i32 803, .int .i32 7785, .int .i32 7779, .int .i32 775, .int .i32 7841, .int .i32 97, .int .i32 803, .int .i32 7845, .int .i32 226, .int .i32 769, .int .i32 7853, .int .i32 7841, .int .i32 770, .int .i32 7865, .int .i32 101, .int .i32 803, .int .i32 7879, .int .i32 7865, .int .i32 770, .int .i32 8486, .int .i32 937, .int .i32 0, .int .i32 8491, .int .i32 197, .int .i32 0] := rfl
theorem tris_lit {R : Nat → Prop} {kc : IntKind} {w : World} {b : Nat} {t : TypeId} (xs : List T3) (h : w.heap[b]? = some (.cells (triVs kc xs).toArray t (0, 0))) (hR : R b) (hl : xs.length ≤ maxLen) :
    TrisIn R kc w (.slice (some ⟨b, 0, none⟩) xs.length xs.length) xs := by
  refine ⟨_, _, rfl, ⟨Nat.le_refl _, hl⟩, fun i x hx => ⟨b, 0, rfl, hR, (Array.getElem?_eq_some_iff.1 h).1, ?_⟩⟩
  obtain ⟨e1, e2, e3⟩ := triVs_at kc xs i x hx
  refine ⟨?_, ?_, ?_⟩ <;> simp [World.cell?, h, e1, e2, e3]
theorem small_bound {x : T3} (hx : x ∈ smallD) : (0 ≤ x.1 ∧ x.1 ≤ 1114111) ∧ (0 ≤ x.2.1 ∧ x.2.1 ≤ 1114111) ∧ (0 ≤ x.2.2 ∧ x.2.2 ≤ 1114111) := dec_mem3 (data_parts small_ok).2.2.2.1 hx
set_option maxHeartbeats 4000000 in
set_option maxRecDepth 100000 in
theorem decomps_any (w : World) :
    Calls Tryz.prog 46 #[] w fun e w' => ∃ v, e = .returned v ∧ w'.ownsRow w.heap.size 104 3 v smallD.length (triVs .i32 smallD) ∧ Below w.heap.size w w' := by
  obtain ⟨i1, hi1, hr0, hr1, hr2⟩ := info_parts Tryz.infoDec
  go_enter Tryz.func46, Tryz.ntmps46
  go_wp2_with fail
  rw [← smallD_cells]
  have HV0 : Hid (TrisIn (fun b => b = w.heap.size) .i32 (w.alloc (.cells (triVs .i32 smallD).toArray 152)) (.slice (some ⟨w.heap.size, 0, none⟩) 46 46) smallD) := tris_lit smallD (World.alloc_heap_new _ _) rfl (by rw [smallD_len]; decide)
  have HB0 : Hid (Below w.heap.size w (w.alloc (.cells (triVs .i32 smallD).toArray 152))) := (Below.refl _ w).alloc (Nat.le_refl _) _
  have hz0 : (w.alloc (.cells (triVs .i32 smallD).toArray 152)).heap.size = w.heap.size + 1 := by simp
  have HZ0 := Lib.hid hz0
  have HL := Lib.hid smallD_len
  have HD := Lib.hid (fun x (hx : x ∈ smallD) => small_bound hx)
  clear hz0
  generalize (w.alloc (.cells (triVs .i32 smallD).toArray 152)) = W0 at *
  generalize hdd : smallD = d at *
  have HDD := Lib.hid hdd
  clear hdd
  go_loopw [1, 52] (fun lv iv W => ∃ k : Nat, iv = .int .i64 k ∧ k ≤ 46 ∧ W.ownsRow (w.heap.size + 1) 104 3 lv k (triVs .i32 (d.take k)) ∧ Below (w.heap.size + 1) W0 W) (fun _ iv _ => 46 - (intOf iv).toNat)
  case atStart => exact ⟨0, rfl, by omega, ⟨rfl, .inl ⟨rfl, rfl⟩⟩, Below.refl _ _⟩
  case round =>
    obtain ⟨k, rfl, hk, ho, hb⟩ := hrel
    have HO := Lib.hid ho
    have HB := Lib.hid hb
    by_cases hlt : k < 46
    · have d1 : decide ((k : Int) < 46) = true := decide_eq_true (by omega)
      have d2 : decide (k < 46) = true := decide_eq_true hlt
      have hx : d[k]? = some (d[k]'(by have := HL.out; omega)) := List.getElem?_eq_getElem _
      generalize d[k]'(by have := HL.out; omega) = x at hx
      have hsz := hb.size
      obtain ⟨b, o, hbo, hbR, hbl, q0, q1, q2⟩ := (HV0.out.kept (w' := wr) ⟨hb.size, fun j hj _ => hb.block j (by have := HZ0.out; omega)⟩).at k x hx
      cases hbo
      rw [Nat.zero_add] at q0 q1 q2
      have hxb := HD.out x (List.mem_of_getElem? hx)
      have hwz : w.heap.size + 1 ≤ wr.heap.size := by have := HZ0.out; omega
      have HXB := Lib.hid hxb
      have HT : Hid (triVs .i32 (d.take (k + 1)) = triVs .i32 (d.take k) ++ [.int .i32 x.1, .int .i32 x.2.1, .int .i32 x.2.2]) := by
        show _ = _
        rw [List.take_add_one, hx, Option.toList_some, triVs_snoc]
      have HLT := Lib.hid hlt
      clear hx hxb ho hb
      obtain ⟨x1, x2, x3⟩ := x
      go_wp2_with (at_builtin; refine app_stop ⟨_, _, rfl⟩ ?_)
      refine Lib.hid ?_
      refine wpList_append_own _ rfl _ _ 24 rfl (w.heap.size + 1) 104 i1 (.agg #[.int .i32 0, .int .i32 0, .int .i32 0]) 3 12 Tryz.underlying24 hi1 hr0 hr1 hr2 rfl (by decide) _ _ _ rfl ((HO.out.alloc _).alloc _) ⟨wr.heap.size + 1, 0, none⟩ 1 1 [.int .i32 x1, .int .i32 x2, .int .i32 x3] rfl (by rfl) (by have := row_new (wr.alloc (.cells #[.int .i32 x1, .int .i32 x2, .int .i32 x3] 152)) [.int .i32 x1, .int .i32 x2, .int .i32 x3] 104; rwa [World.size_alloc] at this) (by simp [Value.oneCell']) (by unfold maxLen; omega) (by omega) (by simp; omega) ?_
      intro v5 w5 hr5 hg5 _
      have HR5 : Hid (w5.ownsRow (w.heap.size + 1) 104 3 v5 (k + 1) (triVs .i32 (d.take (k + 1)))) := by
        show World.ownsRow _ _ _ _ _ _ _
        rw [HT.out]; exact hr5
      have HB5 : Hid (Below (w.heap.size + 1) W0 w5) := ((HB.out.alloc (by omega) _).alloc (by simp; omega) _).grown hg5 (by simp; omega) (fun j hj => (HO.out.lt j hj).1)
      clear hr5 hg5 HO
      go_wp2
      go_roundw
      case rel => exact ⟨k + 1, by go_num, by have := HLT.out; omega, HR5.out, HB5.out⟩
      case measure => (have hq := HLT.out; simp [intOf]; omega)
    · have d1 : decide ((k : Int) < 46) = false := decide_eq_false (by omega)
      have d2 : decide (k < 46) = false := decide_eq_false hlt
      have HT : Hid (d.take k = d) := List.take_of_length_le (by have := HL.out; omega)
      obtain rfl : k = 46 := by omega
      rw [HT.out] at HO
      clear ho hb hlt HV0
      go_wp2_with fail
      go_ret
      refine ⟨_, rfl, ?_, HB0.out.trans (HB.out.mono (by omega))⟩
      rw [HDD.out, HL.out]
      exact ownsRow_mono HO.out (by omega)
end Go.Proofs.YtlldoofclaokgaaGreat
