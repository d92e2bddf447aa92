/- Package norms: Build of data that may be. -/
import Derived.Test.YtlldoofclaokgaaGreatNu
import Derived.Deep.RegionHeld
namespace Go.Proofs.YtlldoofclaokgaaGreat
open Go.RowKit

def tris (xs : List T3) : List Int := xs.flatMap fun x => vints [x.1, x.2.1, x.2.2]
theorem tris_step {xs : List T3} {k : Nat} {x : T3} (h : xs[k]? = some x) : tris (xs.take (k + 1)) = tris (xs.take k) ++ vints [x.1, x.2.1, x.2.2] := by
  unfold tris
  rw [List.take_add_one, h]; simp
theorem tris_len (xs : List T3) (h : ∀ x ∈ xs, ∀ n ∈ [x.1, x.2.1, x.2.2], 0 ≤ n ∧ n ≤ 2147483648) : (tris xs).length ≤ 30 * xs.length := by
  induction xs with
  | nil => simp [tris]
  | cons x xs ih =>
    have h1 := vints_len [x.1, x.2.1, x.2.2] (h x (List.mem_cons_self ..))
    have h2 := ih (fun y hy => h y (List.mem_cons_of_mem _ hy))
    unfold tris at *
    simp only [List.flatMap_cons, List.length_append, List.length_cons] at *; simp at h1; omega
def normHead : List Int := [78, 82, 77, 49]
def normBytes (c d : List T3) : List Int := normHead ++ vints [(c.length : Int)] ++ tris c ++ vints [(d.length : Int)] ++ tris d
theorem cls_bound {c : List T3} (hc : clsFrom none c = true) {x : T3} (hx : x ∈ c) : ∀ n ∈ [x.1, x.2.1, x.2.2], 0 ≤ n ∧ n ≤ 2147483648 := by
  obtain ⟨i, hi⟩ := List.getElem?_of_mem hx
  have h := (clsFrom_at c none hc i x hi).1
  unfold clsOne at h
  simp only [Bool.and_eq_true, decide_eq_true_eq] at h
  have h1 := pt_bd h.1.1.1.1
  have h2 := pt_bd h.1.1.1.2
  intro n hn
  simp only [List.mem_cons, List.not_mem_nil, or_false] at hn
  omega
theorem dec_bound {d : List T3} (hd : decFrom none d = true) {x : T3} (hx : x ∈ d) : ∀ n ∈ [x.1, x.2.1, x.2.2], 0 ≤ n ∧ n ≤ 2147483648 := by
  have h := dec_mem hd hx
  unfold decOne at h
  simp only [Bool.and_eq_true] at h
  have h1 := pt_bd h.1.1.1.1.1
  have h2 := pt_bd h.1.1.1.1.2
  have h3 := pt_bd h.1.1.1.2
  intro n hn
  simp only [List.mem_cons, List.not_mem_nil, or_false] at hn
  omega

theorem RowAt.ints {B : Nat} {W : World} {v : Value} {xs : List Int} (h : RowAt B W v xs) (hl : xs.length ≤ maxLen) : IntsIn (fun b => B ≤ b) .u8 W v xs := by
  rcases h with h | ⟨g, fr, rfl, hg, hb⟩
  · exact ints_of_own h
  · refine ⟨_, _, rfl, ⟨Nat.le_refl _, hl⟩, fun i x hx => ⟨g, 0, rfl, hg, (Array.getElem?_eq_some_iff.1 hb).1, ?_⟩⟩
    simp [World.cell?, hb, hx]
theorem vints_byte (ns : List Int) : ∀ x ∈ vints ns, 0 ≤ x ∧ x < 256 := by
  intro x hx
  unfold vints at hx
  obtain ⟨n, _, hn⟩ := List.mem_flatMap.1 hx
  exact vint_byte _ x hn
theorem tris_byte (xs : List T3) : ∀ x ∈ tris xs, 0 ≤ x ∧ x < 256 := by
  intro x hx
  unfold tris at hx
  obtain ⟨n, _, hn⟩ := List.mem_flatMap.1 hx
  exact vints_byte _ x hn
theorem norm_byte (c d : List T3) : ∀ x ∈ normBytes c d, 0 ≤ x ∧ x < 256 := by
  intro x hx
  simp only [normBytes, List.mem_append] at hx
  rcases hx with (((hx | hx) | hx) | hx) | hx
  · simp only [normHead, List.mem_cons, List.not_mem_nil, or_false] at hx; omega
  · exact vints_byte _ x hx
  · exact tris_byte _ x hx
  · exact vints_byte _ x hx
  · exact tris_byte _ x hx
theorem norm_pos (c d : List T3) : 0 < (normBytes c d).length := by simp [normBytes, normHead]
theorem PutAt.below {B bx : Nat} {xs : List Int} {W W' : World} (h : PutAt B bx xs W) (hb : Below W.heap.size W W') : PutAt B bx xs W' := by
  obtain ⟨v, h1, h2⟩ := h
  exact ⟨v, (hb.block _ h1.lt).trans h1, h2.below hb⟩
set_option maxHeartbeats 8000000 in
set_option maxRecDepth 100000 in
theorem build_ok (R Rc : Nat → Prop) (c d : List T3) (u v : Value) (w : World) (hu : TrisIn Rc .i64 w u c) (hv : TrisIn R .i32 w v d) (h : dataOk c d = true) :
    Calls Tryz.prog 45 #[u, v] w fun e w' => ∃ z, e = .returned (.tuple #[z, .int .i64 0]) ∧ w'.ownsRow w.heap.size 5 1 z (frameOf (normBytes c d)).length ((frameOf (normBytes c d)).map (Value.int .u8)) ∧ Below w.heap.size w w' := by
  have hmf : ∀ (fn : Fn) (first cap : Array Value) (w : World), (Instr.makeFunc fn first cap).run Tryz.prog w = .ok (.func fn first cap) w := fun _ _ _ _ => rfl
  obtain ⟨hcl, hl, hc, hd, h2⟩ := data_parts h
  have hck := check_ok R Rc c d u v w hu hv h
  have HU : Hid (TrisIn (fun b => Rc b ∧ b < w.heap.size) .i64 w u c) := hu.mono (fun b h1 h2 => ⟨h1, h2⟩)
  have HV : Hid (TrisIn (fun b => R b ∧ b < w.heap.size) .i32 w v d) := hv.mono (fun b h1 h2 => ⟨h1, h2⟩)
  obtain ⟨q, cq, rfl, hcq, _⟩ := hu
  obtain ⟨p, cp, rfl, hcp, _⟩ := hv
  have HC := Lib.hid hc
  have HD := Lib.hid hd
  have kc := fun (w : World) (C : Array Value) (n c : Nat) => Lib.run_convert_bytes_const (P := Tryz.prog) w 27 5 C n c Tryz.underlying27 Tryz.underlying5
  clear h hc hd h2
  go_enter Tryz.func45, Tryz.ntmps45
  go_wp2_with fail
  refine hck.mono ?_
  rintro e w1 ⟨rfl, hb1⟩
  have HB1 := Lib.hid hb1
  clear hck hb1
  go_wp2_with fail
  generalize hW3 : ((w1.alloc (.cells #[.int .u8 78, .int .u8 82, .int .u8 77, .int .u8 49] 5 (4, 5))).alloc (.cells #[.slice (some ⟨w1.heap.size, 0, none⟩) 4 4] 27)) = W3 at *
  have hz3 : W3.heap.size = w1.heap.size + 2 := by rw [← hW3]; simp
  have HP3 : Hid (PutAt w1.heap.size (w1.heap.size + 1) normHead W3) := by
    refine ⟨.slice (some ⟨w1.heap.size, 0, none⟩) 4 4, ?_, ?_⟩
    · rw [← hW3]
      have := Boxed.new (w1.alloc (.cells #[.int .u8 78, .int .u8 82, .int .u8 77, .int .u8 49] 5 (4, 5))) 27 (.slice (some ⟨w1.heap.size, 0, none⟩) 4 4)
      rwa [World.size_alloc] at this
    · refine .inr ⟨w1.heap.size, (4, 5), rfl, Nat.le_refl _, ?_⟩
      rw [← hW3, Below.heap_alloc _ _ _ (by simp)]
      exact World.alloc_heap_new _ _
  have HB3 : Hid (Below w1.heap.size w1 W3) := by
    show Below _ _ _; rw [← hW3]; exact ((Below.refl _ w1).alloc (Nat.le_refl _) _).alloc (by simp) _
  clear hW3
  have hZ1 := HB1.out.size
  generalize hn1 : w1.heap.size = n1 at *
  have HN1 := Lib.hid hn1
  clear hn1
  have hal : Below W3.heap.size W3 (W3.alloc (.cells #[.int .i64 (c.length : Int)] 3)) := (Below.refl _ W3).alloc (Nat.le_refl _) _
  have hg3 : (W3.alloc (.cells #[.int .i64 (c.length : Int)] 3)).heap[n1 + 1 + 1]? = some (.cells (([(c.length : Int)] : List Int).map (Value.int .i64)).toArray 3 (0, 0)) := by
    have := World.alloc_heap_new W3 (.cells #[.int .i64 (c.length : Int)] 3)
    rwa [hz3] at this
  have hput := put_any n1 (n1 + 1) (n1 + 1 + 1) [(c.length : Int)] normHead _ hg3 (by intro n hn; simp only [List.mem_cons, List.not_mem_nil, or_false] at hn; omega) (by simp) (HP3.out.below hal) (by omega) (by decide)
  have HB4 : Hid (Below n1 w1 (W3.alloc (.cells #[.int .i64 (c.length : Int)] 3))) := HB3.out.trans (hal.mono (by omega))
  refine hput.mono ?_
  rintro e W4 ⟨rfl, hp4, hb4⟩
  have HP4 := Lib.hid hp4
  have HB5 : Hid (Below n1 w1 W4) := HB4.out.trans hb4
  have hl1 := vints_len [(c.length : Int)] (by intro n hn; simp only [List.mem_cons, List.not_mem_nil, or_false] at hn; omega)
  have hlx : (normHead ++ vints [(c.length : Int)]).length ≤ 14 := by rw [List.length_append]; simp [normHead] at hl1 ⊢; omega
  clear hput hp4 hb4 hal hg3 HB4 HB3 HP3 hl1
  generalize hP1 : normHead ++ vints [(c.length : Int)] = P1 at *
  have HP1 := Lib.hid hP1
  clear hP1
  go_wp2_with fail
  go_loopw [29] (fun iv W => ∃ k : Nat, iv = .int .i64 k ∧ k ≤ c.length ∧ PutAt n1 (n1 + 1) (P1 ++ tris (c.take k)) W ∧ Below n1 w1 W) (fun iv _ => c.length - (intOf iv).toNat)
  case atStart => exact ⟨0, rfl, by omega, by simpa [tris] using HP4.out, HB5.out⟩
  case round =>
    obtain ⟨k, rfl, hk, hp, hb⟩ := hrel
    have HP := Lib.hid hp
    have HB := Lib.hid hb
    by_cases hlt : k < c.length
    · have d1 : decide ((k : Int) < (c.length : Int)) = true := decide_eq_true (by omega)
      have d2 : decide (k < c.length) = true := decide_eq_true hlt
      have hx : c[k]? = some c[k] := List.getElem?_eq_getElem hlt
      generalize c[k] = x at hx
      have hbw : Below w.heap.size w wr := HB1.out.trans (hb.mono (by omega))
      obtain ⟨b, o, rfl, hbR, hbl, q0, q1, q2⟩ := (HU.out.kept (Kept.below hbw)).at k x hx
      have hxb := cls_bound HC.out (List.mem_of_getElem? hx)
      have HST := Lib.hid (tris_step hx)
      have htl := tris_len (c.take k) (fun y hy => cls_bound HC.out (List.mem_of_mem_take hy))
      have htk : (c.take k).length ≤ 4000 := by rw [List.length_take]; omega
      have HXB := Lib.hid hxb
      have hwa : wrap64 x.1 = x.1 := IntWalk.wrap64_in _ (by have := hxb x.1 (by simp); omega)
      have hwb : wrap64 x.2.1 = x.2.1 := IntWalk.wrap64_in _ (by have := hxb x.2.1 (by simp); omega)
      have hwc : wrap64 x.2.2 = x.2.2 := IntWalk.wrap64_in _ (by have := hxb x.2.2 (by simp); omega)
      have HL := Lib.hid hlt
      have hyl : (P1 ++ tris (c.take k)).length ≤ 1000000 := by rw [List.length_append]; omega
      have HYS : Hid (P1 ++ tris (c.take (k + 1)) = (P1 ++ tris (c.take k)) ++ vints [x.1, x.2.1, x.2.2]) := by show _ = _; rw [HST.out, List.append_assoc]
      generalize P1 ++ tris (c.take k) = ys at *
      clear hx hlt hp hb hbw hxb HST htl htk
      go_wp2_with fail
      have hal : Below wr.heap.size wr ((wr.alloc (.cells #[.int .i32 x.1, .int .i32 x.2.1, .int .i64 x.2.2] 102)).alloc (.cells #[.int .i64 x.1, .int .i64 x.2.1, .int .i64 x.2.2] 3)) := ((Below.refl _ wr).alloc (Nat.le_refl _) _).alloc (by simp) _
      have hg3 : ((wr.alloc (.cells #[.int .i32 x.1, .int .i32 x.2.1, .int .i64 x.2.2] 102)).alloc (.cells #[.int .i64 x.1, .int .i64 x.2.1, .int .i64 x.2.2] 3)).heap[wr.heap.size + 1]? = some (.cells (([x.1, x.2.1, x.2.2] : List Int).map (Value.int .i64)).toArray 3 (0, 0)) := by
        have := World.alloc_heap_new (wr.alloc (.cells #[.int .i32 x.1, .int .i32 x.2.1, .int .i64 x.2.2] 102)) (.cells #[.int .i64 x.1, .int .i64 x.2.1, .int .i64 x.2.2] 3)
        rwa [World.size_alloc] at this
      have hput := put_any n1 (n1 + 1) (wr.heap.size + 1) [x.1, x.2.1, x.2.2] ys _ hg3 HXB.out (by simp) (HP.out.below hal) (by omega) (by omega)
      have HBA : Hid (Below n1 w1 ((wr.alloc (.cells #[.int .i32 x.1, .int .i32 x.2.1, .int .i64 x.2.2] 102)).alloc (.cells #[.int .i64 x.1, .int .i64 x.2.1, .int .i64 x.2.2] 3))) := HB.out.trans (hal.mono (by have := HB.out.size; have := HN1.out; omega))
      refine hput.mono ?_
      rintro e W7 ⟨rfl, hp7, hb7⟩
      have HP7 := Lib.hid hp7
      have HB7 : Hid (Below n1 w1 W7) := HBA.out.trans hb7
      clear hput hp7 hb7 hal hg3 HBA
      go_wp2_with fail
      go_roundw
      case rel => exact ⟨k + 1, by go_num, by have := HL.out; omega, by rw [HYS.out]; exact HP7.out, HB7.out⟩
      case measure => (have hq := HL.out; simp [intOf]; omega)
    · have d1 : decide ((k : Int) < (c.length : Int)) = false := decide_eq_false (by omega)
      have d2 : decide (k < c.length) = false := decide_eq_false hlt
      have HT : Hid (c.take k = c) := List.take_of_length_le (by omega)
      rw [HT.out] at HP
      have htl := tris_len c (fun y hy => cls_bound HC.out hy)
      clear hlt hp hb
      go_wp2_with fail
      have hal : Below wr.heap.size wr (wr.alloc (.cells #[.int .i64 (d.length : Int)] 3)) := (Below.refl _ wr).alloc (Nat.le_refl _) _
      have hg3 : (wr.alloc (.cells #[.int .i64 (d.length : Int)] 3)).heap[wr.heap.size]? = some (.cells (([(d.length : Int)] : List Int).map (Value.int .i64)).toArray 3 (0, 0)) := World.alloc_heap_new _ _
      have hput := put_any n1 (n1 + 1) wr.heap.size [(d.length : Int)] (P1 ++ tris c) _ hg3 (by intro n hn; simp only [List.mem_cons, List.not_mem_nil, or_false] at hn; omega) (by simp) (HP.out.below hal) (by omega) (by rw [List.length_append]; omega)
      have HBA : Hid (Below n1 w1 (wr.alloc (.cells #[.int .i64 (d.length : Int)] 3))) := HB.out.trans (hal.mono (by have := HB.out.size; have := HN1.out; omega))
      refine hput.mono ?_
      rintro e W8 ⟨rfl, hp8, hb8⟩
      have HP8 := Lib.hid hp8
      have HB8 : Hid (Below n1 w1 W8) := HBA.out.trans hb8
      have hl1 := vints_len [(d.length : Int)] (by intro n hn; simp only [List.mem_cons, List.not_mem_nil, or_false] at hn; omega)
      have hlx2 : (P1 ++ tris c ++ vints [(d.length : Int)]).length ≤ 130000 := by rw [List.length_append, List.length_append]; simp at hl1; omega
      clear hput hp8 hb8 hal hg3 HBA HP HP4 HB5 hl1 htl
      generalize hP2 : P1 ++ tris c ++ vints [(d.length : Int)] = P2 at *
      have HP2 := Lib.hid hP2
      clear hP2
      generalize hdk : k = kc0 at *
      clear hdk d1 d2 hk HB HT
      go_wp2_with fail
      go_loopw [52] (fun iv W => ∃ k : Nat, iv = .int .i64 k ∧ k ≤ d.length ∧ PutAt n1 (n1 + 1) (P2 ++ tris (d.take k)) W ∧ Below n1 w1 W) (fun iv _ => d.length - (intOf iv).toNat)
      case atStart => exact ⟨0, rfl, by omega, by simpa [tris] using HP8.out, HB8.out⟩
      case round =>
        obtain ⟨k, rfl, hk, hp, hb⟩ := hrel
        have HP := Lib.hid hp
        have HB := Lib.hid hb
        by_cases hlt : k < d.length
        · have d1 : decide ((k : Int) < (d.length : Int)) = true := decide_eq_true (by omega)
          have d2 : decide (k < d.length) = true := decide_eq_true hlt
          have hx : d[k]? = some d[k] := List.getElem?_eq_getElem hlt
          generalize d[k] = x at hx
          have hbw : Below w.heap.size w wr := HB1.out.trans (hb.mono (by omega))
          obtain ⟨b, o, rfl, hbR, hbl, q0, q1, q2⟩ := (HV.out.kept (Kept.below hbw)).at k x hx
          have hxb := dec_bound HD.out (List.mem_of_getElem? hx)
          have HST := Lib.hid (tris_step hx)
          have htl := tris_len (d.take k) (fun y hy => dec_bound HD.out (List.mem_of_mem_take hy))
          have htk : (d.take k).length ≤ 8000 := by rw [List.length_take]; omega
          have HXB := Lib.hid hxb
          have hwa : wrap64 x.1 = x.1 := IntWalk.wrap64_in _ (by have := hxb x.1 (by simp); omega)
          have hwb : wrap64 x.2.1 = x.2.1 := IntWalk.wrap64_in _ (by have := hxb x.2.1 (by simp); omega)
          have hwc : wrap64 x.2.2 = x.2.2 := IntWalk.wrap64_in _ (by have := hxb x.2.2 (by simp); omega)
          have HL := Lib.hid hlt
          have hyl : (P2 ++ tris (d.take k)).length ≤ 1000000 := by rw [List.length_append]; omega
          have HYS : Hid (P2 ++ tris (d.take (k + 1)) = (P2 ++ tris (d.take k)) ++ vints [x.1, x.2.1, x.2.2]) := by show _ = _; rw [HST.out, List.append_assoc]
          generalize P2 ++ tris (d.take k) = ys at *
          clear hx hlt hp hb hbw hxb HST htl htk
          go_wp2_with fail
          have hal : Below wr.heap.size wr ((wr.alloc (.cells #[.int .i32 x.1, .int .i32 x.2.1, .int .i32 x.2.2] 104)).alloc (.cells #[.int .i64 x.1, .int .i64 x.2.1, .int .i64 x.2.2] 3)) := ((Below.refl _ wr).alloc (Nat.le_refl _) _).alloc (by simp) _
          have hg3 : ((wr.alloc (.cells #[.int .i32 x.1, .int .i32 x.2.1, .int .i32 x.2.2] 104)).alloc (.cells #[.int .i64 x.1, .int .i64 x.2.1, .int .i64 x.2.2] 3)).heap[wr.heap.size + 1]? = some (.cells (([x.1, x.2.1, x.2.2] : List Int).map (Value.int .i64)).toArray 3 (0, 0)) := by
            have := World.alloc_heap_new (wr.alloc (.cells #[.int .i32 x.1, .int .i32 x.2.1, .int .i32 x.2.2] 104)) (.cells #[.int .i64 x.1, .int .i64 x.2.1, .int .i64 x.2.2] 3)
            rwa [World.size_alloc] at this
          have hput := put_any n1 (n1 + 1) (wr.heap.size + 1) [x.1, x.2.1, x.2.2] ys _ hg3 HXB.out (by simp) (HP.out.below hal) (by omega) (by omega)
          have HBA : Hid (Below n1 w1 ((wr.alloc (.cells #[.int .i32 x.1, .int .i32 x.2.1, .int .i32 x.2.2] 104)).alloc (.cells #[.int .i64 x.1, .int .i64 x.2.1, .int .i64 x.2.2] 3))) := HB.out.trans (hal.mono (by have := HB.out.size; have := HN1.out; omega))
          refine hput.mono ?_
          rintro e W7 ⟨rfl, hp7, hb7⟩
          have HP7 := Lib.hid hp7
          have HB7 : Hid (Below n1 w1 W7) := HBA.out.trans hb7
          clear hput hp7 hb7 hal hg3 HBA
          go_wp2_with fail
          go_roundw
          case rel => exact ⟨k + 1, by go_num, by have := HL.out; omega, by rw [HYS.out]; exact HP7.out, HB7.out⟩
          case measure => (have hq := HL.out; simp [intOf]; omega)
        · have d1 : decide ((k : Int) < (d.length : Int)) = false := decide_eq_false (by omega)
          have d2 : decide (k < d.length) = false := decide_eq_false hlt
          have HT : Hid (d.take k = d) := List.take_of_length_le (by omega)
          rw [HT.out] at HP
          have htl := tris_len d (fun y hy => dec_bound HD.out hy)
          clear hlt hp hb
          obtain ⟨v, hbv, hrow⟩ := HP.out
          have HBX := Lib.hid hbv
          have hrow0 := hrow
          have hbc := hbv.cell
          have HNB : Hid (P2 ++ tris d = normBytes c d) := by show _ = _; unfold normBytes; rw [← HP2.out, ← HP1.out]
          have hlen : (P2 ++ tris d).length ≤ 400000 := by rw [List.length_append]; omega
          have HWR : Hid (Below w.heap.size w wr) := HB1.out.trans (HB.out.mono (by have := HN1.out; omega))
          generalize P2 ++ tris d = ys at *
          clear hbv hrow HP htl HB
          go_wp2_with fail
          have hri := hrow0.ints (by unfold maxLen; omega)
          have hpos : 0 < ys.length := by rw [HNB.out]; exact norm_pos c d
          obtain ⟨b0, o0, c00, rfl, _, _, _⟩ := hri.place hpos
          have HRI : Hid (IntsIn (fun b => b < wr.heap.size) .u8 wr (.slice (some ⟨b0, o0, none⟩) ys.length c00) ys) := hri.mono (fun b _ h => h)
          have HFR : Hid (∀ V VN : World, Below wr.heap.size wr V → TblAt VN V.heap.size 0 0 0 (crcL 0) → Below V.heap.size V VN → Calls Tryz.prog 85 #[.pointer (some ⟨V.heap.size, 0, none⟩), .slice (some ⟨b0, o0, none⟩) ys.length c00] VN fun e w' => ∃ u, e = .returned (.tuple #[u, .int .i64 0]) ∧ w'.ownsRow wr.heap.size 5 1 u (frameOf ys).length ((frameOf ys).map (Value.int .u8)) ∧ Below wr.heap.size wr w') := by
            intro V VN h1 h2 h3
            have hz := h1.size
            have hb := h1.trans (h3.mono hz)
            refine (frame_any (fun b => b < wr.heap.size) V.heap.size ys _ VN h2 (HRI.out.kept (Kept.below hb)) (fun b hb => by omega) (by rw [HNB.out]; exact norm_byte c d) hpos (by omega)).mono ?_
            rintro e w' ⟨u, he, ho, hon⟩
            exact ⟨u, he, ownsRow_mono ho (Nat.le_trans hz h3.size), only_below2 hb hon (fun i hi => by omega)⟩
          clear hri hpos hrow0
          go_region_held (fun V : World => V.cell? ⟨n1 + 1, 0, none⟩ = some (.slice (some ⟨b0, o0, none⟩) ys.length c00) ∧ Below wr.heap.size wr V) (first | assumption | exact ⟨by simpa [go_sem] using hbc, (Below.refl _ _).drew⟩) ((first
            | (go_at_call 69; refine (crcNew_any _).mono ?_; rintro e VN ⟨rfl, htN, hbN, _⟩; have HTN := Lib.hid htN; have HBN := Lib.hid hbN; have hSN : VN.cell? ⟨n1 + 1, 0, none⟩ = some (.slice (some ⟨b0, o0, none⟩) ys.length c00) ∧ Below wr.heap.size wr VN := (by have hb2 : Below wr.heap.size wr VN := (Below.refl _ wr).drew.trans hbN; exact ⟨(hb2.cell (p := ⟨n1 + 1, 0, none⟩) HBX.out.lt).trans hbc, hb2⟩); clear htN hbN)
            | (go_at_call 85; refine (HFR.out _ _ (Below.refl _ wr).drew HTN.out HBN.out).mono ?_; rintro e VF ⟨u, rfl, hru, hbF⟩; have HRU := Lib.hid hru; have HBF := Lib.hid hbF; have hSF : VF.cell? ⟨n1 + 1, 0, none⟩ = some (.slice (some ⟨b0, o0, none⟩) ys.length c00) ∧ Below wr.heap.size wr VF := ⟨(hbF.cell (p := ⟨n1 + 1, 0, none⟩) HBX.out.lt).trans hbc, hbF⟩; clear hru hbF)))
          all_goals
            go_wp2
            go_ret2
            exact ⟨u, rfl, by rw [← HNB.out]; exact ownsRow_mono HRU.out HWR.out.size, HWR.out.trans (HBF.out.mono HWR.out.size)⟩
end Go.Proofs.YtlldoofclaokgaaGreat
