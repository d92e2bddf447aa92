/- Package norms: check of data that may be; Build. Package norms: Build's put. Package norms: Build of data that may be. The reference's Build: walked. -/
import Derived.Test.YtnglhgogkemgbaaGreatDoorG18
import Derived.Test.YtnglhgogkemgbaaGreatDoorG19
import Derived.Deep.RegionLaw
import Derived.Deep.AppendLies
import Derived.Deep.RegionHeld
namespace Go.Proofs.YtnglhgogkemgbaaGreatDoor
open Go.RowKit

theorem data_parts {c d : List T3} (h : dataOk c d = true) : c.length ≤ 4000 ∧ d.length ≤ 8000 ∧ clsFrom none c = true ∧ decFrom none d = true ∧ ∀ x ∈ d, decTwo c d x = true := by
  unfold dataOk at h
  simp only [Bool.and_eq_true, decide_eq_true_eq, List.all_eq_true] at h
  exact ⟨h.1.1.1.1, h.1.1.1.2, h.1.1.2, h.1.2, h.2⟩
set_option maxHeartbeats 1000000 in
set_option maxRecDepth 100000 in
theorem check_ok (R Rc : Nat → Prop) (c d : List T3) (u v : Value) (w : World) (hu : TrisIn Rc .i64 w u c) (hv : TrisIn R .i32 w v d) (h : dataOk c d = true) :
    Calls Tryz.prog 48 #[u, v] w fun e w' => e = .returned (.int .i64 0) ∧ Below w.heap.size w w' := by
  obtain ⟨hcl, hl, hc, hd, h2⟩ := data_parts h
  have HU := Lib.hid hu
  have HV := Lib.hid hv
  have h1 := checkClasses_ok Rc c u w hu hc hcl
  have H2 : Hid (∀ w', Below w.heap.size w w' → Calls Tryz.prog 92 #[u, v] w' fun e w'' => e = .returned (.int .i64 0) ∧ Below w'.heap.size w' w'') := fun w' hb =>
    checkDecomps_ok R Rc c d u v w' (hu.kept (Kept.below hb)) (hv.kept (Kept.below hb)) hc hcl hd hl h2
  obtain ⟨q, cq, rfl, hcq, _⟩ := hu
  obtain ⟨p, cp, rfl, hcp, _⟩ := hv
  have d1 : decide ((4000 : Int) < (c.length : Int)) = false := decide_eq_false (by omega)
  have d2 : decide (4000 < c.length) = false := decide_eq_false (by omega)
  have d3 : decide ((8000 : Int) < (d.length : Int)) = false := decide_eq_false (by omega)
  have d4 : decide (8000 < d.length) = false := decide_eq_false (by omega)
  clear h hc hd h2
  go_enter Tryz.func48, Tryz.ntmps48
  go_wp2_with fail
  refine h1.mono ?_
  rintro e w1 ⟨rfl, hb1⟩
  have HB1 := Lib.hid hb1
  clear h1 hb1
  go_wp2_with fail
  refine (H2.out _ HB1.out).mono ?_
  rintro e w2 ⟨rfl, hb2⟩
  have HB2 := Lib.hid hb2
  clear hb2
  go_wp2
  go_ret
  exact ⟨rfl, HB1.out.trans (HB2.out.mono HB1.out.size)⟩
end Go.Proofs.YtnglhgogkemgbaaGreatDoor
namespace Go.Proofs.YtnglhgogkemgbaaGreatDoor
open Go.RowKit

def vints (ns : List Int) : List Int := ns.flatMap fun n => vint n.toNat
theorem vints_len (ns : List Int) (h : ∀ n ∈ ns, 0 ≤ n ∧ n ≤ 2147483648) : (vints ns).length ≤ 10 * ns.length := by
  induction ns with
  | nil => simp [vints]
  | cons n ns ih =>
    have h1 := vint_length n.toNat 10 (Nat.lt_of_le_of_lt (show n.toNat ≤ 2147483648 by have := h n (List.mem_cons_self ..); omega) (by decide)) (by decide)
    have h2 := ih (fun m hm => h m (List.mem_cons_of_mem _ hm))
    unfold vints at *
    simp only [List.flatMap_cons, List.length_append, List.length_cons]; omega
theorem vints_step {ns : List Int} {k : Nat} {n : Int} (h : ns[k]? = some n) : vints (ns.take (k + 1)) = vints (ns.take k) ++ vint n.toNat := by
  unfold vints
  rw [List.take_add_one, h]; simp
/-- a row of bytes of our own, or a literal's that is full -/
def RowAt (B : Nat) (W : World) (v : Value) (xs : List Int) : Prop :=
  W.ownsRow B 5 1 v xs.length (xs.map (Value.int .u8)) ∨ ∃ g fr, v = .slice (some ⟨g, 0, none⟩) xs.length xs.length ∧ B ≤ g ∧ W.heap[g]? = some (.cells (xs.map (Value.int .u8)).toArray 5 fr)
theorem RowAt.block {B : Nat} {W : World} {v : Value} {xs : List Int} (h : RowAt B W v xs) : v.ownBlock = none ∨ ∃ g cs fr, v.ownBlock = some g ∧ B ≤ g ∧ W.heap[g]? = some (.cells cs 5 fr) := by
  rcases h with h | ⟨g, fr, rfl, hg, hb⟩
  · rcases h.2 with ⟨rfl, _⟩ | ⟨g, cap, cur, rfl, hg, hb, _⟩
    · exact .inl rfl
    · exact .inr ⟨g, cur, _, rfl, hg, hb⟩
  · exact .inr ⟨g, _, fr, rfl, hg, hb⟩
theorem RowAt.below {B : Nat} {W W' : World} {v : Value} {xs : List Int} (h : RowAt B W v xs) (hb : Below W.heap.size W W') : RowAt B W' v xs := by
  rcases h with h | ⟨g, fr, rfl, hg, hbk⟩
  · exact .inl (ownsRow_below h hb)
  · exact .inr ⟨g, fr, rfl, hg, (hb.block _ (Array.getElem?_eq_some_iff.1 hbk).1).trans hbk⟩
theorem RowAt.lt {B : Nat} {W : World} {v : Value} {xs : List Int} (h : RowAt B W v xs) (j : Nat) (hj : v.ownBlock = some j) : B ≤ j := by
  rcases h.block with h | ⟨g, _, _, h, hg, _⟩
  · rw [h] at hj; cases hj
  · rw [h] at hj; cases hj; exact hg
/-- a block of another type is not the row -/
theorem RowAt.apart {B k : Nat} {W : World} {v : Value} {xs : List Int} {c : Array Value} {t : TypeId} {fr : Nat × Nat} (h : RowAt B W v xs) (hk : W.heap[k]? = some (.cells c t fr)) (ht : t ≠ 5) : some k ≠ v.ownBlock := by
  rcases h.block with h | ⟨g, _, _, h, _, hb⟩
  · rw [h]; simp
  · rw [h]; intro e
    obtain rfl : k = g := by simpa using e
    rw [hk] at hb
    injection hb with h1; injection h1 with h1 h2; exact ht h2
/-- Build's state of writing: the box, the row -/
def PutAt (B bx : Nat) (xs : List Int) (W : World) : Prop :=
  ∃ v, Boxed W bx 51 v ∧ RowAt B W v xs

end Go.Proofs.YtnglhgogkemgbaaGreatDoor
namespace Go.Proofs.YtnglhgogkemgbaaGreatDoor
open Go.RowKit

def tris (xs : List T3) : List Int := xs.flatMap fun x => vints [x.1, x.2.1, x.2.2]
theorem tris_step {xs : List T3} {k : Nat} {x : T3} (h : xs[k]? = some x) : tris (xs.take (k + 1)) = tris (xs.take k) ++ vints [x.1, x.2.1, x.2.2] := by
  unfold tris
  rw [List.take_add_one, h]; simp
theorem tris_len (xs : List T3) (h : ∀ x ∈ xs, ∀ n ∈ [x.1, x.2.1, x.2.2], 0 ≤ n ∧ n ≤ 2147483648) : (tris xs).length ≤ 30 * xs.length := by
  induction xs with
  | nil => simp [tris]
  | cons x xs ih =>
    have h1 := vints_len [x.1, x.2.1, x.2.2] (h x (List.mem_cons_self ..))
    have h2 := ih (fun y hy => h y (List.mem_cons_of_mem _ hy))
    unfold tris at *
    simp only [List.flatMap_cons, List.length_append, List.length_cons] at *; simp at h1; omega
def normHead : List Int := [78, 82, 77, 49]
def normBytes (c d : List T3) : List Int := normHead ++ vints [(c.length : Int)] ++ tris c ++ vints [(d.length : Int)] ++ tris d
theorem cls_bound {c : List T3} (hc : clsFrom none c = true) {x : T3} (hx : x ∈ c) : ∀ n ∈ [x.1, x.2.1, x.2.2], 0 ≤ n ∧ n ≤ 2147483648 := by
  obtain ⟨i, hi⟩ := List.getElem?_of_mem hx
  have h := (clsFrom_at c none hc i x hi).1
  unfold clsOne at h
  simp only [Bool.and_eq_true, decide_eq_true_eq] at h
  have h1 := pt_bd h.1.1.1.1
  have h2 := pt_bd h.1.1.1.2
  intro n hn
  simp only [List.mem_cons, List.not_mem_nil, or_false] at hn
  omega
theorem dec_bound {d : List T3} (hd : decFrom none d = true) {x : T3} (hx : x ∈ d) : ∀ n ∈ [x.1, x.2.1, x.2.2], 0 ≤ n ∧ n ≤ 2147483648 := by
  have h := dec_mem hd hx
  unfold decOne at h
  simp only [Bool.and_eq_true] at h
  have h1 := pt_bd h.1.1.1.1.1
  have h2 := pt_bd h.1.1.1.1.2
  have h3 := pt_bd h.1.1.1.2
  intro n hn
  simp only [List.mem_cons, List.not_mem_nil, or_false] at hn
  omega

theorem RowAt.ints {B : Nat} {W : World} {v : Value} {xs : List Int} (h : RowAt B W v xs) (hl : xs.length ≤ maxLen) : IntsIn (fun b => B ≤ b) .u8 W v xs := by
  rcases h with h | ⟨g, fr, rfl, hg, hb⟩
  · exact ints_of_own h
  · refine ⟨_, _, rfl, ⟨Nat.le_refl _, hl⟩, fun i x hx => ⟨g, 0, rfl, hg, (Array.getElem?_eq_some_iff.1 hb).1, ?_⟩⟩
    simp [World.cell?, hb, hx]
theorem vints_byte (ns : List Int) : ∀ x ∈ vints ns, 0 ≤ x ∧ x < 256 := by
  intro x hx
  unfold vints at hx
  obtain ⟨n, _, hn⟩ := List.mem_flatMap.1 hx
  exact vint_byte _ x hn
theorem tris_byte (xs : List T3) : ∀ x ∈ tris xs, 0 ≤ x ∧ x < 256 := by
  intro x hx
  unfold tris at hx
  obtain ⟨n, _, hn⟩ := List.mem_flatMap.1 hx
  exact vints_byte _ x hn
theorem norm_byte (c d : List T3) : ∀ x ∈ normBytes c d, 0 ≤ x ∧ x < 256 := by
  intro x hx
  simp only [normBytes, List.mem_append] at hx
  rcases hx with (((hx | hx) | hx) | hx) | hx
  · simp only [normHead, List.mem_cons, List.not_mem_nil, or_false] at hx; omega
  · exact vints_byte _ x hx
  · exact tris_byte _ x hx
  · exact vints_byte _ x hx
  · exact tris_byte _ x hx
theorem norm_pos (c d : List T3) : 0 < (normBytes c d).length := by simp [normBytes, normHead]
theorem PutAt.below {B bx : Nat} {xs : List Int} {W W' : World} (h : PutAt B bx xs W) (hb : Below W.heap.size W W') : PutAt B bx xs W' := by
  obtain ⟨v, h1, h2⟩ := h
  exact ⟨v, (hb.block _ h1.lt).trans h1, h2.below hb⟩
end Go.Proofs.YtnglhgogkemgbaaGreatDoor
namespace Go.Proofs.YtnglhgogkemgbaaGreatDoor
open Go.RowKit

/-- append to such a row -/
theorem wpList_append_row {ops : Array Oper} {rest : List Oper} {o : Oper} {a : Act} {Q : Exit → Act → World → Prop} {w : World} (hgd : o.guard = none) (s x : Operand)
    (ho : o.op = .call { callee := .builtin .append, args := #[s, x], argTypes := #[51, 51] }) (B : Nat) (v : Value) (ys zs : List Int) (hs : a.eval s = v) (hrow : RowAt B w v ys)
    (g5 o5 c5 : Nat) (hx : a.eval x = .slice (some ⟨g5, o5, none⟩) zs.length c5) (hnews : ∀ (i : Nat) (x : Int), zs[i]? = some x → w.cell? ⟨g5, o5 + i, none⟩ = some (.int .u8 x)) (hm : 0 < zs.length) (hlen : ys.length + zs.length ≤ 100000000) (hB : B ≤ w.heap.size)
    (h : ∀ v' w', RowAt B w' v' (ys ++ zs) → w.grownBy w' v.ownBlock → wpList Tryz.prog ops Q rest (a.put o.dst v') w') :
    wpList Tryz.prog ops Q (o :: rest) a w := by
  obtain ⟨i0, hi, hz0, hz1, hz2⟩ := info_parts Tryz.infoU8
  rcases hrow with hrow | ⟨g, fr, rfl, hg, hb⟩
  · refine wpList_append_own w hgd s x 51 ho B 5 i0 (.int .u8 0) 1 1 Tryz.underlying51 hi hz0 hz1 hz2 rfl (by decide) v ys.length (ys.map (Value.int .u8)) hs hrow ⟨g5, o5, none⟩ zs.length c5 (zs.map (Value.int .u8)) hx (by simp) (news_of hnews) (by simp [Value.oneCell']) (by unfold maxLen; omega) (by omega) hB ?_
    intro v' w' h1 h2 _
    exact h v' w' (.inl (by rw [List.length_append, List.map_append]; exact h1)) h2
  · have holds : ∀ (j : Nat) u, (ys.map (Value.int .u8))[j]? = some u → w.cell? ((⟨g, 0, none⟩ : Addr).add j) = some u := news_of (k := .u8) (o := 0) (fun i x hx => by
      rw [Nat.zero_add]; simp [World.cell?, hb, hx])
    have hr := run_append_grow (P := Tryz.prog) w 51 o.type 5 i0 (.int .u8 0) Tryz.underlying51 hi hz0 ⟨g, 0, none⟩ ys.length ys.length (ys.map (Value.int .u8)) (by rw [hz1]; simp) holds
      ⟨g5, o5, none⟩ zs.length c5 (zs.map (Value.int .u8)) (by rw [hz1]; simp) (news_of hnews) (by omega) (by omega) (growslice_fits (by omega) (by rw [hz2]; omega))
    have hge := grownCap_ge w (ys.length + zs.length) ys.length 5
    have hcm := grownCap_le_maxLen w (ys.length + zs.length) ys.length 5 (by unfold maxLen; omega)
    refine wpList_plain hgd fun K hK => ?_
    unfold Oper.wp execOp
    simp only [ho, resolve, invoke, builtin, Sem.run_bind, Sem.run_pure, Result.andThen_ok, List.map_toArray, List.map_cons, List.map_nil, hs, hx, hr]
    refine hK _ _ (h _ _ (.inl ?_) ⟨rfl, rfl, rfl, by simp, fun k hk _ => Below.heap_alloc w.drew _ k hk⟩)
    rw [List.length_append, List.map_append]
    refine ⟨by simp, .inr ⟨w.heap.size, _, _, rfl, hB, World.alloc_heap_new w.drew _, hge, hcm, ?_, ?_⟩⟩
    · simp only [Array.size_append, List.size_toArray, size_zeroCells, List.length_map]
      show _ + _ + (_ - _) * 1 = _ * 1
      omega
    · simp only [Array.toList_append, List.append_assoc]
      rw [← List.append_assoc]
      exact List.take_left' (by simp)
theorem vint_small {m : Nat} (h : m ≤ 2147483648) : (vint m).length ≤ 10 := vint_length m 10 (Nat.lt_of_le_of_lt h (by decide)) (by decide)
theorem wrap_u64_nat {m : Nat} (h : m < 18446744073709551616) : IntKind.u64.wrap (m : Int) = (m : Int) := by rw [IntKind.wrap_u64]; omega
/-- what Build tells -/
def RBTold (c d : List T3) (w : World) (e : Ending) (w' : World) : Prop :=
  Below w.heap.size w w' ∧ ((dataOk c d = true ∧ ∃ z, e = .returned (.tuple #[z, .int .i64 0]) ∧ w'.ownsRow w.heap.size 5 1 z (frameOf (normBytes c d)).length ((frameOf (normBytes c d)).map (Value.int .u8))) ∨
    (dataOk c d = false ∧ ∃ k : Nat, k ≠ 0 ∧ e = .returned (.tuple #[.slice none 0 0, .int .i64 k])))
set_option maxHeartbeats 1000000 in
set_option maxRecDepth 100000 in
theorem rbuild_any (R Rc : Nat → Prop) (c d : List T3) (u v : Value) (w : World) (hu : TrisIn Rc .i64 w u c) (hv : TrisIn R .i32 w v d) :
    Calls Tryz.prog 14 #[u, v] w (RBTold c d w) := by
  have hck := rcheck_any R Rc c d u v w hu hv
  have HU : Hid (TrisIn (fun b => Rc b ∧ b < w.heap.size) .i64 w u c) := hu.mono (fun b h1 h2 => ⟨h1, h2⟩)
  have HV : Hid (TrisIn (fun b => R b ∧ b < w.heap.size) .i32 w v d) := hv.mono (fun b h1 h2 => ⟨h1, h2⟩)
  obtain ⟨q, cq, rfl, hcq, _⟩ := hu
  obtain ⟨p, cp, rfl, hcp, _⟩ := hv
  have kc := fun (w : World) (C : Array Value) (n c : Nat) => Lib.run_convert_bytes_const (P := Tryz.prog) w 51 5 C n c Tryz.underlying51 Tryz.underlying5
  cases hok : dataOk c d with
  | false =>
    rw [hok] at hck
    have HOK := Lib.hid hok
    clear hok
    go_enter Tryz.func14, Tryz.ntmps14
    go_wp2_with fail
    refine hck.mono ?_
    rintro e w1 ⟨k, rfl, hk, hkk, hb1⟩
    have hk0 : k ≠ 0 := hkk.elim (fun h => absurd h.2 (by decide)) (·.1)
    have HK := Lib.hid hk0
    have f1 : ((k : Int) != 0) = true := by simp; omega
    have f2 : (k != 0) = true := by simp; omega
    have HB1 := Lib.hid hb1
    clear hck hkk hb1 hk0
    go_wp2_with fail
    go_ret2
    exact ⟨HB1.out, .inr ⟨HOK.out, k, HK.out, rfl⟩⟩
  | true =>
  rw [hok] at hck
  have HOK := Lib.hid hok
  obtain ⟨hcl, hl, hc, hd, h2⟩ := data_parts hok
  have HC := Lib.hid hc
  have HD := Lib.hid hd
  clear hok hc hd h2
  go_enter Tryz.func14, Tryz.ntmps14
  go_wp2_with fail
  refine hck.mono ?_
  rintro e w1 ⟨k, rfl, hk, hkk, hb1⟩
  obtain rfl : k = 0 := by simpa using hkk
  have HB1 := Lib.hid hb1
  clear hck hkk hb1 hk
  have HR3 : Hid (RowAt w.heap.size (w1.alloc (.cells #[.int .u8 78, .int .u8 82, .int .u8 77, .int .u8 49] 5 (4, 5))) (.slice (some ⟨w1.heap.size, 0, none⟩) 4 4) normHead) := by
    exact .inr ⟨w1.heap.size, (4, 5), rfl, HB1.out.size, World.alloc_heap_new _ _⟩
  have HB3 : Hid (Below w.heap.size w (w1.alloc (.cells #[.int .u8 78, .int .u8 82, .int .u8 77, .int .u8 49] 5 (4, 5)))) := HB1.out.alloc HB1.out.size _
  have hviP1 := vint_small (show c.length ≤ 2147483648 by omega)
  have hvpP1 := vint_pos c.length
  have HUI : Hid (∀ V : World, Calls Tryz.prog 40 #[.int .u64 (IntKind.u64.wrap (c.length : Int))] V fun e w' => NewBytes V.heap.size (vint c.length) e w' ∧ Below V.heap.size V w') := by
    intro V
    rw [wrap_u64_nat (by omega)]
    exact ruint_any c.length (by omega) V
  have HUI2 : Hid (∀ V : World, Calls Tryz.prog 40 #[.int .u64 (c.length : Int)] V fun e w' => NewBytes V.heap.size (vint c.length) e w' ∧ Below V.heap.size V w') := fun V => ruint_any c.length (by omega) V
  go_wp2_with fail
  ((first | (with_reducible refine (HUI.out _).mono ?_) | (with_reducible refine (HUI2.out _).mono ?_)))
  rintro e w5 ⟨⟨v5, rfl, hr5⟩, hb5⟩
  obtain ⟨g5, o5, c5, rfl, _, _, hc5⟩ := (ints_of_own hr5).place (by omega)
  have HB5 : Hid (Below w.heap.size w w5) := HB3.out.trans (hb5.mono HB3.out.size)
  have HR5 := Lib.hid (HR3.out.below hb5)
  have HC5 := Lib.hid hc5
  have hs5 := HB5.out.size
  have hpl : (normHead).length ≤ 10000000 := by decide
  clear hr5 hb5 hc5 HUI HUI2
  go_wp2_with (at_builtin; refine app_stop ⟨_, _, rfl⟩ ?_)
  refine Lib.hid ?_
  refine wpList_append_row rfl _ _ rfl w.heap.size _ (normHead) (vint c.length) rfl HR5.out g5 o5 c5 rfl HC5.out (by omega) (by omega) hs5 ?_
  intro v6 w6 hrow6 hgrow6
  have HP1B : Hid (Below w.heap.size w w6) := HB5.out.grown hgrow6 hs5 (fun i hi => HR5.out.lt i hi)
  have hve : vint c.length = vints [(c.length : Int)] := by simp [vints]
  rw [hve] at hrow6
  have HP1R := Lib.hid hrow6
  have hlxP1 : ((normHead) ++ vints [(c.length : Int)]).length ≤ 14 := by rw [List.length_append, ← hve]; simp [normHead]; omega
  clear hrow6 hgrow6 hve HR5 HB5 HC5
  generalize hP1e : (normHead) ++ vints [(c.length : Int)] = P1 at *
  have HP1E := Lib.hid hP1e
  clear hP1e
  go_wp2_with fail
  go_loopw [7, 32] (fun lv iv W => ∃ k : Nat, iv = .int .i64 k ∧ k ≤ c.length ∧ RowAt w.heap.size W lv (P1 ++ tris (c.take k)) ∧ Below w.heap.size w W) (fun _ iv _ => c.length - (intOf iv).toNat)
  case atStart => exact ⟨0, rfl, by omega, by simpa [tris] using HP1R.out, HP1B.out⟩
  case round =>
    obtain ⟨k, rfl, hk, hrow, hb⟩ := hrel
    have HB := Lib.hid hb
    by_cases hlt : k < c.length
    · have d1 : decide ((k : Int) < (c.length : Int)) = true := decide_eq_true (by omega)
      have d2 : decide (k < c.length) = true := decide_eq_true hlt
      have hx : c[k]? = some c[k] := List.getElem?_eq_getElem hlt
      generalize c[k] = x at hx
      obtain ⟨b, o, rfl, hbR, hbl, q0, q1, q2⟩ := (HU.out.kept (Kept.below hb)).at k x hx
      have hxb := cls_bound HC.out (List.mem_of_getElem? hx)
      have HST := Lib.hid (tris_step hx)
      have htl := tris_len (c.take k) (fun y hy => cls_bound HC.out (List.mem_of_mem_take hy))
      have htk : (c.take k).length ≤ 4000 := by rw [List.length_take]; omega
      have HXB := Lib.hid hxb
      have hwa : wrap64 x.1 = x.1 := IntWalk.wrap64_in _ (by have := hxb x.1 (by simp); omega)
      have hwb : wrap64 x.2.1 = x.2.1 := IntWalk.wrap64_in _ (by have := hxb x.2.1 (by simp); omega)
      have HL := Lib.hid hlt
      have hyl : (P1 ++ tris (c.take k)).length ≤ 1000000 := by rw [List.length_append]; omega
      have HYS : Hid (P1 ++ tris (c.take (k + 1)) = (P1 ++ tris (c.take k)) ++ vints [x.1, x.2.1, x.2.2]) := by show _ = _; rw [HST.out, List.append_assoc]
      have HROW := Lib.hid hrow
      generalize P1 ++ tris (c.take k) = ys at *
      clear hx hlt hb hrow hxb HST htl htk
      go_wp2_with fail
      have hal : Below wr.heap.size wr ((wr.alloc (.cells #[.int .i32 x.1, .int .i32 x.2.1, .int .i64 x.2.2] 92)).alloc (.cells #[.int .i64 x.1, .int .i64 x.2.1, .int .i64 x.2.2] 3)) := ((Below.refl _ wr).alloc (Nat.le_refl _) _).alloc (by simp) _
      have HG3 : Hid (((wr.alloc (.cells #[.int .i32 x.1, .int .i32 x.2.1, .int .i64 x.2.2] 92)).alloc (.cells #[.int .i64 x.1, .int .i64 x.2.1, .int .i64 x.2.2] 3)).heap[wr.heap.size + 1]? = some (.cells (([x.1, x.2.1, x.2.2] : List Int).map (Value.int .i64)).toArray 3 (0, 0))) := by
        have := World.alloc_heap_new (wr.alloc (.cells #[.int .i32 x.1, .int .i32 x.2.1, .int .i64 x.2.2] 92)) (.cells #[.int .i64 x.1, .int .i64 x.2.1, .int .i64 x.2.2] 3)
        rwa [World.size_alloc] at this
      have HBA : Hid (Below w.heap.size w ((wr.alloc (.cells #[.int .i32 x.1, .int .i32 x.2.1, .int .i64 x.2.2] 92)).alloc (.cells #[.int .i64 x.1, .int .i64 x.2.1, .int .i64 x.2.2] 3))) := HB.out.trans (hal.mono HB.out.size)
      have HRA := Lib.hid (HROW.out.below hal)
      have hgl : w.heap.size ≤ wr.heap.size + 1 := by have := HB.out.size; omega
      have HGL := Lib.hid hgl
      generalize (wr.alloc (.cells #[.int .i32 x.1, .int .i32 x.2.1, .int .i64 x.2.2] 92)).alloc (.cells #[.int .i64 x.1, .int .i64 x.2.1, .int .i64 x.2.2] 3) = wa at *
      generalize wr.heap.size + 1 = gl at *
      have HNS : Hid (∀ n ∈ [x.1, x.2.1, x.2.2], 0 ≤ n ∧ n ≤ 2147483648) := HXB.out
      have hn3 : ([x.1, x.2.1, x.2.2] : List Int).length = 3 := rfl
      generalize [x.1, x.2.1, x.2.2] = ns at *
      have HN3 := Lib.hid hn3
      clear hal hgl hn3 HXB hwa hwb q0 q1 q2 hbl HB HROW
      go_loopw [7, 46] (fun lv iv W => ∃ j : Nat, iv = .int .i64 j ∧ j ≤ 3 ∧ RowAt w.heap.size W lv (ys ++ vints (ns.take j)) ∧ Below w.heap.size w W ∧ W.heap[gl]? = some (.cells (ns.map (Value.int .i64)).toArray 3 (0, 0))) (fun _ iv _ => 3 - (intOf iv).toNat)
      case atStart => exact ⟨0, rfl, by omega, by simpa [vints] using HRA.out, HBA.out, HG3.out⟩
      case round =>
        obtain ⟨j, rfl, hj, hrow, hb, hgk⟩ := hrel
        have HB := Lib.hid hb
        have HROW := Lib.hid hrow
        have HGK := Lib.hid hgk
        by_cases hlt3 : j < 3
        · have d1 : decide ((j : Int) < 3) = true := decide_eq_true (by omega)
          have d2 : decide (j < 3) = true := decide_eq_true hlt3
          have hx : ns[j]? = some (ns[j]'(by have := HN3.out; omega)) := List.getElem?_eq_getElem _
          generalize ns[j]'(by have := HN3.out; omega) = n at hx
          have hcell : wr.cell? ⟨gl, j, none⟩ = some (.int .i64 n) := by simp [World.cell?, hgk, hx]
          have hgll := (Array.getElem?_eq_some_iff.1 hgk).1
          have hnb := HNS.out n (List.mem_of_getElem? hx)
          have HVS := Lib.hid (vints_step hx)
          have hvl := vints_len (ns.take j) (fun m hm => HNS.out m (List.mem_of_mem_take hm))
          have htl : (ns.take j).length ≤ 3 := by rw [List.length_take]; omega
          obtain ⟨m, rfl⟩ := Int.eq_ofNat_of_zero_le hnb.1
          simp only [Int.toNat_natCast] at HVS
          have hm64 : m < 18446744073709551616 := by omega
          have hvi := vint_small (show m ≤ 2147483648 by omega)
          have hvp := vint_pos m
          have HL3 := Lib.hid hlt3
          have hzl : (ys ++ vints (ns.take j)).length ≤ 10010000 := by rw [List.length_append]; omega
          have HZS : Hid (ys ++ vints (ns.take (j + 1)) = (ys ++ vints (ns.take j)) ++ vint m) := by show _ = _; rw [HVS.out, List.append_assoc]
          generalize ys ++ vints (ns.take j) = zs at *
          have HUI : Hid (∀ V : World, Calls Tryz.prog 40 #[.int .u64 (IntKind.u64.wrap (m : Int))] V fun e w' => NewBytes V.heap.size (vint m) e w' ∧ Below V.heap.size V w') := by
            intro V
            rw [wrap_u64_nat hm64]
            exact ruint_any m hm64 V
          have HUI2 : Hid (∀ V : World, Calls Tryz.prog 40 #[.int .u64 (m : Int)] V fun e w' => NewBytes V.heap.size (vint m) e w' ∧ Below V.heap.size V w') := fun V => ruint_any m hm64 V
          clear hx hb hgk hrow hnb hvl HVS htl
          go_wp2_with fail
          ((first | (with_reducible refine (HUI.out _).mono ?_) | (with_reducible refine (HUI2.out _).mono ?_)))
          rintro e w5 ⟨⟨v5, rfl, hr5⟩, hb5⟩
          obtain ⟨g5, o5, c5, rfl, _, _, hc5⟩ := (ints_of_own hr5).place (by omega)
          have HB5 : Hid (Below w.heap.size w w5) := HB.out.trans (hb5.mono HB.out.size)
          have HR5 := Lib.hid (HROW.out.below hb5)
          have HC5 := Lib.hid hc5
          have HG5 := Lib.hid ((hb5.block _ hgll).trans HGK.out)
          have hs5 := HB5.out.size
          clear hr5 hb5 hc5 hcell hgll HUI HUI2 HROW HGK HB
          go_wp2_with (at_builtin; refine app_stop ⟨_, _, rfl⟩ ?_)
          refine Lib.hid ?_
          refine wpList_append_row rfl _ _ rfl w.heap.size _ zs (vint m) rfl HR5.out g5 o5 c5 rfl HC5.out (by omega) (by omega) hs5 ?_
          intro v6 w6 hrow6 hgrow6
          have HR6 : Hid (RowAt w.heap.size w6 v6 (zs ++ vint m)) := hrow6
          have HB6 : Hid (Below w.heap.size w w6) := HB5.out.grown hgrow6 hs5 (fun i hi => HR5.out.lt i hi)
          have HG6 : Hid (w6.heap[gl]? = some (.cells (ns.map (Value.int .i64)).toArray 3 (0, 0))) := (hgrow6.block gl (Array.getElem?_eq_some_iff.1 HG5.out).1 (HR5.out.apart HG5.out (by decide))).trans HG5.out
          clear hrow6 hgrow6 HR5
          go_wp2_with fail
          go_roundw
          case rel => exact ⟨j + 1, by go_num, by have := HL3.out; omega, by rw [HZS.out]; exact HR6.out, HB6.out, HG6.out⟩
          case measure => (have hq := HL3.out; simp [intOf]; omega)
        · have d1 : decide ((j : Int) < 3) = false := decide_eq_false (by omega)
          have d2 : decide (j < 3) = false := decide_eq_false hlt3
          obtain rfl : j = 3 := by omega
          have HT : Hid (ns.take 3 = ns) := List.take_of_length_le (by have := HN3.out; omega)
          rw [HT.out] at HROW
          clear hlt3 hb hgk hrow
          go_wp2_with fail
          go_roundw
          case rel => exact ⟨k + 1, by go_num, by have := HL.out; omega, by rw [HYS.out]; exact HROW.out, HB.out⟩
          case measure => (have hq := HL.out; simp [intOf]; omega)
    · have d1 : decide ((k : Int) < (c.length : Int)) = false := decide_eq_false (by omega)
      have d2 : decide (k < c.length) = false := decide_eq_false hlt
      have HT : Hid (c.take k = c) := List.take_of_length_le (by omega)
      have HROW := Lib.hid hrow
      rw [HT.out] at HROW
      have htl := tris_len c (fun y hy => cls_bound HC.out hy)
      clear hlt hb hrow
      have hviP2 := vint_small (show d.length ≤ 2147483648 by omega)
      have hvpP2 := vint_pos d.length
      have HUI : Hid (∀ V : World, Calls Tryz.prog 40 #[.int .u64 (IntKind.u64.wrap (d.length : Int))] V fun e w' => NewBytes V.heap.size (vint d.length) e w' ∧ Below V.heap.size V w') := by
        intro V
        rw [wrap_u64_nat (by omega)]
        exact ruint_any d.length (by omega) V
      have HUI2 : Hid (∀ V : World, Calls Tryz.prog 40 #[.int .u64 (d.length : Int)] V fun e w' => NewBytes V.heap.size (vint d.length) e w' ∧ Below V.heap.size V w') := fun V => ruint_any d.length (by omega) V
      go_wp2_with fail
      ((first | (with_reducible refine (HUI.out _).mono ?_) | (with_reducible refine (HUI2.out _).mono ?_)))
      rintro e w5 ⟨⟨v5, rfl, hr5⟩, hb5⟩
      obtain ⟨g5, o5, c5, rfl, _, _, hc5⟩ := (ints_of_own hr5).place (by omega)
      have HB5 : Hid (Below w.heap.size w w5) := HB.out.trans (hb5.mono HB.out.size)
      have HR5 := Lib.hid (HROW.out.below hb5)
      have HC5 := Lib.hid hc5
      have hs5 := HB5.out.size
      have hpl : (P1 ++ tris c).length ≤ 10000000 := by rw [List.length_append]; omega
      clear hr5 hb5 hc5 HUI HUI2
      go_wp2_with (at_builtin; refine app_stop ⟨_, _, rfl⟩ ?_)
      refine Lib.hid ?_
      refine wpList_append_row rfl _ _ rfl w.heap.size _ (P1 ++ tris c) (vint d.length) rfl HR5.out g5 o5 c5 rfl HC5.out (by omega) (by omega) hs5 ?_
      intro v6 w6 hrow6 hgrow6
      have HP2B : Hid (Below w.heap.size w w6) := HB5.out.grown hgrow6 hs5 (fun i hi => HR5.out.lt i hi)
      have hve : vint d.length = vints [(d.length : Int)] := by simp [vints]
      rw [hve] at hrow6
      have HP2R := Lib.hid hrow6
      have hlxP2 : ((P1 ++ tris c) ++ vints [(d.length : Int)]).length ≤ 130000 := by rw [List.length_append, List.length_append, ← hve]; omega
      clear hrow6 hgrow6 hve HR5 HB5 HC5
      generalize hP2e : (P1 ++ tris c) ++ vints [(d.length : Int)] = P2 at *
      have HP2E := Lib.hid hP2e
      clear hP2e
      go_wp2_with fail
      go_loopw [7, 65] (fun lv iv W => ∃ k : Nat, iv = .int .i64 k ∧ k ≤ d.length ∧ RowAt w.heap.size W lv (P2 ++ tris (d.take k)) ∧ Below w.heap.size w W) (fun _ iv _ => d.length - (intOf iv).toNat)
      case atStart => exact ⟨0, rfl, by omega, by simpa [tris] using HP2R.out, HP2B.out⟩
      case round =>
        obtain ⟨k, rfl, hk, hrow, hb⟩ := hrel
        have HB := Lib.hid hb
        by_cases hlt : k < d.length
        · have d1 : decide ((k : Int) < (d.length : Int)) = true := decide_eq_true (by omega)
          have d2 : decide (k < d.length) = true := decide_eq_true hlt
          have hx : d[k]? = some d[k] := List.getElem?_eq_getElem hlt
          generalize d[k] = x at hx
          obtain ⟨b, o, rfl, hbR, hbl, q0, q1, q2⟩ := (HV.out.kept (Kept.below hb)).at k x hx
          have hxb := dec_bound HD.out (List.mem_of_getElem? hx)
          have HST := Lib.hid (tris_step hx)
          have htl := tris_len (d.take k) (fun y hy => dec_bound HD.out (List.mem_of_mem_take hy))
          have htk : (d.take k).length ≤ 8000 := by rw [List.length_take]; omega
          have HXB := Lib.hid hxb
          have hwa : wrap64 x.1 = x.1 := IntWalk.wrap64_in _ (by have := hxb x.1 (by simp); omega)
          have hwb : wrap64 x.2.1 = x.2.1 := IntWalk.wrap64_in _ (by have := hxb x.2.1 (by simp); omega)
          have HL := Lib.hid hlt
          have hyl : (P2 ++ tris (d.take k)).length ≤ 1000000 := by rw [List.length_append]; omega
          have HYS : Hid (P2 ++ tris (d.take (k + 1)) = (P2 ++ tris (d.take k)) ++ vints [x.1, x.2.1, x.2.2]) := by show _ = _; rw [HST.out, List.append_assoc]
          have HROW := Lib.hid hrow
          generalize P2 ++ tris (d.take k) = ys at *
          clear hx hlt hb hrow hxb HST htl htk
          go_wp2_with fail
          have hal : Below wr.heap.size wr ((wr.alloc (.cells #[.int .i32 x.1, .int .i32 x.2.1, .int .i32 x.2.2] 94)).alloc (.cells #[.int .i32 x.1, .int .i32 x.2.1, .int .i32 x.2.2] 21)) := ((Below.refl _ wr).alloc (Nat.le_refl _) _).alloc (by simp) _
          have HG3 : Hid (((wr.alloc (.cells #[.int .i32 x.1, .int .i32 x.2.1, .int .i32 x.2.2] 94)).alloc (.cells #[.int .i32 x.1, .int .i32 x.2.1, .int .i32 x.2.2] 21)).heap[wr.heap.size + 1]? = some (.cells (([x.1, x.2.1, x.2.2] : List Int).map (Value.int .i32)).toArray 21 (0, 0))) := by
            have := World.alloc_heap_new (wr.alloc (.cells #[.int .i32 x.1, .int .i32 x.2.1, .int .i32 x.2.2] 94)) (.cells #[.int .i32 x.1, .int .i32 x.2.1, .int .i32 x.2.2] 21)
            rwa [World.size_alloc] at this
          have HBA : Hid (Below w.heap.size w ((wr.alloc (.cells #[.int .i32 x.1, .int .i32 x.2.1, .int .i32 x.2.2] 94)).alloc (.cells #[.int .i32 x.1, .int .i32 x.2.1, .int .i32 x.2.2] 21))) := HB.out.trans (hal.mono HB.out.size)
          have HRA := Lib.hid (HROW.out.below hal)
          have hgl : w.heap.size ≤ wr.heap.size + 1 := by have := HB.out.size; omega
          have HGL := Lib.hid hgl
          generalize (wr.alloc (.cells #[.int .i32 x.1, .int .i32 x.2.1, .int .i32 x.2.2] 94)).alloc (.cells #[.int .i32 x.1, .int .i32 x.2.1, .int .i32 x.2.2] 21) = wa at *
          generalize wr.heap.size + 1 = gl at *
          have HNS : Hid (∀ n ∈ [x.1, x.2.1, x.2.2], 0 ≤ n ∧ n ≤ 2147483648) := HXB.out
          have hn3 : ([x.1, x.2.1, x.2.2] : List Int).length = 3 := rfl
          generalize [x.1, x.2.1, x.2.2] = ns at *
          have HN3 := Lib.hid hn3
          clear hal hgl hn3 HXB hwa hwb q0 q1 q2 hbl HB HROW
          go_loopw [7, 77] (fun lv iv W => ∃ j : Nat, iv = .int .i64 j ∧ j ≤ 3 ∧ RowAt w.heap.size W lv (ys ++ vints (ns.take j)) ∧ Below w.heap.size w W ∧ W.heap[gl]? = some (.cells (ns.map (Value.int .i32)).toArray 21 (0, 0))) (fun _ iv _ => 3 - (intOf iv).toNat)
          case atStart => exact ⟨0, rfl, by omega, by simpa [vints] using HRA.out, HBA.out, HG3.out⟩
          case round =>
            obtain ⟨j, rfl, hj, hrow, hb, hgk⟩ := hrel
            have HB := Lib.hid hb
            have HROW := Lib.hid hrow
            have HGK := Lib.hid hgk
            by_cases hlt3 : j < 3
            · have d1 : decide ((j : Int) < 3) = true := decide_eq_true (by omega)
              have d2 : decide (j < 3) = true := decide_eq_true hlt3
              have hx : ns[j]? = some (ns[j]'(by have := HN3.out; omega)) := List.getElem?_eq_getElem _
              generalize ns[j]'(by have := HN3.out; omega) = n at hx
              have hcell : wr.cell? ⟨gl, j, none⟩ = some (.int .i32 n) := by simp [World.cell?, hgk, hx]
              have hgll := (Array.getElem?_eq_some_iff.1 hgk).1
              have hnb := HNS.out n (List.mem_of_getElem? hx)
              have HVS := Lib.hid (vints_step hx)
              have hvl := vints_len (ns.take j) (fun m hm => HNS.out m (List.mem_of_mem_take hm))
              have htl : (ns.take j).length ≤ 3 := by rw [List.length_take]; omega
              obtain ⟨m, rfl⟩ := Int.eq_ofNat_of_zero_le hnb.1
              simp only [Int.toNat_natCast] at HVS
              have hm64 : m < 18446744073709551616 := by omega
              have hvi := vint_small (show m ≤ 2147483648 by omega)
              have hvp := vint_pos m
              have HL3 := Lib.hid hlt3
              have hzl : (ys ++ vints (ns.take j)).length ≤ 10010000 := by rw [List.length_append]; omega
              have HZS : Hid (ys ++ vints (ns.take (j + 1)) = (ys ++ vints (ns.take j)) ++ vint m) := by show _ = _; rw [HVS.out, List.append_assoc]
              generalize ys ++ vints (ns.take j) = zs at *
              have HUI : Hid (∀ V : World, Calls Tryz.prog 40 #[.int .u64 (IntKind.u64.wrap (m : Int))] V fun e w' => NewBytes V.heap.size (vint m) e w' ∧ Below V.heap.size V w') := by
                intro V
                rw [wrap_u64_nat hm64]
                exact ruint_any m hm64 V
              have HUI2 : Hid (∀ V : World, Calls Tryz.prog 40 #[.int .u64 (m : Int)] V fun e w' => NewBytes V.heap.size (vint m) e w' ∧ Below V.heap.size V w') := fun V => ruint_any m hm64 V
              clear hx hb hgk hrow hnb hvl HVS htl
              go_wp2_with fail
              ((first | (with_reducible refine (HUI.out _).mono ?_) | (with_reducible refine (HUI2.out _).mono ?_)))
              rintro e w5 ⟨⟨v5, rfl, hr5⟩, hb5⟩
              obtain ⟨g5, o5, c5, rfl, _, _, hc5⟩ := (ints_of_own hr5).place (by omega)
              have HB5 : Hid (Below w.heap.size w w5) := HB.out.trans (hb5.mono HB.out.size)
              have HR5 := Lib.hid (HROW.out.below hb5)
              have HC5 := Lib.hid hc5
              have HG5 := Lib.hid ((hb5.block _ hgll).trans HGK.out)
              have hs5 := HB5.out.size
              clear hr5 hb5 hc5 hcell hgll HUI HUI2 HROW HGK HB
              go_wp2_with (at_builtin; refine app_stop ⟨_, _, rfl⟩ ?_)
              refine Lib.hid ?_
              refine wpList_append_row rfl _ _ rfl w.heap.size _ zs (vint m) rfl HR5.out g5 o5 c5 rfl HC5.out (by omega) (by omega) hs5 ?_
              intro v6 w6 hrow6 hgrow6
              have HR6 : Hid (RowAt w.heap.size w6 v6 (zs ++ vint m)) := hrow6
              have HB6 : Hid (Below w.heap.size w w6) := HB5.out.grown hgrow6 hs5 (fun i hi => HR5.out.lt i hi)
              have HG6 : Hid (w6.heap[gl]? = some (.cells (ns.map (Value.int .i32)).toArray 21 (0, 0))) := (hgrow6.block gl (Array.getElem?_eq_some_iff.1 HG5.out).1 (HR5.out.apart HG5.out (by decide))).trans HG5.out
              clear hrow6 hgrow6 HR5
              go_wp2_with fail
              go_roundw
              case rel => exact ⟨j + 1, by go_num, by have := HL3.out; omega, by rw [HZS.out]; exact HR6.out, HB6.out, HG6.out⟩
              case measure => (have hq := HL3.out; simp [intOf]; omega)
            · have d1 : decide ((j : Int) < 3) = false := decide_eq_false (by omega)
              have d2 : decide (j < 3) = false := decide_eq_false hlt3
              obtain rfl : j = 3 := by omega
              have HT : Hid (ns.take 3 = ns) := List.take_of_length_le (by have := HN3.out; omega)
              rw [HT.out] at HROW
              clear hlt3 hb hgk hrow
              go_wp2_with fail
              go_roundw
              case rel => exact ⟨k + 1, by go_num, by have := HL.out; omega, by rw [HYS.out]; exact HROW.out, HB.out⟩
              case measure => (have hq := HL.out; simp [intOf]; omega)
        · have d1 : decide ((k : Int) < (d.length : Int)) = false := decide_eq_false (by omega)
          have d2 : decide (k < d.length) = false := decide_eq_false hlt
          have HT : Hid (d.take k = d) := List.take_of_length_le (by omega)
          have HROW := Lib.hid hrow
          rw [HT.out] at HROW
          have htl := tris_len d (fun y hy => dec_bound HD.out hy)
          clear hlt hb hrow
          have HNB : Hid (P2 ++ tris d = normBytes c d) := by show _ = _; unfold normBytes; rw [← HP2E.out, ← HP1E.out]
          have hlen : (P2 ++ tris d).length ≤ 400000 := by rw [List.length_append]; omega
          have hpos : 0 < (P2 ++ tris d).length := by rw [HNB.out]; exact norm_pos c d
          have HBY : Hid (∀ x ∈ P2 ++ tris d, 0 ≤ x ∧ x < 256) := by show ∀ _, _; rw [HNB.out]; exact norm_byte c d
          generalize P2 ++ tris d = fs at *
          have hfr := rframe_any _ fs _ wr (HROW.out.ints (by unfold maxLen; omega)) HBY.out hpos (by omega)
          go_wp2_with fail
          refine hfr.mono ?_
          rintro e w7 ⟨z, rfl, hr7, hb7⟩
          have HR7 := Lib.hid hr7
          have HB7 := Lib.hid hb7
          clear hfr hr7 hb7
          go_wp2_with fail
          go_ret2
          exact ⟨HB.out.trans (HB7.out.mono HB.out.size), .inl ⟨HOK.out, z, rfl, by rw [← HNB.out]; exact ownsRow_mono HR7.out HB.out.size⟩⟩
end Go.Proofs.YtnglhgogkemgbaaGreatDoor
