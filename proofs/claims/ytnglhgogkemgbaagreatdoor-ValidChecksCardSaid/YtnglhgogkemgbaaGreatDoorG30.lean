/- norm.Order. What norm asks of package norms: data that were made, and none. norm.NFD. -/
import Derived.Test.YtnglhgogkemgbaaGreatDoorG28
import Derived.Test.YtnglhgogkemgbaaGreatDoorG29
import Derived.Maps.AppendAt
/-! norm.Order. -/
namespace Go.Proofs.YtnglhgogkemgbaaGreatDoor
open Go.RowKit

theorem take_two {L : List Int} {a i : Nat} (h : a ≤ i) : L.take i = L.take a ++ (L.drop a).take (i - a) := by
  conv => lhs; rw [show i = a + (i - a) from by omega]
  rw [List.take_add]
theorem below_only {a b c : World} {g : Nat} (h : Below a.heap.size a b) (k : Only (fun x => x = g) b c) (hg : a.heap.size ≤ g) : Below a.heap.size a c :=
  h.trans ⟨k.os, k.tape, k.output, k.size, fun i hi => k.block i (by have := h.size; omega) (fun hs => by omega)⟩
/-- a row of our own, as a sequence that may be turned -/
theorem seq_of_own {B : Nat} {w : World} {v : Value} {e : TypeId} {xs : List Int} (h : w.ownsRow B e 1 v xs.length (xs.map (Value.int .i32))) (hne : 0 < xs.length) : ∃ g cap, v = .slice (some ⟨g, 0, none⟩) xs.length cap ∧ B ≤ g ∧ xs.length ≤ cap ∧ cap ≤ maxLen ∧ SeqAt w g 0 xs := by
  rcases h.2 with ⟨rfl, h0⟩ | ⟨g, cap, cur, rfl, hg, hgb, h1, h2, h3, h4⟩
  · omega
  · refine ⟨g, cap, rfl, hg, h1, h2, (Array.getElem?_eq_some_iff.1 hgb).1, fun i x hx => ?_⟩
    have hi : i < xs.length := (List.getElem?_eq_some_iff.1 hx).1
    have e : (cur.toList.take (xs.length * 1))[i]? = some (.int .i32 x) := by rw [h4]; simp [hx]
    rw [List.getElem?_take, if_pos (by omega)] at e
    constructor
    · simp [World.cell?, hgb]; simpa using e
    · simp [World.frozen?, hgb]
theorem SeqAt.ints {w : World} {g off cap : Nat} {L : List Int} {R : Nat → Prop} (h : SeqAt w g off L) (hR : R g) (hc : L.length ≤ cap) (hm : cap ≤ maxLen) : IntsIn R .i32 w (.slice (some ⟨g, off, none⟩) L.length cap) L :=
  ⟨_, _, rfl, ⟨hc, hm⟩, fun i x hx => ⟨g, off, rfl, hR, h.1, (h.2 i x hx).1⟩⟩
theorem slice_mid32 (w : World) (p : Option Addr) (len cap i j : Nat) (hij : i ≤ j) (hj : j ≤ cap) : (Instr.sliceAt 42 (.slice p len cap) (some (.int .i64 i)) (some (.int .i64 j)) none).run Tryz.prog w = .ok (sliced p i j cap 1) w := by
  have he : Tryz.prog.elem 42 = 21 := by kernel_rfl
  rw [run_sliceAt_slice w 42 _ _ _ _ (by rw [he]; exact Tryz.underlying42), run_slice_lh w 42 p len cap (by rw [he]; exact Tryz.underlying42) .i64 .i64 i j (by omega) (by omega) (by omega), he]
  have hz : (sizeOf 21).run Tryz.prog w = .ok 1 w := by kernel_rfl
  rw [hz]
  simp [Result.andThen]
theorem slice_from32 (w : World) (p : Option Addr) (len cap i : Nat) (hi : i ≤ len) : (Instr.sliceAt 42 (.slice p len cap) (some (.int .i64 i)) none none).run Tryz.prog w = .ok (sliced p i len cap 1) w := by
  have he : Tryz.prog.elem 42 = 21 := by kernel_rfl
  rw [run_sliceAt_slice w 42 _ _ _ _ (by rw [he]; exact Tryz.underlying42), run_slice_l w 42 p len cap (by rw [he]; exact Tryz.underlying42) .i64 i (by omega) (by omega), he]
  have hz : (sizeOf 21).run Tryz.prog w = .ok 1 w := by kernel_rfl
  rw [hz]
  simp [Result.andThen]
/-- a part put in order -/
theorem sorted_part (f : Int → Int) (rv : Value) (B : Nat) (I : World → Prop) (g cap a i n : Nat) (D S Q : List Int) (w : World) (p3 : Option Addr) (n3 c3 : Nat) (hN : Num f rv B I) (hg : B ≤ g) (hs : SeqAt w g 0 (D ++ (S ++ Q))) (hi : I w) (ha : D.length = a) (hS : a + S.length = i) (hn : D.length + (S.length + Q.length) = n) (hl : n ≤ 1000000000) (hc : i ≤ cap) (h3 : sliced (some ⟨g, 0, none⟩) a i cap 1 = .slice p3 n3 c3) :
    Calls Tryz.prog 173 #[.slice p3 n3 c3, .func (.func 100) #[rv] #[]] w fun e w' =>
      e = .returned (.tuple #[]) ∧ (∃ M, Stab f S M ∧ SeqAt w' g 0 (D ++ (M ++ Q))) ∧ Frm g 0 n w w' := by
  unfold sliced at h3
  by_cases hm : cap = a
  · rw [if_pos hm] at h3
    injection h3 with h31 h32 h33
    subst h31 h32 h33
    have hS0 : S = [] := List.eq_nil_of_length_eq_zero (by omega)
    subst hS0
    have h := sorted_any f rv B I g 0 (cap - a) (i - a) [] w hN hg ⟨hs.1, fun i x h => by simp at h⟩ hi (by simp at hS; simp; omega) (by omega)
    refine h.mono ?_
    rintro e w1 ⟨rfl, ⟨M, hM, hs1⟩, ho⟩
    have hM0 : M = [] := List.eq_nil_of_length_eq_zero (by rw [hM.length]; rfl)
    subst hM0
    have hia : i - a = 0 := by simp at hS; omega
    rw [hia] at ho
    refine ⟨rfl, ⟨[], hM, SeqAt.whole (P := []) (L := []) (M := []) (Q := D ++ ([] ++ Q)) (off := 0) hs hs1 rfl ho⟩, ho.widen (Nat.le_refl _) (by omega)⟩
  · rw [if_neg hm] at h3
    have e : (some (⟨g, 0, none⟩ : Addr)).map (·.add (a * 1)) = some ⟨g, a, none⟩ := by
      rw [Nat.mul_one]
      show some ((⟨g, 0, none⟩ : Addr).add a) = _
      rw [addr_plus, Nat.zero_add]
    rw [e] at h3
    injection h3 with h31 h32 h33
    subst h31 h32 h33
    have hp := hs.part
    rw [Nat.zero_add, ha] at hp
    have h := sorted_any f rv B I g a (cap - a) (i - a) S w hN hg hp hi (by omega) (by omega)
    refine h.mono ?_
    rintro e w1 ⟨rfl, ⟨M, hM, hs1⟩, ho⟩
    refine ⟨rfl, ⟨M, hM, SeqAt.whole hs (by rw [Nat.zero_add, ha]; exact hs1) hM.length (by rw [Nat.zero_add, ha, show S.length = i - a from by omega]; exact ho)⟩, ho.widen (Nat.zero_le _) (by omega)⟩
set_option maxHeartbeats 4000000 in
set_option maxRecDepth 1000000 in
theorem order_nil (rv : Value) (w : World) : Calls Tryz.prog 140 #[rv, .slice none 0 0] w fun e w' => e = .returned (.slice none 0 0) ∧ Below w.heap.size w w' := by
  have hmf : ∀ (fn : Fn) (first cap : Array Value) (w : World), (Instr.makeFunc fn first cap).run Tryz.prog w = .ok (.func fn first cap) w := fun _ _ _ _ => rfl
  have hcl : ∀ W, Calls Tryz.prog 137 #[.slice none 0 0] W fun e w' => e = .returned (.slice none 0 0) ∧ W = w' := by
    intro W
    have he : ∀ w, (binOp .eql 42 (.slice none 0 0) (.slice none 0 0)).run Tryz.prog w = .ok (.bool true) w := fun w => Lib.run_eql_slice_nil w _ _ none 0 0 0 0 Tryz.underlying42
    go_enter Tryz.func137, Tryz.ntmps137
    go_wp2
    go_ret
    exact ⟨rfl, rfl⟩
  have HCL := Lib.hid hcl
  clear hcl
  go_enter Tryz.func140, Tryz.ntmps140
  go_wp2_with fail
  refine (HCL.out _).mono ?_
  rintro e w1 ⟨rfl, rfl⟩
  go_wp2_with fail
  go_loopw [5, 6, 7, 12] (fun v5 _ _ iv wr => v5 = .int .i64 0 ∧ iv = .int .i64 0 ∧ Below w.heap.size w wr) (fun _ _ _ _ _ => 0)
  case atStart => exact ⟨rfl, rfl, Below.refl _ _⟩
  case round =>
    obtain ⟨rfl, rfl, hb⟩ := hrel
    have HB := Lib.hid hb
    clear hb
    go_wp2_with fail
    refine (sorted_nil _ _).mono ?_
    rintro e w1 ⟨rfl, hb⟩
    have hb' := HB.out.trans (hb.mono HB.out.size)
    clear hb
    go_wp2_with fail
    go_ret
    exact ⟨rfl, hb'⟩
set_option maxHeartbeats 8000000 in
set_option maxRecDepth 1000000 in
theorem order_any (f : Int → Int) (rv : Value) (B : Nat) (I : World → Prop) (Q : Nat → Prop) (L : List Int) (v : Value) (w : World) (hN : Num f rv B I) (hB : B ≤ w.heap.size) (hv : IntsIn Q .i32 w v L) (hne : 0 < L.length) (hl : L.length ≤ 1000000) (hi : I w) :
    Calls Tryz.prog 140 #[rv, v] w fun e w' => (∃ v', e = .returned v' ∧ IntsIn (fun b => w.heap.size ≤ b) .i32 w' v' (ordL f L)) ∧ I w' ∧ Below w.heap.size w w' := by
  have hmf : ∀ (fn : Fn) (first cap : Array Value) (w : World), (Instr.makeFunc fn first cap).run Tryz.prog w = .ok (.func fn first cap) w := fun _ _ _ _ => rfl
  have hcl := rclone_ok Q L v w hv hne (by omega)
  have HN := Lib.hid hN
  have HI := Lib.hid hi
  have HBS := Lib.hid hB
  clear hN hi hv hB
  go_enter Tryz.func140, Tryz.ntmps140
  go_wp2_with fail
  refine hcl.mono ?_
  rintro e w1 ⟨⟨v1, rfl, hr1⟩, hb1⟩
  obtain ⟨g, cap, rfl, hg, hc1, hc2, hsq⟩ := seq_of_own hr1 hne
  have HS1 := Lib.hid hsq
  have HB1 := Lib.hid hb1
  have HI1 : Hid (I w1) := HN.out.below HI.out hb1
  have HG : Hid (w.heap.size ≤ g ∧ B ≤ g) := ⟨hg, Nat.le_trans HBS.out hg⟩
  obtain ⟨n, hn⟩ : ∃ n, n = L.length := ⟨_, rfl⟩
  rw [← hn] at hc1 ⊢
  have hnl : n ≤ 1000000 := by omega
  have HNL := Lib.hid hn
  clear hcl hr1 hb1 hsq hg hl hne HBS hn
  go_wp2_with fail
  go_loopw [5, 6, 7, 12] (fun v5 _ _ v12 wr => ∃ (a i : Nat) (D : List Int), v5 = .int .i64 a ∧ v12 = .int .i64 i ∧ a ≤ i ∧ i ≤ n ∧ D.length = a ∧ (L.take a).foldl (insC f) [] = D ∧ (∀ u, D.getLast? = some u → f u = 0) ∧ (∀ t x, a ≤ t → t < i → L[t]? = some x → f x ≠ 0) ∧ SeqAt wr g 0 (D ++ L.drop a) ∧ I wr ∧ Below w.heap.size w wr) (fun _ _ _ v12 _ => n - (intOf v12).toNat)
  case atStart => exact ⟨0, 0, [], rfl, rfl, Nat.le_refl _, Nat.zero_le _, rfl, rfl, fun u h => by simp at h, fun t x h1 h2 => by omega, by simpa using HS1.out, HI1.out, HB1.out⟩
  case round =>
    obtain ⟨a, i, D, rfl, rfl, hai, hin, hdl, hD, hlast, hrun, hsq, hiw, hbw⟩ := hrel
    have HD := Lib.hid (And.intro hdl (And.intro hD (And.intro hlast hrun)))
    have HQ := Lib.hid hsq
    have HIW := Lib.hid hiw
    have HBW := Lib.hid hbw
    -- the run that is open
    have HRUN : Hid (∃ S, S = (L.drop a).take (i - a) ∧ S.length = i - a ∧ (∀ x ∈ S, f x ≠ 0) ∧ L.drop a = S ++ L.drop i) := by
      have hnn := HNL.out
      refine ⟨_, rfl, by rw [List.length_take, List.length_drop]; omega, fun x hx => ?_, ?_⟩
      · obtain ⟨t, ht, e⟩ := List.getElem_of_mem hx
        rw [List.length_take, List.length_drop] at ht
        rw [List.getElem_take, List.getElem_drop] at e
        exact hrun (a + t) x (by omega) (by omega) (by rw [List.getElem?_eq_getElem (by omega)]; exact congrArg some e)
      · conv => lhs; rw [← List.take_append_drop (i - a) (L.drop a)]
        rw [List.drop_drop, show a + (i - a) = i from by omega]
    clear hdl hD hlast hrun hsq hiw hbw
    by_cases hlt : i < n
    · have g1 : (i : Int) < (n : Int) := by omega
      obtain ⟨x, hx1, hx2⟩ := drop_cons' (l := L) (i := i) (by rw [← HNL.out]; exact hlt)
      have c0 : wr.cell? ⟨g, i, none⟩ = some (.int .i32 x) := by
        obtain ⟨S, _, hS, _, hd⟩ := HRUN.out
        have h := HQ.out
        rw [hd, hx2] at h
        have h2 := (h.2 i x (by
          have := HD.out.1
          rw [← List.append_assoc, List.getElem?_append_right (by rw [List.length_append]; omega), List.length_append, hS, this, show i - (a + (i - a)) = 0 from by omega]; rfl)).1
        rwa [Nat.zero_add] at h2
      have HX := Lib.hid (And.intro hx1 hx2)
      have hca := HN.out.call x wr HIW.out
      obtain ⟨q, hq⟩ : ∃ q, q = f x := ⟨_, rfl⟩
      rw [← hq] at hca
      have HQQ := Lib.hid hq
      clear hx1 hx2 hq
      by_cases hq0 : q = 0
      · subst hq0
        go_wp2_with fail
        with_reducible refine hca.mono ?_
        rintro e w2 ⟨rfl, hb2⟩
        have HB2 := Lib.hid hb2
        obtain ⟨S, hSe, hSl, hS0, hSd⟩ := HRUN.out
        obtain ⟨p3, n3, c3, h3⟩ : ∃ p3 n3 c3, sliced (some ⟨g, 0, none⟩) a i cap 1 = .slice p3 n3 c3 := ⟨_, _, _, rfl⟩
        have hsl : ∀ w, (Instr.sliceAt 42 (.slice (some ⟨g, 0, none⟩) n cap) (some (.int .i64 a)) (some (.int .i64 i)) none).run Tryz.prog w = .ok (.slice p3 n3 c3) w := fun w => by rw [← h3]; exact slice_mid32 w _ n cap a i hai (by omega)
        have hso := sorted_part f rv B I g cap a i n D S (x :: L.drop (i + 1)) w2 p3 n3 c3 HN.out HG.out.2 (by have h := HQ.out.kept hb2; rwa [hSd, HX.out.2] at h) (HN.out.below HIW.out hb2) HD.out.1 (by omega) (by have := HD.out.1; have := HNL.out; have h := congrArg List.length HX.out.2; rw [List.length_drop, List.length_cons] at h; rw [List.length_cons]; omega) (by omega) (by omega) h3
        have HSE := Lib.hid (And.intro hSe (And.intro hSl hS0))
        clear hca hb2 hSe hSl hS0 hSd h3
        go_wp2_with fail
        with_reducible refine hso.mono ?_
        rintro e w3 ⟨rfl, ⟨M, hM, hs3⟩, ho3⟩
        have HM := Lib.hid (And.intro hM (And.intro hs3 ho3))
        clear hso hM hs3 ho3 hsl
        go_wp2_with fail
        go_roundw
        case rel =>
          obtain ⟨hM, hs3, ho3⟩ := HM.out
          obtain ⟨hSe, hSl, hS0⟩ := HSE.out
          refine ⟨i + 1, i + 1, D ++ (M ++ [x]), by go_num, by go_num, Nat.le_refl _, by omega, by rw [List.length_append, List.length_append, hM.length, HD.out.1, List.length_singleton]; omega, ?_, fun u hu => ?_, fun t y h1 h2 => by omega, by simpa [List.append_assoc] using hs3, ?_, ?_⟩
          · rw [take_snoc HX.out.1, take_two hai, ← hSe, List.append_assoc, List.foldl_append, HD.out.2.1]
            exact ord_next HN.out.lo HD.out.2.2.1 hS0 hM HQQ.out.symm
          · rw [← List.append_assoc, List.getLast?_concat] at hu
            cases hu; exact HQQ.out.symm
          · exact HN.out.keep g _ _ HG.out.2 (HN.out.below HIW.out HB2.out) ho3.only
          · exact below_only (HBW.out.trans (HB2.out.mono HBW.out.size)) ho3.only HG.out.1
        case measure => (show n - ((i : Int) + 1).toNat < n - (i : Int).toNat; omega)
      · have g2 : ¬ (q = 0) := hq0
        go_wp2_with fail
        with_reducible refine hca.mono ?_
        rintro e w2 ⟨rfl, hb2⟩
        have HB2 := Lib.hid hb2
        clear hca hb2
        go_wp2_with fail
        go_roundw
        case rel =>
          refine ⟨a, i + 1, D, rfl, by go_num, by omega, by omega, HD.out.1, HD.out.2.1, HD.out.2.2.1, fun t y h1 h2 hy => ?_, HQ.out.kept HB2.out, HN.out.below HIW.out HB2.out, HBW.out.trans (HB2.out.mono HBW.out.size)⟩
          rcases Nat.lt_or_ge t i with h | h
          · exact HD.out.2.2.2 t y h1 h hy
          · obtain rfl : t = i := by omega
            rw [HX.out.1] at hy; cases hy
            rw [← HQQ.out]; exact hq0
        case measure => (show n - ((i : Int) + 1).toNat < n - (i : Int).toNat; omega)
    · have g1 : ¬ ((i : Int) < (n : Int)) := by omega
      obtain rfl : i = n := by omega
      obtain ⟨S, hSe, hSl, hS0, hSd⟩ := HRUN.out
      obtain ⟨p3, n3, c3, h3⟩ : ∃ p3 n3 c3, sliced (some ⟨g, 0, none⟩) a i cap 1 = .slice p3 n3 c3 := ⟨_, _, _, rfl⟩
      have h3' : sliced (some ⟨g, 0, none⟩) a i cap 1 = .slice p3 n3 c3 := h3
      have hsl : ∀ w, (Instr.sliceAt 42 (.slice (some ⟨g, 0, none⟩) i cap) (some (.int .i64 a)) none none).run Tryz.prog w = .ok (.slice p3 n3 c3) w := fun w => by rw [← h3]; exact slice_from32 w _ i cap a hai
      have hd0 : L.drop i = [] := List.drop_of_length_le (by rw [← HNL.out]; exact Nat.le_refl _)
      have hso := sorted_part f rv B I g cap a i i D S [] wr p3 n3 c3 HN.out HG.out.2 (by have h := HQ.out; rwa [hSd, hd0] at h) HIW.out HD.out.1 (by omega) (by have := HD.out.1; rw [List.length_nil]; omega) (by omega) hc1 h3
      have HSE := Lib.hid (And.intro hSe (And.intro hSl (And.intro hS0 (And.intro hSd hd0))))
      clear hSe hSl hS0 hSd h3 h3' hd0
      go_wp2_with fail
      with_reducible refine hso.mono ?_
      rintro e w3 ⟨rfl, ⟨M, hM, hs3⟩, ho3⟩
      have HM := Lib.hid (And.intro hM (And.intro hs3 ho3))
      clear hso hM hs3 ho3 hsl
      go_wp2_with fail
      go_ret
      obtain ⟨hM, hs3, ho3⟩ := HM.out
      obtain ⟨hSe, hSl, hS0, hSd, hd0⟩ := HSE.out
      have hor : ordL f L = D ++ (M ++ []) := by
        unfold ordL
        rw [List.append_nil, ← List.take_append_drop a L, List.foldl_append, HD.out.2.1, hSd, hd0, List.append_nil]
        exact ord_run_eq HN.out.lo HD.out.2.2.1 hS0 hM
      rw [← hor] at hs3
      have hln : (ordL f L).length = i := by rw [ordL_len]; exact HNL.out.symm
      refine ⟨⟨_, rfl, ?_⟩, HN.out.keep g _ _ HG.out.2 HIW.out ho3.only, below_only HBW.out ho3.only HG.out.1⟩
      have := hs3.ints (cap := cap) (R := fun b => w.heap.size ≤ b) HG.out.1 (by rw [hln]; exact hc1) hc2
      rwa [hln] at this
end Go.Proofs.YtnglhgogkemgbaaGreatDoor
/-! What norm asks of package norms: data that were made, and none. -/
namespace Go.Proofs.YtnglhgogkemgbaaGreatDoor
open Go.RowKit

/-- f the class, dc the decomposition that rv tells, where J: its data lie in blocks of R; only blocks of S of them are turned by a call -/
structure Norm (f : Int → Int) (dc : Int → List Int) (rv : Value) (S : Nat → Prop) (J : (Nat → Prop) → World → Prop) : Prop where
  lo : ∀ r, 0 ≤ f r
  hi : ∀ r, f r ≤ 255
  cls : ∀ R r W, J R W → Calls Tryz.prog 100 #[rv, .int .i32 r] W fun e w' => e = .returned (.int .i64 (f r)) ∧ Below W.heap.size W w'
  dec : ∀ R r W, (∀ b, W.heap.size ≤ b → R b) → J R W → -2147483648 ≤ r ∧ r ≤ 2147483647 → Calls Tryz.prog 139 #[rv, .int .i32 r] W fun e w' =>
    (∃ v, e = .returned v ∧ w'.ownsRow W.heap.size 21 1 v (dc r).length ((dc r).map (Value.int .i32))) ∧ J R w' ∧ Only S W w'
  dlen : ∀ r, 0 < (dc r).length ∧ (dc r).length ≤ 7
  kept : ∀ R W W', J R W → Kept R W W' → J R W'
  bound : ∀ R W, J R W → J (fun b => R b ∧ b < W.heap.size) W
  mono : ∀ (R R' : Nat → Prop) W, J R W → (∀ b, R b → R' b) → J R' W
  own : ∀ R W k, J R W → S k → R k ∧ k < W.heap.size
theorem Norm.num {f : Int → Int} {dc : Int → List Int} {rv : Value} {S : Nat → Prop} {J : (Nat → Prop) → World → Prop} (h : Norm f dc rv S J) (R : Nat → Prop) (B : Nat) (hR : ∀ b, R b → b < B) : Num f rv B (J R) :=
  ⟨h.lo, h.hi, h.cls R, fun g W W' hg hj ho => h.kept R W W' hj (Kept.only ho (fun b hb e => by have := hR b hb; omega))⟩
theorem Nrm.bound {R : Nat → Prop} {W : World} {pb : Nat} {c d : List T3} (h : Nrm R W pb c d) : Nrm (fun b => R b ∧ b < W.heap.size) W pb c d := by
  have hlt := h.lt
  obtain ⟨hr, ho, cv, dv, h1, h2, h3⟩ := h
  refine ⟨⟨hr, hlt⟩, ho, cv, dv, h1.mono (fun b hb hl => ⟨⟨hb.1, hl⟩, hb.2⟩), h2.mono (fun b hb hl => ⟨⟨hb.1, hl⟩, hb.2⟩), ?_⟩
  rcases h3 with h | ⟨mb, h, hmm, hne, hml, n, f, hs, hn, hf⟩
  · exact .inl h
  · refine .inr ⟨mb, h, ⟨hmm, hml⟩, hne, hml, n, f, hs, hn, fun r => ?_⟩
    rcases hf r with h | ⟨g, cap, e, hx, hi⟩
    · exact .inl h
    · exact .inr ⟨g, cap, e, hx, hi.mono (fun b hb hl => ⟨⟨hb.1, hl⟩, hb.2⟩)⟩
theorem clsOf_bound {c : List T3} (h : clsFrom none c = true) (r : Int) : 0 ≤ clsOf c r ∧ clsOf c r ≤ 255 := by
  unfold clsOf
  split
  · rename_i x hx
    obtain ⟨i, hi⟩ := List.mem_iff_getElem?.1 (List.mem_of_find?_eq_some hx)
    have h1 := (clsFrom_at c none h i x hi).1
    unfold clsOne at h1
    simp at h1
    omega
  · exact ⟨by decide, by decide⟩
theorem hang_len3 (r : Int) : (hang r).length ≤ 3 := by
  unfold hang
  split
  · simp
  · simp only [List.length_append, List.length_cons, List.length_nil]
    split <;> simp
theorem deep_len3 (d : List T3) : ∀ (k : Nat) (r : Int), (deep d k r).1.length ≤ k + 3 := by
  intro k
  induction k with
  | zero =>
    intro r
    unfold deep
    by_cases h : hang r ≠ []
    · rw [if_pos h]; have := hang_len3 r; simp only; omega
    · rw [if_neg h]
      cases dOne d r with
      | none => simp
      | some x => simp
  | succ k ih =>
    intro r
    unfold deep
    by_cases h : hang r ≠ []
    · rw [if_pos h]; have := hang_len3 r; simp only; omega
    · rw [if_neg h]
      cases dOne d r with
      | none => simp
      | some x =>
        have := ih x.2.1
        simp only [List.length_append]
        split <;> simp <;> omega
theorem deep_ok3 {c d : List T3} (h : dataOk c d = true) (r : Int) : (deep d 4 r).2 = true := by
  obtain ⟨_, _, _, _, h2⟩ := data_parts h
  cases hd : dOne d r with
  | none =>
    unfold deep
    by_cases hh : hang r ≠ []
    · rw [if_pos hh]
    · rw [if_neg hh, hd]
  | some x =>
    have hx := List.mem_of_find?_eq_some hd
    have he := List.find?_some hd
    have h3 := h2 x hx
    unfold decTwo at h3
    simp only [Bool.and_eq_true] at h3
    have : x.1 = r := by simpa using he
    rw [← this]; exact h3.1.2
theorem norm_made (pb : Nat) (c d : List T3) (ho : dataOk c d = true) : Norm (clsOf c) (fun r => (deep d 4 r).1) (.pointer (some ⟨pb, 0, none⟩)) (fun k => k = pb) (fun R W => Nrm R W pb c d) where
  lo := fun r => (clsOf_bound (data_parts ho).2.2.1 r).1
  hi := fun r => (clsOf_bound (data_parts ho).2.2.1 r).2
  cls := fun R r W h => nClass_any R pb c d r W h
  dec := fun R r W hR h hr => decomp_any R pb c d r W hR h hr
  dlen := fun r => ⟨deep_pos3 d 4 r (deep_ok3 ho r), deep_len3 d 4 r⟩
  kept := fun R W W' h hk => h.kept hk
  bound := fun R W h => h.bound
  mono := fun R R' W h hm => h.mono hm
  own := fun R W k h hk => by subst hk; exact ⟨h.1, h.lt⟩
end Go.Proofs.YtnglhgogkemgbaaGreatDoor
/-! norm.NFD. -/
namespace Go.Proofs.YtnglhgogkemgbaaGreatDoor
open Go.RowKit

def nfdE (L : List Int) : Int := if L.all sc then (if 4096 < L.length then 2 else 0) else 41
def nfdOf (f : Int → Int) (dc : Int → List Int) (L : List Int) : List Int := if nfdE L = 0 then ordL f (L.flatMap dc) else []
/-- what NFD tells -/
def NfdTold (f : Int → Int) (dc : Int → List Int) (J : (Nat → Prop) → World → Prop) (S R : Nat → Prop) (L : List Int) (w : World) (e : Ending) (w' : World) : Prop :=
  (∃ v', e = .returned (.tuple #[v', .int .i64 (nfdE L)]) ∧ IntsIn (fun b => w.heap.size ≤ b) .i32 w' v' (nfdOf f dc L)) ∧ J R w' ∧ Only S w w'
theorem ints_of_own32 {B : Nat} {w : World} {v : Value} {e : TypeId} {xs : List Int} (h : w.ownsRow B e 1 v xs.length (xs.map (Value.int .i32))) : IntsIn (fun b => B ≤ b ∧ v.ownBlock = some b) .i32 w v xs := by
  rcases h.2 with ⟨rfl, h0⟩ | ⟨g, cap, cur, rfl, hg, hgb, h1, h2, h3, h4⟩
  · obtain rfl := List.eq_nil_of_length_eq_zero h0; exact .nil _ _ _
  · refine ⟨_, _, rfl, ⟨h1, h2⟩, fun i x hx => ⟨g, 0, rfl, ⟨hg, rfl⟩, (Array.getElem?_eq_some_iff.1 hgb).1, ?_⟩⟩
    have hi : i < xs.length := (List.getElem?_eq_some_iff.1 hx).1
    have e : (cur.toList.take (xs.length * 1))[i]? = some (.int .i32 x) := by rw [h4]; simp [hx]
    rw [List.getElem?_take, if_pos (by omega)] at e
    simp [World.cell?, hgb]; simpa using e
theorem ownsRow_block {W W' : World} {B : Nat} {e : TypeId} {size : Nat} {v : Value} {n : Nat} {xs : List Value} (h : W.ownsRow B e size v n xs) (hb : ∀ j, v.ownBlock = some j → j < W.heap.size → W'.heap[j]? = W.heap[j]?) : W'.ownsRow B e size v n xs := by
  obtain ⟨h0, h⟩ := h
  rcases h with h | ⟨g, cap, cur, rfl, hg, hgb, h1⟩
  · exact ⟨h0, .inl h⟩
  · exact ⟨h0, .inr ⟨g, cap, cur, rfl, hg, by rw [hb g rfl (Array.getElem?_eq_some_iff.1 hgb).1]; exact hgb, h1⟩⟩
theorem ownsRow_own {W : World} {B : Nat} {e : TypeId} {size : Nat} {v : Value} {n : Nat} {xs : List Value} (h : W.ownsRow B e size v n xs) {j : Nat} (hj : v.ownBlock = some j) : B ≤ j ∧ j < W.heap.size := by
  rcases h.2 with ⟨rfl, _⟩ | ⟨g, cap, cur, rfl, hg, hgb, h1⟩
  · cases hj
  · cases hj; exact ⟨hg, (Array.getElem?_eq_some_iff.1 hgb).1⟩
theorem Only.grown {S : Nat → Prop} {a b c : World} {row : Option Nat} (h : Only S a b) (hg : b.grownBy c row) (hr : ∀ j, row = some j → a.heap.size ≤ j) : Only S a c :=
  ⟨hg.os.trans h.os, hg.tape.trans h.tape, hg.output.trans h.output, Nat.le_trans h.size hg.size, fun k hk hs => (hg.block k (Nat.lt_of_lt_of_le hk h.size) (fun e => by have := hr k e.symm; omega)).trans (h.block k hk hs)⟩
/-- the blocks of R but for a row's own -/
def Off (R : Nat → Prop) (v : Value) : Nat → Prop := fun b => R b ∧ v.ownBlock ≠ some b
/-- between two appends of decompositions -/
structure NfdAt (J : (Nat → Prop) → World → Prop) (S R : Nat → Prop) (w : World) (out : List Int) (v : Value) (W : World) : Prop where
  row : W.ownsRow w.heap.size 21 1 v out.length (out.map (Value.int .i32))
  data : J (Off R v) W
  only : Only S w W
  nil : out = [] → v = .slice none 0 0
theorem NfdAt.deced {f : Int → Int} {dc : Int → List Int} {rv : Value} {J : (Nat → Prop) → World → Prop} {S R : Nat → Prop} {w W W1 : World} {out : List Int} {v : Value} (hN : Norm f dc rv S J) (h : NfdAt J S R w out v W) (hj : J (Off R v) W1) (ho : Only S W W1) : NfdAt J S R w out v W1 where
  row := ownsRow_block h.row (fun j hj2 hl => ho.block j hl (fun hs => (hN.own _ _ _ h.data hs).1.2 hj2))
  data := hj
  only := h.only.trans ho
  nil := h.nil
theorem NfdAt.grown {f : Int → Int} {dc : Int → List Int} {rv : Value} {J : (Nat → Prop) → World → Prop} {S R : Nat → Prop} {w W W2 : World} {out out2 : List Int} {v v2 : Value} (hN : Norm f dc rv S J) (h : NfdAt J S R w out v W)
    (hrow : W2.ownsRow w.heap.size 21 1 v2 out2.length (out2.map (Value.int .i32))) (hg : W.grownBy W2 v.ownBlock) (hown : ∀ j, v2.ownBlock = some j → v.ownBlock = some j ∨ W.heap.size ≤ j) (hn : out2 ≠ []) : NfdAt J S R w out2 v2 W2 where
  row := hrow
  data := by
    have h1 := hN.kept _ _ _ (hN.bound _ _ h.data) (Kept.grown (R := fun b => Off R v b ∧ b < W.heap.size) hg (fun b hb e => hb.1.2 e.symm))
    refine hN.mono _ _ _ h1 (fun b hb => ⟨hb.1.1, fun e => ?_⟩)
    rcases hown b e with h | h
    · exact hb.1.2 h
    · have := hb.2; omega
  only := h.only.grown hg (fun j hj => (ownsRow_own h.row hj).1)
  nil := fun e => absurd e hn
theorem nfdE_all {L : List Int} (h : ∀ (t : Nat) x, L[t]? = some x → sc x = true) : nfdE L = if 4096 < L.length then 2 else 0 := by
  unfold nfdE
  rw [if_pos]
  rw [List.all_eq_true]
  intro x hx
  obtain ⟨t, ht⟩ := List.mem_iff_getElem?.1 hx
  exact h t x ht
theorem nfdE_bad {L : List Int} {t : Nat} {x : Int} (hx : L[t]? = some x) (h : sc x = false) : nfdE L = 41 := by
  unfold nfdE
  rw [if_neg]
  intro ha
  rw [List.all_eq_true] at ha
  rw [ha x (List.mem_of_getElem? hx)] at h; cases h
theorem flat_step {dc : Int → List Int} {L : List Int} {i : Nat} {x : Int} (hx : L[i]? = some x) : (L.take (i + 1)).flatMap dc = (L.take i).flatMap dc ++ dc x := by
  rw [take_snoc hx, List.flatMap_append]; simp
theorem flat_len {dc : Int → List Int} (hd : ∀ r, 0 < (dc r).length ∧ (dc r).length ≤ 7) (L : List Int) : L.length ≤ (L.flatMap dc).length ∧ (L.flatMap dc).length ≤ 7 * L.length := by
  induction L with
  | nil => exact ⟨Nat.le_refl _, Nat.le_refl _⟩
  | cons x xs ih => have := hd x; simp only [List.flatMap_cons, List.length_append, List.length_cons]; omega
theorem sc_bd' {r : Int} (h : sc r = true) : 0 ≤ r ∧ r ≤ 1114111 := by unfold sc at h; simp at h; omega
theorem order_norm {f : Int → Int} {dc : Int → List Int} {rv : Value} {J : (Nat → Prop) → World → Prop} {S : Nat → Prop} (hN : Norm f dc rv S J) (Z Q : Nat → Prop) (L : List Int) (v : Value) (W : World) (hv : IntsIn Q .i32 W v L) (hpos : 0 < L.length) (hl : L.length ≤ 1000000) (hj : J Z W) :
    Calls Tryz.prog 140 #[rv, v] W fun e w' => (∃ v', e = .returned v' ∧ IntsIn (fun b => W.heap.size ≤ b) .i32 w' v' (ordL f L)) ∧ J Z w' ∧ Below W.heap.size W w' :=
  (order_any f rv W.heap.size (J (fun b => Z b ∧ b < W.heap.size)) Q L v W (hN.num _ W.heap.size (fun b hb => hb.2)) (Nat.le_refl _) hv hpos hl (hN.bound _ _ hj)).mono fun _ _ ⟨h1, h2, h3⟩ => ⟨h1, hN.mono _ _ _ h2 (fun _ hb => hb.1), h3⟩
set_option maxHeartbeats 8000000 in
set_option maxRecDepth 1000000 in
theorem nfd_any (f : Int → Int) (dc : Int → List Int) (rv : Value) (S : Nat → Prop) (J : (Nat → Prop) → World → Prop) (R Q : Nat → Prop) (L : List Int) (v : Value) (w : World) (hN : Norm f dc rv S J) (hR : ∀ b, w.heap.size ≤ b → R b) (hv : IntsIn Q .i32 w v L) (hQ : ∀ b, Q b → ¬ S b) (hl : L.length ≤ 1000000000) (hj : J R w) :
    Calls Tryz.prog 98 #[rv, v] w (NfdTold f dc J S R L w) := by
  obtain ⟨i0, hi, hz0, hz1, hz2⟩ := info_parts Tryz.infoI32
  have HV : Hid (IntsIn (fun b => Q b ∧ b < w.heap.size) .i32 w v L) := hv.mono (fun b h1 h2 => ⟨h1, h2⟩)
  have HN := Lib.hid hN
  have HR := Lib.hid hR
  have HQ := Lib.hid hQ
  have HJ := Lib.hid hj
  obtain ⟨p, cap, rfl, hcap, _⟩ := hv
  obtain ⟨n, hn⟩ : ∃ n, n = L.length := ⟨_, rfl⟩
  rw [← hn] at hl hcap ⊢ HV
  have HNL := Lib.hid hn
  clear hN hR hQ hj hn
  go_enter Tryz.func98, Tryz.ntmps98
  go_wp2_with fail
  go_loopw [7, 13] (fun _ iv wr => ∃ i : Nat, iv = .int .i64 i ∧ i ≤ n ∧ (∀ (t : Nat) x, t < i → L[t]? = some x → sc x = true) ∧ Below w.heap.size w wr) (fun _ iv _ => n - (intOf iv).toNat)
  case atStart => exact ⟨0, rfl, Nat.zero_le _, fun t x h => by omega, Below.refl _ _⟩
  case round =>
    obtain ⟨i, rfl, hin, hsc, hbw⟩ := hrel
    have HSC := Lib.hid hsc
    have HB := Lib.hid hbw
    by_cases hlt : i < n
    · have g1 : (i : Int) < (n : Int) := by omega
      obtain ⟨x, hx⟩ : ∃ x, L[i]? = some x := ⟨L[i]'(by rw [← HNL.out]; exact hlt), List.getElem?_eq_getElem _⟩
      have hv1 := HV.out.kept (Kept.below hbw)
      obtain ⟨p', cap', he, _, hc⟩ := hv1
      injection he with he1 he2 he3
      obtain ⟨b, o, hp, hqb, hbl, c0⟩ := hc i x hx
      subst he1 hp
      have HX := Lib.hid hx
      clear hsc hbw hc hx he2 he3
      by_cases hs : sc x = true
      · have hca : ∀ u, Calls Tryz.prog 138 #[.int .i32 x] u fun e w' => e = .returned (.bool true) ∧ u = w' := fun u => by have := scalar_any x u; rwa [hs] at this
        have HCA := Lib.hid hca
        have HSX := Lib.hid hs
        clear hca hs
        go_wp2_with fail
        refine (HCA.out _).mono ?_
        rintro e w1 ⟨rfl, rfl⟩
        go_wp2_with fail
        go_roundw
        case rel =>
          refine ⟨i + 1, by go_num, by omega, fun t y ht hy => ?_, HB.out⟩
          rcases Nat.lt_or_ge t i with h | h
          · exact HSC.out t y h hy
          · obtain rfl : t = i := by omega
            rw [HX.out] at hy; cases hy; exact HSX.out
        case measure => (show n - ((i : Int) + 1).toNat < n - (i : Int).toNat; omega)
      · have hs' : sc x = false := by simpa using hs
        have hca : ∀ u, Calls Tryz.prog 138 #[.int .i32 x] u fun e w' => e = .returned (.bool false) ∧ u = w' := fun u => by have := scalar_any x u; rwa [hs'] at this
        have HCA := Lib.hid hca
        have HE : Hid (nfdE L = 41) := nfdE_bad HX.out hs'
        clear hca hs hs'
        go_wp2_with fail
        refine (HCA.out _).mono ?_
        rintro e w1 ⟨rfl, rfl⟩
        go_wp2_with fail
        go_ret2
        have he := HE.out
        exact ⟨⟨_, by rw [he]; rfl, by unfold nfdOf; rw [he, if_neg (by decide)]; exact .nil _ _ _⟩, HN.out.kept _ _ _ HJ.out (Kept.below HB.out), (Only.refl _ w).below HB.out⟩
    · have g1 : ¬ ((i : Int) < (n : Int)) := by omega
      have HE : Hid (nfdE L = if 4096 < n then 2 else 0) := by
        have := nfdE_all (L := L) (fun t x hx => hsc t x (by have := (List.getElem?_eq_some_iff.1 hx).1; have := HNL.out; omega) hx)
        rwa [← HNL.out] at this
      have HSCA : Hid (∀ (t : Nat) x, L[t]? = some x → sc x = true) := fun t x hx => hsc t x (by have := (List.getElem?_eq_some_iff.1 hx).1; have := HNL.out; omega) hx
      clear hsc hbw HSC
      by_cases hlong : 4096 < n
      · have g2 : (4096 : Int) < (n : Int) := by omega
        go_wp2_with fail
        go_ret2
        have he : nfdE L = 2 := by rw [HE.out, if_pos hlong]
        exact ⟨⟨_, by rw [he]; rfl, by unfold nfdOf; rw [he, if_neg (by decide)]; exact .nil _ _ _⟩, HN.out.kept _ _ _ HJ.out (Kept.below HB.out), (Only.refl _ w).below HB.out⟩
      · have g2 : ¬ ((4096 : Int) < (n : Int)) := by omega
        have HE0 : Hid (nfdE L = 0) := by show _ = _; rw [HE.out, if_neg hlong]
        have hnl : n ≤ 4096 := by omega
        go_wp2_with fail
        go_loopw [8, 10, 26] (fun ov _ iv W => ∃ k : Nat, iv = .int .i64 k ∧ k ≤ n ∧ NfdAt J S R w ((L.take k).flatMap dc) ov W) (fun _ _ iv _ => n - (intOf iv).toNat)
        case atStart =>
          refine ⟨0, rfl, Nat.zero_le _, ⟨⟨rfl, .inl ⟨rfl, rfl⟩⟩, ?_, (Only.refl _ w).below HB.out, fun _ => rfl⟩⟩
          exact HN.out.mono _ _ _ (HN.out.kept _ _ _ HJ.out (Kept.below HB.out)) (fun b hb => ⟨hb, fun e => by cases e⟩)
        case round =>
          obtain ⟨k, rfl, hkn, hat⟩ := hrel
          have HAT := Lib.hid hat
          by_cases hlt2 : k < n
          · have g3 : (k : Int) < (n : Int) := by omega
            obtain ⟨x, hx⟩ : ∃ x, L[k]? = some x := ⟨L[k]'(by rw [← HNL.out]; exact hlt2), List.getElem?_eq_getElem _⟩
            have hv1 := HV.out.kept (Kept.only hat.only (fun b hb => HQ.out b hb.1))
            obtain ⟨p', cap', he, _, hc⟩ := hv1
            injection he with he1 he2 he3
            obtain ⟨b, o, hp, hqb, hbl, c0⟩ := hc k x hx
            subst he1 hp
            have hxr := sc_bd' (HSCA.out k x hx)
            have hdec := HN.out.dec (Off R _) x _ (fun b hb => ⟨HR.out b (by have := hat.only.size; omega), fun e => by have := (ownsRow_own hat.row e).2; omega⟩) hat.data ⟨by omega, by omega⟩
            have hdl := HN.out.dlen x
            have HX := Lib.hid (flat_step (dc := dc) hx)
            obtain ⟨out, hout⟩ : ∃ out, (L.take k).flatMap dc = out := ⟨_, rfl⟩
            have hol : out.length ≤ 30000 := by
              have h1 := (flat_len HN.out.dlen (L.take k)).2
              rw [hout, List.length_take] at h1
              omega
            rw [hout] at HAT HX
            have HX2 := Lib.hid hx
            clear hat hc hx he2 he3 hxr hout
            go_wp2_with fail
            with_reducible refine hdec.mono ?_
            rintro e w1 ⟨⟨v1, rfl, hr1⟩, hj1, ho1⟩
            have HAT1 := Lib.hid (HAT.out.deced HN.out hj1 ho1)
            obtain ⟨g5, o5, c5, rfl, _, _, hc5⟩ := (ints_of_own32 hr1).place hdl.1
            have HC5 := Lib.hid hc5
            have hsz := HAT1.out.only.size
            clear hdec hr1 hj1 ho1 hc5 HAT c0
            go_wp2_with (at_builtin; refine app_stop ⟨_, _, rfl⟩ ?_)
            refine Lib.hid ?_
            refine wpList_append_own_at _ rfl _ _ 42 rfl (w.heap.size) 21 i0 (.int .i32 0) 1 4 Tryz.underlying42 hi hz0 hz1 hz2 rfl (by decide) _ out.length (out.map (Value.int .i32)) rfl HAT1.out.row ⟨g5, o5, none⟩ (dc x).length c5 ((dc x).map (Value.int .i32)) rfl (by simp) (news_of HC5.out) (by simp [Value.oneCell']) (by unfold maxLen; omega) (by omega) hsz ?_
            intro v6 w6 hrow6 hgrow6 _ hat6
            have hne6 : out ++ dc x ≠ [] := fun e => by
              have := congrArg List.length e
              rw [List.length_append, List.length_nil] at this; omega
            have HAT6 := Lib.hid (HAT1.out.grown HN.out (out2 := out ++ dc x) (by rw [List.length_append, List.map_append]; exact hrow6) hgrow6 (fun j hj => by
              rcases hat6 with e | e
              · exact .inl (e ▸ hj)
              · rw [e] at hj; cases hj; exact .inr (Nat.le_refl _)) hne6)
            clear hrow6 hgrow6 hat6 hne6 HAT1 HC5
            go_wp2_with fail
            go_roundw
            case rel => exact ⟨k + 1, by go_num, by omega, by rw [HX.out]; exact HAT6.out⟩
            case measure => (show n - ((k : Int) + 1).toNat < n - (k : Int).toNat; omega)
          · have g3 : ¬ ((k : Int) < (n : Int)) := by omega
            obtain rfl : k = n := by omega
            have htk : L.take k = L := List.take_of_length_le (by rw [← HNL.out]; exact Nat.le_refl _)
            rw [htk] at HAT hat
            have HF : Hid (nfdOf f dc L = ordL f (L.flatMap dc)) := by show _ = _; unfold nfdOf; rw [if_pos HE0.out]
            have hfl := flat_len HN.out.dlen L
            rw [← HNL.out] at hfl
            obtain ⟨out, hout⟩ : ∃ out, L.flatMap dc = out := ⟨_, rfl⟩
            rw [hout] at HAT hat HF hfl
            by_cases h0 : out = []
            · have he := hat.nil h0
              subst he h0
              clear hat htk hout
              have hno := order_nil rv
              go_wp2_with fail
              refine (hno _).mono ?_
              rintro e w1 ⟨rfl, hb1⟩
              have HB1 := Lib.hid hb1
              clear hb1 hno
              go_wp2_with fail
              go_ret2
              exact ⟨⟨_, by rw [HE0.out]; rfl, by rw [HF.out]; exact .nil _ _ _⟩, HN.out.mono _ _ _ (HN.out.kept _ _ _ HAT.out.data (Kept.below HB1.out)) (fun b hb => hb.1), HAT.out.only.below HB1.out⟩
            · have hpos : 0 < out.length := List.length_pos_iff.2 h0
              have hor1 := order_norm HN.out _ _ out _ _ (ints_of_own32 hat.row) hpos (by omega) hat.data
              have hsz := hat.only.size
              clear hat htk hout h0 hpos hfl
              go_wp2_with fail
              with_reducible refine hor1.mono ?_
              rintro e w1 ⟨⟨v1, rfl, hi1⟩, hj1, hb1⟩
              have HI1 := Lib.hid hi1
              have HJ1 := Lib.hid hj1
              have HB1 := Lib.hid hb1
              clear hi1 hj1 hb1 hor1
              go_wp2_with fail
              go_ret2
              exact ⟨⟨_, by rw [HE0.out]; rfl, by rw [HF.out]; exact HI1.out.mono (fun b hb _ => Nat.le_trans hsz hb)⟩, HN.out.mono _ _ _ HJ1.out (fun b hb => hb.1), HAT.out.only.below HB1.out⟩
end Go.Proofs.YtnglhgogkemgbaaGreatDoor
