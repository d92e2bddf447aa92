/- Package strings: a Builder: a rune is written; its length; its string. -/
import Derived.Test.YtjbcbejedaeedaaGreatDoorBd
import Derived.Shelf.Utf8.AppendRune
import Derived.Shelf.Strings.BuilderK
namespace Go.Proofs.YtjbcbejedaeedaaGreatDoor
open Go.RowKit Go.Shelf

def Tryz.lays242_ren : Ren where
  f := fun x => match x with
    | 242 => 160
    | 278 => 171
    | n => n
  t := fun x => match x with
    | 37 => 85
    | 21 => 21
    | 51 => 81
    | 4 => 4
    | 5 => 5
    | 46 => 152
    | n => n
  g := fun x => x
theorem Tryz.lays242 : Lays.n242 Tryz.prog Tryz.lays242_ren :=
{ mixed := Eq.refl true, f242 := Eq.trans Tryz.func160 (congrArg some (Eq.refl (Body.n242 Tryz.lays242_ren))),
  f278 := Eq.trans Tryz.func171 (congrArg some (Eq.refl (Body.n278 Tryz.lays242_ren))), t4 := Tryz.underlying4,
  a4 := Tryz.isAgg4, z4 := Tryz.sizeOf4, v4 := Tryz.zeroValue4, t5 := Tryz.underlying5, a5 := Tryz.isAgg5,
  z5 := Tryz.sizeOf5, v5 := Tryz.zeroValue5, t21 := Tryz.underlying21, a21 := Tryz.isAgg21, z21 := Tryz.sizeOf21,
  v21 := Tryz.zeroValue21, t37 := Tryz.underlying85, a37 := Tryz.isAgg85, z37 := Tryz.sizeOf85, v37 := Tryz.zeroValue85,
  t46 := Tryz.underlying152, a46 := Tryz.isAgg152, z46 := Tryz.sizeOf152, v46 := Tryz.zeroValue152,
  t51 := Tryz.underlying81, a51 := Tryz.isAgg81, z51 := Tryz.sizeOf81, v51 := Tryz.zeroValue81 }
def Tryz.lays169_ren : Ren where
  f := fun x => match x with
    | 169 => 40
    | n => n
  t := fun x => match x with
    | 70 => 84
    | 9 => 9
    | 0 => 0
    | 72 => 87
    | 37 => 85
    | 127 => 126
    | 3 => 3
    | 5 => 5
    | n => n
  g := fun x => x
theorem Tryz.lays169 : Lays.n169 Tryz.prog Tryz.lays169_ren :=
{ mixed := Eq.refl true, f169 := Eq.trans Tryz.func40 (congrArg some (Eq.refl (Body.n169 Tryz.lays169_ren))),
  t0 := Tryz.underlying0, a0 := Tryz.isAgg0, z0 := Tryz.sizeOf0, v0 := Tryz.zeroValue0, t3 := Tryz.underlying3,
  a3 := Tryz.isAgg3, z3 := Tryz.sizeOf3, v3 := Tryz.zeroValue3, t9 := Tryz.underlying9, a9 := Tryz.isAgg9,
  z9 := Tryz.sizeOf9, v9 := Tryz.zeroValue9, t37 := Tryz.underlying85, a37 := Tryz.isAgg85, z37 := Tryz.sizeOf85,
  v37 := Tryz.zeroValue85, t70 := Tryz.underlying84, a70 := Tryz.isAgg84, z70 := Tryz.sizeOf84, v70 := Tryz.zeroValue84,
  t72 := Tryz.underlying87, a72 := Tryz.isAgg87, z72 := Tryz.sizeOf87, v72 := Tryz.zeroValue87,
  t127 := Tryz.underlying126, a127 := Tryz.isAgg126, z127 := Tryz.sizeOf126, v127 := Tryz.zeroValue126 }
def Tryz.lays170_ren : Ren where
  f := fun x => match x with
    | 170 => 106
    | n => n
  t := fun x => match x with
    | 70 => 84
    | 3 => 3
    | 0 => 0
    | 72 => 87
    | 37 => 85
    | 5 => 5
    | n => n
  g := fun x => x
theorem Tryz.lays170 : Lays.n170 Tryz.prog Tryz.lays170_ren :=
{ mixed := Eq.refl true, f170 := Eq.trans Tryz.func106 (congrArg some (Eq.refl (Body.n170 Tryz.lays170_ren))),
  t0 := Tryz.underlying0, a0 := Tryz.isAgg0, z0 := Tryz.sizeOf0, v0 := Tryz.zeroValue0, t3 := Tryz.underlying3,
  a3 := Tryz.isAgg3, z3 := Tryz.sizeOf3, v3 := Tryz.zeroValue3, t37 := Tryz.underlying85, a37 := Tryz.isAgg85,
  z37 := Tryz.sizeOf85, v37 := Tryz.zeroValue85, t70 := Tryz.underlying84, a70 := Tryz.isAgg84, z70 := Tryz.sizeOf84,
  v70 := Tryz.zeroValue84, t72 := Tryz.underlying87, a72 := Tryz.isAgg87, z72 := Tryz.sizeOf87,
  v72 := Tryz.zeroValue87 }
set_option maxRecDepth 100000 in
theorem Tryz.bldExtra169 : Builder.Extra Tryz.prog Tryz.lays169_ren :=
{ sizeBuilder := Tryz.bldSize, liesBuilder := Tryz.bldLies, t5 := Tryz.underlying5, a5 := Tryz.isAgg5, z5 := Tryz.sizeOf5, v5 := Tryz.zeroValue5, infoByte := Tryz.byteInfo, cellsByte := by kernel_rfl, sizeByte := by kernel_rfl, neB5 := by decide }
theorem bldString_any (B b : Nat) (l : List UInt8) (w : World) (h : Bld B b l w) (hBw : B ≤ w.heap.size) :
    Calls Tryz.prog 40 #[.pointer (some ⟨b, 0, none⟩)] w fun e w' => e = .returned (.string ⟨l.toArray⟩) ∧ Below B w w' :=
  (Any.Builder_String_any_k Tryz.lays169 Tryz.bldExtra169 B b l w h hBw).mono fun _ _ ⟨h1, _, h2, _⟩ => ⟨h1, h2⟩
theorem bldLen_any (B b : Nat) (l : List UInt8) (w : World) (h : Bld B b l w) :
    Calls Tryz.prog 106 #[.pointer (some ⟨b, 0, none⟩)] w fun e w' => e = .returned (.int .i64 l.length) ∧ w' = w := by
  have := Any.Builder_Len_f Tryz.lays170 B b (Lib.byteCells l) w h
  rwa [Lib.byteCells_length] at this
/-- the bytes of a rune -/
def runeB (r : Int) : List UInt8 := Lib.encodeRune r
theorem appendRune_any (B : Nat) (v : Value) (n : Nat) (xs : List Value) (r : Int) (hr0 : -2147483648 ≤ r) (hr1 : r ≤ 2147483647) (w : World) (hown : w.ownsRowF B 5 1 v n xs) (hlen : n + 4 ≤ 140737488355328) (hBw : B ≤ w.heap.size) :
    Calls Tryz.prog 160 #[v, .int .i32 r] w fun e w' => ∃ v', e = .returned v' ∧ w'.ownsRowF B 5 1 v' (n + (Lib.runeCells r).length) (xs ++ Lib.runeCells r) ∧ ∃ o, (w.alloc o).grownBy w' v.ownBlock :=
  Any.utf8_AppendRune_row Tryz.lays242 Tryz.byteInfo B v n xs r hr0 hr1 w hown hlen hBw
set_option maxHeartbeats 4000000 in
set_option maxRecDepth 100000 in
theorem bldWriteRune_any (B b : Nat) (l : List UInt8) (r : Int) (hr0 : -2147483648 ≤ r) (hr1 : r ≤ 2147483647) (w : World) (h : Bld B b l w) (hlen : l.length + 4 ≤ 140737488355328) (hBw : B ≤ w.heap.size) :
    Calls Tryz.prog 137 #[.pointer (some ⟨b, 0, none⟩), .int .i32 r] w fun e w' => (∃ n, e = .returned (.tuple #[.int .i64 n, .nilIface])) ∧ Bld B b (l ++ runeB r) w' ∧ Below B w w' ∧ BldK b w w' ∧ w.heap.size ≤ w'.heap.size := by
  have hk4 := Lib.runeCells_le r
  have HB : Hid (Lib.runeCells r = Lib.byteCells (runeB r)) := (Lib.byteCells_encodeRune r).symm
  go_enter Tryz.func137, Tryz.ntmps137
  go_wp2_with fail
  refine (copyCheck_any B b l _ h).mono ?_
  rintro e w1 ⟨rfl, ⟨hB, v, hbk, hown, hne⟩, hb1, hk1, hz⟩
  rw [Lib.byteCells_length] at hown
  obtain ⟨ao, cap, rfl⟩ : ∃ ao cap, v = .slice ao l.length cap := by
    rcases hown.2 with ⟨hv, h0⟩ | ⟨g, cap, cur, fz, hv, _⟩
    · exact ⟨none, 0, by rw [hv, h0]⟩
    · exact ⟨_, _, hv⟩
  have c0 : w1.cell? ⟨b, 0, none⟩ = some (.pointer (some ⟨b, 0, none⟩)) := by rw [Lib.cell_of_heap hbk]; rfl
  have c1 : w1.cell? ⟨b, 1, none⟩ = some (.slice ao l.length cap) := by rw [Lib.cell_of_heap hbk]; rfl
  have hbl : b < w1.heap.size := (Array.getElem?_eq_some_iff.1 hbk).1
  go_wp2_with fail
  refine (appendRune_any B _ l.length (Lib.byteCells l) r hr0 hr1 _ hown hlen (by omega)).mono ?_
  rintro e w2 ⟨v', rfl, hown', o, hgrow⟩
  have hb2 : w2.heap[b]? = some (.cells #[.pointer (some ⟨b, 0, none⟩), .slice ao l.length cap] 87 (0, 0)) := by
    rw [hgrow.block b (by simp; omega) (fun e => hne e.symm), Lib.alloc_old w1 _ b hbl]
    exact hbk
  have d0 : w2.cell? ⟨b, 0, none⟩ = some (.pointer (some ⟨b, 0, none⟩)) := by rw [Lib.cell_of_heap hb2]; rfl
  have d1 : w2.cell? ⟨b, 1, none⟩ = some (.slice ao l.length cap) := by rw [Lib.cell_of_heap hb2]; rfl
  have f1 : w2.frozen? ⟨b, 1, none⟩ = false := Lib.frozen_of_heap hb2 1
  obtain ⟨g, cap', rfl⟩ : ∃ g cap', v' = .slice (some ⟨g, 0, none⟩) (l.length + (Lib.runeCells r).length) cap' := by
    rcases hown'.2 with ⟨_, h0⟩ | ⟨g, cap', cur, fz, hv, _⟩
    · omega
    · exact ⟨g, cap', hv⟩
  go_wp2
  go_ret2
  refine ⟨⟨_, rfl⟩, .inr ?_, ?_, ((hk1.alloc _).grown hgrow (Lib.ownsRowF_kind (hown.alloc _))).setCell ⟨b, 1, none⟩ rfl _, by have := hgrow.size; simp at this ⊢; omega⟩
  · rw [Lib.byteCells_append, ← HB.out]
    exact Lib.BuilderAtF.put (T := 87) (e := 5) hB hb2 (bs' := Lib.byteCells l ++ Lib.runeCells r) (by simpa [Lib.byteCells_length] using hown') (by decide)
  · exact ((hb1.alloc (by omega) _).grown hgrow (by simp; omega) (fun k hk => (hown.lt k hk).1)).setCell (p := ⟨b, 1, none⟩) hB _
end Go.Proofs.YtjbcbejedaeedaaGreatDoor
