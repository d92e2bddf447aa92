/- Package strings in chapter 11: what the shelf's contracts say here: IndexByte, Cut, TrimSpace, Fields. -/
import Derived.Test.YtnglhgogkemgbaaGreatDoorG03
import Derived.Shelf.Small.Strs
import Derived.Shelf.Strings.Cut
import Derived.Shelf.Strings.TrimSpace
import Derived.Shelf.Strings.Fields
namespace Go.Proofs.YtnglhgogkemgbaaGreatDoor
open Go.RowKit Go.Shelf

def Tryz.lays137_ren : Ren where
  f := fun x => match x with
    | 137 => 66
    | 217 => 110
    | 266 => 145
    | n => n
  t := fun x => match x with
    | 9 => 9
    | 5 => 5
    | 3 => 3
    | n => n
  g := fun x => x
theorem Tryz.lays137 : Lays.n137 Tryz.prog Tryz.lays137_ren :=
{ mixed := Eq.refl true, f137 := Eq.trans Tryz.func66 (congrArg some (Eq.refl (Body.n137 Tryz.lays137_ren))),
  f217 := Eq.trans Tryz.func110 (congrArg some (Eq.refl (Body.n217 Tryz.lays137_ren))),
  f266 := Eq.trans Tryz.func145 (congrArg some (Eq.refl (Body.n266 Tryz.lays137_ren))), t3 := Tryz.underlying3,
  a3 := Tryz.isAgg3, z3 := Tryz.sizeOf3, v3 := Tryz.zeroValue3, t5 := Tryz.underlying5, a5 := Tryz.isAgg5,
  z5 := Tryz.sizeOf5, v5 := Tryz.zeroValue5, t9 := Tryz.underlying9, a9 := Tryz.isAgg9, z9 := Tryz.sizeOf9,
  v9 := Tryz.zeroValue9 }
def Tryz.lays145_ren : Ren where
  f := fun x => match x with
    | 145 => 33
    | 220 => 67
    | 219 => 111
    | 217 => 110
    | 225 => 146
    | 224 => 147
    | 267 => 148
    | 266 => 145
    | 314 => 174
    | n => n
  t := fun x => match x with
    | 9 => 9
    | 4 => 4
    | 59 => 79
    | 3 => 3
    | 5 => 5
    | 46 => 155
    | 146 => 252
    | 51 => 110
    | n => n
  g := fun x => match x with
    | 1 => 2
    | n => n
theorem Tryz.lays145 : Lays.n145 Tryz.prog Tryz.lays145_ren :=
{ mixed := Eq.refl true, f145 := Eq.trans Tryz.func33 (congrArg some (Eq.refl (Body.n145 Tryz.lays145_ren))),
  f217 := Eq.trans Tryz.func110 (congrArg some (Eq.refl (Body.n217 Tryz.lays145_ren))),
  f219 := Eq.trans Tryz.func111 (congrArg some (Eq.refl (Body.n219 Tryz.lays145_ren))),
  f220 := Eq.trans Tryz.func67 (congrArg some (Eq.refl (Body.n220 Tryz.lays145_ren))),
  f224 := Eq.trans Tryz.func147 (congrArg some (Eq.refl (Body.n224 Tryz.lays145_ren))),
  f225 := Eq.trans Tryz.func146 (congrArg some (Eq.refl (Body.n225 Tryz.lays145_ren))),
  f266 := Eq.trans Tryz.func145 (congrArg some (Eq.refl (Body.n266 Tryz.lays145_ren))),
  f267 := Eq.trans Tryz.func148 (congrArg some (Eq.refl (Body.n267 Tryz.lays145_ren))),
  f314 := Eq.trans Tryz.func174 (congrArg some (Eq.refl (Body.n314 Tryz.lays145_ren))), t3 := Tryz.underlying3,
  a3 := Tryz.isAgg3, z3 := Tryz.sizeOf3, v3 := Tryz.zeroValue3, t4 := Tryz.underlying4, a4 := Tryz.isAgg4,
  z4 := Tryz.sizeOf4, v4 := Tryz.zeroValue4, t5 := Tryz.underlying5, a5 := Tryz.isAgg5, z5 := Tryz.sizeOf5,
  v5 := Tryz.zeroValue5, t9 := Tryz.underlying9, a9 := Tryz.isAgg9, z9 := Tryz.sizeOf9, v9 := Tryz.zeroValue9,
  t46 := Tryz.underlying155, a46 := Tryz.isAgg155, z46 := Tryz.sizeOf155, v46 := Tryz.zeroValue155,
  t51 := Tryz.underlying110, a51 := Tryz.isAgg110, z51 := Tryz.sizeOf110, v51 := Tryz.zeroValue110,
  t59 := Tryz.underlying79, a59 := Tryz.isAgg79, z59 := Tryz.sizeOf79, v59 := Tryz.zeroValue79,
  t146 := Tryz.underlying252, a146 := Tryz.isAgg252, z146 := Tryz.sizeOf252, v146 := Tryz.zeroValue252,
  g1 := by kernel_rfl }
def Tryz.lays157_ren : Ren where
  f := fun x => match x with
    | 157 => 35
    | 229 => 71
    | 199 => 69
    | 261 => 113
    | 311 => 150
    | 312 => 151
    | n => n
  t := fun x => match x with
    | 9 => 9
    | 31 => 82
    | 3 => 3
    | 5 => 5
    | 4 => 4
    | 119 => 142
    | 0 => 0
    | 40 => 130
    | 152 => 198
    | 21 => 21
    | 154 => 200
    | 51 => 110
    | 141 => 194
    | 196 => 226
    | 193 => 223
    | 198 => 229
    | 49 => 227
    | 194 => 224
    | 201 => 232
    | 226 => 254
    | 46 => 155
    | 227 => 255
    | n => n
  g := fun x => match x with
    | 0 => 0
    | 6 => 1
    | n => n
theorem Tryz.lays157 : Lays.n157 Tryz.prog Tryz.lays157_ren :=
{ mixed := Eq.refl true, f157 := Eq.trans Tryz.func35 (congrArg some (Eq.refl (Body.n157 Tryz.lays157_ren))),
  f199 := Eq.trans Tryz.func69 (congrArg some (Eq.refl (Body.n199 Tryz.lays157_ren))),
  f229 := Eq.trans Tryz.func71 (congrArg some (Eq.refl (Body.n229 Tryz.lays157_ren))),
  f261 := Eq.trans Tryz.func113 (congrArg some (Eq.refl (Body.n261 Tryz.lays157_ren))),
  f311 := Eq.trans Tryz.func150 (congrArg some (Eq.refl (Body.n311 Tryz.lays157_ren))),
  f312 := Eq.trans Tryz.func151 (congrArg some (Eq.refl (Body.n312 Tryz.lays157_ren))), t0 := Tryz.underlying0,
  a0 := Tryz.isAgg0, z0 := Tryz.sizeOf0, v0 := Tryz.zeroValue0, t3 := Tryz.underlying3, a3 := Tryz.isAgg3,
  z3 := Tryz.sizeOf3, v3 := Tryz.zeroValue3, t4 := Tryz.underlying4, a4 := Tryz.isAgg4, z4 := Tryz.sizeOf4,
  v4 := Tryz.zeroValue4, t5 := Tryz.underlying5, a5 := Tryz.isAgg5, z5 := Tryz.sizeOf5, v5 := Tryz.zeroValue5,
  t9 := Tryz.underlying9, a9 := Tryz.isAgg9, z9 := Tryz.sizeOf9, v9 := Tryz.zeroValue9, t21 := Tryz.underlying21,
  a21 := Tryz.isAgg21, z21 := Tryz.sizeOf21, v21 := Tryz.zeroValue21, t31 := Tryz.underlying82, a31 := Tryz.isAgg82,
  z31 := Tryz.sizeOf82, v31 := Tryz.zeroValue82, t40 := Tryz.underlying130, a40 := Tryz.isAgg130, z40 := Tryz.sizeOf130,
  v40 := Tryz.zeroValue130, t46 := Tryz.underlying155, a46 := Tryz.isAgg155, z46 := Tryz.sizeOf155,
  v46 := Tryz.zeroValue155, t49 := Tryz.underlying227, a49 := Tryz.isAgg227, z49 := Tryz.sizeOf227,
  v49 := Tryz.zeroValue227, t51 := Tryz.underlying110, a51 := Tryz.isAgg110, z51 := Tryz.sizeOf110,
  v51 := Tryz.zeroValue110, t119 := Tryz.underlying142, a119 := Tryz.isAgg142, z119 := Tryz.sizeOf142,
  t141 := Tryz.underlying194, a141 := Tryz.isAgg194, z141 := Tryz.sizeOf194, v141 := Tryz.zeroValue194,
  t152 := Tryz.underlying198, a152 := Tryz.isAgg198, z152 := Tryz.sizeOf198, v152 := Tryz.zeroValue198,
  t154 := Tryz.underlying200, a154 := Tryz.isAgg200, z154 := Tryz.sizeOf200, v154 := Tryz.zeroValue200,
  t193 := Tryz.underlying223, a193 := Tryz.isAgg223, z193 := Tryz.sizeOf223, v193 := Tryz.zeroValue223,
  t194 := Tryz.underlying224, a194 := Tryz.isAgg224, z194 := Tryz.sizeOf224, v194 := Tryz.zeroValue224,
  t196 := Tryz.underlying226, a196 := Tryz.isAgg226, z196 := Tryz.sizeOf226, v196 := Tryz.zeroValue226,
  t198 := Tryz.underlying229, a198 := Tryz.isAgg229, z198 := Tryz.sizeOf229, v198 := Tryz.zeroValue229,
  t201 := Tryz.underlying232, a201 := Tryz.isAgg232, z201 := Tryz.sizeOf232, v201 := Tryz.zeroValue232,
  t226 := Tryz.underlying254, a226 := Tryz.isAgg254, z226 := Tryz.sizeOf254, v226 := Tryz.zeroValue254,
  t227 := Tryz.underlying255, a227 := Tryz.isAgg255, z227 := Tryz.sizeOf255, v227 := Tryz.zeroValue255,
  g0 := by kernel_rfl, g6 := by kernel_rfl }
def Tryz.lays163_ren : Ren where
  f := fun x => match x with
    | 163 => 34
    | 237 => 68
    | 199 => 69
    | 238 => 70
    | 272 => 112
    | 261 => 113
    | 273 => 114
    | 197 => 115
    | 315 => 149
    | 311 => 150
    | 312 => 151
    | 271 => 152
    | 260 => 153
    | 120 => 175
    | n => n
  t := fun x => match x with
    | 9 => 9
    | 37 => 51
    | 3 => 3
    | 0 => 0
    | 5 => 5
    | 4 => 4
    | 40 => 130
    | 119 => 142
    | 21 => 21
    | 51 => 110
    | 141 => 194
    | 105 => 196
    | 196 => 226
    | 193 => 223
    | 198 => 229
    | 49 => 227
    | 194 => 224
    | 201 => 232
    | 226 => 254
    | 46 => 155
    | 227 => 255
    | 139 => 259
    | 138 => 258
    | n => n
  g := fun x => match x with
    | 0 => 0
    | 6 => 1
    | 3 => 5
    | 4 => 6
    | n => n
theorem Tryz.lays163 : Lays.n163 Tryz.prog Tryz.lays163_ren :=
{ mixed := Eq.refl true, f120 := Eq.trans Tryz.func175 (congrArg some (Eq.refl (Body.n120 Tryz.lays163_ren))),
  f163 := Eq.trans Tryz.func34 (congrArg some (Eq.refl (Body.n163 Tryz.lays163_ren))),
  f197 := Eq.trans Tryz.func115 (congrArg some (Eq.refl (Body.n197 Tryz.lays163_ren))),
  f199 := Eq.trans Tryz.func69 (congrArg some (Eq.refl (Body.n199 Tryz.lays163_ren))),
  f237 := Eq.trans Tryz.func68 (congrArg some (Eq.refl (Body.n237 Tryz.lays163_ren))),
  f238 := Eq.trans Tryz.func70 (congrArg some (Eq.refl (Body.n238 Tryz.lays163_ren))),
  f260 := Eq.trans Tryz.func153 (congrArg some (Eq.refl (Body.n260 Tryz.lays163_ren))),
  f261 := Eq.trans Tryz.func113 (congrArg some (Eq.refl (Body.n261 Tryz.lays163_ren))),
  f271 := Eq.trans Tryz.func152 (congrArg some (Eq.refl (Body.n271 Tryz.lays163_ren))),
  f272 := Eq.trans Tryz.func112 (congrArg some (Eq.refl (Body.n272 Tryz.lays163_ren))),
  f273 := Eq.trans Tryz.func114 (congrArg some (Eq.refl (Body.n273 Tryz.lays163_ren))),
  f311 := Eq.trans Tryz.func150 (congrArg some (Eq.refl (Body.n311 Tryz.lays163_ren))),
  f312 := Eq.trans Tryz.func151 (congrArg some (Eq.refl (Body.n312 Tryz.lays163_ren))),
  f315 := Eq.trans Tryz.func149 (congrArg some (Eq.refl (Body.n315 Tryz.lays163_ren))), t0 := Tryz.underlying0,
  a0 := Tryz.isAgg0, z0 := Tryz.sizeOf0, v0 := Tryz.zeroValue0, t3 := Tryz.underlying3, a3 := Tryz.isAgg3,
  z3 := Tryz.sizeOf3, v3 := Tryz.zeroValue3, t4 := Tryz.underlying4, a4 := Tryz.isAgg4, z4 := Tryz.sizeOf4,
  v4 := Tryz.zeroValue4, t5 := Tryz.underlying5, a5 := Tryz.isAgg5, z5 := Tryz.sizeOf5, v5 := Tryz.zeroValue5,
  t9 := Tryz.underlying9, a9 := Tryz.isAgg9, z9 := Tryz.sizeOf9, v9 := Tryz.zeroValue9, t21 := Tryz.underlying21,
  a21 := Tryz.isAgg21, z21 := Tryz.sizeOf21, v21 := Tryz.zeroValue21, t37 := Tryz.underlying51, a37 := Tryz.isAgg51,
  z37 := Tryz.sizeOf51, v37 := Tryz.zeroValue51, t40 := Tryz.underlying130, a40 := Tryz.isAgg130, z40 := Tryz.sizeOf130,
  v40 := Tryz.zeroValue130, t46 := Tryz.underlying155, a46 := Tryz.isAgg155, z46 := Tryz.sizeOf155,
  v46 := Tryz.zeroValue155, t49 := Tryz.underlying227, a49 := Tryz.isAgg227, z49 := Tryz.sizeOf227,
  v49 := Tryz.zeroValue227, t51 := Tryz.underlying110, a51 := Tryz.isAgg110, z51 := Tryz.sizeOf110,
  v51 := Tryz.zeroValue110, t105 := Tryz.underlying196, a105 := Tryz.isAgg196, z105 := Tryz.sizeOf196,
  v105 := Tryz.zeroValue196, t119 := Tryz.underlying142, a119 := Tryz.isAgg142, z119 := Tryz.sizeOf142,
  t138 := Tryz.underlying258, a138 := Tryz.isAgg258, z138 := Tryz.sizeOf258, v138 := Tryz.zeroValue258,
  t139 := Tryz.underlying259, a139 := Tryz.isAgg259, z139 := Tryz.sizeOf259, v139 := Tryz.zeroValue259,
  t141 := Tryz.underlying194, a141 := Tryz.isAgg194, z141 := Tryz.sizeOf194, v141 := Tryz.zeroValue194,
  t193 := Tryz.underlying223, a193 := Tryz.isAgg223, z193 := Tryz.sizeOf223, v193 := Tryz.zeroValue223,
  t194 := Tryz.underlying224, a194 := Tryz.isAgg224, z194 := Tryz.sizeOf224, v194 := Tryz.zeroValue224,
  t196 := Tryz.underlying226, a196 := Tryz.isAgg226, z196 := Tryz.sizeOf226, v196 := Tryz.zeroValue226,
  t198 := Tryz.underlying229, a198 := Tryz.isAgg229, z198 := Tryz.sizeOf229, v198 := Tryz.zeroValue229,
  t201 := Tryz.underlying232, a201 := Tryz.isAgg232, z201 := Tryz.sizeOf232, v201 := Tryz.zeroValue232,
  t226 := Tryz.underlying254, a226 := Tryz.isAgg254, z226 := Tryz.sizeOf254, v226 := Tryz.zeroValue254,
  t227 := Tryz.underlying255, a227 := Tryz.isAgg255, z227 := Tryz.sizeOf255, v227 := Tryz.zeroValue255,
  g0 := by kernel_rfl, g3 := by kernel_rfl,
  g4 := by kernel_rfl, g6 := by kernel_rfl }

theorem Tryz.infoS9 : (Tryz.prog.info? 9).map (fun i => (i.zero, i.size, i.bytes)) = some (some (.string ByteArray.empty), 1, 16) := by kernel_rfl
/-- the library's bound holds a number; its table of blanks -/
def MS (w : World) : Prop := (∃ m, w.cell? ⟨2, 0, none⟩ = some (.int .i64 m)) ∧ Lib.TabIs Tryz.prog w "strings.asciiSpace" .u8 Lib.asciiSpaceTab
theorem cell_ltS {w : World} {b o : Nat} {v : Value} (h : w.cell? ⟨b, o, none⟩ = some v) : b < w.heap.size := by
  rcases Nat.lt_or_ge b w.heap.size with h' | h'
  · exact h'
  · simp [World.cell?, Array.getElem?_eq_none h'] at h
theorem asciiG : Tryz.prog.globalNamed "strings.asciiSpace" = some 0 := by kernel_rfl
theorem MS.lt {w : World} (h : MS w) : 0 < w.heap.size := by
  refine cell_ltS (o := 0) (v := .int .u8 (Lib.asciiSpaceTab.getD 0 0)) ?_
  exact h.2.cell asciiG 0 (by rw [Lib.asciiSpaceTab_length]; omega)
theorem MS.same {w w' : World} (h : MS w) (h1 : w'.heap[2]? = w.heap[2]?) (h2 : w'.heap[0]? = w.heap[0]?) : MS w' := by
  obtain ⟨⟨m, hm⟩, ht⟩ := h
  refine ⟨⟨m, (World.cell?_of_block (w := w) (a := ⟨2, 0, none⟩) h1).trans hm⟩, ?_⟩
  unfold Lib.TabIs World.var? at *
  rw [asciiG] at *
  simp only [Option.bind_some] at *
  rw [h2]; exact ht
theorem MS.below {w w' : World} (h : MS w) (hb : Below w.heap.size w w') : MS w' := by
  obtain ⟨m, hm⟩ := h.1
  exact h.same (hb.block _ (cell_ltS hm)) (hb.block _ h.lt)
theorem below_drewS (w : World) : ∀ n, Below w.heap.size w (w.drewN n)
  | 0 => Below.refl _ _
  | n + 1 => (below_drewS w n).drew
theorem indexByteS_any (s : ByteArray) (w : World) : Calls Tryz.prog 66 #[.string s, .int .u8 10] w fun e w' => e = .returned (.int .i64 (Lib.indexByte s.data.toList 10)) ∧ w = w' :=
  (Any.strings_IndexByte (ρ := Tryz.lays137_ren) Tryz.lays137 s 10 w).mono fun _ _ ⟨h1, h2⟩ => ⟨h1, h2.symm⟩
theorem cutS_any (s p : ByteArray) (w : World) (hs : s.size < 4294967281) (hm : MS w) :
    Calls Tryz.prog 33 #[.string s, .string p] w fun e w' => e = .returned (.tuple #[.string (mkB (Lib.cut s.data.toList p.data.toList).1), .string (mkB (Lib.cut s.data.toList p.data.toList).2.1), .bool (Lib.cut s.data.toList p.data.toList).2.2]) ∧ Below w.heap.size w w' := by
  obtain ⟨⟨m, hm⟩, _⟩ := hm
  exact (Any.strings_Cut (ρ := Tryz.lays145_ren) Tryz.lays145 s p m w hs hm).mono fun _ _ ⟨h1, n, h2⟩ => ⟨h1, h2 ▸ below_drewS w n⟩
theorem trimSpaceS_any (s : ByteArray) (w : World) (hs : s.size ≤ 9223372036854775807) (ha : ∀ (j : Nat) b, s.data.toList[j]? = some b → b.toNat < 128) (hm : MS w) :
    Calls Tryz.prog 34 #[.string s] w fun e w' => e = .returned (.string (mkB (Lib.trimSpace s.data.toList))) ∧ Below w.heap.size w w' :=
  (Any.strings_TrimSpace (ρ := Tryz.lays163_ren) Tryz.lays163 ⟨asciiG⟩ s w hs ha hm.2).mono fun _ _ ⟨h1, h2⟩ => ⟨h1, h2 ▸ ⟨rfl, rfl, rfl, by rw [Lib.bytesWorld_size]; omega, fun j hj => Lib.bytesWorld_at_old w _ s j hj⟩⟩
/-- a slice of strings, the call's own -/
def StrsIn (B : Nat) (w : World) (v : Value) (xs : List Bs) : Prop :=
  ∃ A, v = .slice (some ⟨A, 0, none⟩) xs.length xs.length ∧ B ≤ A ∧ A < w.heap.size ∧ ∀ (i : Nat) x, xs[i]? = some x → w.cell? ⟨A, i, none⟩ = some (.string (mkB x))
theorem StrsIn.below {B : Nat} {w w' : World} {v : Value} {xs : List Bs} (h : StrsIn B w v xs) (hb : Below w.heap.size w w') : StrsIn B w' v xs := by
  obtain ⟨A, h1, h2, h3, h4⟩ := h
  exact ⟨A, h1, h2, Nat.lt_of_lt_of_le h3 hb.size, fun i x hx => (hb.cell (p := ⟨A, i, none⟩) h3).trans (h4 i x hx)⟩
theorem fieldsS_any (s : ByteArray) (w : World) (hs : s.size < 4294967281) (ha : ∀ (j : Nat) b, s.data.toList[j]? = some b → b.toNat < 128) (hm : MS w) :
    Calls Tryz.prog 35 #[.string s] w fun e w' => ∃ v, e = .returned v ∧ StrsIn w.heap.size w' v (Lib.fields s.data.toList) ∧ Below w.heap.size w w' := by
  refine (Any.strings_Fields (ρ := Tryz.lays157_ren) Tryz.lays157 Tryz.infoS9 asciiG s w hs ha hm.2).mono fun e w' ⟨h1, h2⟩ => ?_
  subst h2
  refine ⟨_, h1, ⟨w.heap.size, rfl, Nat.le_refl _, by simp, fun i x hx => ?_⟩, (Below.refl _ _).alloc (Nat.le_refl _) _⟩
  rw [World.cell?_alloc_at _ _ _ _ rfl, List.getElem?_toArray, List.getElem?_map, hx]; rfl
end Go.Proofs.YtnglhgogkemgbaaGreatDoor
