/- Package strings in chapter 8: what the shelf's contracts say here: TrimSuffix, Cut, Split, Trim, TrimLeft, FieldsFunc. -/
import Derived.Test.YtjbcbejedaeedaaGreatDoorAa
import Derived.Shelf.Strings.Prefix
import Derived.Shelf.Strings.Cut
import Derived.Shelf.Strings.Split
import Derived.Shelf.Strings.SlTrimAscii
import Derived.Shelf.Strings.FieldsFuncGrows
namespace Go.Proofs.YtjbcbejedaeedaaGreatDoor
open Go.RowKit Go.Shelf
open PlainAid (bt)

def Tryz.lays102_ren : Ren where
  f := fun x => match x with
    | 102 => 43
    | 209 => 74
    | 207 => 116
    | n => n
  t := fun x => match x with
    | 9 => 9
    | 4 => 4
    | 3 => 3
    | n => n
  g := fun x => x
theorem Tryz.lays102 : Lays.n102 Tryz.prog Tryz.lays102_ren :=
{ mixed := Eq.refl true, f102 := Eq.trans Tryz.func43 (congrArg some (Eq.refl (Body.n102 Tryz.lays102_ren))),
  f207 := Eq.trans Tryz.func116 (congrArg some (Eq.refl (Body.n207 Tryz.lays102_ren))),
  f209 := Eq.trans Tryz.func74 (congrArg some (Eq.refl (Body.n209 Tryz.lays102_ren))), t3 := Tryz.underlying3,
  a3 := Tryz.isAgg3, z3 := Tryz.sizeOf3, v3 := Tryz.zeroValue3, t4 := Tryz.underlying4, a4 := Tryz.isAgg4,
  z4 := Tryz.sizeOf4, v4 := Tryz.zeroValue4, t9 := Tryz.underlying9, a9 := Tryz.isAgg9, z9 := Tryz.sizeOf9,
  v9 := Tryz.zeroValue9 }
def Tryz.lays145_ren : Ren where
  f := fun x => match x with
    | 145 => 44
    | 220 => 75
    | 219 => 117
    | 217 => 149
    | 225 => 124
    | 224 => 123
    | 267 => 150
    | 266 => 167
    | 314 => 168
    | n => n
  t := fun x => match x with
    | 9 => 9
    | 4 => 4
    | 59 => 67
    | 3 => 3
    | 5 => 5
    | 46 => 152
    | 146 => 182
    | 51 => 81
    | n => n
  g := fun x => match x with
    | 1 => 0
    | n => n
theorem Tryz.lays145 : Lays.n145 Tryz.prog Tryz.lays145_ren :=
{ mixed := Eq.refl true, f145 := Eq.trans Tryz.func44 (congrArg some (Eq.refl (Body.n145 Tryz.lays145_ren))),
  f217 := Eq.trans Tryz.func149 (congrArg some (Eq.refl (Body.n217 Tryz.lays145_ren))),
  f219 := Eq.trans Tryz.func117 (congrArg some (Eq.refl (Body.n219 Tryz.lays145_ren))),
  f220 := Eq.trans Tryz.func75 (congrArg some (Eq.refl (Body.n220 Tryz.lays145_ren))),
  f224 := Eq.trans Tryz.func123 (congrArg some (Eq.refl (Body.n224 Tryz.lays145_ren))),
  f225 := Eq.trans Tryz.func124 (congrArg some (Eq.refl (Body.n225 Tryz.lays145_ren))),
  f266 := Eq.trans Tryz.func167 (congrArg some (Eq.refl (Body.n266 Tryz.lays145_ren))),
  f267 := Eq.trans Tryz.func150 (congrArg some (Eq.refl (Body.n267 Tryz.lays145_ren))),
  f314 := Eq.trans Tryz.func168 (congrArg some (Eq.refl (Body.n314 Tryz.lays145_ren))), t3 := Tryz.underlying3,
  a3 := Tryz.isAgg3, z3 := Tryz.sizeOf3, v3 := Tryz.zeroValue3, t4 := Tryz.underlying4, a4 := Tryz.isAgg4,
  z4 := Tryz.sizeOf4, v4 := Tryz.zeroValue4, t5 := Tryz.underlying5, a5 := Tryz.isAgg5, z5 := Tryz.sizeOf5,
  v5 := Tryz.zeroValue5, t9 := Tryz.underlying9, a9 := Tryz.isAgg9, z9 := Tryz.sizeOf9, v9 := Tryz.zeroValue9,
  t46 := Tryz.underlying152, a46 := Tryz.isAgg152, z46 := Tryz.sizeOf152, v46 := Tryz.zeroValue152,
  t51 := Tryz.underlying81, a51 := Tryz.isAgg81, z51 := Tryz.sizeOf81, v51 := Tryz.zeroValue81,
  t59 := Tryz.underlying67, a59 := Tryz.isAgg67, z59 := Tryz.sizeOf67, v59 := Tryz.zeroValue67,
  t146 := Tryz.underlying182, a146 := Tryz.isAgg182, z146 := Tryz.sizeOf182, v146 := Tryz.zeroValue182,
  g1 := by kernel_rfl }
def Tryz.lays146_ren : Ren where
  f := fun x => match x with
    | 146 => 42
    | 221 => 73
    | 268 => 114
    | 138 => 115
    | 143 => 107
    | 195 => 147
    | 197 => 118
    | 218 => 148
    | 219 => 117
    | 260 => 151
    | 217 => 149
    | 225 => 124
    | 224 => 123
    | 267 => 150
    | 266 => 167
    | 314 => 168
    | n => n
  t := fun x => match x with
    | 9 => 9
    | 31 => 95
    | 3 => 3
    | 4 => 4
    | 0 => 0
    | 105 => 163
    | 21 => 21
    | 5 => 5
    | 46 => 152
    | 119 => 201
    | 139 => 204
    | 138 => 203
    | 146 => 182
    | 51 => 81
    | n => n
  g := fun x => match x with
    | 1 => 0
    | 3 => 3
    | 4 => 4
    | n => n
theorem Tryz.lays146 : Lays.n146 Tryz.prog Tryz.lays146_ren :=
{ mixed := Eq.refl true, f138 := Eq.trans Tryz.func115 (congrArg some (Eq.refl (Body.n138 Tryz.lays146_ren))),
  f143 := Eq.trans Tryz.func107 (congrArg some (Eq.refl (Body.n143 Tryz.lays146_ren))),
  f146 := Eq.trans Tryz.func42 (congrArg some (Eq.refl (Body.n146 Tryz.lays146_ren))),
  f195 := Eq.trans Tryz.func147 (congrArg some (Eq.refl (Body.n195 Tryz.lays146_ren))),
  f197 := Eq.trans Tryz.func118 (congrArg some (Eq.refl (Body.n197 Tryz.lays146_ren))),
  f217 := Eq.trans Tryz.func149 (congrArg some (Eq.refl (Body.n217 Tryz.lays146_ren))),
  f218 := Eq.trans Tryz.func148 (congrArg some (Eq.refl (Body.n218 Tryz.lays146_ren))),
  f219 := Eq.trans Tryz.func117 (congrArg some (Eq.refl (Body.n219 Tryz.lays146_ren))),
  f221 := Eq.trans Tryz.func73 (congrArg some (Eq.refl (Body.n221 Tryz.lays146_ren))),
  f224 := Eq.trans Tryz.func123 (congrArg some (Eq.refl (Body.n224 Tryz.lays146_ren))),
  f225 := Eq.trans Tryz.func124 (congrArg some (Eq.refl (Body.n225 Tryz.lays146_ren))),
  f260 := Eq.trans Tryz.func151 (congrArg some (Eq.refl (Body.n260 Tryz.lays146_ren))),
  f266 := Eq.trans Tryz.func167 (congrArg some (Eq.refl (Body.n266 Tryz.lays146_ren))),
  f267 := Eq.trans Tryz.func150 (congrArg some (Eq.refl (Body.n267 Tryz.lays146_ren))),
  f268 := Eq.trans Tryz.func114 (congrArg some (Eq.refl (Body.n268 Tryz.lays146_ren))),
  f314 := Eq.trans Tryz.func168 (congrArg some (Eq.refl (Body.n314 Tryz.lays146_ren))), t0 := Tryz.underlying0,
  a0 := Tryz.isAgg0, z0 := Tryz.sizeOf0, v0 := Tryz.zeroValue0, t3 := Tryz.underlying3, a3 := Tryz.isAgg3,
  z3 := Tryz.sizeOf3, v3 := Tryz.zeroValue3, t4 := Tryz.underlying4, a4 := Tryz.isAgg4, z4 := Tryz.sizeOf4,
  v4 := Tryz.zeroValue4, t5 := Tryz.underlying5, a5 := Tryz.isAgg5, z5 := Tryz.sizeOf5, v5 := Tryz.zeroValue5,
  t9 := Tryz.underlying9, a9 := Tryz.isAgg9, z9 := Tryz.sizeOf9, v9 := Tryz.zeroValue9, t21 := Tryz.underlying21,
  a21 := Tryz.isAgg21, z21 := Tryz.sizeOf21, v21 := Tryz.zeroValue21, t31 := Tryz.underlying95, a31 := Tryz.isAgg95,
  z31 := Tryz.sizeOf95, v31 := Tryz.zeroValue95, t46 := Tryz.underlying152, a46 := Tryz.isAgg152, z46 := Tryz.sizeOf152,
  v46 := Tryz.zeroValue152, t51 := Tryz.underlying81, a51 := Tryz.isAgg81, z51 := Tryz.sizeOf81,
  v51 := Tryz.zeroValue81, t105 := Tryz.underlying163, a105 := Tryz.isAgg163, z105 := Tryz.sizeOf163,
  v105 := Tryz.zeroValue163, t119 := Tryz.underlying201, a119 := Tryz.isAgg201, z119 := Tryz.sizeOf201,
  t138 := Tryz.underlying203, a138 := Tryz.isAgg203, z138 := Tryz.sizeOf203, v138 := Tryz.zeroValue203,
  t139 := Tryz.underlying204, a139 := Tryz.isAgg204, z139 := Tryz.sizeOf204, v139 := Tryz.zeroValue204,
  t146 := Tryz.underlying182, a146 := Tryz.isAgg182, z146 := Tryz.sizeOf182, v146 := Tryz.zeroValue182,
  g1 := by kernel_rfl, g3 := by kernel_rfl,
  g4 := by kernel_rfl }
def Tryz.lays160_ren : Ren where
  f := fun x => match x with
    | 160 => 45
    | 232 => 77
    | 231 => 76
    | 227 => 78
    | 234 => 80
    | 233 => 79
    | 236 => 82
    | 235 => 81
    | 228 => 86
    | 271 => 120
    | 151 => 119
    | 197 => 118
    | 120 => 152
    | 152 => 84
    | 260 => 151
    | 137 => 121
    | 119 => 122
    | 224 => 123
    | 225 => 124
    | 217 => 149
    | 266 => 167
    | n => n
  t := fun x => match x with
    | 9 => 9
    | 4 => 4
    | 3 => 3
    | 5 => 5
    | 117 => 131
    | 116 => 130
    | 0 => 0
    | 124 => 134
    | 21 => 21
    | 105 => 163
    | 46 => 152
    | 119 => 201
    | 139 => 204
    | 138 => 203
    | n => n
  g := fun x => match x with
    | 3 => 3
    | 4 => 4
    | n => n
theorem Tryz.lays160 : Lays.n160 Tryz.prog Tryz.lays160_ren :=
{ mixed := Eq.refl true, f119 := Eq.trans Tryz.func122 (congrArg some (Eq.refl (Body.n119 Tryz.lays160_ren))),
  f120 := Eq.trans Tryz.func152 (congrArg some (Eq.refl (Body.n120 Tryz.lays160_ren))),
  f137 := Eq.trans Tryz.func121 (congrArg some (Eq.refl (Body.n137 Tryz.lays160_ren))),
  f151 := Eq.trans Tryz.func119 (congrArg some (Eq.refl (Body.n151 Tryz.lays160_ren))),
  f152 := Eq.trans Tryz.func84 (congrArg some (Eq.refl (Body.n152 Tryz.lays160_ren))),
  f160 := Eq.trans Tryz.func45 (congrArg some (Eq.refl (Body.n160 Tryz.lays160_ren))),
  f197 := Eq.trans Tryz.func118 (congrArg some (Eq.refl (Body.n197 Tryz.lays160_ren))),
  f217 := Eq.trans Tryz.func149 (congrArg some (Eq.refl (Body.n217 Tryz.lays160_ren))),
  f224 := Eq.trans Tryz.func123 (congrArg some (Eq.refl (Body.n224 Tryz.lays160_ren))),
  f225 := Eq.trans Tryz.func124 (congrArg some (Eq.refl (Body.n225 Tryz.lays160_ren))),
  f227 := Eq.trans Tryz.func78 (congrArg some (Eq.refl (Body.n227 Tryz.lays160_ren))),
  f228 := Eq.trans Tryz.func86 (congrArg some (Eq.refl (Body.n228 Tryz.lays160_ren))),
  f231 := Eq.trans Tryz.func76 (congrArg some (Eq.refl (Body.n231 Tryz.lays160_ren))),
  f232 := Eq.trans Tryz.func77 (congrArg some (Eq.refl (Body.n232 Tryz.lays160_ren))),
  f233 := Eq.trans Tryz.func79 (congrArg some (Eq.refl (Body.n233 Tryz.lays160_ren))),
  f234 := Eq.trans Tryz.func80 (congrArg some (Eq.refl (Body.n234 Tryz.lays160_ren))),
  f235 := Eq.trans Tryz.func81 (congrArg some (Eq.refl (Body.n235 Tryz.lays160_ren))),
  f236 := Eq.trans Tryz.func82 (congrArg some (Eq.refl (Body.n236 Tryz.lays160_ren))),
  f260 := Eq.trans Tryz.func151 (congrArg some (Eq.refl (Body.n260 Tryz.lays160_ren))),
  f266 := Eq.trans Tryz.func167 (congrArg some (Eq.refl (Body.n266 Tryz.lays160_ren))),
  f271 := Eq.trans Tryz.func120 (congrArg some (Eq.refl (Body.n271 Tryz.lays160_ren))), t0 := Tryz.underlying0,
  a0 := Tryz.isAgg0, z0 := Tryz.sizeOf0, v0 := Tryz.zeroValue0, t3 := Tryz.underlying3, a3 := Tryz.isAgg3,
  z3 := Tryz.sizeOf3, v3 := Tryz.zeroValue3, t4 := Tryz.underlying4, a4 := Tryz.isAgg4, z4 := Tryz.sizeOf4,
  v4 := Tryz.zeroValue4, t5 := Tryz.underlying5, a5 := Tryz.isAgg5, z5 := Tryz.sizeOf5, v5 := Tryz.zeroValue5,
  t9 := Tryz.underlying9, a9 := Tryz.isAgg9, z9 := Tryz.sizeOf9, v9 := Tryz.zeroValue9, t21 := Tryz.underlying21,
  a21 := Tryz.isAgg21, z21 := Tryz.sizeOf21, v21 := Tryz.zeroValue21, t46 := Tryz.underlying152, a46 := Tryz.isAgg152,
  z46 := Tryz.sizeOf152, v46 := Tryz.zeroValue152, t105 := Tryz.underlying163, a105 := Tryz.isAgg163,
  z105 := Tryz.sizeOf163, v105 := Tryz.zeroValue163, t116 := Tryz.underlying130, a116 := Tryz.isAgg130,
  z116 := Tryz.sizeOf130, t117 := Tryz.underlying131, a117 := Tryz.isAgg131, z117 := Tryz.sizeOf131,
  v117 := Tryz.zeroValue131, t119 := Tryz.underlying201, a119 := Tryz.isAgg201, z119 := Tryz.sizeOf201,
  t124 := Tryz.underlying134, a124 := Tryz.isAgg134, z124 := Tryz.sizeOf134, v124 := Tryz.zeroValue134,
  t138 := Tryz.underlying203, a138 := Tryz.isAgg203, z138 := Tryz.sizeOf203, v138 := Tryz.zeroValue203,
  t139 := Tryz.underlying204, a139 := Tryz.isAgg204, z139 := Tryz.sizeOf204, v139 := Tryz.zeroValue204,
  g3 := by kernel_rfl, g4 := by kernel_rfl }
def Tryz.lays161_ren : Ren where
  f := fun x => match x with
    | 161 => 94
    | 231 => 76
    | 227 => 78
    | 233 => 79
    | 235 => 81
    | 228 => 86
    | 197 => 118
    | 151 => 119
    | 260 => 151
    | 152 => 84
    | 137 => 121
    | 119 => 122
    | 224 => 123
    | 225 => 124
    | 217 => 149
    | 266 => 167
    | n => n
  t := fun x => match x with
    | 9 => 9
    | 4 => 4
    | 3 => 3
    | 5 => 5
    | 117 => 131
    | 116 => 130
    | 0 => 0
    | 124 => 134
    | 105 => 163
    | 21 => 21
    | 119 => 201
    | 46 => 152
    | 139 => 204
    | 138 => 203
    | n => n
  g := fun x => match x with
    | 3 => 3
    | 4 => 4
    | n => n
theorem Tryz.lays161 : Lays.n161 Tryz.prog Tryz.lays161_ren :=
{ mixed := Eq.refl true, f119 := Eq.trans Tryz.func122 (congrArg some (Eq.refl (Body.n119 Tryz.lays161_ren))),
  f137 := Eq.trans Tryz.func121 (congrArg some (Eq.refl (Body.n137 Tryz.lays161_ren))),
  f151 := Eq.trans Tryz.func119 (congrArg some (Eq.refl (Body.n151 Tryz.lays161_ren))),
  f152 := Eq.trans Tryz.func84 (congrArg some (Eq.refl (Body.n152 Tryz.lays161_ren))),
  f161 := Eq.trans Tryz.func94 (congrArg some (Eq.refl (Body.n161 Tryz.lays161_ren))),
  f197 := Eq.trans Tryz.func118 (congrArg some (Eq.refl (Body.n197 Tryz.lays161_ren))),
  f217 := Eq.trans Tryz.func149 (congrArg some (Eq.refl (Body.n217 Tryz.lays161_ren))),
  f224 := Eq.trans Tryz.func123 (congrArg some (Eq.refl (Body.n224 Tryz.lays161_ren))),
  f225 := Eq.trans Tryz.func124 (congrArg some (Eq.refl (Body.n225 Tryz.lays161_ren))),
  f227 := Eq.trans Tryz.func78 (congrArg some (Eq.refl (Body.n227 Tryz.lays161_ren))),
  f228 := Eq.trans Tryz.func86 (congrArg some (Eq.refl (Body.n228 Tryz.lays161_ren))),
  f231 := Eq.trans Tryz.func76 (congrArg some (Eq.refl (Body.n231 Tryz.lays161_ren))),
  f233 := Eq.trans Tryz.func79 (congrArg some (Eq.refl (Body.n233 Tryz.lays161_ren))),
  f235 := Eq.trans Tryz.func81 (congrArg some (Eq.refl (Body.n235 Tryz.lays161_ren))),
  f260 := Eq.trans Tryz.func151 (congrArg some (Eq.refl (Body.n260 Tryz.lays161_ren))),
  f266 := Eq.trans Tryz.func167 (congrArg some (Eq.refl (Body.n266 Tryz.lays161_ren))), t0 := Tryz.underlying0,
  a0 := Tryz.isAgg0, z0 := Tryz.sizeOf0, v0 := Tryz.zeroValue0, t3 := Tryz.underlying3, a3 := Tryz.isAgg3,
  z3 := Tryz.sizeOf3, v3 := Tryz.zeroValue3, t4 := Tryz.underlying4, a4 := Tryz.isAgg4, z4 := Tryz.sizeOf4,
  v4 := Tryz.zeroValue4, t5 := Tryz.underlying5, a5 := Tryz.isAgg5, z5 := Tryz.sizeOf5, v5 := Tryz.zeroValue5,
  t9 := Tryz.underlying9, a9 := Tryz.isAgg9, z9 := Tryz.sizeOf9, v9 := Tryz.zeroValue9, t21 := Tryz.underlying21,
  a21 := Tryz.isAgg21, z21 := Tryz.sizeOf21, v21 := Tryz.zeroValue21, t46 := Tryz.underlying152, a46 := Tryz.isAgg152,
  z46 := Tryz.sizeOf152, v46 := Tryz.zeroValue152, t105 := Tryz.underlying163, a105 := Tryz.isAgg163,
  z105 := Tryz.sizeOf163, v105 := Tryz.zeroValue163, t116 := Tryz.underlying130, a116 := Tryz.isAgg130,
  z116 := Tryz.sizeOf130, t117 := Tryz.underlying131, a117 := Tryz.isAgg131, z117 := Tryz.sizeOf131,
  v117 := Tryz.zeroValue131, t119 := Tryz.underlying201, a119 := Tryz.isAgg201, z119 := Tryz.sizeOf201,
  t124 := Tryz.underlying134, a124 := Tryz.isAgg134, z124 := Tryz.sizeOf134, v124 := Tryz.zeroValue134,
  t138 := Tryz.underlying203, a138 := Tryz.isAgg203, z138 := Tryz.sizeOf203, v138 := Tryz.zeroValue203,
  t139 := Tryz.underlying204, a139 := Tryz.isAgg204, z139 := Tryz.sizeOf204, v139 := Tryz.zeroValue204,
  g3 := by kernel_rfl, g4 := by kernel_rfl }
def Tryz.lays229_ren : Ren where
  f := fun x => match x with
    | 229 => 153
    | n => n
  t := fun x => match x with
    | 9 => 9
    | 40 => 110
    | 31 => 95
    | 152 => 205
    | 3 => 3
    | 0 => 0
    | 4 => 4
    | 21 => 21
    | 154 => 207
    | n => n
  g := fun x => x
theorem Tryz.lays229 : Lays.n229 Tryz.prog Tryz.lays229_ren :=
{ mixed := Eq.refl true, f229 := Eq.trans Tryz.func153 (congrArg some (Eq.refl (Body.n229 Tryz.lays229_ren))),
  t0 := Tryz.underlying0, a0 := Tryz.isAgg0, z0 := Tryz.sizeOf0, v0 := Tryz.zeroValue0, t3 := Tryz.underlying3,
  a3 := Tryz.isAgg3, z3 := Tryz.sizeOf3, v3 := Tryz.zeroValue3, t4 := Tryz.underlying4, a4 := Tryz.isAgg4,
  z4 := Tryz.sizeOf4, v4 := Tryz.zeroValue4, t9 := Tryz.underlying9, a9 := Tryz.isAgg9, z9 := Tryz.sizeOf9,
  v9 := Tryz.zeroValue9, t21 := Tryz.underlying21, a21 := Tryz.isAgg21, z21 := Tryz.sizeOf21, v21 := Tryz.zeroValue21,
  t31 := Tryz.underlying95, a31 := Tryz.isAgg95, z31 := Tryz.sizeOf95, v31 := Tryz.zeroValue95,
  t40 := Tryz.underlying110, a40 := Tryz.isAgg110, z40 := Tryz.sizeOf110, v40 := Tryz.zeroValue110,
  t152 := Tryz.underlying205, a152 := Tryz.isAgg205, z152 := Tryz.sizeOf205, v152 := Tryz.zeroValue205,
  t154 := Tryz.underlying207, a154 := Tryz.isAgg207, z154 := Tryz.sizeOf207, v154 := Tryz.zeroValue207 }

set_option maxRecDepth 100000 in
theorem Tryz.set160 : (Tryz.prog.info? 130).map (fun i => (i.zero, i.size)) = some (some (.agg (Array.replicate 256 (.bool false))), 256) := by kernel_rfl
theorem Tryz.infoS9 : (Tryz.prog.info? 9).map (fun i => (i.zero, i.size, i.bytes)) = some (some (.string ByteArray.empty), 1, 16) := by kernel_rfl
theorem Tryz.infoSp : (Tryz.prog.info? 207).map (fun i => (i.zero, i.size, i.bytes)) = some (some (.agg #[.int .i64 0, .int .i64 0]), 2, 16) := by kernel_rfl
/-- the library's bound holds a number; the table of trailing zeros, at the place that base 16 asks -/
def ML (w : World) : Prop := (∃ m, w.cell? ⟨0, 0, none⟩ = some (.int .i64 m)) ∧ w.cell? ⟨6, 15, none⟩ = some (.int .u8 4)
theorem cell_lt {w : World} {b o : Nat} {v : Value} (h : w.cell? ⟨b, o, none⟩ = some v) : b < w.heap.size := by
  rcases Nat.lt_or_ge b w.heap.size with h' | h'
  · exact h'
  · simp [World.cell?, Array.getElem?_eq_none h'] at h
theorem ML.below {w w' : World} (h : ML w) (hb : Below w.heap.size w w') : ML w' := by
  obtain ⟨⟨m, hm⟩, hd⟩ := h
  exact ⟨⟨m, (hb.cell (p := ⟨_, 0, none⟩) (cell_lt hm)).trans hm⟩, (hb.cell (p := ⟨_, 15, none⟩) (cell_lt hd)).trans hd⟩
theorem ML.only {S : Nat → Prop} {w w' : World} (h : ML w) (ho : Only S w w') (hs : ∀ k, S k → 9 ≤ k) : ML w' := by
  obtain ⟨⟨m, hm⟩, hd⟩ := h
  exact ⟨⟨m, (World.cell?_of_block (w := w) (a := ⟨0, 0, none⟩) (ho.block _ (cell_lt hm) (fun h => absurd (hs _ h) (by decide)))).trans hm⟩,
    (World.cell?_of_block (w := w) (a := ⟨6, 15, none⟩) (ho.block _ (cell_lt hd) (fun h => absurd (hs _ h) (by decide)))).trans hd⟩

theorem trimSuffix_any (s p : ByteArray) (w : World) (hs : s.size ≤ 9223372036854775807) :
    Calls Tryz.prog 43 #[.string s, .string p] w fun e w' => e = .returned (.string (mkB (Lib.trimSuffix s.data.toList p.data.toList))) ∧ w = w' :=
  (Any.strings_TrimSuffix (ρ := Tryz.lays102_ren) Tryz.lays102 s p w hs).mono fun _ _ ⟨h1, h2⟩ => ⟨h1, h2.symm⟩
theorem below_drewQ (w : World) : ∀ n, Below w.heap.size w (w.drewN n)
  | 0 => Below.refl _ _
  | n + 1 => (below_drewQ w n).drew
theorem cutS_any (s p : ByteArray) (w : World) (hs : s.size < 4294967281) (hm : ML w) :
    Calls Tryz.prog 44 #[.string s, .string p] w fun e w' => e = .returned (.tuple #[.string (mkB (Lib.cut s.data.toList p.data.toList).1), .string (mkB (Lib.cut s.data.toList p.data.toList).2.1), .bool (Lib.cut s.data.toList p.data.toList).2.2]) ∧ Below w.heap.size w w' := by
  obtain ⟨⟨m, hm⟩, _⟩ := hm
  exact (Any.strings_Cut (ρ := Tryz.lays145_ren) Tryz.lays145 s p m w hs hm).mono fun _ _ ⟨h1, n, h2⟩ => ⟨h1, h2 ▸ below_drewQ w n⟩
/-- a slice of strings, the call's own -/
def StrsIn (B : Nat) (w : World) (v : Value) (xs : List ByteArray) : Prop :=
  ∃ A, v = .slice (some ⟨A, 0, none⟩) xs.length xs.length ∧ B ≤ A ∧ A < w.heap.size ∧ ∀ (i : Nat) x, xs[i]? = some x → w.cell? ⟨A, i, none⟩ = some (.string x)
theorem StrsIn.below {B : Nat} {w w' : World} {v : Value} {xs : List ByteArray} (h : StrsIn B w v xs) (hb : Below w.heap.size w w') : StrsIn B w' v xs := by
  obtain ⟨A, h1, h2, h3, h4⟩ := h
  exact ⟨A, h1, h2, Nat.lt_of_lt_of_le h3 hb.size, fun i x hx => (hb.cell (p := ⟨A, i, none⟩) h3).trans (h4 i x hx)⟩
theorem split_any (s p : ByteArray) (w : World) (hs : s.size < 4294967281) (hm : ML w) (h1 : 1 ≤ p.size) :
    Calls Tryz.prog 42 #[.string s, .string p] w fun e w' => ∃ v, e = .returned v ∧ StrsIn w.heap.size w' v (Lib.splitB p 0 (Lib.countB s p) s) ∧ Below w.heap.size w w' := by
  obtain ⟨⟨m, hm⟩, _⟩ := hm
  refine (Any.strings_Split (ρ := Tryz.lays146_ren) Tryz.lays146 Tryz.infoS9 s p m w hs hm h1).mono fun e w' ⟨h1', h2⟩ => ?_
  have hlen := Lib.splitB_all p h1 0 _ s rfl
  subst h2
  refine ⟨_, h1', ⟨w.heap.size, by rw [hlen], Nat.le_refl _, by simp, fun i x hx => ?_⟩, (Below.refl _ _).alloc (Nat.le_refl _) _⟩
  rw [World.cell?_alloc_at _ _ _ _ rfl, List.getElem?_toArray, List.getElem?_map, hx]; rfl
theorem trim_any (s : ByteArray) (w : World) (hs : s.size ≤ 9223372036854775807) :
    Calls Tryz.prog 45 #[.string s, .string ⟨#[32, 9]⟩] w fun e w' => e = .returned (.string (mkB (trimW s.data.toList))) ∧ Below w.heap.size w w' :=
  Any.strings_Trim_laid (ρ := Tryz.lays160_ren) Tryz.lays160 Tryz.set160 s ⟨#[32, 9]⟩ w hs (by decide) (ascii_of_all (by decide))
theorem trimLeft_any (s : ByteArray) (w : World) :
    Calls Tryz.prog 94 #[.string s, .string ⟨#[32, 9]⟩] w fun e w' => e = .returned (.string (mkB (trimLW s.data.toList))) ∧ Below w.heap.size w w' :=
  Any.strings_TrimLeft_laid (ρ := Tryz.lays161_ren) Tryz.lays161 Tryz.set160 s ⟨#[32, 9]⟩ w (by decide) (ascii_of_all (by decide))
/-- blanks, as runes -/
def blkR (n : Nat) : Bool := n == 32 || n == 9
set_option maxHeartbeats 400000 in
theorem words1_any (x : Nat) (hx : x ≤ 1114111) (w : World) : Calls Tryz.prog 154 #[.int .i32 (x : Int)] w fun e w' => e = .returned (.bool (blkR x)) ∧ w = w' := by
  by_cases h1 : x = 32
  · subst h1
    go_enter Tryz.func154, Tryz.ntmps154
    go_wp2
    go_ret
    exact ⟨rfl, rfl⟩
  · by_cases h2 : x = 9
    · subst h2
      go_enter Tryz.func154, Tryz.ntmps154
      go_wp2
      go_ret
      exact ⟨rfl, rfl⟩
    · have g1 : ((x : Int) == 32) = false := beq_eq_false_iff_ne.2 (by omega)
      have g2 : ((x : Int) == 9) = false := beq_eq_false_iff_ne.2 (by omega)
      have g3 : blkR x = false := by simp [blkR, h1, h2]
      rw [g3]
      clear h1 h2 g3
      go_enter Tryz.func154, Tryz.ntmps154
      go_wp2
      go_ret
      exact ⟨rfl, rfl⟩
set_option maxRecDepth 100000 in
theorem words_any (s : ByteArray) (w : World) (hs : s.size ≤ 4294967296) :
    Calls Tryz.prog 126 #[.string s] w fun e w' => ∃ v, e = .returned v ∧ StrsIn w.heap.size w' v (Lib.goFieldsP blkR s) ∧ Below w.heap.size w w' := by
  have hc := fun w => Any.strings_FieldsFunc_grows (ρ := Tryz.lays229_ren) Tryz.lays229 154 #[] (fun _ _ => rfl) blkR s w hs
    (fun W x hx _ => (words1_any x hx W).mono fun e w' ⟨h1, h2⟩ => ⟨h1, h2 ▸ Below.refl _ _⟩) Tryz.infoSp Tryz.infoS9
  go_enter Tryz.func126, Tryz.ntmps126
  go_wp2_with fail
  refine (hc _).mono ?_
  rintro e w1 ⟨A, rfl, hA, hrow, hb⟩
  have hr := hrow
  obtain ⟨g, cap, cur, he, _, hg, _⟩ := hrow.2.resolve_left (fun h => by cases h.1)
  cases he
  have HS := Lib.hid (show StrsIn w.heap.size w1 _ _ from ⟨A, rfl, hA, (Array.getElem?_eq_some_iff.1 hg).1, fun i x hx => by
    have hc := hr.cells (g := A) rfl i (.string x) (by rw [List.getElem?_map, hx]; rfl)
    have e : ((⟨A, 0, none⟩ : Addr).add i) = ⟨A, i, none⟩ := by
      unfold Addr.add; split
      · rename_i h; rw [h]
      · simp
    rw [e] at hc; exact hc⟩)
  clear hr hrow hg
  go_wp2
  go_ret
  exact ⟨_, rfl, HS.out, hb⟩
end Go.Proofs.YtjbcbejedaeedaaGreatDoor
