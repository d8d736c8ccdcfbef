/-
  DERIVED: THE SHELF's CONTRACTS AT THIS DUMP, IN PLAIN WORDS (tools/lay-plain.mjs out of 'YtbfoocginkdmcaaGreatDoorJt.lean', which tools/lay-shelf.mjs wrote): THE SAME DECLARATIONS UNDER THE SAME NAMES: 'import', 'namespace', 'open', 'def', 'theorem' AND NOTHING ELSE: no command of the shelf's: FOR A HAND-IN. Each laying: the table of numbers ('.._ren') and one theorem, a field a fact of the dump's own or the kernel's comparison; each contract: ONE APPLICATION.
-/
import Derived.Shelf.LaysC
import Derived.Shelf.Strings.Split
import Derived.Shelf.Strings.Prefix
import Derived.Shelf.Strconv.AtoiAll
import Derived.Shelf.Pu.ParseUintPublic10
import Derived.Test.YtbfoocginkdmcaaGreatDoorProg
import Derived.Test.YtbfoocginkdmcaaGreatDoorWF
import Derived.Test.YtbfoocginkdmcaaGreatDoorWD
import Derived.Lib.SplitLaws
import Derived.Test.YtbfoocginkdmcaaGreatDoorWC

namespace Go.Proofs
open Go.Shelf
def Tryz.lays146_ren : Go.Shelf.Ren := ⟨fun | 146 => 23 | 221 => 46 | 268 => 81 | 138 => 82 | 143 => 83 | 195 => 114 | 197 => 115 | 218 => 116 | 219 => 117 | 260 => 177 | 217 => 178 | 225 => 179 | 224 => 180 | 267 => 181 | 266 => 278 | 314 => 279 | n => n, fun | 9 => 9 | 31 => 58 | 3 => 3 | 4 => 4 | 0 => 0 | 105 => 199 | 21 => 21 | 5 => 5 | 46 => 194 | 119 => 422 | 139 => 425 | 138 => 424 | 146 => 426 | 51 => 417 | n => n, fun | 1 => 1 | 3 => 3 | 4 => 4 | n => n⟩
theorem Tryz.lays146 : Go.Proofs.Lays.n146 Tryz.prog Tryz.lays146_ren := {
  mixed := by kernel_rfl
  f138 := Tryz.func82.trans (congrArg some (by kernel_rfl))
  f143 := Tryz.func83.trans (congrArg some (by kernel_rfl))
  f146 := Tryz.func23.trans (congrArg some (by kernel_rfl))
  f195 := Tryz.func114.trans (congrArg some (by kernel_rfl))
  f197 := Tryz.func115.trans (congrArg some (by kernel_rfl))
  f217 := Tryz.func178.trans (congrArg some (by kernel_rfl))
  f218 := Tryz.func116.trans (congrArg some (by kernel_rfl))
  f219 := Tryz.func117.trans (congrArg some (by kernel_rfl))
  f221 := Tryz.func46.trans (congrArg some (by kernel_rfl))
  f224 := Tryz.func180.trans (congrArg some (by kernel_rfl))
  f225 := Tryz.func179.trans (congrArg some (by kernel_rfl))
  f260 := Tryz.func177.trans (congrArg some (by kernel_rfl))
  f266 := Tryz.func278.trans (congrArg some (by kernel_rfl))
  f267 := Tryz.func181.trans (congrArg some (by kernel_rfl))
  f268 := Tryz.func81.trans (congrArg some (by kernel_rfl))
  f314 := Tryz.func279.trans (congrArg some (by kernel_rfl))
  t0 := Tryz.underlying0
  a0 := Tryz.isAgg0
  z0 := Tryz.sizeOf0
  v0 := Tryz.zeroValue0
  t3 := Tryz.underlying3
  a3 := Tryz.isAgg3
  z3 := Tryz.sizeOf3
  v3 := Tryz.zeroValue3
  t4 := Tryz.underlying4
  a4 := Tryz.isAgg4
  z4 := Tryz.sizeOf4
  v4 := Tryz.zeroValue4
  t5 := Tryz.underlying5
  a5 := Tryz.isAgg5
  z5 := Tryz.sizeOf5
  v5 := Tryz.zeroValue5
  t9 := Tryz.underlying9
  a9 := Tryz.isAgg9
  z9 := Tryz.sizeOf9
  v9 := Tryz.zeroValue9
  t21 := Tryz.underlying21
  a21 := Tryz.isAgg21
  z21 := Tryz.sizeOf21
  v21 := Tryz.zeroValue21
  t31 := Tryz.underlying58
  a31 := Tryz.isAgg58
  z31 := Tryz.sizeOf58
  v31 := Tryz.zeroValue58
  t46 := Tryz.underlying194
  a46 := Tryz.isAgg194
  z46 := Tryz.sizeOf194
  v46 := Tryz.zeroValue194
  t51 := Tryz.underlying417
  a51 := Tryz.isAgg417
  z51 := Tryz.sizeOf417
  v51 := Tryz.zeroValue417
  t105 := Tryz.underlying199
  a105 := Tryz.isAgg199
  z105 := Tryz.sizeOf199
  v105 := Tryz.zeroValue199
  t119 := Tryz.underlying422
  a119 := Tryz.isAgg422
  z119 := Tryz.sizeOf422
  t138 := Tryz.underlying424
  a138 := Tryz.isAgg424
  z138 := Tryz.sizeOf424
  v138 := Tryz.zeroValue424
  t139 := Tryz.underlying425
  a139 := Tryz.isAgg425
  z139 := Tryz.sizeOf425
  v139 := Tryz.zeroValue425
  t146 := Tryz.underlying426
  a146 := Tryz.isAgg426
  z146 := Tryz.sizeOf426
  v146 := Tryz.zeroValue426
  g1 := by kernel_rfl
  g3 := by kernel_rfl
  g4 := by kernel_rfl }
def Tryz.lays102_ren : Go.Shelf.Ren := ⟨fun | 102 => 24 | 209 => 47 | 207 => 84 | n => n, fun | 9 => 9 | 4 => 4 | 3 => 3 | n => n, fun | n => n⟩
theorem Tryz.lays102 : Go.Proofs.Lays.n102 Tryz.prog Tryz.lays102_ren := {
  mixed := by kernel_rfl
  f102 := Tryz.func24.trans (congrArg some (by kernel_rfl))
  f207 := Tryz.func84.trans (congrArg some (by kernel_rfl))
  f209 := Tryz.func47.trans (congrArg some (by kernel_rfl))
  t3 := Tryz.underlying3
  a3 := Tryz.isAgg3
  z3 := Tryz.sizeOf3
  v3 := Tryz.zeroValue3
  t4 := Tryz.underlying4
  a4 := Tryz.isAgg4
  z4 := Tryz.sizeOf4
  v4 := Tryz.zeroValue4
  t9 := Tryz.underlying9
  a9 := Tryz.isAgg9
  z9 := Tryz.sizeOf9
  v9 := Tryz.zeroValue9 }
def Tryz.laysC172_ren : Go.Shelf.Ren := ⟨fun | 172 => 87 | 244 => 121 | 245 => 120 | 247 => 189 | 279 => 185 | 280 => 186 | 281 => 187 | 282 => 188 | 287 => 119 | 316 => 280 | 171 => 43 | 205 => 281 | 321 => 183 | 322 => 184 | 243 => 79 | 246 => 111 | 283 => 172 | 284 => 173 | 285 => 174 | 286 => 175 | 129 => 273 | 317 => 272 | 318 => 274 | 319 => 275 | 320 => 276 | 337 => 377 | 338 => 378 | n => n, fun | 9 => 9 | 3 => 3 | 75 => 87 | 76 => 88 | 4 => 4 | 5 => 5 | 167 => 313 | 37 => 30 | 0 => 0 | 85 => 318 | 2 => 2 | 168 => 315 | 53 => 31 | 175 => 149 | 46 => 194 | 210 => 429 | 127 => 142 | 145 => 543 | 143 => 541 | 21 => 21 | 171 => 308 | 173 => 311 | 212 => 416 | 51 => 417 | 20 => 20 | 213 => 418 | 232 => 446 | 233 => 548 | 80 => 92 | n => n, fun | 15 => 5 | 16 => 6 | 17 => 2 | 18 => 9 | 19 => 10 | n => n⟩
theorem Tryz.laysC172 : Go.Proofs.LaysC.n172 Tryz.prog Tryz.laysC172_ren := {
  mixed := by kernel_rfl
  f129 := Tryz.func273.trans (congrArg some (by kernel_rfl))
  f171 := Tryz.func43.trans (congrArg some (by kernel_rfl))
  f172 := Tryz.func87.trans (congrArg some (by kernel_rfl))
  f205 := Tryz.func281.trans (congrArg some (by kernel_rfl))
  f243 := Tryz.func79.trans (congrArg some (by kernel_rfl))
  f244 := Tryz.func121.trans (congrArg some (by kernel_rfl))
  f245 := Tryz.func120.trans (congrArg some (by kernel_rfl))
  f246 := Tryz.func111.trans (congrArg some (by kernel_rfl))
  f247 := Tryz.func189.trans (congrArg some (by kernel_rfl))
  f279 := Tryz.func185.trans (congrArg some (by kernel_rfl))
  f280 := Tryz.func186.trans (congrArg some (by kernel_rfl))
  f281 := Tryz.func187.trans (congrArg some (by kernel_rfl))
  f282 := Tryz.func188.trans (congrArg some (by kernel_rfl))
  f283 := Tryz.func172.trans (congrArg some (by kernel_rfl))
  f284 := Tryz.func173.trans (congrArg some (by kernel_rfl))
  f285 := Tryz.func174.trans (congrArg some (by kernel_rfl))
  f286 := Tryz.func175.trans (congrArg some (by kernel_rfl))
  f287 := Tryz.func119.trans (congrArg some (by kernel_rfl))
  f316 := Tryz.func280.trans (congrArg some (by kernel_rfl))
  f317 := Tryz.func272.trans (congrArg some (by kernel_rfl))
  f318 := Tryz.func274.trans (congrArg some (by kernel_rfl))
  f319 := Tryz.func275.trans (congrArg some (by kernel_rfl))
  f320 := Tryz.func276.trans (congrArg some (by kernel_rfl))
  f321 := Tryz.func183.trans (congrArg some (by kernel_rfl))
  f322 := Tryz.func184.trans (congrArg some (by kernel_rfl))
  f337 := Tryz.func377.trans (congrArg some (by kernel_rfl))
  f338 := Tryz.func378.trans (congrArg some (by kernel_rfl))
  t0 := Tryz.underlying0
  a0 := Tryz.isAgg0
  z0 := Tryz.sizeOf0
  v0 := Tryz.zeroValue0
  t2 := Tryz.underlying2
  a2 := Tryz.isAgg2
  z2 := Tryz.sizeOf2
  v2 := Tryz.zeroValue2
  t3 := Tryz.underlying3
  a3 := Tryz.isAgg3
  z3 := Tryz.sizeOf3
  v3 := Tryz.zeroValue3
  t4 := Tryz.underlying4
  a4 := Tryz.isAgg4
  z4 := Tryz.sizeOf4
  v4 := Tryz.zeroValue4
  t5 := Tryz.underlying5
  a5 := Tryz.isAgg5
  z5 := Tryz.sizeOf5
  v5 := Tryz.zeroValue5
  t9 := Tryz.underlying9
  a9 := Tryz.isAgg9
  z9 := Tryz.sizeOf9
  v9 := Tryz.zeroValue9
  t20 := Tryz.underlying20
  a20 := Tryz.isAgg20
  z20 := Tryz.sizeOf20
  v20 := Tryz.zeroValue20
  t21 := Tryz.underlying21
  a21 := Tryz.isAgg21
  z21 := Tryz.sizeOf21
  v21 := Tryz.zeroValue21
  t37 := Tryz.underlying30
  a37 := Tryz.isAgg30
  z37 := Tryz.sizeOf30
  v37 := Tryz.zeroValue30
  t46 := Tryz.underlying194
  a46 := Tryz.isAgg194
  z46 := Tryz.sizeOf194
  v46 := Tryz.zeroValue194
  t51 := Tryz.underlying417
  a51 := Tryz.isAgg417
  z51 := Tryz.sizeOf417
  v51 := Tryz.zeroValue417
  t53 := Tryz.underlying31
  a53 := Tryz.isAgg31
  z53 := Tryz.sizeOf31
  v53 := Tryz.zeroValue31
  t75 := Tryz.underlying87
  a75 := Tryz.isAgg87
  z75 := Tryz.sizeOf87
  v75 := Tryz.zeroValue87
  t76 := Tryz.underlying88
  a76 := Tryz.isAgg88
  z76 := Tryz.sizeOf88
  v76 := Tryz.zeroValue88
  t85 := Tryz.underlying318
  a85 := Tryz.isAgg318
  z85 := Tryz.sizeOf318
  v85 := Tryz.zeroValue318
  t127 := Tryz.underlying142
  a127 := Tryz.isAgg142
  z127 := Tryz.sizeOf142
  v127 := Tryz.zeroValue142
  t143 := Tryz.underlying541
  a143 := Tryz.isAgg541
  z143 := Tryz.sizeOf541
  v143 := Tryz.zeroValue541
  t145 := Tryz.underlying543
  a145 := Tryz.isAgg543
  z145 := Tryz.sizeOf543
  v145 := Tryz.zeroValue543
  t167 := Tryz.underlying313
  a167 := Tryz.isAgg313
  z167 := Tryz.sizeOf313
  v167 := Tryz.zeroValue313
  t168 := Tryz.underlying315
  a168 := Tryz.isAgg315
  z168 := Tryz.sizeOf315
  v168 := Tryz.zeroValue315
  t171 := Tryz.underlying308
  a171 := Tryz.isAgg308
  z171 := Tryz.sizeOf308
  v171 := Tryz.zeroValue308
  t173 := Tryz.underlying311
  a173 := Tryz.isAgg311
  z173 := Tryz.sizeOf311
  v173 := Tryz.zeroValue311
  t175 := Tryz.underlying149
  a175 := Tryz.isAgg149
  z175 := Tryz.sizeOf149
  v175 := Tryz.zeroValue149
  t210 := Tryz.underlying429
  a210 := Tryz.isAgg429
  z210 := Tryz.sizeOf429
  v210 := Tryz.zeroValue429
  t212 := Tryz.underlying416
  a212 := Tryz.isAgg416
  z212 := Tryz.sizeOf416
  v212 := Tryz.zeroValue416
  t213 := Tryz.underlying418
  a213 := Tryz.isAgg418
  z213 := Tryz.sizeOf418
  t232 := Tryz.underlying446
  a232 := Tryz.isAgg446
  z232 := Tryz.sizeOf446
  v232 := Tryz.zeroValue446
  t233 := Tryz.underlying548
  a233 := Tryz.isAgg548
  z233 := Tryz.sizeOf548
  v233 := Tryz.zeroValue548
  g15 := by kernel_rfl
  g16 := by kernel_rfl
  g17 := by kernel_rfl
  g18 := by kernel_rfl
  g19 := by kernel_rfl
  t80 := Tryz.underlying92
  a80 := Tryz.isAgg92
  z80 := Tryz.sizeOf92
  v80 := Tryz.zeroValue92
  i0 := by kernel_rfl
  i2 := by kernel_rfl
  i3 := by kernel_rfl
  i4 := by kernel_rfl
  i5 := by kernel_rfl
  i9 := by kernel_rfl
  i20 := by kernel_rfl
  i21 := by kernel_rfl
  i37 := by kernel_rfl
  i46 := by kernel_rfl
  i51 := by kernel_rfl
  i53 := by kernel_rfl
  i75 := by kernel_rfl
  i76 := by kernel_rfl
  i80 := by kernel_rfl
  i85 := by kernel_rfl
  i127 := by kernel_rfl
  i143 := by kernel_rfl
  i145 := by kernel_rfl
  i167 := by kernel_rfl
  i168 := by kernel_rfl
  i171 := by kernel_rfl
  i173 := by kernel_rfl
  i175 := by kernel_rfl
  i210 := by kernel_rfl
  i212 := by kernel_rfl
  i232 := by kernel_rfl
  i233 := by kernel_rfl
  m15 := by kernel_rfl
  m16 := by kernel_rfl
  m17 := by kernel_rfl
  m18 := by kernel_rfl
  m19 := by kernel_rfl
  c0 := by kernel_rfl
  c2 := by kernel_rfl
  c3 := by kernel_rfl
  c4 := by kernel_rfl
  c5 := by kernel_rfl
  c9 := by kernel_rfl
  c20 := by kernel_rfl
  c21 := by kernel_rfl
  c37 := by kernel_rfl
  c46 := by kernel_rfl
  c51 := by kernel_rfl
  c53 := by kernel_rfl
  c75 := by kernel_rfl
  c76 := by kernel_rfl
  c80 := by kernel_rfl
  c85 := by kernel_rfl
  c127 := by kernel_rfl
  c143 := by kernel_rfl
  c145 := by kernel_rfl
  c167 := by kernel_rfl
  c168 := by kernel_rfl
  c171 := by kernel_rfl
  c173 := by kernel_rfl
  c175 := by kernel_rfl
  c210 := by kernel_rfl
  c212 := by kernel_rfl
  c213 := by kernel_rfl
  c232 := by kernel_rfl
  c233 := by kernel_rfl }
def Tryz.laysPu14_ren : Go.Shelf.Ren := ⟨fun | 14 => 86 | 16 => 119 | 17 => 120 | 19 => 183 | 20 => 184 | 21 => 185 | 22 => 186 | 23 => 187 | 24 => 188 | 25 => 280 | 27 => 43 | 26 => 281 | 28 => 79 | 29 => 111 | 30 => 172 | 31 => 173 | 32 => 174 | 33 => 175 | 35 => 273 | 34 => 272 | 36 => 274 | 37 => 275 | 38 => 276 | 39 => 377 | 40 => 378 | n => n, fun | 9 => 9 | 3 => 3 | 22 => 31 | 24 => 87 | 25 => 149 | 4 => 4 | 34 => 313 | 5 => 5 | 36 => 194 | 37 => 30 | 0 => 0 | 39 => 315 | 21 => 21 | 44 => 429 | 47 => 142 | 50 => 543 | 48 => 541 | 2 => 2 | 52 => 308 | 55 => 311 | 59 => 416 | 60 => 417 | 20 => 20 | 61 => 418 | 65 => 446 | 66 => 548 | 67 => 92 | n => n, fun | 0 => 5 | 1 => 6 | 2 => 2 | 3 => 9 | 4 => 10 | n => n⟩
theorem Tryz.laysPu14 : Go.Proofs.LaysPu.n14 Tryz.prog Tryz.laysPu14_ren := {
  mixed := by kernel_rfl
  f14 := Tryz.func86.trans (congrArg some (by kernel_rfl))
  f16 := Tryz.func119.trans (congrArg some (by kernel_rfl))
  f17 := Tryz.func120.trans (congrArg some (by kernel_rfl))
  f19 := Tryz.func183.trans (congrArg some (by kernel_rfl))
  f20 := Tryz.func184.trans (congrArg some (by kernel_rfl))
  f21 := Tryz.func185.trans (congrArg some (by kernel_rfl))
  f22 := Tryz.func186.trans (congrArg some (by kernel_rfl))
  f23 := Tryz.func187.trans (congrArg some (by kernel_rfl))
  f24 := Tryz.func188.trans (congrArg some (by kernel_rfl))
  f25 := Tryz.func280.trans (congrArg some (by kernel_rfl))
  f26 := Tryz.func281.trans (congrArg some (by kernel_rfl))
  f27 := Tryz.func43.trans (congrArg some (by kernel_rfl))
  f28 := Tryz.func79.trans (congrArg some (by kernel_rfl))
  f29 := Tryz.func111.trans (congrArg some (by kernel_rfl))
  f30 := Tryz.func172.trans (congrArg some (by kernel_rfl))
  f31 := Tryz.func173.trans (congrArg some (by kernel_rfl))
  f32 := Tryz.func174.trans (congrArg some (by kernel_rfl))
  f33 := Tryz.func175.trans (congrArg some (by kernel_rfl))
  f34 := Tryz.func272.trans (congrArg some (by kernel_rfl))
  f35 := Tryz.func273.trans (congrArg some (by kernel_rfl))
  f36 := Tryz.func274.trans (congrArg some (by kernel_rfl))
  f37 := Tryz.func275.trans (congrArg some (by kernel_rfl))
  f38 := Tryz.func276.trans (congrArg some (by kernel_rfl))
  f39 := Tryz.func377.trans (congrArg some (by kernel_rfl))
  f40 := Tryz.func378.trans (congrArg some (by kernel_rfl))
  t0 := Tryz.underlying0
  a0 := Tryz.isAgg0
  z0 := Tryz.sizeOf0
  v0 := Tryz.zeroValue0
  i0 := by kernel_rfl
  t2 := Tryz.underlying2
  a2 := Tryz.isAgg2
  z2 := Tryz.sizeOf2
  v2 := Tryz.zeroValue2
  i2 := by kernel_rfl
  t3 := Tryz.underlying3
  a3 := Tryz.isAgg3
  z3 := Tryz.sizeOf3
  v3 := Tryz.zeroValue3
  i3 := by kernel_rfl
  t4 := Tryz.underlying4
  a4 := Tryz.isAgg4
  z4 := Tryz.sizeOf4
  v4 := Tryz.zeroValue4
  i4 := by kernel_rfl
  t5 := Tryz.underlying5
  a5 := Tryz.isAgg5
  z5 := Tryz.sizeOf5
  v5 := Tryz.zeroValue5
  i5 := by kernel_rfl
  t9 := Tryz.underlying9
  a9 := Tryz.isAgg9
  z9 := Tryz.sizeOf9
  v9 := Tryz.zeroValue9
  i9 := by kernel_rfl
  t20 := Tryz.underlying20
  a20 := Tryz.isAgg20
  z20 := Tryz.sizeOf20
  v20 := Tryz.zeroValue20
  i20 := by kernel_rfl
  t21 := Tryz.underlying21
  a21 := Tryz.isAgg21
  z21 := Tryz.sizeOf21
  v21 := Tryz.zeroValue21
  i21 := by kernel_rfl
  t22 := Tryz.underlying31
  a22 := Tryz.isAgg31
  z22 := Tryz.sizeOf31
  v22 := Tryz.zeroValue31
  i22 := by kernel_rfl
  t24 := Tryz.underlying87
  a24 := Tryz.isAgg87
  z24 := Tryz.sizeOf87
  v24 := Tryz.zeroValue87
  i24 := by kernel_rfl
  t25 := Tryz.underlying149
  a25 := Tryz.isAgg149
  z25 := Tryz.sizeOf149
  v25 := Tryz.zeroValue149
  i25 := by kernel_rfl
  t34 := Tryz.underlying313
  a34 := Tryz.isAgg313
  z34 := Tryz.sizeOf313
  v34 := Tryz.zeroValue313
  i34 := by kernel_rfl
  c34 := by kernel_rfl
  t36 := Tryz.underlying194
  a36 := Tryz.isAgg194
  z36 := Tryz.sizeOf194
  v36 := Tryz.zeroValue194
  i36 := by kernel_rfl
  t37 := Tryz.underlying30
  a37 := Tryz.isAgg30
  z37 := Tryz.sizeOf30
  v37 := Tryz.zeroValue30
  i37 := by kernel_rfl
  t39 := Tryz.underlying315
  a39 := Tryz.isAgg315
  z39 := Tryz.sizeOf315
  v39 := Tryz.zeroValue315
  i39 := by kernel_rfl
  t44 := Tryz.underlying429
  a44 := Tryz.isAgg429
  z44 := Tryz.sizeOf429
  v44 := Tryz.zeroValue429
  i44 := by kernel_rfl
  t47 := Tryz.underlying142
  a47 := Tryz.isAgg142
  z47 := Tryz.sizeOf142
  v47 := Tryz.zeroValue142
  i47 := by kernel_rfl
  t48 := Tryz.underlying541
  a48 := Tryz.isAgg541
  z48 := Tryz.sizeOf541
  v48 := Tryz.zeroValue541
  i48 := by kernel_rfl
  t50 := Tryz.underlying543
  a50 := Tryz.isAgg543
  z50 := Tryz.sizeOf543
  v50 := Tryz.zeroValue543
  i50 := by kernel_rfl
  t52 := Tryz.underlying308
  a52 := Tryz.isAgg308
  z52 := Tryz.sizeOf308
  v52 := Tryz.zeroValue308
  i52 := by kernel_rfl
  t55 := Tryz.underlying311
  a55 := Tryz.isAgg311
  z55 := Tryz.sizeOf311
  v55 := Tryz.zeroValue311
  i55 := by kernel_rfl
  t59 := Tryz.underlying416
  a59 := Tryz.isAgg416
  z59 := Tryz.sizeOf416
  v59 := Tryz.zeroValue416
  i59 := by kernel_rfl
  t60 := Tryz.underlying417
  a60 := Tryz.isAgg417
  z60 := Tryz.sizeOf417
  v60 := Tryz.zeroValue417
  i60 := by kernel_rfl
  t61 := Tryz.underlying418
  a61 := Tryz.isAgg418
  z61 := Tryz.sizeOf418
  t65 := Tryz.underlying446
  a65 := Tryz.isAgg446
  z65 := Tryz.sizeOf446
  v65 := Tryz.zeroValue446
  i65 := by kernel_rfl
  t66 := Tryz.underlying548
  a66 := Tryz.isAgg548
  z66 := Tryz.sizeOf548
  v66 := Tryz.zeroValue548
  i66 := by kernel_rfl
  t67 := Tryz.underlying92
  a67 := Tryz.isAgg92
  z67 := Tryz.sizeOf92
  v67 := Tryz.zeroValue92
  i67 := by kernel_rfl
  g0 := by kernel_rfl
  m0 := by kernel_rfl
  g1 := by kernel_rfl
  m1 := by kernel_rfl
  g2 := by kernel_rfl
  m2 := by kernel_rfl
  g3 := by kernel_rfl
  m3 := by kernel_rfl
  g4 := by kernel_rfl
  m4 := by kernel_rfl }
end Go.Proofs

/-
  The library's numbers read: strconv.ParseUint, strconv.Atoi; strings.Split, strings.TrimSuffix.
-/

set_option linter.unusedVariables false
set_option maxRecDepth 100000
set_option maxHeartbeats 2000000
namespace Go.Proofs.YtbfoocginkdmcaaGreatDoor
open Go Go.RowKit Go.ArgS Go.Basic Go.Scr Go.Lib
def Errs (w : World) : Prop := (∃ te pe, w.cell? ⟨5, 0, none⟩ = some (.iface te pe)) ∧ ∃ te pe, w.cell? ⟨6, 0, none⟩ = some (.iface te pe)
theorem parseUint_ok (s : ByteArray) (u : Nat) (hs : s.size ≤ 2000000) (h : parseUintB 64 s.data.toList = .ok u) (w : World) :
    Calls Tryz.prog 86 #[.string s, .int .i64 10, .int .i64 64] w fun e w' => e = .returned (.tuple #[.int .u64 u, .nilIface]) ∧ Below w.heap.size w w' := by
  refine (Any.strconv_ParseUint_10_at64_ok { Tryz.laysPu14 with } s (by omega) u h w).mono ?_
  rintro e w' ⟨rfl, hw⟩
  refine ⟨rfl, ?_⟩
  rcases hw with rfl | rfl
  · exact Below.refl _ _
  · exact bytesWorld_below _ _ _
theorem parseUint_bad (s : ByteArray) (hs : s.size ≤ 2000000) (h : ∀ u, parseUintB 64 s.data.toList ≠ .ok u) (w : World) (he : Errs w) :
    Calls Tryz.prog 86 #[.string s, .int .i64 10, .int .i64 64] w fun e w' => ∃ (n : Nat) (t : TypeId) (v : Value), e = .returned (.tuple #[.int .u64 n, .iface t v]) ∧ n < 18446744073709551616 ∧ Below w.heap.size w w' := by
  obtain ⟨⟨te, pe, h5⟩, ⟨te', pe', h6⟩⟩ := he
  cases hc : parseUintB 64 s.data.toList with
  | ok u => exact absurd hc (h u)
  | range =>
    refine (Any.strconv_ParseUint_10_at64_range { Tryz.laysPu14 with } s (by omega) hc _ w h6 (.inr ⟨te', pe', rfl⟩)).mono ?_
    rintro e w' ⟨N, rfl, _, _, hb⟩
    exact ⟨18446744073709551615, _, _, rfl, by decide, hb⟩
  | _ =>
    refine (Any.strconv_ParseUint_10_at64_syntax { Tryz.laysPu14 with } s (by omega) hc _ w h5 (.inr ⟨te, pe, rfl⟩)).mono ?_
    rintro e w' ⟨N, rfl, _, _, hb⟩
    exact ⟨0, _, _, rfl, by decide, hb⟩
theorem atoi_ok (s : ByteArray) (v : Int) (hs : s.size ≤ 2000000) (h : atoiAll s.data.toList = .ok v) (w : World) :
    Calls Tryz.prog 87 #[.string s] w fun e w' => e = .returned (.tuple #[.int .i64 v, .nilIface]) ∧ Below w.heap.size w w' := by
  refine (Any.strconv_Atoi_ok { Tryz.laysC172 with } s (by omega) v h w).mono ?_
  rintro e w' ⟨rfl, hw⟩
  refine ⟨rfl, ?_⟩
  rcases hw with rfl | ⟨t, rfl⟩
  · exact Below.refl _ _
  · exact bytesWorld_below _ _ _
theorem atoi_bad (s : ByteArray) (hs : s.size ≤ 2000000) (h : ∀ v, atoiAll s.data.toList ≠ .ok v) (w : World) (he : Errs w) :
    Calls Tryz.prog 87 #[.string s] w fun e w' => ∃ (n : Int) (t : TypeId) (v : Value), e = .returned (.tuple #[.int .i64 n, .iface t v]) ∧ -9223372036854775808 ≤ n ∧ n ≤ 9223372036854775807 ∧ Below w.heap.size w w' := by
  obtain ⟨⟨te, pe, h5⟩, ⟨te', pe', h6⟩⟩ := he
  cases hc : atoiAll s.data.toList with
  | ok u => exact absurd hc (h u)
  | range =>
    refine (Any.strconv_Atoi_range { Tryz.laysC172 with } s (by omega) hc _ w h6 (.inr ⟨te', pe', rfl⟩)).mono ?_
    rintro e w' ⟨N, rfl, _, _, hb⟩
    exact ⟨_, _, _, rfl, (atoiSat_bounds _).1, (atoiSat_bounds _).2, hb⟩
  | _ =>
    refine (Any.strconv_Atoi_syntax { Tryz.laysC172 with } s (by omega) hc _ w h5 (.inr ⟨te, pe, rfl⟩)).mono ?_
    rintro e w' ⟨N, rfl, _, _, hb⟩
    exact ⟨0, _, _, rfl, by decide, by decide, hb⟩
theorem inf9t : (Tryz.prog.info? 9).map (fun i => (i.zero, i.size, i.bytes)) = some (some (.string ByteArray.empty), 1, 16) := by kernel_rfl
def piecesB (c : UInt8) (s : ByteArray) : List ByteArray := splitB ⟨#[c]⟩ 0 (countB s ⟨#[c]⟩) s
theorem pieces_data (c : UInt8) (s : ByteArray) : (piecesB c s).map (·.data.toList) = cutAt c s.data.toList := by
  unfold piecesB
  rw [splitB_data]
  exact splitK_cut c s.data.toList
theorem pieces_length (c : UInt8) (s : ByteArray) : (piecesB c s).length = countB s ⟨#[c]⟩ + 1 := splitB_all ⟨#[c]⟩ (Nat.le_refl 1) 0 _ s rfl
theorem split_calls (c : UInt8) (s : ByteArray) (hs : s.size ≤ 2000000) (w : World) (hm : ∃ m, w.cell? ⟨1, 0, none⟩ = some (.int .i64 m)) :
    Calls Tryz.prog 23 #[.string s, .string ⟨#[c]⟩] w fun e w' => e = .returned (.slice (some ⟨w.heap.size, 0, none⟩) (piecesB c s).length (piecesB c s).length) ∧ w' = w.alloc (.cells ((piecesB c s).map Value.string).toArray 9) := by
  obtain ⟨m, hm⟩ := hm
  refine (Any.strings_Split { Tryz.lays146 with } inf9t s ⟨#[c]⟩ m w (by omega) hm (Nat.le_refl 1)).mono ?_
  rintro e w' ⟨rfl, rfl⟩
  rw [pieces_length]
  exact ⟨rfl, rfl⟩
theorem trim_calls (s : ByteArray) (hs : s.size ≤ 2000000) (w : World) :
    Calls Tryz.prog 24 #[.string s, .string ⟨#[10]⟩] w fun e w' => e = .returned (.string ⟨(trimSuffix s.data.toList [10]).toArray⟩) ∧ w' = w :=
  Any.strings_TrimSuffix { Tryz.lays102 with } s ⟨#[10]⟩ w (by omega)
end Go.Proofs.YtbfoocginkdmcaaGreatDoor

/-
  The server's reader of a line: its next word as a time, as an int.
-/

namespace Go.Proofs.YtbfoocginkdmcaaGreatDoor
open Go Go.RowKit Go.ArgS Go.Basic Go.Scr Go.Lib
def Env (w : World) (b : Nat) : Prop := ∀ w', w.grownBy w' (some b) → Tab w' ∧ Errs w'
theorem Env.step {w w1 : World} {b : Nat} (h : Env w b) (g : w.grownBy w1 (some b)) : Env w1 b := fun w' g' => h w' (grown_trans g g')
theorem Env.below {w w1 : World} {b : Nat} (h : Env w b) (g : Below w.heap.size w w1) : Env w1 b := h.step (grown_of_below _ g)
theorem Env.tab {w : World} {b : Nat} (h : Env w b) : Tab w := (h w (grown_refl _ _)).1
theorem Env.errs {w : World} {b : Nat} (h : Env w b) : Errs w := (h w (grown_refl _ _)).2
theorem str_test {a b : ByteArray} {l m : List UInt8} (ha : a.data.toList = l) (hb : b.data.toList = m) : (a.toList == b.toList) = decide (l = m) := by
  rw [ByteArray.toList_eq, ByteArray.toList_eq, ha, hb]
  by_cases h : l = m
  · simp [h]
  · simp [h]
def TimeOut (w : World) (b g : Nat) (x : ByteArray) (r : List ByteArray) (bad : Bool) (e : Ending) (w' : World) : Prop :=
  ∃ n : Nat, e = .returned (.int .u64 n) ∧ n < 18446744073709551616 ∧ w.grownBy w' (some b) ∧
    ((numOf x.data.toList = none ∧ Rd w' b g r true) ∨ (numOf x.data.toList = some n ∧ Rd w' b g r bad))
theorem timeOf_ok {l : List UInt8} {u : Nat} (h : parseUintB 64 l = .ok u) : numOf l = if decDigits u = l then some u else none := by
  rw [← time_num, timeOf, h]
theorem timeOf_bad {l : List UInt8} (h : ∀ u, parseUintB 64 l ≠ .ok u) : numOf l = none := by
  rw [← time_num, timeOf]
  cases hc : parseUintB 64 l with
  | ok u => exact absurd hc (h u)
  | range => rfl
  | _ => rfl
theorem time_calls (b g : Nat) (x : ByteArray) (r : List ByteArray) (bad : Bool) (w : World) (hx : x.size ≤ 2000000) (hb : b < w.heap.size) (hE : Env w b)
    (hw : Calls Tryz.prog 48 #[.pointer (some ⟨b, 0, none⟩)] w fun e w' => e = .returned (.string x) ∧ Rd w' b g r bad ∧ w.grownBy w' (some b)) :
    Calls Tryz.prog 50 #[.pointer (some ⟨b, 0, none⟩)] w (TimeOut w b g x r bad) := by
  cases hc : parseUintB 64 x.data.toList with
  | ok u =>
    have hu : u < 18446744073709551616 := by have := parseUintB_le hc; omega
    have hf := fun W => parseUint_ok x u hx hc W
    have hn := timeOf_ok hc
    by_cases hd : decDigits u = x.data.toList
    · rw [if_pos hd] at hn
      have hnh : Hid (numOf x.data.toList = some u) := hn
      have hdh : Hid (decDigits u = x.data.toList) := hd
      clear hc hn hd
      go_enter Tryz.func50, Tryz.ntmps50
      go_wp2_with (first
        | (go_at_call 48; refine hw.mono ?_; clear hw; rintro e w1 ⟨rfl, hR, hg⟩)
        | (go_at_call 86; refine (hf _).mono ?_; clear hf; rintro e w2 ⟨rfl, hb2⟩; (have hR2 := hR.below hb2); (have g2 := grown_trans hg (grown_of_below (some b) hb2)); clear hb2 hR hg)
        | (go_at_call 74; refine (formatB_calls u hu w2 (hE.step g2).tab).mono ?_; rintro e w3 ⟨S, rfl, hS, hb3⟩; (have hR3 := hR2.below hb3); (have g3 := grown_trans g2 (grown_of_below (some b) hb3)); (have ht : (S.toList == x.toList) = true := by (rw [str_test hS rfl, show decDigits u = x.data.toList from hdh]; simp)); (have ht' : (S.toList != x.toList) = false := by (unfold bne; rw [ht]; rfl)); clear hS hb3 hR2 g2))
      go_ret
      unfold TimeOut
      exact ⟨u, rfl, hu, g3, .inr ⟨hnh, hR3⟩⟩
    · rw [if_neg hd] at hn
      have hnh : Hid (numOf x.data.toList = none) := hn
      have hdh : Hid (¬ decDigits u = x.data.toList) := hd
      clear hc hn hd
      go_enter Tryz.func50, Tryz.ntmps50
      go_wp2_with (first
        | (go_at_call 48; refine hw.mono ?_; clear hw; rintro e w1 ⟨rfl, hR, hg⟩)
        | (go_at_call 86; refine (hf _).mono ?_; clear hf; rintro e w2 ⟨rfl, hb2⟩; (have hR2 := hR.below hb2); (have g2 := grown_trans hg (grown_of_below (some b) hb2)); clear hb2 hR hg)
        | (go_at_call 74; refine (formatB_calls u hu w2 (hE.step g2).tab).mono ?_; rintro e w3 ⟨S, rfl, hS, hb3⟩; (have hR3 := hR2.below hb3); (have g3 := grown_set' (grown_trans g2 (grown_of_below (some b) hb3)) 1 (.bool true)); (have hS3 := hR3.spoil); (obtain ⟨o, hB, _⟩ := hR3); (have c1 := hB.at 1 rfl); (have f1 := hB.2.2 1); (have ht : (S.toList == x.toList) = false := by (rw [str_test hS rfl]; exact decide_eq_false hdh)); (have ht' : (S.toList != x.toList) = true := by (unfold bne; rw [ht]; rfl)); clear hS hb3 hR2 g2 hB))
      go_ret
      unfold TimeOut
      exact ⟨u, rfl, hu, g3, .inl ⟨hnh, hS3⟩⟩
  | _ =>
    have hne : ∀ u, parseUintB 64 x.data.toList ≠ .ok u := by intro u e; rw [hc] at e; cases e
    have hnh : Hid (numOf x.data.toList = none) := timeOf_bad hne
    have hf := fun W h => parseUint_bad x hx hne W h
    clear hc hne
    go_enter Tryz.func50, Tryz.ntmps50
    go_wp2_with (first
      | (go_at_call 48; refine hw.mono ?_; clear hw; rintro e w1 ⟨rfl, hR, hg⟩)
      | (go_at_call 86; refine (hf w1 (hE.step hg).errs).mono ?_; clear hf; rintro e w2 ⟨n, t, v, rfl, hn, hb2⟩; (have hR2 := hR.below hb2); (have g2 := grown_set' (grown_trans hg (grown_of_below (some b) hb2)) 1 (.bool true)); (have hS2 := hR2.spoil); (obtain ⟨o, hB, _⟩ := hR2); (have c1 := hB.at 1 rfl); (have f1 := hB.2.2 1); clear hb2 hR hg hB))
    go_ret
    unfold TimeOut
    exact ⟨n, rfl, hn, g2, .inl ⟨hnh, hS2⟩⟩
def IntOut (w : World) (b g : Nat) (x : ByteArray) (r : List ByteArray) (bad : Bool) (e : Ending) (w' : World) : Prop :=
  ∃ n : Int, e = .returned (.int .i64 n) ∧ w.grownBy w' (some b) ∧
    ((zOf x.data.toList = none ∧ Rd w' b g r true) ∨ (zOf x.data.toList = some n ∧ Rd w' b g r bad))
theorem intOf_ok {l : List UInt8} {v : Int} (h : atoiAll l = .ok v) : zOf l = if itoa v = l then some v else none := by
  rw [← int_z, intOf', h]
theorem intOf_bad {l : List UInt8} (h : ∀ v, atoiAll l ≠ .ok v) : zOf l = none := by
  rw [← int_z, intOf']
  cases hc : atoiAll l with
  | ok u => exact absurd hc (h u)
  | range => rfl
  | _ => rfl
theorem int_calls (b g : Nat) (x : ByteArray) (r : List ByteArray) (bad : Bool) (w : World) (hx : x.size ≤ 2000000) (hb : b < w.heap.size) (hE : Env w b)
    (hw : Calls Tryz.prog 48 #[.pointer (some ⟨b, 0, none⟩)] w fun e w' => e = .returned (.string x) ∧ Rd w' b g r bad ∧ w.grownBy w' (some b)) :
    Calls Tryz.prog 51 #[.pointer (some ⟨b, 0, none⟩), .int .i64 (-9223372036854775808)] w (IntOut w b g x r bad) := by
  cases hc : atoiAll x.data.toList with
  | ok v =>
    have hv := atoiAll_bounds hc
    have hf := fun W => atoi_ok x v hx hc W
    have hn := intOf_ok hc
    have hv0 : ¬ v < -9223372036854775808 := by omega
    obtain ⟨hv1, hv2⟩ := hv
    by_cases hd : itoa v = x.data.toList
    · rw [if_pos hd] at hn
      have hnh : Hid (zOf x.data.toList = some v) := hn
      have hdh : Hid (itoa v = x.data.toList) := hd
      clear hc hn hd
      go_enter Tryz.func51, Tryz.ntmps51
      go_wp2_with (first
        | (go_at_call 48; refine hw.mono ?_; clear hw; rintro e w1 ⟨rfl, hR, hg⟩)
        | (go_at_call 87; refine (hf _).mono ?_; clear hf; rintro e w2 ⟨rfl, hb2⟩; (have hR2 := hR.below hb2); (have g2 := grown_trans hg (grown_of_below (some b) hb2)); clear hb2 hR hg)
        | (go_at_call 43; refine (itoaB_calls v hv1 hv2 w2 (hE.step g2).tab).mono ?_; rintro e w3 ⟨S, rfl, hS, hb3⟩; (have hR3 := hR2.below hb3); (have g3 := grown_trans g2 (grown_of_below (some b) hb3)); (have ht : (S.toList == x.toList) = true := by (rw [str_test hS rfl, show itoa v = x.data.toList from hdh]; simp)); (have ht' : (S.toList != x.toList) = false := by (unfold bne; rw [ht]; rfl)); clear hS hb3 hR2 g2))
      go_ret
      unfold IntOut
      exact ⟨v, rfl, g3, .inr ⟨hnh, hR3⟩⟩
    · rw [if_neg hd] at hn
      have hnh : Hid (zOf x.data.toList = none) := hn
      have hdh : Hid (¬ itoa v = x.data.toList) := hd
      clear hc hn hd
      go_enter Tryz.func51, Tryz.ntmps51
      go_wp2_with (first
        | (go_at_call 48; refine hw.mono ?_; clear hw; rintro e w1 ⟨rfl, hR, hg⟩)
        | (go_at_call 87; refine (hf _).mono ?_; clear hf; rintro e w2 ⟨rfl, hb2⟩; (have hR2 := hR.below hb2); (have g2 := grown_trans hg (grown_of_below (some b) hb2)); clear hb2 hR hg)
        | (go_at_call 43; refine (itoaB_calls v hv1 hv2 w2 (hE.step g2).tab).mono ?_; rintro e w3 ⟨S, rfl, hS, hb3⟩; (have hR3 := hR2.below hb3); (have g3 := grown_set' (grown_trans g2 (grown_of_below (some b) hb3)) 1 (.bool true)); (have hS3 := hR3.spoil); (obtain ⟨o, hB, _⟩ := hR3); (have c1 := hB.at 1 rfl); (have f1 := hB.2.2 1); (have ht : (S.toList == x.toList) = false := by (rw [str_test hS rfl]; exact decide_eq_false hdh)); (have ht' : (S.toList != x.toList) = true := by (unfold bne; rw [ht]; rfl)); clear hS hb3 hR2 g2 hB))
      go_ret
      unfold IntOut
      exact ⟨v, rfl, g3, .inl ⟨hnh, hS3⟩⟩
  | _ =>
    have hne : ∀ v, atoiAll x.data.toList ≠ .ok v := by intro u e; rw [hc] at e; cases e
    have hnh : Hid (zOf x.data.toList = none) := intOf_bad hne
    have hf := fun W h => atoi_bad x hx hne W h
    clear hc hne
    go_enter Tryz.func51, Tryz.ntmps51
    go_wp2_with (first
      | (go_at_call 48; refine hw.mono ?_; clear hw; rintro e w1 ⟨rfl, hR, hg⟩)
      | (go_at_call 87; refine (hf w1 (hE.step hg).errs).mono ?_; clear hf; rintro e w2 ⟨n, t, v, rfl, hn1, hn2, hb2⟩; (have hR2 := hR.below hb2); (have g2 := grown_set' (grown_trans hg (grown_of_below (some b) hb2)) 1 (.bool true)); (have hS2 := hR2.spoil); (obtain ⟨o, hB, _⟩ := hR2); (have c1 := hB.at 1 rfl); (have f1 := hB.2.2 1); clear hb2 hR hg hB))
    go_ret
    unfold IntOut
    exact ⟨n, rfl, g2, .inl ⟨hnh, hS2⟩⟩
end Go.Proofs.YtbfoocginkdmcaaGreatDoor

/-
  What parseLine's walk carries from step to step.
-/

namespace Go.Proofs.YtbfoocginkdmcaaGreatDoor
open Go Go.RowKit Go.ArgS Go.Basic Go.Scr Go.Lib
abbrev zeroL : List Value := [.int .i64 0, .string ⟨#[]⟩, .slice none 0 0, .int .u64 0, .int .i64 0, .int .i64 0, .int .i64 0, .slice none 0 0]
theorem errs_below {w w' : World} (h : Errs w) (hb : Below w.heap.size w w') : Errs w' := by
  obtain ⟨⟨te, pe, h5⟩, ⟨te', pe', h6⟩⟩ := h
  have l5 := World.block_lt_of_cell? w _ h5
  have l6 := World.block_lt_of_cell? w _ h6
  exact ⟨⟨te, pe, (hb.cell (p := ⟨5, 0, none⟩) l5).trans h5⟩, ⟨te', pe', (hb.cell (p := ⟨6, 0, none⟩) l6).trans h6⟩⟩
theorem below_grown {w w1 w2 : World} {B b : Nat} (h : Below B w w1) (g : w1.grownBy w2 (some b)) (hb : B ≤ b) (hs : B ≤ w1.heap.size) : Below B w w2 :=
  h.grown g hs fun j hj => by cases hj; exact hb
theorem env_of {w w1 : World} {b : Nat} (hb : Below w.heap.size w w1) (ht : Tab w) (he : Errs w) (h : w.heap.size ≤ b) : Env w1 b := fun w' g => by
  have := below_grown hb g h hb.size
  exact ⟨tab_below ht this, errs_below he this⟩
structure St (w0 w' : World) (R g b a : Nat) (cs : List Value) (ws : List ByteArray) (bad : Bool) : Prop where
  res : Box w' R zeroL
  act : Box w' a cs
  rd : Rd w' b g ws bad
  bel : Below w0.heap.size w0 w'
  lR : w0.heap.size ≤ R
  lb : w0.heap.size ≤ b
  la : w0.heap.size ≤ a
  Rb : R ≠ b
  Ra : R ≠ a
  ba : b ≠ a
  ga : g ≠ a
theorem St.set {w0 w' : World} {R g b a : Nat} {cs : List Value} {ws : List ByteArray} {bad : Bool} (h : St w0 w' R g b a cs ws bad) (j : Nat) (v : Value) (hj : j < cs.length) :
    St w0 (w'.setCell ⟨a, j, none⟩ v) R g b a (cs.set j v) ws bad where
  res := h.res.set_other _ _ h.Ra
  act := h.act.set j v hj
  rd := h.rd.of_block (by simp [World.setCell]) (Below.heap_setCell w' _ v b h.ba) (Below.heap_setCell w' _ v g h.ga)
  bel := h.bel.setCell (p := ⟨a, j, none⟩) h.la v
  lR := h.lR
  lb := h.lb
  la := h.la
  Rb := h.Rb
  Ra := h.Ra
  ba := h.ba
  ga := h.ga
theorem St.grown {w0 w' w'' : World} {R g b a : Nat} {cs : List Value} {ws ws' : List ByteArray} {bad bad' : Bool} (h : St w0 w' R g b a cs ws bad) (gr : w'.grownBy w'' (some b)) (hr : Rd w'' b g ws' bad') :
    St w0 w'' R g b a cs ws' bad' where
  res := h.res.grown gr (by simpa using h.Rb)
  act := h.act.grown gr (by simpa using h.ba.symm)
  rd := hr
  bel := below_grown h.bel gr h.lb h.bel.size
  lR := h.lR
  lb := h.lb
  la := h.la
  Rb := h.Rb
  Ra := h.Ra
  ba := h.ba
  ga := h.ga
theorem St.spoil {w0 w' : World} {R g b a : Nat} {cs : List Value} {ws : List ByteArray} {bad : Bool} (h : St w0 w' R g b a cs ws bad) : St w0 (w'.setCell ⟨b, 1, none⟩ (.bool true)) R g b a cs ws true :=
  h.grown (grown_set w' b 1 (.bool true)) h.rd.spoil
theorem st_init (w : World) (s : ByteArray) (w2 : World) (hw2 : w2 = (w.alloc (.cells zeroL.toArray 36)).alloc (.cells ((piecesB 32 s).map Value.string).toArray 9)) :
    St w ((w2.alloc (.cells #[.slice (some ⟨w.heap.size + 1, 0, none⟩) (piecesB 32 s).length (piecesB 32 s).length, .bool false] 100)).alloc (.cells zeroL.toArray 36)) w.heap.size (w.heap.size + 1) w2.heap.size (w2.heap.size + 1) zeroL (piecesB 32 s) false := by
  have hsz : w2.heap.size = w.heap.size + 1 + 1 := by rw [hw2]; simp
  have b2 : Below w.heap.size w w2 := by
    rw [hw2]
    exact ((Below.refl _ _).alloc (Nat.le_refl _) _).alloc (by simp) _
  have hP : Box w2 (w.heap.size + 1) ((piecesB 32 s).map Value.string) := by
    rw [hw2]
    have := Box.new (w.alloc (.cells zeroL.toArray 36)) ((piecesB 32 s).map Value.string).toArray 9
    simpa using this
  have hR : Box w2 w.heap.size zeroL := by
    rw [hw2]
    exact (Box.new w zeroL.toArray 36).alloc _
  have hB := Box.new w2 #[.slice (some ⟨w.heap.size + 1, 0, none⟩) (piecesB 32 s).length (piecesB 32 s).length, .bool false] 100
  have hA := Box.new (w2.alloc (.cells #[.slice (some ⟨w.heap.size + 1, 0, none⟩) (piecesB 32 s).length (piecesB 32 s).length, .bool false] 100)) zeroL.toArray 36
  simp only [World.size_alloc] at hA
  exact {
    res := (hR.alloc _).alloc _
    act := hA
    rd := by
      refine ⟨0, hB.alloc _, by omega, by simp; omega, fun j x hj => ?_⟩
      rw [Nat.zero_add]
      exact ((hP.alloc _).alloc _).at j (by rw [List.getElem?_map, hj]; rfl)
    bel := (b2.alloc b2.size _).alloc (by simp; have := b2.size; omega) _
    lR := Nat.le_refl _
    lb := b2.size
    la := Nat.le_succ_of_le b2.size
    Rb := by omega
    Ra := by omega
    ba := by omega
    ga := by omega }
def LineOut (w : World) (l : List UInt8) (e : Ending) (w' : World) : Prop :=
  ∃ (k t o n q : Int) (s : ByteArray) (ax : Option Addr) (lx cx : Nat) (ay : Option Addr) (ly cy : Nat),
    e = .returned (.tuple #[.agg #[.int .i64 k, .string s, .slice ax lx cx, .int .u64 t, .int .i64 o, .int .i64 n, .int .i64 q, .slice ay ly cy], .bool (ofLine l).isSome]) ∧ Below w.heap.size w w' ∧
    ∀ A, ofLine l = some A → k = A.kind ∧ t = (A.now : Int) ∧ o = A.outcome ∧ n = A.n ∧ q = A.dir ∧ s = A.raw ∧ lx = A.draws.length ∧ ly = A.tails.length ∧
      OwnS w' w.heap.size .u8 (.slice ax lx cx) (A.draws.map fun b => (b.toNat : Int)) ∧ OwnS w' w.heap.size .i64 (.slice ay ly cy) A.tails ∧ (ax = none ∨ ay = none)
theorem time_nil (b g : Nat) (bad : Bool) (w : World) (h : Rd w b g [] bad) (hE : Env w b) :
    Calls Tryz.prog 50 #[.pointer (some ⟨b, 0, none⟩)] w fun e w' => ∃ n : Nat, e = .returned (.int .u64 n) ∧ w.grownBy w' (some b) ∧ Rd w' b g [] true := by
  refine (time_calls b g ⟨#[]⟩ [] true w (by decide) h.lt.1 hE (word_nil b g bad w h)).mono fun e w' ⟨n, he, _, hg, h⟩ => ⟨n, he, hg, ?_⟩
  rcases h with ⟨_, h⟩ | ⟨_, h⟩ <;> exact h
theorem time_none (b g : Nat) (x : ByteArray) (r : List ByteArray) (bad : Bool) (w : World) (h : Rd w b g (x :: r) bad) (hl : r.length ≤ 100000000) (hx : x.size ≤ 2000000) (hE : Env w b) (hz : numOf x.data.toList = none) :
    Calls Tryz.prog 50 #[.pointer (some ⟨b, 0, none⟩)] w fun e w' => ∃ n : Nat, e = .returned (.int .u64 n) ∧ w.grownBy w' (some b) ∧ Rd w' b g r true := by
  refine (time_calls b g x r bad w hx h.lt.1 hE (word_cons b g x r bad w h hl)).mono fun e w' ⟨n, he, _, hg, h⟩ => ⟨n, he, hg, ?_⟩
  rcases h with ⟨_, h⟩ | ⟨h1, h⟩
  · exact h
  · rw [hz] at h1; cases h1
theorem time_some (b g : Nat) (x : ByteArray) (r : List ByteArray) (bad : Bool) (w : World) (h : Rd w b g (x :: r) bad) (hl : r.length ≤ 100000000) (hx : x.size ≤ 2000000) (hE : Env w b) (n : Nat) (hz : numOf x.data.toList = some n) :
    Calls Tryz.prog 50 #[.pointer (some ⟨b, 0, none⟩)] w fun e w' => e = .returned (.int .u64 n) ∧ w.grownBy w' (some b) ∧ Rd w' b g r bad := by
  refine (time_calls b g x r bad w hx h.lt.1 hE (word_cons b g x r bad w h hl)).mono fun e w' ⟨m, he, _, hg, h⟩ => ?_
  rcases h with ⟨h1, _⟩ | ⟨h1, h⟩
  · rw [hz] at h1; cases h1
  · rw [hz] at h1
    cases h1
    exact ⟨he, hg, h⟩
theorem int_nil (b g : Nat) (bad : Bool) (w : World) (h : Rd w b g [] bad) (hE : Env w b) :
    Calls Tryz.prog 51 #[.pointer (some ⟨b, 0, none⟩), .int .i64 (-9223372036854775808)] w fun e w' => ∃ n : Int, e = .returned (.int .i64 n) ∧ w.grownBy w' (some b) ∧ Rd w' b g [] true := by
  refine (int_calls b g ⟨#[]⟩ [] true w (by decide) h.lt.1 hE (word_nil b g bad w h)).mono fun e w' ⟨n, he, hg, h⟩ => ⟨n, he, hg, ?_⟩
  rcases h with ⟨_, h⟩ | ⟨_, h⟩ <;> exact h
theorem int_none (b g : Nat) (x : ByteArray) (r : List ByteArray) (bad : Bool) (w : World) (h : Rd w b g (x :: r) bad) (hl : r.length ≤ 100000000) (hx : x.size ≤ 2000000) (hE : Env w b) (hz : zOf x.data.toList = none) :
    Calls Tryz.prog 51 #[.pointer (some ⟨b, 0, none⟩), .int .i64 (-9223372036854775808)] w fun e w' => ∃ n : Int, e = .returned (.int .i64 n) ∧ w.grownBy w' (some b) ∧ Rd w' b g r true := by
  refine (int_calls b g x r bad w hx h.lt.1 hE (word_cons b g x r bad w h hl)).mono fun e w' ⟨n, he, hg, h⟩ => ⟨n, he, hg, ?_⟩
  rcases h with ⟨_, h⟩ | ⟨h1, h⟩
  · exact h
  · rw [hz] at h1; cases h1
theorem int_some (b g : Nat) (x : ByteArray) (r : List ByteArray) (bad : Bool) (w : World) (h : Rd w b g (x :: r) bad) (hl : r.length ≤ 100000000) (hx : x.size ≤ 2000000) (hE : Env w b) (n : Int) (hz : zOf x.data.toList = some n) :
    Calls Tryz.prog 51 #[.pointer (some ⟨b, 0, none⟩), .int .i64 (-9223372036854775808)] w fun e w' => e = .returned (.int .i64 n) ∧ w.grownBy w' (some b) ∧ Rd w' b g r bad := by
  refine (int_calls b g x r bad w hx h.lt.1 hE (word_cons b g x r bad w h hl)).mono fun e w' ⟨m, he, hg, h⟩ => ?_
  rcases h with ⟨h1, _⟩ | ⟨h1, h⟩
  · rw [hz] at h1; cases h1
  · rw [hz] at h1
    cases h1
    exact ⟨he, hg, h⟩
theorem own_grown {w w' : World} {B b : Nat} {k : IntKind} {v : Value} {zs : List Int} (h : OwnS w B k v zs) (g : w.grownBy w' (some b)) (hb : b < B) : OwnS w' B k v zs :=
  own_keptb' h g (fun k e => by cases e; exact hb)
theorem own_set8 {w : World} {B b : Nat} {k : IntKind} {v : Value} {zs : List Int} (h : OwnS w B k v zs) (hb : b < B) (v0 v1 v2 v3 v4 v5 v6 v7 : Value) : OwnS (set8 w b 0 v0 v1 v2 v3 v4 v5 v6 v7) B k v zs :=
  own_spoil (own_spoil (own_spoil (own_spoil (own_spoil (own_spoil (own_spoil (own_spoil h hb) hb) hb) hb) hb) hb) hb) hb
theorem own_drew {w : World} {B : Nat} {k : IntKind} {v : Value} {zs : List Int} (h : OwnS w B k v zs) : OwnS w.drew B k v zs :=
  h
theorem of_line {s k : ByteArray} {r : List ByteArray} (hp : piecesB 32 s = k :: r) : ofLine s.data.toList = actOf (k.data.toList :: r.map (·.data.toList)) := by
  unfold ofLine
  rw [← pieces_data, hp]
  rfl
theorem act_request (r : List (List UInt8)) : actOf ([114, 101, 113, 117, 101, 115, 116] :: r) = ofRequest r := by simp [actOf, wRequest]
theorem act_tick (r : List (List UInt8)) : actOf ([116, 105, 99, 107] :: r) = ofTick r := by simp [actOf, wRequest, wTick]
theorem act_ping (r : List (List UInt8)) : actOf ([112, 105, 110, 103] :: r) = ofPing r := by simp [actOf, wRequest, wTick, wPing]
theorem act_arm (r : List (List UInt8)) : actOf ([97, 114, 109] :: r) = ofArm r := by simp [actOf, wRequest, wTick, wPing, wArm]
theorem act_restart (r : List (List UInt8)) : actOf ([114, 101, 115, 116, 97, 114, 116] :: r) = ofRestart r := by simp [actOf, wRequest, wTick, wPing, wArm, wRestart]
theorem act_compact (r : List (List UInt8)) : actOf ([99, 111, 109, 112, 97, 99, 116] :: r) = if r = [] then some act6 else none := by simp [actOf, wRequest, wTick, wPing, wArm, wRestart, wCompact]
theorem bytes_to_bad (b g : Nat) (ws : List ByteArray) (bad : Bool) (w : World) (h : Rd w b g ws bad) (hl : ws.length ≤ 100000000) (hx : ∀ x ∈ ws, x.size ≤ 2000000)
    (hbad : bad = true ∨ ws = [] ∨ ∃ x r, ws = x :: r ∧ wordOf x.data.toList = none) :
    Calls Tryz.prog 49 #[.pointer (some ⟨b, 0, none⟩)] w fun e w' => ∃ a c, ∃ p : List UInt8, ∃ ws' : List ByteArray, e = .returned (.slice a p.length c) ∧ OwnS w' w.heap.size .u8 (.slice a p.length c) (p.map fun b => (b.toNat : Int)) ∧ p.length ≤ 65536 ∧ w.grownBy w' (some b) ∧ Rd w' b g ws' true ∧ ws'.length ≤ ws.length ∧ ∀ x ∈ ws', x.size ≤ 2000000 := by
  match ws, hl, hx, h, hbad with
  | [], _, _, h, _ =>
    refine (bytes_nil b g bad w h).mono fun e w' ⟨a, c, p, h1, h2, h3, h4, h5⟩ => ⟨a, c, p, [], h1, h2, h3, h4, h5, Nat.le_refl _, fun x hx => by cases hx⟩
  | x :: r, hl, hx, h, hbad =>
    refine (bytes_cons b g x r bad w h (by simp only [List.length_cons] at hl; omega) (hx x (by simp))).mono fun e w' ⟨a, c, p, h1, h2, h3, h4, h5⟩ => ⟨a, c, p, r, h1, h2, h3, h4, ?_, by simp, fun y hy => hx y (by simp [hy])⟩
    cases hq : wordOf x.data.toList with
    | none =>
      simp only [hq] at h5
      exact h5
    | some q =>
      simp only [hq] at h5
      rcases hbad with rfl | h6 | ⟨x', r', h6, h7⟩
      · exact h5.2
      · cases h6
      · cases h6
        rw [hq] at h7
        cases h7
theorem bytes_good (b g : Nat) (x : ByteArray) (r : List ByteArray) (q : List UInt8) (bad : Bool) (w : World) (h : Rd w b g (x :: r) bad) (hl : r.length ≤ 100000000) (hx : x.size ≤ 2000000) (hq : wordOf x.data.toList = some q) :
    Calls Tryz.prog 49 #[.pointer (some ⟨b, 0, none⟩)] w fun e w' => ∃ a c, e = .returned (.slice a q.length c) ∧ OwnS w' w.heap.size .u8 (.slice a q.length c) (q.map fun b => (b.toNat : Int)) ∧ q.length ≤ 65536 ∧ w.grownBy w' (some b) ∧ Rd w' b g r bad := by
  refine (bytes_cons b g x r bad w h hl hx).mono fun e w' ⟨a, c, p, h1, h2, h3, h4, h5⟩ => ?_
  simp only [hq] at h5
  obtain ⟨rfl, h5⟩ := h5
  exact ⟨a, c, h1, h2, h3, h4, h5⟩
theorem str_nums (p : List UInt8) : strOfNums (p.map fun b => (b.toNat : Int)) = ⟨p.toArray⟩ := by
  unfold strOfNums
  congr 1
  congr 1
  rw [List.map_map]
  conv => rhs; rw [← List.map_id p]
  apply List.map_congr_left
  intro a _
  simp
theorem text_of {w : World} {a : Option Addr} {c : Nat} {p : List UInt8} (h : IsSl w .u8 (.slice a p.length c) (p.map fun b => (b.toNat : Int))) : (convert 30 9 (.slice a p.length c)).run Tryz.prog w = .ok (.string ⟨p.toArray⟩) w := by
  have h1 := h.text (P := Tryz.prog) (s := 30) (e := 5) (d := 9) Tryz.underlying30 Tryz.underlying5 Tryz.underlying9
  rw [str_nums] at h1
  exact h1
theorem tt {k : ByteArray} {l m : List UInt8} (hk : k.data.toList = l) (h : (l == m) = true) : (k.toList == m) = true := by rw [ByteArray.toList_eq, hk]; exact h
theorem tf {k : ByteArray} {l m : List UInt8} (hk : k.data.toList = l) (h : (l == m) = false) : (k.toList == m) = false := by rw [ByteArray.toList_eq, hk]; exact h
theorem tn {k : ByteArray} {m : List UInt8} (hk : k.data.toList ≠ m) : (k.toList == m) = false := by rw [ByteArray.toList_eq, beq_eq_false_iff_ne]; exact hk
theorem ts_request {k : ByteArray} (hk : k.data.toList = [114, 101, 113, 117, 101, 115, 116]) : (k.toList == [114, 101, 113, 117, 101, 115, 116]) = true := tt hk rfl
theorem ts_tick {k : ByteArray} (hk : k.data.toList = [116, 105, 99, 107]) : (k.toList == [114, 101, 113, 117, 101, 115, 116]) = false ∧ (k.toList == [116, 105, 99, 107]) = true := ⟨tf hk rfl, tt hk rfl⟩
theorem ts_ping {k : ByteArray} (hk : k.data.toList = [112, 105, 110, 103]) : (k.toList == [114, 101, 113, 117, 101, 115, 116]) = false ∧ (k.toList == [116, 105, 99, 107]) = false ∧ (k.toList == [112, 105, 110, 103]) = true := ⟨tf hk rfl, tf hk rfl, tt hk rfl⟩
theorem ts_arm {k : ByteArray} (hk : k.data.toList = [97, 114, 109]) : (k.toList == [114, 101, 113, 117, 101, 115, 116]) = false ∧ (k.toList == [116, 105, 99, 107]) = false ∧ (k.toList == [112, 105, 110, 103]) = false ∧ (k.toList == [97, 114, 109]) = true := ⟨tf hk rfl, tf hk rfl, tf hk rfl, tt hk rfl⟩
theorem ts_restart {k : ByteArray} (hk : k.data.toList = [114, 101, 115, 116, 97, 114, 116]) : (k.toList == [114, 101, 113, 117, 101, 115, 116]) = false ∧ (k.toList == [116, 105, 99, 107]) = false ∧ (k.toList == [112, 105, 110, 103]) = false ∧ (k.toList == [97, 114, 109]) = false ∧ (k.toList == [114, 101, 115, 116, 97, 114, 116]) = true := ⟨tf hk rfl, tf hk rfl, tf hk rfl, tf hk rfl, tt hk rfl⟩
theorem ts_compact {k : ByteArray} (hk : k.data.toList = [99, 111, 109, 112, 97, 99, 116]) : (k.toList == [114, 101, 113, 117, 101, 115, 116]) = false ∧ (k.toList == [116, 105, 99, 107]) = false ∧ (k.toList == [112, 105, 110, 103]) = false ∧ (k.toList == [97, 114, 109]) = false ∧ (k.toList == [114, 101, 115, 116, 97, 114, 116]) = false ∧ (k.toList == [99, 111, 109, 112, 97, 99, 116]) = true := ⟨tf hk rfl, tf hk rfl, tf hk rfl, tf hk rfl, tf hk rfl, tt hk rfl⟩
theorem St.all {w0 W : World} {R g b a : Nat} {c0 c1 c2 c3 c4 c5 c6 c7 : Value} {ws : List ByteArray} {bad : Bool} (h : St w0 W R g b a [c0, c1, c2, c3, c4, c5, c6, c7] ws bad) : ∃ o, W.cell? ⟨b, 0, none⟩ = some (.slice (some ⟨g, o, none⟩) ws.length ws.length) ∧ W.cell? ⟨b, 1, none⟩ = some (.bool bad) ∧ W.cell? ⟨a, 0, none⟩ = some c0 ∧ W.cell? ⟨a, 1, none⟩ = some c1 ∧ W.cell? ⟨a, 2, none⟩ = some c2 ∧ W.cell? ⟨a, 3, none⟩ = some c3 ∧ W.cell? ⟨a, 4, none⟩ = some c4 ∧ W.cell? ⟨a, 5, none⟩ = some c5 ∧ W.cell? ⟨a, 6, none⟩ = some c6 ∧ W.cell? ⟨a, 7, none⟩ = some c7 ∧ W.cell? ⟨R, 0, none⟩ = some (.int .i64 0) ∧ W.cell? ⟨R, 1, none⟩ = some (.string ⟨#[]⟩) ∧ W.cell? ⟨R, 2, none⟩ = some (.slice none 0 0) ∧ W.cell? ⟨R, 3, none⟩ = some (.int .u64 0) ∧ W.cell? ⟨R, 4, none⟩ = some (.int .i64 0) ∧ W.cell? ⟨R, 5, none⟩ = some (.int .i64 0) ∧ W.cell? ⟨R, 6, none⟩ = some (.int .i64 0) ∧ W.cell? ⟨R, 7, none⟩ = some (.slice none 0 0) ∧ (∀ j : Nat, W.frozen? ⟨R, j, none⟩ = false) ∧ ¬ R = b ∧ ¬ b = R ∧ ¬ R = a ∧ ¬ a = R := by
  obtain ⟨o, hB, _⟩ := h.rd
  exact ⟨o, hB.at 0 rfl, hB.at 1 rfl, h.act.at 0 rfl, h.act.at 1 rfl, h.act.at 2 rfl, h.act.at 3 rfl, h.act.at 4 rfl, h.act.at 5 rfl, h.act.at 6 rfl, h.act.at 7 rfl, h.res.at 0 rfl, h.res.at 1 rfl, h.res.at 2 rfl, h.res.at 3 rfl, h.res.at 4 rfl, h.res.at 5 rfl, h.res.at 6 rfl, h.res.at 7 rfl, h.res.2.2, h.Rb, h.Rb.symm, h.Ra, h.Ra.symm⟩
def Well (w : World) : Prop := Tab w ∧ Errs w ∧ ∀ W', Below w.heap.size w W' → ∃ m, W'.cell? ⟨1, 0, none⟩ = some (.int .i64 m)
theorem Well.env {w W' : World} (h : Well w) (hb : Below w.heap.size w W') (b : Nat) (hl : w.heap.size ≤ b) : Env W' b := env_of hb h.1 h.2.1 hl
theorem split_st {w : World} {s k : ByteArray} {r : List ByteArray} (hp : piecesB 32 s = k :: r) (hs : s.size ≤ 2000000) (hrl : r.length ≤ 100000000) (hW : Well w) :
    Calls Tryz.prog 23 #[.string s, .string ⟨#[32]⟩] (w.alloc (.cells #[.int .i64 0, .string ⟨#[]⟩, .slice none 0 0, .int .u64 0, .int .i64 0, .int .i64 0, .int .i64 0, .slice none 0 0] 36)) fun e w2 => e = .returned (.slice (some ⟨w.heap.size + 1, 0, none⟩) (r.length + 1) (r.length + 1)) ∧
      Calls Tryz.prog 48 #[.pointer (some ⟨w2.heap.size, 0, none⟩)] ((w2.alloc (.cells #[.slice (some ⟨w.heap.size + 1, 0, none⟩) (r.length + 1) (r.length + 1), .bool false] 100)).alloc (.cells #[.int .i64 0, .string ⟨#[]⟩, .slice none 0 0, .int .u64 0, .int .i64 0, .int .i64 0, .int .i64 0, .slice none 0 0] 36))
        fun e w5 => e = .returned (.string k) ∧ St w w5 w.heap.size (w.heap.size + 1) w2.heap.size (w2.heap.size + 1) zeroL r false := by
  refine (split_calls 32 s hs (w.alloc (.cells zeroL.toArray 36)) (hW.2.2 _ ((Below.refl _ _).alloc (Nat.le_refl _) _))).mono ?_
  rintro e w2 ⟨rfl, hw2⟩
  have h4 := st_init w s w2 hw2
  rw [hp] at h4 ⊢
  have hwd := word_cons _ _ k r false _ h4.rd hrl
  simp only [World.size_alloc]
  refine ⟨rfl, hwd.mono ?_⟩
  rintro e w5 ⟨rfl, hR5, hg5⟩
  exact ⟨rfl, h4.grown hg5 hR5⟩
end Go.Proofs.YtbfoocginkdmcaaGreatDoor
