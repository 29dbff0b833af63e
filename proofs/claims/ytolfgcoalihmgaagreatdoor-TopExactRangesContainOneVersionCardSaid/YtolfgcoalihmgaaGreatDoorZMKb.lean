/- Texts joined. -/
import Derived.Shelf.Small.Strs
import Derived.Shelf.Small.Wraps
import Derived.Ground.Names2Prog
import Derived.Shelf.Slices.Clone
import Derived.Shelf.Strings.OnBuilder
import Derived.Shelf.LaysM
import Derived.Shelf.Strconv.Itoa3
import Derived.Shelf.LaysC
import Derived.Shelf.Strconv.AtoiAll
import Derived.Shelf.Strings.Cut
import Derived.Shelf.GgClosure.StringsRunes
import Derived.Shelf.Strings.Split
import Derived.Test.YtolfgcoalihmgaaGreatDoorProg
import Derived.Test.YtolfgcoalihmgaaGreatDoorZMPq
import Derived.Test.YtolfgcoalihmgaaGreatDoorZMPo
section
namespace Go.Proofs
open Go.Shelf
def Tryz.lays106_ren : Go.Shelf.Ren := ⟨fun | 106 => 182 | 213 => 205 | 265 => 215 | n => n, fun | 9 => 9 | 3 => 3 | n => n, fun | n => n⟩
theorem Tryz.lays106 : Go.Proofs.Lays.n106 Tryz.prog Tryz.lays106_ren := {
 mixed := by kernel_rfl
 f106 := Tryz.func182.trans (congrArg some (by kernel_rfl))
 f213 := Tryz.func205.trans (congrArg some (by kernel_rfl))
 f265 := Tryz.func215.trans (congrArg some (by kernel_rfl))
 t3 := Tryz.underlying3
 a3 := Tryz.isAgg3
 z3 := Tryz.sizeOf3
 v3 := Tryz.zeroValue3
 t9 := Tryz.underlying9
 a9 := Tryz.isAgg9
 z9 := Tryz.sizeOf9
 v9 := Tryz.zeroValue9 }
def Tryz.lays122_ren : Go.Shelf.Ren := ⟨fun | 122 => 144 | 215 => 181 | n => n, fun | 3 => 3 | 4 => 4 | n => n, fun | n => n⟩
theorem Tryz.lays122 : Go.Proofs.Lays.n122 Tryz.prog Tryz.lays122_ren := {
 mixed := by kernel_rfl
 f122 := Tryz.func144.trans (congrArg some (by kernel_rfl))
 f215 := Tryz.func181.trans (congrArg some (by kernel_rfl))
 t3 := Tryz.underlying3
 a3 := Tryz.isAgg3
 z3 := Tryz.sizeOf3
 v3 := Tryz.zeroValue3
 t4 := Tryz.underlying4
 a4 := Tryz.isAgg4
 z4 := Tryz.sizeOf4
 v4 := Tryz.zeroValue4 }
def Tryz.laysNm216_ren : Go.Shelf.Ren := ⟨fun | 16 => 66 | n => n, fun | 24 => 22 | 9 => 9 | 4 => 4 | n => n, fun | n => n⟩
theorem Tryz.laysNm216 : Go.Proofs.Lays2.n16 Tryz.prog Tryz.laysNm216_ren := {
 mixed := by kernel_rfl
 f16 := Tryz.func66.trans (congrArg some (by kernel_rfl))
 t4 := Tryz.underlying4
 a4 := Tryz.isAgg4
 z4 := Tryz.sizeOf4
 v4 := Tryz.zeroValue4
 t9 := Tryz.underlying9
 a9 := Tryz.isAgg9
 z9 := Tryz.sizeOf9
 v9 := Tryz.zeroValue9
 t24 := Tryz.underlying22
 a24 := Tryz.isAgg22
 z24 := Tryz.sizeOf22
 v24 := Tryz.zeroValue22
 i9 := by kernel_rfl }
def Tryz.lays156_ren : Go.Shelf.Ren := ⟨fun | 156 => 55 | 165 => 101 | 166 => 102 | 169 => 103 | 240 => 133 | 241 => 134 | 276 => 161 | 277 => 162 | n => n, fun | 31 => 22 | 9 => 9 | 3 => 3 | 4 => 4 | 0 => 0 | 20 => 20 | 72 => 133 | 76 => 137 | 70 => 130 | 37 => 131 | 75 => 136 | 127 => 170 | 164 => 196 | 5 => 5 | 80 => 139 | n => n, fun | n => n⟩
theorem Tryz.lays156 : Go.Proofs.Lays.n156 Tryz.prog Tryz.lays156_ren := {
 mixed := by kernel_rfl
 f156 := Tryz.func55.trans (congrArg some (by kernel_rfl))
 f165 := Tryz.func101.trans (congrArg some (by kernel_rfl))
 f166 := Tryz.func102.trans (congrArg some (by kernel_rfl))
 f169 := Tryz.func103.trans (congrArg some (by kernel_rfl))
 f240 := Tryz.func133.trans (congrArg some (by kernel_rfl))
 f241 := Tryz.func134.trans (congrArg some (by kernel_rfl))
 f276 := Tryz.func161.trans (congrArg some (by kernel_rfl))
 f277 := Tryz.func162.trans (congrArg some (by kernel_rfl))
 t0 := Tryz.underlying0
 a0 := Tryz.isAgg0
 z0 := Tryz.sizeOf0
 v0 := Tryz.zeroValue0
 t3 := Tryz.underlying3
 a3 := Tryz.isAgg3
 z3 := Tryz.sizeOf3
 v3 := Tryz.zeroValue3
 t4 := Tryz.underlying4
 a4 := Tryz.isAgg4
 z4 := Tryz.sizeOf4
 v4 := Tryz.zeroValue4
 t9 := Tryz.underlying9
 a9 := Tryz.isAgg9
 z9 := Tryz.sizeOf9
 v9 := Tryz.zeroValue9
 t20 := Tryz.underlying20
 a20 := Tryz.isAgg20
 z20 := Tryz.sizeOf20
 v20 := Tryz.zeroValue20
 t31 := Tryz.underlying22
 a31 := Tryz.isAgg22
 z31 := Tryz.sizeOf22
 v31 := Tryz.zeroValue22
 t37 := Tryz.underlying131
 a37 := Tryz.isAgg131
 z37 := Tryz.sizeOf131
 v37 := Tryz.zeroValue131
 t70 := Tryz.underlying130
 a70 := Tryz.isAgg130
 z70 := Tryz.sizeOf130
 v70 := Tryz.zeroValue130
 t72 := Tryz.underlying133
 a72 := Tryz.isAgg133
 z72 := Tryz.sizeOf133
 v72 := Tryz.zeroValue133
 t75 := Tryz.underlying136
 a75 := Tryz.isAgg136
 z75 := Tryz.sizeOf136
 v75 := Tryz.zeroValue136
 t76 := Tryz.underlying137
 a76 := Tryz.isAgg137
 z76 := Tryz.sizeOf137
 v76 := Tryz.zeroValue137
 t127 := Tryz.underlying170
 a127 := Tryz.isAgg170
 z127 := Tryz.sizeOf170
 v127 := Tryz.zeroValue170
 t164 := Tryz.underlying196
 a164 := Tryz.isAgg196
 z164 := Tryz.sizeOf196
 v164 := Tryz.zeroValue196 }
theorem Tryz.Builder_Extra_156 : Builder.Extra Tryz.prog Tryz.lays156_ren := {
 sizeBuilder := by kernel_rfl
 liesBuilder := by kernel_rfl
 t5 := Tryz.underlying5
 a5 := Tryz.isAgg5
 z5 := Tryz.sizeOf5
 v5 := Tryz.zeroValue5
 infoByte := by kernel_rfl
 cellsByte := by kernel_rfl
 sizeByte := by kernel_rfl
 neB5 := by decide }
def Tryz.laysM171_ren : Go.Shelf.Ren := ⟨fun | 171 => 54 | 243 => 100 | 246 => 132 | 283 => 157 | 284 => 158 | 285 => 159 | 286 => 160 | 129 => 180 | 317 => 186 | 318 => 187 | 319 => 188 | 320 => 189 | 337 => 207 | 338 => 208 | n => n, fun | 3 => 3 | 9 => 9 | 2 => 2 | 4 => 4 | 171 => 190 | 0 => 0 | 53 => 191 | 37 => 131 | 5 => 5 | 173 => 194 | 212 => 217 | 51 => 212 | 20 => 20 | 213 => 218 | 46 => 178 | 232 => 246 | 233 => 247 | n => n, fun | 17 => 0 | 18 => 6 | 19 => 7 | n => n⟩
theorem Tryz.laysM171 : Go.Proofs.LaysM.n171 Tryz.prog Tryz.laysM171_ren := {
 mixed := by kernel_rfl
 f129 := Tryz.func180.trans (congrArg some (by kernel_rfl))
 f171 := Tryz.func54.trans (congrArg some (by kernel_rfl))
 f243 := Tryz.func100.trans (congrArg some (by kernel_rfl))
 f246 := Tryz.func132.trans (congrArg some (by kernel_rfl))
 f283 := Tryz.func157.trans (congrArg some (by kernel_rfl))
 f284 := Tryz.func158.trans (congrArg some (by kernel_rfl))
 f285 := Tryz.func159.trans (congrArg some (by kernel_rfl))
 f286 := Tryz.func160.trans (congrArg some (by kernel_rfl))
 f317 := Tryz.func186.trans (congrArg some (by kernel_rfl))
 f318 := Tryz.func187.trans (congrArg some (by kernel_rfl))
 f319 := Tryz.func188.trans (congrArg some (by kernel_rfl))
 f320 := Tryz.func189.trans (congrArg some (by kernel_rfl))
 f337 := Tryz.func207.trans (congrArg some (by kernel_rfl))
 f338 := Tryz.func208.trans (congrArg some (by kernel_rfl))
 t0 := Tryz.underlying0
 a0 := Tryz.isAgg0
 z0 := Tryz.sizeOf0
 v0 := Tryz.zeroValue0
 t2 := Tryz.underlying2
 a2 := Tryz.isAgg2
 z2 := Tryz.sizeOf2
 v2 := Tryz.zeroValue2
 t3 := Tryz.underlying3
 a3 := Tryz.isAgg3
 z3 := Tryz.sizeOf3
 v3 := Tryz.zeroValue3
 t4 := Tryz.underlying4
 a4 := Tryz.isAgg4
 z4 := Tryz.sizeOf4
 v4 := Tryz.zeroValue4
 t5 := Tryz.underlying5
 a5 := Tryz.isAgg5
 z5 := Tryz.sizeOf5
 v5 := Tryz.zeroValue5
 t9 := Tryz.underlying9
 a9 := Tryz.isAgg9
 z9 := Tryz.sizeOf9
 v9 := Tryz.zeroValue9
 t20 := Tryz.underlying20
 a20 := Tryz.isAgg20
 z20 := Tryz.sizeOf20
 v20 := Tryz.zeroValue20
 t37 := Tryz.underlying131
 a37 := Tryz.isAgg131
 z37 := Tryz.sizeOf131
 v37 := Tryz.zeroValue131
 t46 := Tryz.underlying178
 a46 := Tryz.isAgg178
 z46 := Tryz.sizeOf178
 v46 := Tryz.zeroValue178
 t51 := Tryz.underlying212
 a51 := Tryz.isAgg212
 z51 := Tryz.sizeOf212
 v51 := Tryz.zeroValue212
 t53 := Tryz.underlying191
 a53 := Tryz.isAgg191
 z53 := Tryz.sizeOf191
 v53 := Tryz.zeroValue191
 t171 := Tryz.underlying190
 a171 := Tryz.isAgg190
 z171 := Tryz.sizeOf190
 v171 := Tryz.zeroValue190
 t173 := Tryz.underlying194
 a173 := Tryz.isAgg194
 z173 := Tryz.sizeOf194
 v173 := Tryz.zeroValue194
 t212 := Tryz.underlying217
 a212 := Tryz.isAgg217
 z212 := Tryz.sizeOf217
 v212 := Tryz.zeroValue217
 t213 := Tryz.underlying218
 a213 := Tryz.isAgg218
 z213 := Tryz.sizeOf218
 t232 := Tryz.underlying246
 a232 := Tryz.isAgg246
 z232 := Tryz.sizeOf246
 v232 := Tryz.zeroValue246
 t233 := Tryz.underlying247
 a233 := Tryz.isAgg247
 z233 := Tryz.sizeOf247
 v233 := Tryz.zeroValue247
 g17 := by kernel_rfl
 g18 := by kernel_rfl
 g19 := by kernel_rfl
 i0 := by kernel_rfl
 i2 := by kernel_rfl
 i3 := by kernel_rfl
 i4 := by kernel_rfl
 i5 := by kernel_rfl
 i9 := by kernel_rfl
 i20 := by kernel_rfl
 i37 := by kernel_rfl
 i46 := by kernel_rfl
 i51 := by kernel_rfl
 i53 := by kernel_rfl
 i171 := by kernel_rfl
 i173 := by kernel_rfl
 i212 := by kernel_rfl
 i232 := by kernel_rfl
 i233 := by kernel_rfl
 m17 := by kernel_rfl
 m18 := by kernel_rfl
 m19 := by kernel_rfl }
def Tryz.laysC172_ren : Go.Shelf.Ren := ⟨fun | 172 => 140 | 244 => 169 | 245 => 170 | 247 => 195 | 279 => 196 | 280 => 197 | 281 => 198 | 282 => 199 | 287 => 211 | 316 => 212 | 171 => 54 | 205 => 213 | 321 => 216 | 322 => 217 | 243 => 100 | 246 => 132 | 283 => 157 | 284 => 158 | 285 => 159 | 286 => 160 | 129 => 180 | 317 => 186 | 318 => 187 | 319 => 188 | 320 => 189 | 337 => 207 | 338 => 208 | n => n, fun | 9 => 9 | 3 => 3 | 75 => 136 | 76 => 137 | 4 => 4 | 5 => 5 | 167 => 219 | 37 => 131 | 0 => 0 | 85 => 220 | 2 => 2 | 168 => 222 | 53 => 191 | 175 => 237 | 46 => 178 | 210 => 241 | 127 => 170 | 145 => 251 | 143 => 249 | 21 => 21 | 171 => 190 | 173 => 194 | 212 => 217 | 51 => 212 | 20 => 20 | 213 => 218 | 232 => 246 | 233 => 247 | 80 => 139 | n => n, fun | 15 => 4 | 16 => 5 | 17 => 0 | 18 => 6 | 19 => 7 | n => n⟩
theorem Tryz.laysC172 : Go.Proofs.LaysC.n172 Tryz.prog Tryz.laysC172_ren := {
 mixed := by kernel_rfl
 f129 := Tryz.func180.trans (congrArg some (by kernel_rfl))
 f171 := Tryz.func54.trans (congrArg some (by kernel_rfl))
 f172 := Tryz.func140.trans (congrArg some (by kernel_rfl))
 f205 := Tryz.func213.trans (congrArg some (by kernel_rfl))
 f243 := Tryz.func100.trans (congrArg some (by kernel_rfl))
 f244 := Tryz.func169.trans (congrArg some (by kernel_rfl))
 f245 := Tryz.func170.trans (congrArg some (by kernel_rfl))
 f246 := Tryz.func132.trans (congrArg some (by kernel_rfl))
 f247 := Tryz.func195.trans (congrArg some (by kernel_rfl))
 f279 := Tryz.func196.trans (congrArg some (by kernel_rfl))
 f280 := Tryz.func197.trans (congrArg some (by kernel_rfl))
 f281 := Tryz.func198.trans (congrArg some (by kernel_rfl))
 f282 := Tryz.func199.trans (congrArg some (by kernel_rfl))
 f283 := Tryz.func157.trans (congrArg some (by kernel_rfl))
 f284 := Tryz.func158.trans (congrArg some (by kernel_rfl))
 f285 := Tryz.func159.trans (congrArg some (by kernel_rfl))
 f286 := Tryz.func160.trans (congrArg some (by kernel_rfl))
 f287 := Tryz.func211.trans (congrArg some (by kernel_rfl))
 f316 := Tryz.func212.trans (congrArg some (by kernel_rfl))
 f317 := Tryz.func186.trans (congrArg some (by kernel_rfl))
 f318 := Tryz.func187.trans (congrArg some (by kernel_rfl))
 f319 := Tryz.func188.trans (congrArg some (by kernel_rfl))
 f320 := Tryz.func189.trans (congrArg some (by kernel_rfl))
 f321 := Tryz.func216.trans (congrArg some (by kernel_rfl))
 f322 := Tryz.func217.trans (congrArg some (by kernel_rfl))
 f337 := Tryz.func207.trans (congrArg some (by kernel_rfl))
 f338 := Tryz.func208.trans (congrArg some (by kernel_rfl))
 t0 := Tryz.underlying0
 a0 := Tryz.isAgg0
 z0 := Tryz.sizeOf0
 v0 := Tryz.zeroValue0
 t2 := Tryz.underlying2
 a2 := Tryz.isAgg2
 z2 := Tryz.sizeOf2
 v2 := Tryz.zeroValue2
 t3 := Tryz.underlying3
 a3 := Tryz.isAgg3
 z3 := Tryz.sizeOf3
 v3 := Tryz.zeroValue3
 t4 := Tryz.underlying4
 a4 := Tryz.isAgg4
 z4 := Tryz.sizeOf4
 v4 := Tryz.zeroValue4
 t5 := Tryz.underlying5
 a5 := Tryz.isAgg5
 z5 := Tryz.sizeOf5
 v5 := Tryz.zeroValue5
 t9 := Tryz.underlying9
 a9 := Tryz.isAgg9
 z9 := Tryz.sizeOf9
 v9 := Tryz.zeroValue9
 t20 := Tryz.underlying20
 a20 := Tryz.isAgg20
 z20 := Tryz.sizeOf20
 v20 := Tryz.zeroValue20
 t21 := Tryz.underlying21
 a21 := Tryz.isAgg21
 z21 := Tryz.sizeOf21
 v21 := Tryz.zeroValue21
 t37 := Tryz.underlying131
 a37 := Tryz.isAgg131
 z37 := Tryz.sizeOf131
 v37 := Tryz.zeroValue131
 t46 := Tryz.underlying178
 a46 := Tryz.isAgg178
 z46 := Tryz.sizeOf178
 v46 := Tryz.zeroValue178
 t51 := Tryz.underlying212
 a51 := Tryz.isAgg212
 z51 := Tryz.sizeOf212
 v51 := Tryz.zeroValue212
 t53 := Tryz.underlying191
 a53 := Tryz.isAgg191
 z53 := Tryz.sizeOf191
 v53 := Tryz.zeroValue191
 t75 := Tryz.underlying136
 a75 := Tryz.isAgg136
 z75 := Tryz.sizeOf136
 v75 := Tryz.zeroValue136
 t76 := Tryz.underlying137
 a76 := Tryz.isAgg137
 z76 := Tryz.sizeOf137
 v76 := Tryz.zeroValue137
 t85 := Tryz.underlying220
 a85 := Tryz.isAgg220
 z85 := Tryz.sizeOf220
 v85 := Tryz.zeroValue220
 t127 := Tryz.underlying170
 a127 := Tryz.isAgg170
 z127 := Tryz.sizeOf170
 v127 := Tryz.zeroValue170
 t143 := Tryz.underlying249
 a143 := Tryz.isAgg249
 z143 := Tryz.sizeOf249
 v143 := Tryz.zeroValue249
 t145 := Tryz.underlying251
 a145 := Tryz.isAgg251
 z145 := Tryz.sizeOf251
 v145 := Tryz.zeroValue251
 t167 := Tryz.underlying219
 a167 := Tryz.isAgg219
 z167 := Tryz.sizeOf219
 v167 := Tryz.zeroValue219
 t168 := Tryz.underlying222
 a168 := Tryz.isAgg222
 z168 := Tryz.sizeOf222
 v168 := Tryz.zeroValue222
 t171 := Tryz.underlying190
 a171 := Tryz.isAgg190
 z171 := Tryz.sizeOf190
 v171 := Tryz.zeroValue190
 t173 := Tryz.underlying194
 a173 := Tryz.isAgg194
 z173 := Tryz.sizeOf194
 v173 := Tryz.zeroValue194
 t175 := Tryz.underlying237
 a175 := Tryz.isAgg237
 z175 := Tryz.sizeOf237
 v175 := Tryz.zeroValue237
 t210 := Tryz.underlying241
 a210 := Tryz.isAgg241
 z210 := Tryz.sizeOf241
 v210 := Tryz.zeroValue241
 t212 := Tryz.underlying217
 a212 := Tryz.isAgg217
 z212 := Tryz.sizeOf217
 v212 := Tryz.zeroValue217
 t213 := Tryz.underlying218
 a213 := Tryz.isAgg218
 z213 := Tryz.sizeOf218
 t232 := Tryz.underlying246
 a232 := Tryz.isAgg246
 z232 := Tryz.sizeOf246
 v232 := Tryz.zeroValue246
 t233 := Tryz.underlying247
 a233 := Tryz.isAgg247
 z233 := Tryz.sizeOf247
 v233 := Tryz.zeroValue247
 g15 := by kernel_rfl
 g16 := by kernel_rfl
 g17 := by kernel_rfl
 g18 := by kernel_rfl
 g19 := by kernel_rfl
 t80 := Tryz.underlying139
 a80 := Tryz.isAgg139
 z80 := Tryz.sizeOf139
 v80 := Tryz.zeroValue139
 i0 := by kernel_rfl
 i2 := by kernel_rfl
 i3 := by kernel_rfl
 i4 := by kernel_rfl
 i5 := by kernel_rfl
 i9 := by kernel_rfl
 i20 := by kernel_rfl
 i21 := by kernel_rfl
 i37 := by kernel_rfl
 i46 := by kernel_rfl
 i51 := by kernel_rfl
 i53 := by kernel_rfl
 i75 := by kernel_rfl
 i76 := by kernel_rfl
 i80 := by kernel_rfl
 i85 := by kernel_rfl
 i127 := by kernel_rfl
 i143 := by kernel_rfl
 i145 := by kernel_rfl
 i167 := by kernel_rfl
 i168 := by kernel_rfl
 i171 := by kernel_rfl
 i173 := by kernel_rfl
 i175 := by kernel_rfl
 i210 := by kernel_rfl
 i212 := by kernel_rfl
 i232 := by kernel_rfl
 i233 := by kernel_rfl
 m15 := by kernel_rfl
 m16 := by kernel_rfl
 m17 := by kernel_rfl
 m18 := by kernel_rfl
 m19 := by kernel_rfl
 c0 := by kernel_rfl
 c2 := by kernel_rfl
 c3 := by kernel_rfl
 c4 := by kernel_rfl
 c5 := by kernel_rfl
 c9 := by kernel_rfl
 c20 := by kernel_rfl
 c21 := by kernel_rfl
 c37 := by kernel_rfl
 c46 := by kernel_rfl
 c51 := by kernel_rfl
 c53 := by kernel_rfl
 c75 := by kernel_rfl
 c76 := by kernel_rfl
 c80 := by kernel_rfl
 c85 := by kernel_rfl
 c127 := by kernel_rfl
 c143 := by kernel_rfl
 c145 := by kernel_rfl
 c167 := by kernel_rfl
 c168 := by kernel_rfl
 c171 := by kernel_rfl
 c173 := by kernel_rfl
 c175 := by kernel_rfl
 c210 := by kernel_rfl
 c212 := by kernel_rfl
 c213 := by kernel_rfl
 c232 := by kernel_rfl
 c233 := by kernel_rfl }
def Tryz.lays145_ren : Go.Shelf.Ren := ⟨fun | 145 => 139 | 220 => 168 | 219 => 166 | 217 => 191 | 225 => 192 | 224 => 193 | 267 => 194 | 266 => 209 | 314 => 210 | n => n, fun | 9 => 9 | 4 => 4 | 59 => 172 | 3 => 3 | 5 => 5 | 46 => 178 | 146 => 235 | 51 => 212 | n => n, fun | 1 => 1 | n => n⟩
theorem Tryz.lays145 : Go.Proofs.Lays.n145 Tryz.prog Tryz.lays145_ren := {
 mixed := by kernel_rfl
 f145 := Tryz.func139.trans (congrArg some (by kernel_rfl))
 f217 := Tryz.func191.trans (congrArg some (by kernel_rfl))
 f219 := Tryz.func166.trans (congrArg some (by kernel_rfl))
 f220 := Tryz.func168.trans (congrArg some (by kernel_rfl))
 f224 := Tryz.func193.trans (congrArg some (by kernel_rfl))
 f225 := Tryz.func192.trans (congrArg some (by kernel_rfl))
 f266 := Tryz.func209.trans (congrArg some (by kernel_rfl))
 f267 := Tryz.func194.trans (congrArg some (by kernel_rfl))
 f314 := Tryz.func210.trans (congrArg some (by kernel_rfl))
 t3 := Tryz.underlying3
 a3 := Tryz.isAgg3
 z3 := Tryz.sizeOf3
 v3 := Tryz.zeroValue3
 t4 := Tryz.underlying4
 a4 := Tryz.isAgg4
 z4 := Tryz.sizeOf4
 v4 := Tryz.zeroValue4
 t5 := Tryz.underlying5
 a5 := Tryz.isAgg5
 z5 := Tryz.sizeOf5
 v5 := Tryz.zeroValue5
 t9 := Tryz.underlying9
 a9 := Tryz.isAgg9
 z9 := Tryz.sizeOf9
 v9 := Tryz.zeroValue9
 t46 := Tryz.underlying178
 a46 := Tryz.isAgg178
 z46 := Tryz.sizeOf178
 v46 := Tryz.zeroValue178
 t51 := Tryz.underlying212
 a51 := Tryz.isAgg212
 z51 := Tryz.sizeOf212
 v51 := Tryz.zeroValue212
 t59 := Tryz.underlying172
 a59 := Tryz.isAgg172
 z59 := Tryz.sizeOf172
 v59 := Tryz.zeroValue172
 t146 := Tryz.underlying235
 a146 := Tryz.isAgg235
 z146 := Tryz.sizeOf235
 v146 := Tryz.zeroValue235
 g1 := by kernel_rfl }
def Tryz.laysGw17_ren : Go.Shelf.Ren := ⟨fun | 17 => 155 | 15 => 185 | 20 => 206 | n => n, fun | 9 => 9 | 23 => 189 | 4 => 4 | 3 => 3 | 0 => 0 | 21 => 21 | n => n, fun | n => n⟩
theorem Tryz.laysGw17 : Go.Proofs.LaysGw.n17 Tryz.prog Tryz.laysGw17_ren := {
 mixed := by kernel_rfl
 f15 := Tryz.func185.trans (congrArg some (by kernel_rfl))
 f17 := Tryz.func155.trans (congrArg some (by kernel_rfl))
 f20 := Tryz.func206.trans (congrArg some (by kernel_rfl))
 t0 := Tryz.underlying0
 a0 := Tryz.isAgg0
 z0 := Tryz.sizeOf0
 v0 := Tryz.zeroValue0
 i0 := by kernel_rfl
 t3 := Tryz.underlying3
 a3 := Tryz.isAgg3
 z3 := Tryz.sizeOf3
 v3 := Tryz.zeroValue3
 i3 := by kernel_rfl
 t4 := Tryz.underlying4
 a4 := Tryz.isAgg4
 z4 := Tryz.sizeOf4
 v4 := Tryz.zeroValue4
 i4 := by kernel_rfl
 t9 := Tryz.underlying9
 a9 := Tryz.isAgg9
 z9 := Tryz.sizeOf9
 v9 := Tryz.zeroValue9
 i9 := by kernel_rfl
 t21 := Tryz.underlying21
 a21 := Tryz.isAgg21
 z21 := Tryz.sizeOf21
 v21 := Tryz.zeroValue21
 i21 := by kernel_rfl
 t23 := Tryz.underlying189
 a23 := Tryz.isAgg189
 z23 := Tryz.sizeOf189
 v23 := Tryz.zeroValue189
 i23 := by kernel_rfl }
def Tryz.lays146_ren : Go.Shelf.Ren := ⟨fun | 146 => 59 | 221 => 105 | 268 => 135 | 138 => 136 | 143 => 137 | 195 => 163 | 197 => 164 | 218 => 165 | 219 => 166 | 260 => 190 | 217 => 191 | 225 => 192 | 224 => 193 | 267 => 194 | 266 => 209 | 314 => 210 | n => n, fun | 9 => 9 | 31 => 22 | 3 => 3 | 4 => 4 | 0 => 0 | 105 => 199 | 21 => 21 | 5 => 5 | 46 => 178 | 119 => 231 | 139 => 234 | 138 => 233 | 146 => 235 | 51 => 212 | n => n, fun | 1 => 1 | 3 => 2 | 4 => 3 | n => n⟩
theorem Tryz.lays146 : Go.Proofs.Lays.n146 Tryz.prog Tryz.lays146_ren := {
 mixed := by kernel_rfl
 f138 := Tryz.func136.trans (congrArg some (by kernel_rfl))
 f143 := Tryz.func137.trans (congrArg some (by kernel_rfl))
 f146 := Tryz.func59.trans (congrArg some (by kernel_rfl))
 f195 := Tryz.func163.trans (congrArg some (by kernel_rfl))
 f197 := Tryz.func164.trans (congrArg some (by kernel_rfl))
 f217 := Tryz.func191.trans (congrArg some (by kernel_rfl))
 f218 := Tryz.func165.trans (congrArg some (by kernel_rfl))
 f219 := Tryz.func166.trans (congrArg some (by kernel_rfl))
 f221 := Tryz.func105.trans (congrArg some (by kernel_rfl))
 f224 := Tryz.func193.trans (congrArg some (by kernel_rfl))
 f225 := Tryz.func192.trans (congrArg some (by kernel_rfl))
 f260 := Tryz.func190.trans (congrArg some (by kernel_rfl))
 f266 := Tryz.func209.trans (congrArg some (by kernel_rfl))
 f267 := Tryz.func194.trans (congrArg some (by kernel_rfl))
 f268 := Tryz.func135.trans (congrArg some (by kernel_rfl))
 f314 := Tryz.func210.trans (congrArg some (by kernel_rfl))
 t0 := Tryz.underlying0
 a0 := Tryz.isAgg0
 z0 := Tryz.sizeOf0
 v0 := Tryz.zeroValue0
 t3 := Tryz.underlying3
 a3 := Tryz.isAgg3
 z3 := Tryz.sizeOf3
 v3 := Tryz.zeroValue3
 t4 := Tryz.underlying4
 a4 := Tryz.isAgg4
 z4 := Tryz.sizeOf4
 v4 := Tryz.zeroValue4
 t5 := Tryz.underlying5
 a5 := Tryz.isAgg5
 z5 := Tryz.sizeOf5
 v5 := Tryz.zeroValue5
 t9 := Tryz.underlying9
 a9 := Tryz.isAgg9
 z9 := Tryz.sizeOf9
 v9 := Tryz.zeroValue9
 t21 := Tryz.underlying21
 a21 := Tryz.isAgg21
 z21 := Tryz.sizeOf21
 v21 := Tryz.zeroValue21
 t31 := Tryz.underlying22
 a31 := Tryz.isAgg22
 z31 := Tryz.sizeOf22
 v31 := Tryz.zeroValue22
 t46 := Tryz.underlying178
 a46 := Tryz.isAgg178
 z46 := Tryz.sizeOf178
 v46 := Tryz.zeroValue178
 t51 := Tryz.underlying212
 a51 := Tryz.isAgg212
 z51 := Tryz.sizeOf212
 v51 := Tryz.zeroValue212
 t105 := Tryz.underlying199
 a105 := Tryz.isAgg199
 z105 := Tryz.sizeOf199
 v105 := Tryz.zeroValue199
 t119 := Tryz.underlying231
 a119 := Tryz.isAgg231
 z119 := Tryz.sizeOf231
 t138 := Tryz.underlying233
 a138 := Tryz.isAgg233
 z138 := Tryz.sizeOf233
 v138 := Tryz.zeroValue233
 t139 := Tryz.underlying234
 a139 := Tryz.isAgg234
 z139 := Tryz.sizeOf234
 v139 := Tryz.zeroValue234
 t146 := Tryz.underlying235
 a146 := Tryz.isAgg235
 z146 := Tryz.sizeOf235
 v146 := Tryz.zeroValue235
 g1 := by kernel_rfl
 g3 := by kernel_rfl
 g4 := by kernel_rfl }
open Go.RowKit in
theorem Tryz.strings_Compare (a b : ByteArray) (w : World) :
 Calls Tryz.prog 182 #[.string a, .string b] w fun e w' => e = .returned (.int .i64 (Lib.compareBytes a.data.toList b.data.toList)) ∧ w' = w := Any.strings_Compare Tryz.lays106 a b w
open Go.RowKit in
theorem Tryz.cmp_Compare_int (x y : Int) (w : World) :
 Calls Tryz.prog 144 #[.int .i64 x, .int .i64 y] w fun e w' => e = .returned (.int .i64 (Lib.compareInt x y)) ∧ w' = w := Any.cmp_Compare_int Tryz.lays122 x y w
open Go.RowKit Go.Lib in
theorem Tryz.slices_Clone_string (b off n c : Nat) (zs : List ByteArray) (w : World) (hz : n ≤ zs.length) (hbig : n * 16 ≤ 140737488355328) (hc : ∀ j, j < zs.length → w.cell? ⟨b, off + j, none⟩ = some (.string (zs.getD j ByteArray.empty))) :
 Calls Tryz.prog 66 #[.slice (some ⟨b, off, none⟩) n c] w fun e w' => ∃ v', e = .returned v' ∧ w'.ownsRow w.heap.size 9 1 v' n ((zs.take n).map (Value.string)) ∧ v' ≠ .slice none 0 0 ∧ Below w.heap.size w w' := Any.slices_Clone_string Tryz.laysNm216 b off n c zs w hz hbig hc
open Go.RowKit Go.Lib in
theorem Tryz.slices_Clone_string_nil (n c : Nat) (w : World) :
 Calls Tryz.prog 66 #[.slice none n c] w fun e w' => e = .returned (.slice none 0 0) ∧ w' = w := Any.slices_Clone_string_nil Tryz.laysNm216 n c w
open Go.RowKit Go.Lib in
theorem Tryz.slices_Clone_string_zero (a : Addr) (c : Nat) (w : World) :
 Calls Tryz.prog 66 #[.slice (some a) 0 c] w fun e w' => ∃ v', e = .returned v' ∧ w'.ownsRow w.heap.size 9 1 v' 0 [] ∧ v' ≠ .slice none 0 0 ∧ Below w.heap.size w w' := Any.slices_Clone_string_zero Tryz.laysNm216 a c w
open Go.RowKit in
open Go.RowKit in
theorem Tryz.strings_Join (bk o c : Nat) (xs : List ByteArray) (sep : ByteArray) (w : World) (hcells : ∀ (j : Nat) x, xs[j]? = some x → w.cell? ⟨bk, o + j, none⟩ = some (.string x)) (hbk : bk < w.heap.size) (hN : xs.length ≤ 140737488355328) (hcap : xs.length ≤ c) (hlen : (Lib.join (xs.map (·.data.toList)) sep.data.toList).length ≤ 140737488355328) :
 Calls Tryz.prog 55 #[.slice (some ⟨bk, o, none⟩) xs.length c, .string sep] w fun e w' => e = .returned (.string ⟨(Lib.join (xs.map (·.data.toList)) sep.data.toList).toArray⟩) ∧ Below w.heap.size w w' := Any.strings_Join Tryz.lays156 Tryz.Builder_Extra_156 bk o c xs sep w hcells hbk hN hcap hlen
open Go.RowKit Go.Sort Go.Lib in
theorem Tryz.strconv_Itoa (n : Int) (h0 : -9223372036854775808 ≤ n) (h1 : n ≤ 9223372036854775807) (w : World) (htab : Lib.TabIs Tryz.prog w "internal/strconv.uint64pow10" .u64 Lib.pow10Tab) :
 Calls Tryz.prog 54 #[.int .i64 n] w fun e w' => e = .returned (.string ⟨(Lib.itoa n).toArray⟩) ∧ ∃ k os, w' = grow (w.drewN k) os := Any.strconv_Itoa Tryz.laysM171 n h0 h1 w htab
open Go.RowKit in
theorem Tryz.strconv_Atoi_ok (s : ByteArray) (hmax : s.size ≤ 9223372036854775806) (v : Int) (h : Lib.atoiAll s.data.toList = .ok v) (w : World) :
 Calls Tryz.prog 140 #[.string s] w fun e w' => e = .returned (.tuple #[.int .i64 v, .nilIface]) ∧ (w' = w ∨ ∃ t, w' = Lib.bytesWorld w 5 t) := Any.strconv_Atoi_ok Tryz.laysC172 s hmax v h w
open Go.RowKit in
theorem Tryz.strconv_Atoi_syntax (s : ByteArray) (hlim : s.size ≤ 281474976710656) (h : Lib.atoiAll s.data.toList = Lib.NumEnd.syntax) (ev : Value) (w : World) (hv : w.cell? ⟨4, 0, none⟩ = some ev) (hev : ev = .nilIface ∨ ∃ te pe, ev = .iface te pe) :
 Calls Tryz.prog 140 #[.string s] w fun e w' => ∃ N, e = .returned (.tuple #[.int .i64 (0), .iface 222 (.pointer (some ⟨N, 0, none⟩))]) ∧ w.heap.size ≤ N ∧ w'.heap[N]? = some (.cells #[.string ⟨#[65, 116, 111, 105]⟩, .string s, ev] 241 (0, 0)) ∧ Below w.heap.size w w' := Any.strconv_Atoi_syntax Tryz.laysC172 s hlim h ev w hv hev
open Go.RowKit in
theorem Tryz.strconv_Atoi_range (s : ByteArray) (hlim : s.size ≤ 281474976710656) (h : Lib.atoiAll s.data.toList = .range) (ev : Value) (w : World) (hv : w.cell? ⟨5, 0, none⟩ = some ev) (hev : ev = .nilIface ∨ ∃ te pe, ev = .iface te pe) :
 Calls Tryz.prog 140 #[.string s] w fun e w' => ∃ N, e = .returned (.tuple #[.int .i64 (Lib.atoiSat s.data.toList), .iface 222 (.pointer (some ⟨N, 0, none⟩))]) ∧ w.heap.size ≤ N ∧ w'.heap[N]? = some (.cells #[.string ⟨#[65, 116, 111, 105]⟩, .string s, ev] 241 (0, 0)) ∧ Below w.heap.size w w' := Any.strconv_Atoi_range Tryz.laysC172 s hlim h ev w hv hev
open Go.RowKit Go.Lib in
theorem Tryz.strings_Cut (s sep : ByteArray) (m : Int) (w : World) (hs : s.size < 4294967281) (hm : w.cell? ⟨1, 0, none⟩ = some (.int .i64 m)) :
 Calls Tryz.prog 139 #[.string s, .string sep] w fun e w' => e = .returned (.tuple #[.string ⟨(Lib.cut s.data.toList sep.data.toList).1.toArray⟩, .string ⟨(Lib.cut s.data.toList sep.data.toList).2.1.toArray⟩, .bool (Lib.cut s.data.toList sep.data.toList).2.2]) ∧ ∃ n, w' = w.drewN n := Any.strings_Cut Tryz.lays145 s sep m w hs hm
open Go.RowKit Go.Lib in
theorem Tryz.strings_ContainsFunc_runes (g : Nat) (lb : Array Value) (eg : ∀ args w, (callFunc g args).run Tryz.prog w = .ok (.enter g args) w) (p : Nat → Bool) (s : ByteArray) (w : World) (hp : PredAtRunes Tryz.prog g lb p w) :
 Calls Tryz.prog 155 #[.string s, .func (.func g) #[] lb] w fun e w' => e = .returned (.bool (decide (0 ≤ Lib.idxFunc p true s))) ∧ Below w.heap.size w w' := Any.strings_ContainsFunc_runes Tryz.laysGw17 g lb eg p s w hp
open Go.RowKit Go.Lib in
theorem Tryz.strings_Split (s sep : ByteArray) (m : Int) (w : World) (hs : s.size < 4294967281) (hm : w.cell? ⟨1, 0, none⟩ = some (.int .i64 m)) (h1 : 1 ≤ sep.size) :
 Calls Tryz.prog 59 #[.string s, .string sep] w fun e w' =>
  e = .returned (.slice (some ⟨w.heap.size, 0, none⟩) (Lib.countB s sep + 1) (Lib.countB s sep + 1)) ∧ w' = w.alloc (.cells ((Lib.splitB sep 0 (Lib.countB s sep) s).map Value.string).toArray 9) := Any.strings_Split Tryz.lays146 (by kernel_rfl) s sep m w hs hm h1
end Go.Proofs

end
namespace Go.Proofs.YtolfgcoalihmgaaGreatDoor
section
open Go.RowKit
namespace Pl
def asciiB (l : List UInt8) : Bool := l.all fun c => decide (c.toNat < 128)
theorem ascii_get {s : ByteArray} (h : asciiB (bsl s) = true) {k : Nat} (hk : k < s.size) : s[k].toNat < 128 := by
 unfold asciiB at h
 rw [List.all_eq_true] at h
 have := h s[k] (by unfold bsl; exact List.getElem_mem (by simpa using hk))
 simpa using this
theorem idx_ascii {p : Nat → Bool} {s : ByteArray} (ha : asciiB (bsl s) = true) : ∀ (f pos : Nat), s.size ≤ pos + f → decide (0 ≤ Lib.idxFuncFrom p true s f pos) = ((bsl s).drop pos).any fun c => p c.toNat
 | 0, pos, h => by
   rw [List.drop_of_length_le (by rw [bsl_len]; omega)]
   rfl
 | f + 1, pos, h => by
   unfold Lib.idxFuncFrom
   by_cases hlt : pos < s.size
   · rw [if_pos hlt, decode_ascii s pos hlt (ascii_get ha hlt)]
     have hd : (bsl s).drop pos = s[pos] :: (bsl s).drop (pos + 1) := by
      rw [List.drop_eq_getElem_cons (by rw [bsl_len]; exact hlt)]; rfl
     rw [hd, List.any_cons]
     cases hp : p s[pos].toNat with
     | true => rw [if_pos rfl]; simp
     | false => rw [if_neg (by decide), idx_ascii ha f (pos + 1) (by omega)]; rfl
   · rw [if_neg hlt, List.drop_of_length_le (by rw [bsl_len]; omega)]; rfl
theorem idx_any {p : Nat → Bool} {s : ByteArray} (ha : asciiB (bsl s) = true) : decide (0 ≤ Lib.idxFunc p true s) = (bsl s).any fun c => p c.toNat := by
 unfold Lib.idxFunc
 rw [idx_ascii ha s.size 0 (by omega), List.drop_zero]
def notDig (x : Nat) : Bool := !(decide (48 ≤ x) && decide (x ≤ 57))
theorem notDig_any (l : List UInt8) : (l.any fun c => notDig c.toNat) = !digsB l := by
 unfold digsB
 induction l with
 | nil => rfl
 | cons c l ih => rw [List.any_cons, List.all_cons, ih, Bool.not_and]; rfl
theorem idc_ascii {c : UInt8} (h : idcB c = true) : c.toNat < 128 := by
 rw [idcB_eq] at h
 simp only [Bool.or_eq_true, inB_true, decide_eq_true_eq] at h
 omega
theorem all_ascii {l : List UInt8} (h : l.all idcB = true) : asciiB l = true := by
 unfold asciiB
 rw [List.all_eq_true] at *
 exact fun c hc => by simpa using idc_ascii (h c hc)
theorem ident_ascii {l : List UInt8} (h : identB l = true) : asciiB l = true := all_ascii (identB_iff.1 h).2.2.1
def orL : List Int → Int
 | [] => 0
 | x :: l => if x = 0 then orL l else x
theorem orL_drop {xs : List Int} {k : Nat} (hk : k < xs.length) (h : orL (xs.drop k) = orL xs) : (xs[k] = 0 → orL (xs.drop (k + 1)) = orL xs) ∧ (xs[k] ≠ 0 → orL xs = xs[k]) := by
 rw [List.drop_eq_getElem_cons hk, orL] at h
 refine ⟨fun e => ?_, fun e => ?_⟩
 · rwa [if_pos e] at h
 · rw [if_neg e] at h; exact h.symm
end Pl
theorem isDig_gives (w : World) : PredAtRunes Tryz.prog 156 #[] Pl.notDig w := fun W x hx _ => by
 unfold FnGives Pl.notDig
 by_cases h1 : 48 ≤ x <;> by_cases h2 : x ≤ 57
 all_goals
  show Calls Tryz.prog 156 #[.int .i32 x] W _
  go_enter Tryz.func156, Tryz.ntmps156
  go_wp2
  all_goals (go_ret; exact ⟨ret_bool (by first | rfl | (rw [Bool.eq_iff_iff]; simp <;> omega)), 0, rfl⟩)
theorem numeric_any (s : ByteArray) (w : World) (ha : Pl.asciiB (Pl.bsl s) = true) :
 Calls Tryz.prog 131 #[.string s] w fun e w' => e = .returned (.bool (Pl.digsB (Pl.bsl s))) ∧ Below w.heap.size w w' := by
 have E := Hd (show (!decide (0 ≤ Lib.idxFunc Pl.notDig true s)) = Pl.digsB (Pl.bsl s) by rw [Pl.idx_any ha, Pl.notDig_any, Bool.not_not])
 have eg := Hd (show ∀ args w, (callFunc 156 args).run Tryz.prog w = .ok (.enter 156 args) w from enters_of Tryz.func156 (by kernel_rfl) rfl)
 clear ha
 go_enter Tryz.func131, Tryz.ntmps131
 go_wp2_with (go_at_call 155; refine (Tryz.strings_ContainsFunc_runes 156 #[] eg.out Pl.notDig _ _ (isDig_gives _)).mono ?_; rintro e w' ⟨rfl, hb⟩)
 go_ret
 exact ⟨ret_bool E.out, hb⟩
theorem Or_any (xs : List Int) (oa : Option Addr) (cap : Nat) (w : World) (hs : Sl w oa xs.length cap 1 (intVals xs)) (hm : xs.length ≤ 9223372036854775807) :
 Calls Tryz.prog 143 #[.slice oa xs.length cap] w fun e w' => e = .returned (.int .i64 (Pl.orL xs)) ∧ w = w' := by
 rcases hs.mem with h0 | ⟨b, off, rfl, hlt, hc⟩
 · have hl : xs = [] := by simpa [intVals] using h0
   subst hl
   go_enter Tryz.func143, Tryz.ntmps143
   go_wp2
   go_rounds 1
   go_ret
   exact ⟨rfl, rfl⟩
 · clear hs
   go_enter Tryz.func143, Tryz.ntmps143
   go_wp2
   go_loop [8] (fun i => ∃ k : Nat, k ≤ xs.length ∧ i = .int .i64 k ∧ Hid (Pl.orL (xs.drop k) = Pl.orL xs)) (fun i => xs.length - (intOf i).toNat)
   case atStart => exact ⟨0, Nat.zero_le _, rfl, by show Pl.orL (xs.drop 0) = _; rfl⟩
   case round =>
    obtain ⟨k, hk, rfl, hu⟩ := hrel
    by_cases hlt2 : k < xs.length
    · have hcell : w.cell? ⟨b, off + k, none⟩ = some (.int .i64 xs[k]) := hc k _ (intVals_get xs k hlt2)
      clear hc
      obtain ⟨g1, g2⟩ := Pl.orL_drop hlt2 hu.out
      by_cases he : xs[k] = 0
      · have t1 : (xs[k] != 0) = false := by simp [he]
        have t2 : (xs[k] == 0) = true := by simp [he]
        have E := Hd (g1 he)
        clear he g1 g2
        go_wp2
        go_round
        case rel => exact ⟨k + 1, hlt2, by go_num, E⟩
        case measure => simp [intOf]; omega
      · have t1 : (xs[k] != 0) = true := by simp [he]
        have t2 : (xs[k] == 0) = false := by simp [he]
        have E := Hd (g2 he)
        clear he g1 g2
        go_wp2
        go_ret
        exact ⟨ret_int E.out.symm, rfl⟩
    · have E := Hd (show Pl.orL xs = 0 by have := hu.out; rw [List.drop_of_length_le (by omega)] at this; exact this.symm)
      go_wp2
      go_ret
      exact ⟨ret_int E.out.symm, rfl⟩
end
section
open Go.RowKit
namespace Pl
theorem idcB_yes {c : UInt8} (h : 48 ≤ (c.toNat : Int) ∧ (c.toNat : Int) ≤ 57 ∨ 97 ≤ (c.toNat : Int) ∧ (c.toNat : Int) ≤ 122 ∨ 65 ≤ (c.toNat : Int) ∧ (c.toNat : Int) ≤ 90 ∨ (c.toNat : Int) = 45) : idcB c = true := by
 rw [idcB_eq]; simp only [Bool.or_eq_true, inB_true, decide_eq_true_eq]; omega
theorem idcB_no {c : UInt8} (h : ¬ (48 ≤ (c.toNat : Int) ∧ (c.toNat : Int) ≤ 57 ∨ 97 ≤ (c.toNat : Int) ∧ (c.toNat : Int) ≤ 122 ∨ 65 ≤ (c.toNat : Int) ∧ (c.toNat : Int) ≤ 90 ∨ (c.toNat : Int) = 45)) : idcB c = false := by
 rw [← Bool.not_eq_true, idcB_eq]; simp only [Bool.or_eq_true, inB_true, decide_eq_true_eq]; omega
theorem lead_cases (s : ByteArray) (h0 : 0 < s.size) : digsB (bsl s) = false ∧ leadB (bsl s) = false ∨ digsB (bsl s) = true ∧ s.size ≤ 1 ∧ leadB (bsl s) = false ∨
 digsB (bsl s) = true ∧ 1 < s.size ∧ ((s[0].toNat : Int) == 48) = false ∧ leadB (bsl s) = false ∨ digsB (bsl s) = true ∧ 1 < s.size ∧ ((s[0].toNat : Int) == 48) = true ∧ leadB (bsl s) = true := by
 unfold leadB
 rw [bsl_len, head_get h0]
 cases hd : digsB (bsl s) with
 | false => exact .inl ⟨rfl, rfl⟩
 | true =>
   by_cases h1 : s.size ≤ 1
   · exact .inr (.inl ⟨rfl, h1, by rw [decide_eq_false (by omega)]; rfl⟩)
   · rw [decide_eq_true (show 1 < s.size by omega)]
     by_cases hz : (s[0].toNat : Int) = 48
     · refine .inr (.inr (.inr ⟨rfl, by omega, by simp [hz], ?_⟩))
       have : s[0] = 48 := by rw [← UInt8.toNat_inj]; show _ = 48; omega
       rw [this]; rfl
     · refine .inr (.inr (.inl ⟨rfl, by omega, by simp [hz], ?_⟩))
       have : s[0] ≠ 48 := fun h => hz (by rw [h]; rfl)
       simp [this]
end Pl
set_option maxHeartbeats 1000000 in
theorem identifier_any (s : ByteArray) (w : World) (hs : s.size ≤ 9223372036854775807) :
 Calls Tryz.prog 99 #[.string s] w fun e w' => e = .returned (.bool (Pl.identB (Pl.bsl s))) ∧ Below w.heap.size w w' := by
 by_cases h1 : 1 ≤ s.size ∧ s.size ≤ 8
 · have t1 : ((s.size : Int) == 0) = false := beqF (by omega)
   go_enter Tryz.func99, Tryz.ntmps99
   go_wp2_with fail
   go_loop [15] (fun i => ∃ k : Nat, k ≤ s.size ∧ i = .int .i64 k ∧ Hid (((Pl.bsl s).take k).all Pl.idcB = true)) (fun i => s.size - (intOf i).toNat)
   case atStart => exact ⟨0, Nat.zero_le _, rfl, rfl⟩
   case round =>
    obtain ⟨k, hk, rfl, hu⟩ := hrel
    by_cases hlt : k < s.size
    · have hgood := Hd (fun h => Pl.idcB_snoc (s := s) (k := k) hlt hu.out h)
      have hbad := Hd (fun h => Pl.idcB_bad (s := s) (k := k) hlt h)
      have h255 : (s[k].toNat : Int) ≤ 255 := by have := s[k].toNat_lt; omega
      by_cases h45 : (s[k].toNat : Int) = 45
      · have a1 := beqT h45
        have a2 := bneF h45
        replace h45 := Hd h45
        go_wp2_with fail
        all_goals
         go_round
         case rel => exact ⟨k + 1, by omega, by go_num, Hd (hgood.out (Pl.idcB_yes (.inr (.inr (.inr h45.out)))))⟩
         case measure => simp [intOf]; omega
      · have a1 := beqF h45
        have a2 := bneT h45
        replace h45 := Hd h45
        go_wp2_with fail
        all_goals first
         | (go_round
            case rel => exact ⟨k + 1, by omega, by go_num, Hd (hgood.out (Pl.idcB_yes (by omega)))⟩
            case measure => simp [intOf]; omega)
         | (have h46 := h45.out
            go_ret
            exact ⟨ret_bool (hbad.out (Pl.idcB_no (by omega))).symm, Below.refl _ _⟩)
    · have hall : (Pl.bsl s).all Pl.idcB = true := by
       have := hu.out
       rwa [List.take_of_length_le (by rw [Pl.bsl_len]; omega)] at this
      have ha := Hd (Pl.all_ascii hall)
      have E := Hd (show Pl.identB (Pl.bsl s) = !Pl.leadB (Pl.bsl s) by rw [Pl.identB_lead, hall, Pl.bsl_len]; simp [h1])
      have h0 : 0 < s.size := by omega
      clear hall
      rcases Pl.lead_cases s h0 with ⟨d1, d2⟩ | ⟨d1, d3, d2⟩ | ⟨d1, d3, d4, d2⟩ | ⟨d1, d3, d4, d2⟩
      rotate_left 1
      · have t2 : ((s.size : Int) == 1) = true := beqT (by omega)
        rw [d2] at E
        clear d2
        go_wp2_with (go_at_call 131; refine (numeric_any _ _ ha.out).mono ?_; rintro e w' ⟨rfl, hb⟩)
        go_ret
        exact ⟨ret_bool E.out.symm, hb⟩
      · have t2 : ((s.size : Int) == 1) = false := beqF (by omega)
        have t3 : ((s[0].toNat : Int) != 48) = true := by rw [bne, d4]; rfl
        rw [d2] at E
        clear d2
        go_wp2_with (go_at_call 131; refine (numeric_any _ _ ha.out).mono ?_; rintro e w' ⟨rfl, hb⟩)
        go_ret
        exact ⟨ret_bool E.out.symm, hb⟩
      · have t2 : ((s.size : Int) == 1) = false := beqF (by omega)
        have t3 : ((s[0].toNat : Int) != 48) = false := by rw [bne, d4]; rfl
        rw [d2] at E
        clear d2
        go_wp2_with (go_at_call 131; refine (numeric_any _ _ ha.out).mono ?_; rintro e w' ⟨rfl, hb⟩)
        go_ret
        exact ⟨ret_bool E.out.symm, hb⟩
      all_goals
       rw [d2] at E
       clear d2
       go_wp2_with (go_at_call 131; refine (numeric_any _ _ ha.out).mono ?_; rintro e w' ⟨rfl, hb⟩)
       go_ret
       exact ⟨ret_bool E.out.symm, hb⟩
 · have E := Hd (show Pl.identB (Pl.bsl s) = false by
    rw [Pl.identB_lead, Pl.bsl_len]
    by_cases h : 1 ≤ s.size
    · rw [decide_eq_false (show ¬ s.size ≤ 8 by omega)]; simp
    · rw [decide_eq_false h]; simp)
   have hc : s.size = 0 ∨ 8 < s.size := by omega
   clear h1
   rcases hc with hc | hc
   · have t1 : ((s.size : Int) == 0) = true := by simp [hc]
     clear hc
     go_enter Tryz.func99, Tryz.ntmps99
     go_wp2_with fail
     go_ret
     exact ⟨ret_bool E.out.symm, Below.refl _ _⟩
   · have t1 : ((s.size : Int) == 0) = false := beqF (by omega)
     go_enter Tryz.func99, Tryz.ntmps99
     go_wp2_with fail
     go_ret
     exact ⟨ret_bool E.out.symm, Below.refl _ _⟩
end
section
open Go.RowKit
theorem Sl.fresh {w : World} {C : List Value} {t : TypeId} {k n cap sz : Nat} (hk : k = w.heap.size) (hl : C.length = n * sz) (hcap : n ≤ cap) (hm : cap ≤ maxLen) : Sl (w.alloc (.cells C.toArray t)) (some ⟨k, 0, none⟩) n cap sz C := by
 subst hk
 exact ⟨hl, hcap, hm, .inr ⟨w.heap.size, 0, rfl, by simp, fun j u hu => by simp [hu]⟩⟩
theorem frozen_setCell {w : World} {a b : Addr} {v : Value} : (w.setCell a v).frozen? b = w.frozen? b := by
 by_cases h : b.block = a.block
 · simp only [World.frozen?, World.setCell, Array.getElem?_modify, h, if_true]
   cases w.heap[a.block]? with
   | none => rfl
   | some o => cases o <;> rfl
 · exact World.frozen?_of_block (Below.heap_setCell _ _ _ _ h)
theorem Box2.set {w : World} {r : Nat} {x y : Value} (h : Box2 w r x y) (x' y' : Value) : Box2 ((w.setCell ⟨r, 0, none⟩ x').setCell ⟨r, 1, none⟩ y') r x' y' := by
 have e1 : (w.setCell ⟨r, 0, none⟩ x').cell? ⟨r, 1, none⟩ = some y := by rw [World.cell?_setCell_other _ _ _ _ (by simp)]; exact h.c1
 have e0 : (w.setCell ⟨r, 0, none⟩ x').cell? ⟨r, 0, none⟩ = some x' := World.cell?_setCell_same _ _ _ h.c0
 refine ⟨?_, World.cell?_setCell_same _ _ _ e1, ?_, ?_, ?_⟩
 · rw [World.cell?_setCell_other _ _ _ _ (by simp)]; exact e0
 · rw [frozen_setCell, frozen_setCell]; exact h.f0
 · rw [frozen_setCell, frozen_setCell]; exact h.f1
 · simpa using h.lt
theorem Box2.drew {w : World} {r : Nat} {x y : Value} (h : Box2 w r x y) : Box2 w.drew r x y := h.below (B := w.heap.size) ((Below.refl _ _).drew) h.lt
theorem Sl.drew {w : World} {oa : Option Addr} {n cap sz : Nat} {cs : List Value} (h : Sl w oa n cap sz cs) : Sl w.drew oa n cap sz cs := h.bl ((Below.refl _ _).drew)
theorem Box2.other {w : World} {r r' : Nat} {x y : Value} (h : Box2 w r' x y) (hne : r ≠ r') (x' y' : Value) : Box2 ((w.setCell ⟨r, 0, none⟩ x').setCell ⟨r, 1, none⟩ y') r' x y := by
 refine ⟨?_, ?_, ?_, ?_, ?_⟩
 · rw [World.cell?_setCell_other _ _ _ _ (by simp), World.cell?_setCell_other _ _ _ _ (by simp)]; exact h.c0
 · rw [World.cell?_setCell_other _ _ _ _ (by simp), World.cell?_setCell_other _ _ _ _ (by simp)]; exact h.c1
 · rw [frozen_setCell, frozen_setCell]; exact h.f0
 · rw [frozen_setCell, frozen_setCell]; exact h.f1
 · simpa using h.lt
end
end Go.Proofs.YtolfgcoalihmgaaGreatDoor
