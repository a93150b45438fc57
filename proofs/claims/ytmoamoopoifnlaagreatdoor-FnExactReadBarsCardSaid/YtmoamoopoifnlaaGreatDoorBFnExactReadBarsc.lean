/- Part c of what FnExactReadBars stands on: functions of the program as Lean functions with their walks, and plain lemmas. -/
import Derived.Shelf.Lays
import Derived.Shelf.LaysC
import Derived.Shelf.LaysM
import Derived.Test.YtmoamoopoifnlaaGreatDoorProg
import Derived.Test.YtmoamoopoifnlaaGreatDoorBFnExactReadBarsa
import Derived.Shelf.Strings.Split
import Derived.Test.YtmoamoopoifnlaaGreatDoorK
import Derived.Test.YtmoamoopoifnlaaGreatDoorBFnExactReadBarsb
import Derived.Shelf.Small.Wraps
import Derived.Shelf.Strconv.Itoa4
import Derived.Lib.AppendIntMem
import Derived.Shelf.Strconv.ErrVarParseInt
import Derived.Shelf.Strings.Prefix
import Derived.Shelf.Strings.SlTrimAscii
import Derived.Deep.RegionHeld3
import Derived.Shelf.Strings.OnBuilder
import Derived.Lib.Hide
/- What the library's contracts ask of this program: its bodies, types and numbers, each held against the library's by the kernel. -/
namespace Go.Proofs.YtmoamoopoifnlaaGreatDoor.P
open Go.Shelf
def sh_FormatInt_ren : Go.Shelf.Ren := ⟨fun | 173 => 126 | 246 => 152 | 283 => 183 | 284 => 184 | 285 => 185 | 286 => 186 | 129 => 203 | 317 => 202 | 318 => 204 | 319 => 205 | 320 => 206 | 337 => 210 | 338 => 211 | n => n, fun | 2 => 2 | 3 => 3 | 9 => 9 | 4 => 4 | 171 => 193 | 0 => 0 | 53 => 117 | 37 => 25 | 5 => 5 | 173 => 196 | 212 => 212 | 51 => 203 | 20 => 20 | 213 => 213 | 46 => 160 | 232 => 226 | 233 => 227 | n => n, fun | 17 => 3 | 18 => 6 | 19 => 7 | n => n⟩
theorem sh_FormatInt : LaysM.n173 Tryz.prog sh_FormatInt_ren := {
  mixed := by kernel_rfl
  f129 := Tryz.func203.trans (congrArg some (by kernel_rfl))
  f173 := Tryz.func126.trans (congrArg some (by kernel_rfl))
  f246 := Tryz.func152.trans (congrArg some (by kernel_rfl))
  f283 := Tryz.func183.trans (congrArg some (by kernel_rfl))
  f284 := Tryz.func184.trans (congrArg some (by kernel_rfl))
  f285 := Tryz.func185.trans (congrArg some (by kernel_rfl))
  f286 := Tryz.func186.trans (congrArg some (by kernel_rfl))
  f317 := Tryz.func202.trans (congrArg some (by kernel_rfl))
  f318 := Tryz.func204.trans (congrArg some (by kernel_rfl))
  f319 := Tryz.func205.trans (congrArg some (by kernel_rfl))
  f320 := Tryz.func206.trans (congrArg some (by kernel_rfl))
  f337 := Tryz.func210.trans (congrArg some (by kernel_rfl))
  f338 := Tryz.func211.trans (congrArg some (by kernel_rfl))
  t0 := Tryz.underlying0
  a0 := Tryz.isAgg0
  z0 := Tryz.sizeOf0
  v0 := Tryz.zeroValue0
  t2 := Tryz.underlying2
  a2 := Tryz.isAgg2
  z2 := Tryz.sizeOf2
  v2 := Tryz.zeroValue2
  t3 := Tryz.underlying3
  a3 := Tryz.isAgg3
  z3 := Tryz.sizeOf3
  v3 := Tryz.zeroValue3
  t4 := Tryz.underlying4
  a4 := Tryz.isAgg4
  z4 := Tryz.sizeOf4
  v4 := Tryz.zeroValue4
  t5 := Tryz.underlying5
  a5 := Tryz.isAgg5
  z5 := Tryz.sizeOf5
  v5 := Tryz.zeroValue5
  t9 := Tryz.underlying9
  a9 := Tryz.isAgg9
  z9 := Tryz.sizeOf9
  v9 := Tryz.zeroValue9
  t20 := Tryz.underlying20
  a20 := Tryz.isAgg20
  z20 := Tryz.sizeOf20
  v20 := Tryz.zeroValue20
  t37 := Tryz.underlying25
  a37 := Tryz.isAgg25
  z37 := Tryz.sizeOf25
  v37 := Tryz.zeroValue25
  t46 := Tryz.underlying160
  a46 := Tryz.isAgg160
  z46 := Tryz.sizeOf160
  v46 := Tryz.zeroValue160
  t51 := Tryz.underlying203
  a51 := Tryz.isAgg203
  z51 := Tryz.sizeOf203
  v51 := Tryz.zeroValue203
  t53 := Tryz.underlying117
  a53 := Tryz.isAgg117
  z53 := Tryz.sizeOf117
  v53 := Tryz.zeroValue117
  t171 := Tryz.underlying193
  a171 := Tryz.isAgg193
  z171 := Tryz.sizeOf193
  v171 := Tryz.zeroValue193
  t173 := Tryz.underlying196
  a173 := Tryz.isAgg196
  z173 := Tryz.sizeOf196
  v173 := Tryz.zeroValue196
  t212 := Tryz.underlying212
  a212 := Tryz.isAgg212
  z212 := Tryz.sizeOf212
  v212 := Tryz.zeroValue212
  t213 := Tryz.underlying213
  a213 := Tryz.isAgg213
  z213 := Tryz.sizeOf213
  t232 := Tryz.underlying226
  a232 := Tryz.isAgg226
  z232 := Tryz.sizeOf226
  v232 := Tryz.zeroValue226
  t233 := Tryz.underlying227
  a233 := Tryz.isAgg227
  z233 := Tryz.sizeOf227
  v233 := Tryz.zeroValue227
  g17 := by kernel_rfl
  g18 := by kernel_rfl
  g19 := by kernel_rfl
  i0 := by kernel_rfl
  i2 := by kernel_rfl
  i3 := by kernel_rfl
  i4 := by kernel_rfl
  i5 := by kernel_rfl
  i9 := by kernel_rfl
  i20 := by kernel_rfl
  i37 := by kernel_rfl
  i46 := by kernel_rfl
  i51 := by kernel_rfl
  i53 := by kernel_rfl
  i171 := by kernel_rfl
  i173 := by kernel_rfl
  i212 := by kernel_rfl
  i232 := by kernel_rfl
  i233 := by kernel_rfl
  m17 := by kernel_rfl
  m18 := by kernel_rfl
  m19 := by kernel_rfl }
def sh_ParseInt_ren : Go.Shelf.Ren := ⟨fun | 174 => 120 | 247 => 148 | 245 => 149 | 287 => 177 | 279 => 178 | 280 => 179 | 281 => 180 | 282 => 181 | 321 => 197 | 322 => 198 | 316 => 199 | 171 => 201 | 205 => 200 | 243 => 209 | 246 => 152 | 283 => 183 | 284 => 184 | 285 => 185 | 286 => 186 | 129 => 203 | 317 => 202 | 318 => 204 | 319 => 205 | 320 => 206 | 337 => 210 | 338 => 211 | n => n, fun | 9 => 9 | 3 => 3 | 2 => 2 | 75 => 146 | 85 => 147 | 4 => 4 | 167 => 186 | 5 => 5 | 53 => 117 | 175 => 187 | 46 => 160 | 168 => 189 | 37 => 25 | 0 => 0 | 210 => 209 | 21 => 21 | 127 => 169 | 145 => 223 | 143 => 221 | 171 => 193 | 173 => 196 | 212 => 212 | 51 => 203 | 20 => 20 | 213 => 213 | 232 => 226 | 233 => 227 | 80 => 142 | n => n, fun | 15 => 1 | 16 => 2 | 17 => 3 | 18 => 6 | 19 => 7 | n => n⟩
theorem sh_ParseInt : LaysC.n174 Tryz.prog sh_ParseInt_ren := {
  mixed := by kernel_rfl
  f129 := Tryz.func203.trans (congrArg some (by kernel_rfl))
  f171 := Tryz.func201.trans (congrArg some (by kernel_rfl))
  f174 := Tryz.func120.trans (congrArg some (by kernel_rfl))
  f205 := Tryz.func200.trans (congrArg some (by kernel_rfl))
  f243 := Tryz.func209.trans (congrArg some (by kernel_rfl))
  f245 := Tryz.func149.trans (congrArg some (by kernel_rfl))
  f246 := Tryz.func152.trans (congrArg some (by kernel_rfl))
  f247 := Tryz.func148.trans (congrArg some (by kernel_rfl))
  f279 := Tryz.func178.trans (congrArg some (by kernel_rfl))
  f280 := Tryz.func179.trans (congrArg some (by kernel_rfl))
  f281 := Tryz.func180.trans (congrArg some (by kernel_rfl))
  f282 := Tryz.func181.trans (congrArg some (by kernel_rfl))
  f283 := Tryz.func183.trans (congrArg some (by kernel_rfl))
  f284 := Tryz.func184.trans (congrArg some (by kernel_rfl))
  f285 := Tryz.func185.trans (congrArg some (by kernel_rfl))
  f286 := Tryz.func186.trans (congrArg some (by kernel_rfl))
  f287 := Tryz.func177.trans (congrArg some (by kernel_rfl))
  f316 := Tryz.func199.trans (congrArg some (by kernel_rfl))
  f317 := Tryz.func202.trans (congrArg some (by kernel_rfl))
  f318 := Tryz.func204.trans (congrArg some (by kernel_rfl))
  f319 := Tryz.func205.trans (congrArg some (by kernel_rfl))
  f320 := Tryz.func206.trans (congrArg some (by kernel_rfl))
  f321 := Tryz.func197.trans (congrArg some (by kernel_rfl))
  f322 := Tryz.func198.trans (congrArg some (by kernel_rfl))
  f337 := Tryz.func210.trans (congrArg some (by kernel_rfl))
  f338 := Tryz.func211.trans (congrArg some (by kernel_rfl))
  t0 := Tryz.underlying0
  a0 := Tryz.isAgg0
  z0 := Tryz.sizeOf0
  v0 := Tryz.zeroValue0
  t2 := Tryz.underlying2
  a2 := Tryz.isAgg2
  z2 := Tryz.sizeOf2
  v2 := Tryz.zeroValue2
  t3 := Tryz.underlying3
  a3 := Tryz.isAgg3
  z3 := Tryz.sizeOf3
  v3 := Tryz.zeroValue3
  t4 := Tryz.underlying4
  a4 := Tryz.isAgg4
  z4 := Tryz.sizeOf4
  v4 := Tryz.zeroValue4
  t5 := Tryz.underlying5
  a5 := Tryz.isAgg5
  z5 := Tryz.sizeOf5
  v5 := Tryz.zeroValue5
  t9 := Tryz.underlying9
  a9 := Tryz.isAgg9
  z9 := Tryz.sizeOf9
  v9 := Tryz.zeroValue9
  t20 := Tryz.underlying20
  a20 := Tryz.isAgg20
  z20 := Tryz.sizeOf20
  v20 := Tryz.zeroValue20
  t21 := Tryz.underlying21
  a21 := Tryz.isAgg21
  z21 := Tryz.sizeOf21
  v21 := Tryz.zeroValue21
  t37 := Tryz.underlying25
  a37 := Tryz.isAgg25
  z37 := Tryz.sizeOf25
  v37 := Tryz.zeroValue25
  t46 := Tryz.underlying160
  a46 := Tryz.isAgg160
  z46 := Tryz.sizeOf160
  v46 := Tryz.zeroValue160
  t51 := Tryz.underlying203
  a51 := Tryz.isAgg203
  z51 := Tryz.sizeOf203
  v51 := Tryz.zeroValue203
  t53 := Tryz.underlying117
  a53 := Tryz.isAgg117
  z53 := Tryz.sizeOf117
  v53 := Tryz.zeroValue117
  t75 := Tryz.underlying146
  a75 := Tryz.isAgg146
  z75 := Tryz.sizeOf146
  v75 := Tryz.zeroValue146
  t85 := Tryz.underlying147
  a85 := Tryz.isAgg147
  z85 := Tryz.sizeOf147
  v85 := Tryz.zeroValue147
  t127 := Tryz.underlying169
  a127 := Tryz.isAgg169
  z127 := Tryz.sizeOf169
  v127 := Tryz.zeroValue169
  t143 := Tryz.underlying221
  a143 := Tryz.isAgg221
  z143 := Tryz.sizeOf221
  v143 := Tryz.zeroValue221
  t145 := Tryz.underlying223
  a145 := Tryz.isAgg223
  z145 := Tryz.sizeOf223
  v145 := Tryz.zeroValue223
  t167 := Tryz.underlying186
  a167 := Tryz.isAgg186
  z167 := Tryz.sizeOf186
  v167 := Tryz.zeroValue186
  t168 := Tryz.underlying189
  a168 := Tryz.isAgg189
  z168 := Tryz.sizeOf189
  v168 := Tryz.zeroValue189
  t171 := Tryz.underlying193
  a171 := Tryz.isAgg193
  z171 := Tryz.sizeOf193
  v171 := Tryz.zeroValue193
  t173 := Tryz.underlying196
  a173 := Tryz.isAgg196
  z173 := Tryz.sizeOf196
  v173 := Tryz.zeroValue196
  t175 := Tryz.underlying187
  a175 := Tryz.isAgg187
  z175 := Tryz.sizeOf187
  v175 := Tryz.zeroValue187
  t210 := Tryz.underlying209
  a210 := Tryz.isAgg209
  z210 := Tryz.sizeOf209
  v210 := Tryz.zeroValue209
  t212 := Tryz.underlying212
  a212 := Tryz.isAgg212
  z212 := Tryz.sizeOf212
  v212 := Tryz.zeroValue212
  t213 := Tryz.underlying213
  a213 := Tryz.isAgg213
  z213 := Tryz.sizeOf213
  t232 := Tryz.underlying226
  a232 := Tryz.isAgg226
  z232 := Tryz.sizeOf226
  v232 := Tryz.zeroValue226
  t233 := Tryz.underlying227
  a233 := Tryz.isAgg227
  z233 := Tryz.sizeOf227
  v233 := Tryz.zeroValue227
  g15 := by kernel_rfl
  g16 := by kernel_rfl
  g17 := by kernel_rfl
  g18 := by kernel_rfl
  g19 := by kernel_rfl
  t80 := Tryz.underlying142
  a80 := Tryz.isAgg142
  z80 := Tryz.sizeOf142
  v80 := Tryz.zeroValue142
  i0 := by kernel_rfl
  i2 := by kernel_rfl
  i3 := by kernel_rfl
  i4 := by kernel_rfl
  i5 := by kernel_rfl
  i9 := by kernel_rfl
  i20 := by kernel_rfl
  i21 := by kernel_rfl
  i37 := by kernel_rfl
  i46 := by kernel_rfl
  i51 := by kernel_rfl
  i53 := by kernel_rfl
  i75 := by kernel_rfl
  i80 := by kernel_rfl
  i85 := by kernel_rfl
  i127 := by kernel_rfl
  i143 := by kernel_rfl
  i145 := by kernel_rfl
  i167 := by kernel_rfl
  i168 := by kernel_rfl
  i171 := by kernel_rfl
  i173 := by kernel_rfl
  i175 := by kernel_rfl
  i210 := by kernel_rfl
  i212 := by kernel_rfl
  i232 := by kernel_rfl
  i233 := by kernel_rfl
  m15 := by kernel_rfl
  m16 := by kernel_rfl
  m17 := by kernel_rfl
  m18 := by kernel_rfl
  m19 := by kernel_rfl
  c0 := by kernel_rfl
  c2 := by kernel_rfl
  c3 := by kernel_rfl
  c4 := by kernel_rfl
  c5 := by kernel_rfl
  c9 := by kernel_rfl
  c20 := by kernel_rfl
  c21 := by kernel_rfl
  c37 := by kernel_rfl
  c46 := by kernel_rfl
  c51 := by kernel_rfl
  c53 := by kernel_rfl
  c75 := by kernel_rfl
  c80 := by kernel_rfl
  c85 := by kernel_rfl
  c127 := by kernel_rfl
  c143 := by kernel_rfl
  c145 := by kernel_rfl
  c167 := by kernel_rfl
  c168 := by kernel_rfl
  c171 := by kernel_rfl
  c173 := by kernel_rfl
  c175 := by kernel_rfl
  c210 := by kernel_rfl
  c212 := by kernel_rfl
  c213 := by kernel_rfl
  c232 := by kernel_rfl
  c233 := by kernel_rfl }
def sh_TrimPrefix_ren : Go.Shelf.Ren := ⟨fun | 101 => 121 | 208 => 150 | 206 => 155 | n => n, fun | 9 => 9 | 4 => 4 | 3 => 3 | n => n, fun | n => n⟩
theorem sh_TrimPrefix : Lays.n101 Tryz.prog sh_TrimPrefix_ren := {
  mixed := by kernel_rfl
  f101 := Tryz.func121.trans (congrArg some (by kernel_rfl))
  f206 := Tryz.func155.trans (congrArg some (by kernel_rfl))
  f208 := Tryz.func150.trans (congrArg some (by kernel_rfl))
  t3 := Tryz.underlying3
  a3 := Tryz.isAgg3
  z3 := Tryz.sizeOf3
  v3 := Tryz.zeroValue3
  t4 := Tryz.underlying4
  a4 := Tryz.isAgg4
  z4 := Tryz.sizeOf4
  v4 := Tryz.zeroValue4
  t9 := Tryz.underlying9
  a9 := Tryz.isAgg9
  z9 := Tryz.sizeOf9
  v9 := Tryz.zeroValue9 }
def sh_CutPrefix_ren : Go.Shelf.Ren := ⟨fun | 103 => 102 | 210 => 131 | 206 => 155 | n => n, fun | 9 => 9 | 4 => 4 | 24 => 97 | 3 => 3 | n => n, fun | n => n⟩
theorem sh_CutPrefix : Lays.n103 Tryz.prog sh_CutPrefix_ren := {
  mixed := by kernel_rfl
  f103 := Tryz.func102.trans (congrArg some (by kernel_rfl))
  f206 := Tryz.func155.trans (congrArg some (by kernel_rfl))
  f210 := Tryz.func131.trans (congrArg some (by kernel_rfl))
  t3 := Tryz.underlying3
  a3 := Tryz.isAgg3
  z3 := Tryz.sizeOf3
  v3 := Tryz.zeroValue3
  t4 := Tryz.underlying4
  a4 := Tryz.isAgg4
  z4 := Tryz.sizeOf4
  v4 := Tryz.zeroValue4
  t9 := Tryz.underlying9
  a9 := Tryz.isAgg9
  z9 := Tryz.sizeOf9
  v9 := Tryz.zeroValue9
  t24 := Tryz.underlying97
  a24 := Tryz.isAgg97
  z24 := Tryz.sizeOf97
  v24 := Tryz.zeroValue97 }
def sh_TrimRight_ren : Go.Shelf.Ren := ⟨fun | 162 => 132 | 232 => 156 | 227 => 157 | 234 => 158 | 236 => 159 | 228 => 189 | 271 => 190 | 151 => 191 | 120 => 207 | 197 => 171 | 152 => 208 | 260 => 194 | 137 => 212 | 119 => 213 | 224 => 175 | 225 => 174 | 217 => 173 | 266 => 195 | n => n, fun | 9 => 9 | 4 => 4 | 3 => 3 | 5 => 5 | 117 => 174 | 116 => 173 | 0 => 0 | 124 => 177 | 21 => 21 | 105 => 182 | 46 => 160 | 119 => 217 | 139 => 220 | 138 => 219 | n => n, fun | 3 => 4 | 4 => 5 | n => n⟩
theorem sh_TrimRight : Lays.n162 Tryz.prog sh_TrimRight_ren := {
  mixed := by kernel_rfl
  f119 := Tryz.func213.trans (congrArg some (by kernel_rfl))
  f120 := Tryz.func207.trans (congrArg some (by kernel_rfl))
  f137 := Tryz.func212.trans (congrArg some (by kernel_rfl))
  f151 := Tryz.func191.trans (congrArg some (by kernel_rfl))
  f152 := Tryz.func208.trans (congrArg some (by kernel_rfl))
  f162 := Tryz.func132.trans (congrArg some (by kernel_rfl))
  f197 := Tryz.func171.trans (congrArg some (by kernel_rfl))
  f217 := Tryz.func173.trans (congrArg some (by kernel_rfl))
  f224 := Tryz.func175.trans (congrArg some (by kernel_rfl))
  f225 := Tryz.func174.trans (congrArg some (by kernel_rfl))
  f227 := Tryz.func157.trans (congrArg some (by kernel_rfl))
  f228 := Tryz.func189.trans (congrArg some (by kernel_rfl))
  f232 := Tryz.func156.trans (congrArg some (by kernel_rfl))
  f234 := Tryz.func158.trans (congrArg some (by kernel_rfl))
  f236 := Tryz.func159.trans (congrArg some (by kernel_rfl))
  f260 := Tryz.func194.trans (congrArg some (by kernel_rfl))
  f266 := Tryz.func195.trans (congrArg some (by kernel_rfl))
  f271 := Tryz.func190.trans (congrArg some (by kernel_rfl))
  t0 := Tryz.underlying0
  a0 := Tryz.isAgg0
  z0 := Tryz.sizeOf0
  v0 := Tryz.zeroValue0
  t3 := Tryz.underlying3
  a3 := Tryz.isAgg3
  z3 := Tryz.sizeOf3
  v3 := Tryz.zeroValue3
  t4 := Tryz.underlying4
  a4 := Tryz.isAgg4
  z4 := Tryz.sizeOf4
  v4 := Tryz.zeroValue4
  t5 := Tryz.underlying5
  a5 := Tryz.isAgg5
  z5 := Tryz.sizeOf5
  v5 := Tryz.zeroValue5
  t9 := Tryz.underlying9
  a9 := Tryz.isAgg9
  z9 := Tryz.sizeOf9
  v9 := Tryz.zeroValue9
  t21 := Tryz.underlying21
  a21 := Tryz.isAgg21
  z21 := Tryz.sizeOf21
  v21 := Tryz.zeroValue21
  t46 := Tryz.underlying160
  a46 := Tryz.isAgg160
  z46 := Tryz.sizeOf160
  v46 := Tryz.zeroValue160
  t105 := Tryz.underlying182
  a105 := Tryz.isAgg182
  z105 := Tryz.sizeOf182
  v105 := Tryz.zeroValue182
  t116 := Tryz.underlying173
  a116 := Tryz.isAgg173
  z116 := Tryz.sizeOf173
  t117 := Tryz.underlying174
  a117 := Tryz.isAgg174
  z117 := Tryz.sizeOf174
  v117 := Tryz.zeroValue174
  t119 := Tryz.underlying217
  a119 := Tryz.isAgg217
  z119 := Tryz.sizeOf217
  t124 := Tryz.underlying177
  a124 := Tryz.isAgg177
  z124 := Tryz.sizeOf177
  v124 := Tryz.zeroValue177
  t138 := Tryz.underlying219
  a138 := Tryz.isAgg219
  z138 := Tryz.sizeOf219
  v138 := Tryz.zeroValue219
  t139 := Tryz.underlying220
  a139 := Tryz.isAgg220
  z139 := Tryz.sizeOf220
  v139 := Tryz.zeroValue220
  g3 := by kernel_rfl
  g4 := by kernel_rfl }
def sh_Cut_ren : Go.Shelf.Ren := ⟨fun | 145 => 85 | 220 => 117 | 219 => 147 | 217 => 173 | 225 => 174 | 224 => 175 | 267 => 176 | 266 => 195 | 314 => 196 | n => n, fun | 9 => 9 | 4 => 4 | 59 => 112 | 3 => 3 | 5 => 5 | 46 => 160 | 146 => 204 | 51 => 203 | n => n, fun | 1 => 0 | n => n⟩
theorem sh_Cut : Lays.n145 Tryz.prog sh_Cut_ren := {
  mixed := by kernel_rfl
  f145 := Tryz.func85.trans (congrArg some (by kernel_rfl))
  f217 := Tryz.func173.trans (congrArg some (by kernel_rfl))
  f219 := Tryz.func147.trans (congrArg some (by kernel_rfl))
  f220 := Tryz.func117.trans (congrArg some (by kernel_rfl))
  f224 := Tryz.func175.trans (congrArg some (by kernel_rfl))
  f225 := Tryz.func174.trans (congrArg some (by kernel_rfl))
  f266 := Tryz.func195.trans (congrArg some (by kernel_rfl))
  f267 := Tryz.func176.trans (congrArg some (by kernel_rfl))
  f314 := Tryz.func196.trans (congrArg some (by kernel_rfl))
  t3 := Tryz.underlying3
  a3 := Tryz.isAgg3
  z3 := Tryz.sizeOf3
  v3 := Tryz.zeroValue3
  t4 := Tryz.underlying4
  a4 := Tryz.isAgg4
  z4 := Tryz.sizeOf4
  v4 := Tryz.zeroValue4
  t5 := Tryz.underlying5
  a5 := Tryz.isAgg5
  z5 := Tryz.sizeOf5
  v5 := Tryz.zeroValue5
  t9 := Tryz.underlying9
  a9 := Tryz.isAgg9
  z9 := Tryz.sizeOf9
  v9 := Tryz.zeroValue9
  t46 := Tryz.underlying160
  a46 := Tryz.isAgg160
  z46 := Tryz.sizeOf160
  v46 := Tryz.zeroValue160
  t51 := Tryz.underlying203
  a51 := Tryz.isAgg203
  z51 := Tryz.sizeOf203
  v51 := Tryz.zeroValue203
  t59 := Tryz.underlying112
  a59 := Tryz.isAgg112
  z59 := Tryz.sizeOf112
  v59 := Tryz.zeroValue112
  t146 := Tryz.underlying204
  a146 := Tryz.isAgg204
  z146 := Tryz.sizeOf204
  v146 := Tryz.zeroValue204
  g1 := by kernel_rfl }
def sh_Split_ren : Go.Shelf.Ren := ⟨fun | 146 => 101 | 221 => 116 | 268 => 144 | 138 => 145 | 143 => 146 | 195 => 170 | 197 => 171 | 218 => 172 | 219 => 147 | 260 => 194 | 217 => 173 | 225 => 174 | 224 => 175 | 267 => 176 | 266 => 195 | 314 => 196 | n => n, fun | 9 => 9 | 31 => 104 | 3 => 3 | 4 => 4 | 0 => 0 | 105 => 182 | 21 => 21 | 5 => 5 | 46 => 160 | 119 => 217 | 139 => 220 | 138 => 219 | 146 => 204 | 51 => 203 | n => n, fun | 1 => 0 | 3 => 4 | 4 => 5 | n => n⟩
theorem sh_Split : Lays.n146 Tryz.prog sh_Split_ren := {
  mixed := by kernel_rfl
  f138 := Tryz.func145.trans (congrArg some (by kernel_rfl))
  f143 := Tryz.func146.trans (congrArg some (by kernel_rfl))
  f146 := Tryz.func101.trans (congrArg some (by kernel_rfl))
  f195 := Tryz.func170.trans (congrArg some (by kernel_rfl))
  f197 := Tryz.func171.trans (congrArg some (by kernel_rfl))
  f217 := Tryz.func173.trans (congrArg some (by kernel_rfl))
  f218 := Tryz.func172.trans (congrArg some (by kernel_rfl))
  f219 := Tryz.func147.trans (congrArg some (by kernel_rfl))
  f221 := Tryz.func116.trans (congrArg some (by kernel_rfl))
  f224 := Tryz.func175.trans (congrArg some (by kernel_rfl))
  f225 := Tryz.func174.trans (congrArg some (by kernel_rfl))
  f260 := Tryz.func194.trans (congrArg some (by kernel_rfl))
  f266 := Tryz.func195.trans (congrArg some (by kernel_rfl))
  f267 := Tryz.func176.trans (congrArg some (by kernel_rfl))
  f268 := Tryz.func144.trans (congrArg some (by kernel_rfl))
  f314 := Tryz.func196.trans (congrArg some (by kernel_rfl))
  t0 := Tryz.underlying0
  a0 := Tryz.isAgg0
  z0 := Tryz.sizeOf0
  v0 := Tryz.zeroValue0
  t3 := Tryz.underlying3
  a3 := Tryz.isAgg3
  z3 := Tryz.sizeOf3
  v3 := Tryz.zeroValue3
  t4 := Tryz.underlying4
  a4 := Tryz.isAgg4
  z4 := Tryz.sizeOf4
  v4 := Tryz.zeroValue4
  t5 := Tryz.underlying5
  a5 := Tryz.isAgg5
  z5 := Tryz.sizeOf5
  v5 := Tryz.zeroValue5
  t9 := Tryz.underlying9
  a9 := Tryz.isAgg9
  z9 := Tryz.sizeOf9
  v9 := Tryz.zeroValue9
  t21 := Tryz.underlying21
  a21 := Tryz.isAgg21
  z21 := Tryz.sizeOf21
  v21 := Tryz.zeroValue21
  t31 := Tryz.underlying104
  a31 := Tryz.isAgg104
  z31 := Tryz.sizeOf104
  v31 := Tryz.zeroValue104
  t46 := Tryz.underlying160
  a46 := Tryz.isAgg160
  z46 := Tryz.sizeOf160
  v46 := Tryz.zeroValue160
  t51 := Tryz.underlying203
  a51 := Tryz.isAgg203
  z51 := Tryz.sizeOf203
  v51 := Tryz.zeroValue203
  t105 := Tryz.underlying182
  a105 := Tryz.isAgg182
  z105 := Tryz.sizeOf182
  v105 := Tryz.zeroValue182
  t119 := Tryz.underlying217
  a119 := Tryz.isAgg217
  z119 := Tryz.sizeOf217
  t138 := Tryz.underlying219
  a138 := Tryz.isAgg219
  z138 := Tryz.sizeOf219
  v138 := Tryz.zeroValue219
  t139 := Tryz.underlying220
  a139 := Tryz.isAgg220
  z139 := Tryz.sizeOf220
  v139 := Tryz.zeroValue220
  t146 := Tryz.underlying204
  a146 := Tryz.isAgg204
  z146 := Tryz.sizeOf204
  v146 := Tryz.zeroValue204
  g1 := by kernel_rfl
  g3 := by kernel_rfl
  g4 := by kernel_rfl }
def sh_SplitN_ren : Go.Shelf.Ren := ⟨fun | 147 => 84 | 221 => 116 | 268 => 144 | 138 => 145 | 143 => 146 | 195 => 170 | 197 => 171 | 218 => 172 | 219 => 147 | 260 => 194 | 217 => 173 | 225 => 174 | 224 => 175 | 267 => 176 | 266 => 195 | 314 => 196 | n => n, fun | 9 => 9 | 3 => 3 | 31 => 104 | 4 => 4 | 0 => 0 | 105 => 182 | 21 => 21 | 5 => 5 | 46 => 160 | 119 => 217 | 139 => 220 | 138 => 219 | 146 => 204 | 51 => 203 | n => n, fun | 1 => 0 | 3 => 4 | 4 => 5 | n => n⟩
theorem sh_SplitN : Lays.n147 Tryz.prog sh_SplitN_ren := {
  mixed := by kernel_rfl
  f138 := Tryz.func145.trans (congrArg some (by kernel_rfl))
  f143 := Tryz.func146.trans (congrArg some (by kernel_rfl))
  f147 := Tryz.func84.trans (congrArg some (by kernel_rfl))
  f195 := Tryz.func170.trans (congrArg some (by kernel_rfl))
  f197 := Tryz.func171.trans (congrArg some (by kernel_rfl))
  f217 := Tryz.func173.trans (congrArg some (by kernel_rfl))
  f218 := Tryz.func172.trans (congrArg some (by kernel_rfl))
  f219 := Tryz.func147.trans (congrArg some (by kernel_rfl))
  f221 := Tryz.func116.trans (congrArg some (by kernel_rfl))
  f224 := Tryz.func175.trans (congrArg some (by kernel_rfl))
  f225 := Tryz.func174.trans (congrArg some (by kernel_rfl))
  f260 := Tryz.func194.trans (congrArg some (by kernel_rfl))
  f266 := Tryz.func195.trans (congrArg some (by kernel_rfl))
  f267 := Tryz.func176.trans (congrArg some (by kernel_rfl))
  f268 := Tryz.func144.trans (congrArg some (by kernel_rfl))
  f314 := Tryz.func196.trans (congrArg some (by kernel_rfl))
  t0 := Tryz.underlying0
  a0 := Tryz.isAgg0
  z0 := Tryz.sizeOf0
  v0 := Tryz.zeroValue0
  t3 := Tryz.underlying3
  a3 := Tryz.isAgg3
  z3 := Tryz.sizeOf3
  v3 := Tryz.zeroValue3
  t4 := Tryz.underlying4
  a4 := Tryz.isAgg4
  z4 := Tryz.sizeOf4
  v4 := Tryz.zeroValue4
  t5 := Tryz.underlying5
  a5 := Tryz.isAgg5
  z5 := Tryz.sizeOf5
  v5 := Tryz.zeroValue5
  t9 := Tryz.underlying9
  a9 := Tryz.isAgg9
  z9 := Tryz.sizeOf9
  v9 := Tryz.zeroValue9
  t21 := Tryz.underlying21
  a21 := Tryz.isAgg21
  z21 := Tryz.sizeOf21
  v21 := Tryz.zeroValue21
  t31 := Tryz.underlying104
  a31 := Tryz.isAgg104
  z31 := Tryz.sizeOf104
  v31 := Tryz.zeroValue104
  t46 := Tryz.underlying160
  a46 := Tryz.isAgg160
  z46 := Tryz.sizeOf160
  v46 := Tryz.zeroValue160
  t51 := Tryz.underlying203
  a51 := Tryz.isAgg203
  z51 := Tryz.sizeOf203
  v51 := Tryz.zeroValue203
  t105 := Tryz.underlying182
  a105 := Tryz.isAgg182
  z105 := Tryz.sizeOf182
  v105 := Tryz.zeroValue182
  t119 := Tryz.underlying217
  a119 := Tryz.isAgg217
  z119 := Tryz.sizeOf217
  t138 := Tryz.underlying219
  a138 := Tryz.isAgg219
  z138 := Tryz.sizeOf219
  v138 := Tryz.zeroValue219
  t139 := Tryz.underlying220
  a139 := Tryz.isAgg220
  z139 := Tryz.sizeOf220
  v139 := Tryz.zeroValue220
  t146 := Tryz.underlying204
  a146 := Tryz.isAgg204
  z146 := Tryz.sizeOf204
  v146 := Tryz.zeroValue204
  g1 := by kernel_rfl
  g3 := by kernel_rfl
  g4 := by kernel_rfl }
def sh_Join_ren : Go.Shelf.Ren := ⟨fun | 156 => 94 | 165 => 127 | 166 => 128 | 169 => 129 | 240 => 153 | 241 => 154 | 276 => 187 | 277 => 188 | n => n, fun | 31 => 104 | 9 => 9 | 3 => 3 | 4 => 4 | 0 => 0 | 20 => 20 | 72 => 156 | 76 => 158 | 70 => 154 | 37 => 25 | 75 => 146 | 127 => 169 | 164 => 198 | 5 => 5 | 80 => 142 | n => n, fun | n => n⟩
theorem sh_Join : Lays.n156 Tryz.prog sh_Join_ren := {
  mixed := by kernel_rfl
  f156 := Tryz.func94.trans (congrArg some (by kernel_rfl))
  f165 := Tryz.func127.trans (congrArg some (by kernel_rfl))
  f166 := Tryz.func128.trans (congrArg some (by kernel_rfl))
  f169 := Tryz.func129.trans (congrArg some (by kernel_rfl))
  f240 := Tryz.func153.trans (congrArg some (by kernel_rfl))
  f241 := Tryz.func154.trans (congrArg some (by kernel_rfl))
  f276 := Tryz.func187.trans (congrArg some (by kernel_rfl))
  f277 := Tryz.func188.trans (congrArg some (by kernel_rfl))
  t0 := Tryz.underlying0
  a0 := Tryz.isAgg0
  z0 := Tryz.sizeOf0
  v0 := Tryz.zeroValue0
  t3 := Tryz.underlying3
  a3 := Tryz.isAgg3
  z3 := Tryz.sizeOf3
  v3 := Tryz.zeroValue3
  t4 := Tryz.underlying4
  a4 := Tryz.isAgg4
  z4 := Tryz.sizeOf4
  v4 := Tryz.zeroValue4
  t9 := Tryz.underlying9
  a9 := Tryz.isAgg9
  z9 := Tryz.sizeOf9
  v9 := Tryz.zeroValue9
  t20 := Tryz.underlying20
  a20 := Tryz.isAgg20
  z20 := Tryz.sizeOf20
  v20 := Tryz.zeroValue20
  t31 := Tryz.underlying104
  a31 := Tryz.isAgg104
  z31 := Tryz.sizeOf104
  v31 := Tryz.zeroValue104
  t37 := Tryz.underlying25
  a37 := Tryz.isAgg25
  z37 := Tryz.sizeOf25
  v37 := Tryz.zeroValue25
  t70 := Tryz.underlying154
  a70 := Tryz.isAgg154
  z70 := Tryz.sizeOf154
  v70 := Tryz.zeroValue154
  t72 := Tryz.underlying156
  a72 := Tryz.isAgg156
  z72 := Tryz.sizeOf156
  v72 := Tryz.zeroValue156
  t75 := Tryz.underlying146
  a75 := Tryz.isAgg146
  z75 := Tryz.sizeOf146
  v75 := Tryz.zeroValue146
  t76 := Tryz.underlying158
  a76 := Tryz.isAgg158
  z76 := Tryz.sizeOf158
  v76 := Tryz.zeroValue158
  t127 := Tryz.underlying169
  a127 := Tryz.isAgg169
  z127 := Tryz.sizeOf169
  v127 := Tryz.zeroValue169
  t164 := Tryz.underlying198
  a164 := Tryz.isAgg198
  z164 := Tryz.sizeOf198
  v164 := Tryz.zeroValue198 }
end Go.Proofs.YtmoamoopoifnlaaGreatDoor.P

namespace Go.Proofs.YtmoamoopoifnlaaGreatDoor.P
open Go.RowKit Go.Proofs.YtmoamoopoifnlaaGreatDoorW.PrintWords Go.Proofs.YtmoamoopoifnlaaGreatDoorW.PrintLast Go.Proofs.YtmoamoopoifnlaaGreatDoorW.PrintMore
attribute [local go_sem] max2_int min2_int max_two min_two max_three min_three max_four min_four str_leq str_gtr str_geq
set_option linter.unusedVariables false
set_option linter.unusedSimpArgs false
def strings_Split.t (a0 a1:ByteArray):List ByteArray:=Lib.splitB a1 0 (Lib.countB a0 a1) a0
def strings_Split.f (a0 a1:ByteArray):Option (List ByteArray):=if a0.size<1000000000∧1≤a1.size then some (strings_Split.t a0 a1) else none
theorem strings_Split.calls (a0 a1:ByteArray) (r:List ByteArray) (w:World) (hD:Door2 w) (h:strings_Split.f a0 a1=some r) :
 Calls Tryz.prog 101 #[.string a0,.string a1] w fun e w'=>∃v0_:Value,e = .returned (v0_)∧Kd.R Kd.string 9 w' w.heap.size (fun _=>True) v0_ r∧Below w.heap.size w w':=by
 unfold strings_Split.f at h
 by_cases hb:a0.size<1000000000∧1≤a1.size
 rotate_left
 ·rw [if_neg hb] at h;exact absurd h zbr
 rw [if_pos hb] at h
 obtain rfl:=Option.some.inj h
 clear h
 obtain ⟨h0,h1⟩:=hb
 obtain ⟨m,hm⟩:=hD.ml 0 zu
 unfold strings_Split.t
 have hl:=Lib.splitB_all a1 h1 0 _ a0 rfl
 have hc:=Lib.countB_le a1 h1 a0.size a0 (Nat.le_refl _)
 refine (Any.strings_Split sh_Split zu a0 a1 m w zbd hm h1).mono ?_
 rw [←hl]
 have hc2:(Lib.splitB a1 0 (Lib.countB a0 a1) a0).length≤1000000001:=by omega
 clear hl hc
 generalize Lib.splitB a1 0 (Lib.countB a0 a1) a0=l at hc2 ⊢
 rintro e w' ⟨rfl,rfl⟩
 refine ⟨_,rfl,Kd.R_of_own ⟨?_,.inr ⟨w.heap.size,l.length,(l.map Value.string).toArray,rfl,Nat.le_refl _,blk_new w _,Nat.le_refl _,by unfold maxLen;omega,?_,?_⟩⟩ (fun _ _=>trivial),below_alloc (Below.refl _ _) _⟩
 ·rw [encs_length];omega
 ·simp
 ·unfold encs
  simp
  exact List.take_of_length_le zbr

def strings_CutPrefix.f (a0 a1:ByteArray):Option (ByteArray × Bool):=some (⟨(Lib.trimPrefix a0.data.toList a1.data.toList).toArray⟩,Lib.hasPrefix a0.data.toList a1.data.toList)
theorem strings_CutPrefix.calls (a0 a1:ByteArray) (r1:ByteArray) (r2:Bool) (w:World) (h:strings_CutPrefix.f a0 a1=some (r1,r2)) :
 Calls Tryz.prog 102 #[.string a0,.string a1] w fun e w'=>e = .returned (.tuple #[.string r1,.bool r2])∧Drawn0 w w':=by
 unfold strings_CutPrefix.f at h
 obtain ⟨rfl,rfl⟩:=Prod.mk.inj (Option.some.inj h)
 refine (Any.strings_CutPrefix sh_CutPrefix a0 a1 w).mono ?_
 rintro e w' ⟨rfl,rfl⟩
 exact ⟨rfl,Drawn0.refl _⟩

def strings_SplitN.t (a0 a1:ByteArray) (a2:Int):List ByteArray:=Lib.splitB a1 0 (min a2.toNat (a0.size+1) - 1) a0
def strings_SplitN.f (a0 a1:ByteArray) (a2:Int):Option (List ByteArray):=if (a0.size<4294967281∧1≤a1.size)∧1≤a2∧a2≤1000000 then some (strings_SplitN.t a0 a1 a2) else none
theorem strings_SplitN.calls (a0 a1:ByteArray) (a2:Int) (r:List ByteArray) (w:World) (hD:Door2 w) (h:strings_SplitN.f a0 a1 a2=some r) :
 Calls Tryz.prog 84 #[.string a0,.string a1,.int .i64 a2] w fun e w'=>∃v0_:Value,e = .returned (v0_)∧Kd.R Kd.string 9 w' w.heap.size (fun _=>True) v0_ r∧Below w.heap.size w w':=by
 unfold strings_SplitN.f at h
 by_cases hb:(a0.size<4294967281∧1≤a1.size)∧1≤a2∧a2≤1000000
 rotate_left
 ·rw [if_neg hb] at h;exact absurd h zbr
 rw [if_pos hb] at h
 obtain rfl:=Option.some.inj h
 clear h
 obtain ⟨⟨h0,h1⟩,h2,h3⟩:=hb
 obtain ⟨m,hm⟩:=hD.ml 0 zu
 obtain ⟨n,rfl⟩:∃n:Nat,a2=(n:Int):=⟨a2.toNat,zbd⟩
 unfold strings_SplitN.t
 rw [show ((n:Int)).toNat=n by omega]
 have hl:=Lib.splitB_length_le a1 0 (min n (a0.size+1) - 1) a0
 refine (Any.strings_SplitN sh_SplitN zu a0 a1 n m w h0 hm h1 zbd zbd).mono ?_
 generalize Lib.splitB a1 0 (min n (a0.size+1) - 1) a0=l at hl ⊢
 rintro e w' ⟨rfl,rfl⟩
 have hc:l.length≤min n (a0.size+1):=by omega
 have hM:min n (a0.size+1)≤1000000:=by omega
 generalize min n (a0.size+1)=c at hc hM
 refine ⟨_,rfl,Kd.R_of_own ⟨?_,.inr ⟨w.heap.size,c,Lib.cellsOf l c,rfl,Nat.le_refl _,blk_new w _,hc,by unfold maxLen;omega,?_,?_⟩⟩ (fun _ _=>trivial),below_alloc (Below.refl _ _) _⟩
 ·rw [encs_length];omega
 ·unfold Lib.cellsOf
  simp
  omega
 ·unfold Lib.cellsOf encs
  simp

def impl_Decimal.t (n:Int):ByteArray:=⟨(Lib.itoa n).toArray⟩
def impl_Decimal.f (a0:Int):Option ByteArray:=if -9223372036854775808≤a0∧a0≤9223372036854775807 then some (impl_Decimal.t a0) else none
theorem impl_Decimal.calls (a0:Int) (r:ByteArray) (w:World) (hD:Door1 w) (h:impl_Decimal.f a0=some r) :
 Calls Tryz.prog 93 #[.int .i64 a0] w fun e w'=>e = .returned (.string r)∧Below w.heap.size w w':=by
 unfold impl_Decimal.f at h
 by_cases hb : -9223372036854775808≤a0∧a0≤9223372036854775807
 rotate_left
 ·rw [if_neg hb] at h;exact absurd h zbr
 rw [if_pos hb] at h
 obtain rfl:=Option.some.inj h
 clear h
 unfold impl_Decimal.t
 have HC:Calls Tryz.prog 126 #[.int .i64 a0,.int .i64 10] w fun e w'=>e = .returned (.string ⟨(Lib.itoa a0).toArray⟩)∧∃k os,w'=Sort.grow (w.drewN k) os:=Any.strconv_FormatInt_10 sh_FormatInt a0 hb.1 hb.2 w hD.tab
 clear hD hb
 generalize (⟨(Lib.itoa a0).toArray⟩:ByteArray)=s at HC
 go_enter Tryz.func93,Tryz.ntmps93
 go_wp2_with (go_at_call 126;refine HC.mono ?_;rintro e w1 ⟨rfl,k,os,rfl⟩)
 go_ret
 exact ⟨rfl,Lib.below_grow _ _ (Nat.le_refl _) _ _⟩

def impl_ReadDecimal.v (s:ByteArray):Option Int:=match Lib.parseIntB 64 s.data.toList with
 | .ok v=>if 18<(Lib.trimPrefix s.data.toList [45]).length then none else if (impl_Decimal.t v).toList=s.toList then some v else none
 | _=>none
def impl_ReadDecimal.f (a0:ByteArray):Option (Int × Bool):=if a0.size≤281474976710656 then some (match impl_ReadDecimal.v a0 with|some n=>(n,true)|none=>(0,false)) else none
theorem impl_ReadDecimal.bytes {w w1:World} {e:TypeId} (h:w1=w∨∃t,w1=Lib.bytesWorld w e t):Below w.heap.size w w1:=by
 rcases h with rfl|⟨t,rfl⟩
 ·exact Below.refl _ _
 ·exact bytes_below (Below.refl _ _) (Nat.le_refl _) e t
set_option maxHeartbeats 1600000 in
set_option maxRecDepth 100000 in
theorem impl_ReadDecimal.calls (a0:ByteArray) (r1:Int) (r2:Bool) (w:World) (hD:Door2 w) (h:impl_ReadDecimal.f a0=some (r1,r2)) :
 Calls Tryz.prog 87 #[.string a0] w fun e w'=>e = .returned (.tuple #[.int .i64 r1,.bool r2])∧Below w.heap.size w w':=by
 unfold impl_ReadDecimal.f at h
 by_cases hs:a0.size≤281474976710656
 rotate_left
 ·rw [if_neg hs] at h;exact absurd h zbr
 rw [if_pos hs] at h
 have h':=Option.some.inj h
 clear h
 unfold impl_ReadDecimal.v at h'
 have HD:=Aside0.mk hD
 obtain ⟨ts,ps,hsy⟩:=hD.syn
 obtain ⟨tr,pr,hra⟩:=hD.ran
 clear hD
 rcases hp:Lib.parseIntB 64 a0.data.toList with v|_|_
 rotate_left
 ·rw [hp] at h'
  simp only [Prod.mk.injEq] at h'
  obtain ⟨rfl,rfl⟩:=h'
  have HC:=Aside0.mk (Any.strconv_ParseInt_10_at64_syntax_var sh_ParseInt a0 hs hp ts ps w hsy)
  clear hp hs hsy hra
  go_enter Tryz.func87,Tryz.ntmps87
  go_wp2_with (go_at_call 120;refine HC.out.mono ?_;rintro e w1 ⟨N,rfl,_,_,hb⟩;have HB:=Aside0.mk hb;clear hb)
  all_goals go_ret2
  all_goals exact ⟨rfl,HB.out⟩
 ·rw [hp] at h'
  simp only [Prod.mk.injEq] at h'
  obtain ⟨rfl,rfl⟩:=h'
  have HC:=Aside0.mk (Any.strconv_ParseInt_10_at64_range_var sh_ParseInt a0 hs hp tr pr w hra)
  clear hp hs hsy hra
  go_enter Tryz.func87,Tryz.ntmps87
  go_wp2_with (go_at_call 120;refine HC.out.mono ?_;rintro e w1 ⟨N,rfl,_,_,hb⟩;have HB:=Aside0.mk hb;clear hb)
  all_goals go_ret2
  all_goals exact ⟨rfl,HB.out⟩
 ·rw [hp] at h'
  have hv:=Lib.parseIntB_bounds hp
  have HC:=Aside0.mk (Any.strconv_ParseInt_10_at64_ok sh_ParseInt a0 zbd v hp w)
  have HT:=Aside0.mk (fun w=>Any.strings_TrimPrefix sh_TrimPrefix a0 ⟨#[45]⟩ w)
  have HV:=Aside0.mk (show impl_Decimal.f v=some (impl_Decimal.t v) from if_pos ⟨zbd,zbd⟩)
  clear hp hs hsy hra hv
  have hsz:(Lib.trimPrefix a0.data.toList [45]).length=(⟨(Lib.trimPrefix a0.data.toList [45]).toArray⟩:ByteArray).size:=by
   show _=(Lib.trimPrefix a0.data.toList [45]).toArray.size;simp
  have e45:(⟨#[45]⟩:ByteArray).data.toList=[45]:=rfl
  rw [e45] at HT
  simp only [hsz] at h'
  clear hsz
  generalize (⟨(Lib.trimPrefix a0.data.toList [45]).toArray⟩:ByteArray)=tp at HT h'
  generalize impl_Decimal.t v=dv at HV h'
  clear e45
  by_cases h18:18<tp.size
  ·rw [if_pos h18] at h'
   simp only [Prod.mk.injEq] at h'
   obtain ⟨rfl,rfl⟩:=h'
   have d1:decide (18<(tp.size:Int))=true:=decide_eq_true zbd
   have d2:decide (18<tp.size)=true:=decide_eq_true h18
   clear h18
   go_enter Tryz.func87,Tryz.ntmps87
   go_wp2_with (first
   | (go_at_call 120;refine HC.out.mono ?_;rintro e w1 ⟨rfl,hw⟩;have HB:=Aside0.mk (impl_ReadDecimal.bytes hw);clear hw)
   | (go_at_call 121;refine (HT.out _).mono ?_;rintro e w1 ⟨rfl,rfl⟩)
   | (go_at_call 93;(with_reducible refine (impl_Decimal.calls v dv _ (Door2.one (Door2.at HD.out za)) HV.out).mono ?_);rintro e w2 ⟨rfl,hb⟩;have n0_:=Aside0.mk (below_step za hb);clear HB;have HB:=n0_;clear n0_ hb))
   all_goals go_ret2
   all_goals exact ⟨rfl,za⟩
  rw [if_neg h18] at h'
  have d1:decide (18<(tp.size:Int))=false:=decide_eq_false zbd
  have d2:decide (18<tp.size)=false:=decide_eq_false h18
  clear h18
  by_cases he:dv.toList=a0.toList
  ·rw [if_pos he] at h'
   simp only [Prod.mk.injEq] at h'
   obtain ⟨rfl,rfl⟩:=h'
   have e1:(dv.toList == a0.toList)=true:=beq_iff_eq.mpr he
   have e2:(dv.toList != a0.toList)=false:=bne_eq_false_iff_eq.mpr he
   clear he
   go_enter Tryz.func87,Tryz.ntmps87
   go_wp2_with (first
   | (go_at_call 120;refine HC.out.mono ?_;rintro e w1 ⟨rfl,hw⟩;have HB:=Aside0.mk (impl_ReadDecimal.bytes hw);clear hw)
   | (go_at_call 121;refine (HT.out _).mono ?_;rintro e w1 ⟨rfl,rfl⟩)
   | (go_at_call 93;(with_reducible refine (impl_Decimal.calls v dv _ (Door2.one (Door2.at HD.out za)) HV.out).mono ?_);rintro e w2 ⟨rfl,hb⟩;have n0_:=Aside0.mk (below_step za hb);clear HB;have HB:=n0_;clear n0_ hb))
   all_goals go_ret2
   all_goals exact ⟨rfl,za⟩
  ·rw [if_neg he] at h'
   simp only [Prod.mk.injEq] at h'
   obtain ⟨rfl,rfl⟩:=h'
   have e1:(dv.toList == a0.toList)=false:=beq_eq_false_iff_ne.mpr he
   have e2:(dv.toList != a0.toList)=true:=bne_iff_ne.mpr he
   clear he
   go_enter Tryz.func87,Tryz.ntmps87
   go_wp2_with (first
   | (go_at_call 120;refine HC.out.mono ?_;rintro e w1 ⟨rfl,hw⟩;have HB:=Aside0.mk (impl_ReadDecimal.bytes hw);clear hw)
   | (go_at_call 121;refine (HT.out _).mono ?_;rintro e w1 ⟨rfl,rfl⟩)
   | (go_at_call 93;(with_reducible refine (impl_Decimal.calls v dv _ (Door2.one (Door2.at HD.out za)) HV.out).mono ?_);rintro e w2 ⟨rfl,hb⟩;have n0_:=Aside0.mk (below_step za hb);clear HB;have HB:=n0_;clear n0_ hb))
   all_goals go_ret2
   all_goals exact ⟨rfl,za⟩

def strings_TrimRight.t (a0 a1:ByteArray):ByteArray:=⟨(Lib.trimRightS a0.data.toList a1.data.toList).toArray⟩
def strings_TrimRight.f (a0 a1:ByteArray):Option ByteArray:=if a0.size≤9223372036854775807∧a1.size<4294967281∧a1.data.toList.all (fun b=>decide (b.toNat<128))=true then some (strings_TrimRight.t a0 a1) else none
theorem strings_TrimRight.calls (a0 a1:ByteArray) (r:ByteArray) (w:World) (h:strings_TrimRight.f a0 a1=some r) :
 Calls Tryz.prog 132 #[.string a0,.string a1] w fun e w'=>e = .returned (.string r)∧Below w.heap.size w w':=by
 unfold strings_TrimRight.f at h
 by_cases hb:a0.size≤9223372036854775807∧a1.size<4294967281∧a1.data.toList.all (fun b=>decide (b.toNat<128))=true
 rotate_left
 ·rw [if_neg hb] at h;exact absurd h zbr
 rw [if_pos hb] at h
 obtain rfl:=Option.some.inj h
 obtain ⟨h0,h1,h2⟩:=hb
 exact Any.strings_TrimRight_laid sh_TrimRight zu a0 a1 w h0 h1 (fun j b hj=>of_decide_eq_true (List.all_eq_true.1 h2 b (List.mem_of_getElem? hj)))

def impl_ToneOf.f (a0:Int):Option (Int):=some (Int.tmod (wrap64 ((Int.tmod a0 12)+12)) 12)
set_option maxHeartbeats 8000000 in
set_option maxRecDepth 100000 in
theorem impl_ToneOf.calls (a0:Int) (r:Int) (w:World) (h:impl_ToneOf.f a0=some r) :
 Calls Tryz.prog 123 #[.int .i64 a0] w fun e w'=>e = .returned (.int .i64 r)∧Drawn0 w w':=by
 have H:(some (Int.tmod (wrap64 ((Int.tmod a0 12)+12)) 12))=some r:=h
 clear h
 obtain rfl:=Option.some.inj H
 go_enter Tryz.func123,Tryz.ntmps123
 go_wp2
 go_ret
 exact ⟨zf,zk⟩

def impl_octaveOf.f (a0:Int):Option (Int):=(impl_ToneOf.f a0).bind fun t101=>(some (wrap64 (Int.tdiv (wrap64 (a0 - t101)) 12)))
set_option maxHeartbeats 8000000 in
set_option maxRecDepth 100000 in
theorem impl_octaveOf.calls (a0:Int) (r:Int) (w:World) (h:impl_octaveOf.f a0=some r) :
 Calls Tryz.prog 124 #[.int .i64 a0] w fun e w'=>e = .returned (.int .i64 r)∧Drawn0 w w':=by
 have H:((impl_ToneOf.f a0).bind fun t101=>(some (wrap64 (Int.tdiv (wrap64 (a0 - t101)) 12))))=some r:=h
 clear h
 replace H:=Option.bind_eq_some_iff.mp H
 obtain ⟨t101,A20,H⟩:=H
 replace H:(some (wrap64 (Int.tdiv (wrap64 (a0 - t101)) 12)))=some r:=H
 have A2:=Aside0.mk A20
 clear A20
 obtain rfl:=Option.some.inj H
 go_enter Tryz.func124,Tryz.ntmps124
 go_wp2_with (first|((with_reducible refine gate_callee (f:=123) rfl ?_);refine goesL_ (some 5) rfl rfl Tryz.func123 zu rfl #[.int .i64 a0] rfl zc ?_;(with_reducible refine (impl_ToneOf.calls a0 t101 _ A2.out).mono ?_);rintro e w' ⟨rfl,⟨nd,rfl⟩⟩;refine ⟨_,rfl,?_⟩))
 go_ret
 exact ⟨zf,zk⟩

def impl_within.f (a0:Int) (a1:Int) (a2:Int):Option (Bool):=if a0≥a1 then (some (decide (a0≤a2))) else (some false)
set_option maxHeartbeats 8000000 in
set_option maxRecDepth 100000 in
theorem impl_within.calls (a0:Int) (a1:Int) (a2:Int) (r:Bool) (w:World) (h:impl_within.f a0 a1 a2=some r) :
 Calls Tryz.prog 83 #[.int .i64 a0,.int .i64 a1,.int .i64 a2] w fun e w'=>e = .returned (.bool r)∧Drawn0 w w':=by
 have H:(if a0≥a1 then (some (decide (a0≤a2))) else (some false))=some r:=h
 clear h
 by_cases c4:a0≥a1
 ·rw [if_pos c4] at H
  have c4b0:decide (a1≤a0)=true:=decide_eq_true c4
  clear c4
  obtain rfl:=Option.some.inj H
  go_enter Tryz.func83,Tryz.ntmps83
  go_wp2
  go_ret
  exact ⟨zf,zk⟩
 ·rw [if_neg c4] at H
  have c4b0:decide (a1≤a0)=false:=decide_eq_false c4
  clear c4
  obtain rfl:=Option.some.inj H
  go_enter Tryz.func83,Tryz.ntmps83
  go_wp2
  go_ret
  exact ⟨zf,zk⟩

def impl_toneOk.f (a0:Int):Option (Bool):=(impl_within.f a0 0 11).bind fun t101=>(some t101)
set_option maxHeartbeats 8000000 in
set_option maxRecDepth 100000 in
theorem impl_toneOk.calls (a0:Int) (r:Bool) (w:World) (h:impl_toneOk.f a0=some r) :
 Calls Tryz.prog 182 #[.int .i64 a0] w fun e w'=>e = .returned (.bool r)∧Drawn0 w w':=by
 have H:((impl_within.f a0 0 11).bind fun t101=>(some t101))=some r:=h
 clear h
 replace H:=Option.bind_eq_some_iff.mp H
 obtain ⟨t101,A20,H⟩:=H
 replace H:(some t101)=some r:=H
 have A2:=Aside0.mk A20
 clear A20
 obtain rfl:=Option.some.inj H
 go_enter Tryz.func182,Tryz.ntmps182
 go_wp2_with (first|((with_reducible refine gate_callee (f:=83) rfl ?_);refine goesL_ (some 4) rfl rfl Tryz.func83 zu rfl #[.int .i64 a0,.int .i64 0,.int .i64 11] rfl zc ?_;(with_reducible refine (impl_within.calls a0 0 11 t101 _ A2.out).mono ?_);rintro e w' ⟨rfl,⟨nd,rfl⟩⟩;refine ⟨_,rfl,?_⟩))
 go_ret
 exact ⟨zf,zk⟩

def impl_ToneName.f (a0:Int):Option (ByteArray):=(impl_toneOk.f a0).bind fun t101=>(if t101=true then (if 0≤a0 then (if a0≤(wrap64 (a0+1)) then (if (wrap64 (a0+1))≤12 then (some ((⟨#[83,114,82,103,71,109,77,80,100,68,110,78]⟩:ByteArray).extract (a0:Int).toNat ((wrap64 (a0+1)):Int).toNat)) else (none)) else (none)) else (none)) else (some (⟨#[]⟩:ByteArray)))
set_option maxHeartbeats 8000000 in
set_option maxRecDepth 100000 in
theorem impl_ToneName.calls (a0:Int) (r:ByteArray) (w:World) (h:impl_ToneName.f a0=some r) :
 Calls Tryz.prog 151 #[.int .i64 a0] w fun e w'=>e = .returned (.string r)∧Drawn0 w w':=by
 have H:((impl_toneOk.f a0).bind fun t101=>(if t101=true then (if 0≤a0 then (if a0≤(wrap64 (a0+1)) then (if (wrap64 (a0+1))≤12 then (some ((⟨#[83,114,82,103,71,109,77,80,100,68,110,78]⟩:ByteArray).extract (a0:Int).toNat ((wrap64 (a0+1)):Int).toNat)) else (none)) else (none)) else (none)) else (some (⟨#[]⟩:ByteArray))))=some r:=h
 clear h
 replace H:=Option.bind_eq_some_iff.mp H
 obtain ⟨t101,A20,H⟩:=H
 replace H:(if t101=true then (if 0≤a0 then (if a0≤(wrap64 (a0+1)) then (if (wrap64 (a0+1))≤12 then (some ((⟨#[83,114,82,103,71,109,77,80,100,68,110,78]⟩:ByteArray).extract (a0:Int).toNat ((wrap64 (a0+1)):Int).toNat)) else (none)) else (none)) else (none)) else (some (⟨#[]⟩:ByteArray)))=some r:=H
 have A2:=Aside0.mk A20
 clear A20
 by_cases c3:t101=true
 ·subst c3
  have H1:(if 0≤a0 then (if a0≤(wrap64 (a0+1)) then (if (wrap64 (a0+1))≤12 then (some ((⟨#[83,114,82,103,71,109,77,80,100,68,110,78]⟩:ByteArray).extract (a0:Int).toNat ((wrap64 (a0+1)):Int).toNat)) else (none)) else (none)) else (none))=some r:=by rw [if_pos rfl] at H;exact H
  clear H
  have H:=H1
  clear H1
  by_cases c4:0≤a0
  ·rw [if_pos c4] at H
   have c4b0:=eq_true c4
   have c4b1:decide (0≤a0)=true:=decide_eq_true c4
   clear c4
   by_cases c5:a0≤(wrap64 (a0+1))
   ·rw [if_pos c5] at H
    have c5b0:=eq_true c5
    have c5b1:decide (a0≤(wrap64 (a0+1)))=true:=decide_eq_true c5
    by_cases c6:(wrap64 (a0+1))≤12
    ·rw [if_pos c6] at H
     have c6b0:=eq_true c6
     have c6b1:decide ((wrap64 (a0+1))≤12)=true:=decide_eq_true c6
     obtain rfl:=Option.some.inj H
     go_enter Tryz.func151,Tryz.ntmps151
     go_wp2_with (first|((with_reducible refine gate_callee (f:=182) rfl ?_);refine goesL_ (some 4) rfl rfl Tryz.func182 zu rfl #[.int .i64 a0] rfl zc ?_;(with_reducible refine (impl_toneOk.calls a0 true _ A2.out).mono ?_);rintro e w' ⟨rfl,⟨nd,rfl⟩⟩;refine ⟨_,rfl,?_⟩))
     go_ret
     exact ⟨zf,zk⟩
    ·rw [if_neg c6] at H
     exact absurd H zbr
   ·rw [if_neg c5] at H
    exact absurd H zbr
  ·rw [if_neg c4] at H
   exact absurd H zbr
 ·replace c3:=Bool.eq_false_iff.mpr c3
  subst c3
  have H1:(some (⟨#[]⟩:ByteArray))=some r:=by rw [if_neg (show ¬ (false=true) by decide)] at H;exact H
  clear H
  have H:=H1
  clear H1
  obtain rfl:=Option.some.inj H
  go_enter Tryz.func151,Tryz.ntmps151
  go_wp2_with (first|((with_reducible refine gate_callee (f:=182) rfl ?_);refine goesL_ (some 4) rfl rfl Tryz.func182 zu rfl #[.int .i64 a0] rfl zc ?_;(with_reducible refine (impl_toneOk.calls a0 false _ A2.out).mono ?_);rintro e w' ⟨rfl,⟨nd,rfl⟩⟩;refine ⟨_,rfl,?_⟩))
  go_ret
  exact ⟨zf,zk⟩

def impl_pitchText.f (a0:Int):Option ByteArray:=(impl_ToneOf.f a0).bind fun t=>(impl_ToneName.f t).bind fun n=>(impl_octaveOf.f a0).bind fun o=>if n.size+1≤9223372036854775807 then (if o = -1 then some (n++(⟨#[44]⟩:ByteArray)) else if o=0 then some (n++(⟨#[]⟩:ByteArray)) else if o=1 then some (n++(⟨#[39]⟩:ByteArray)) else none) else none
set_option maxHeartbeats 1600000 in
set_option maxRecDepth 100000 in
theorem impl_pitchText.calls (a0:Int) (r:ByteArray) (w:World) (h:impl_pitchText.f a0=some r) :
 Calls Tryz.prog 125 #[.int .i64 a0] w fun e w'=>e = .returned (.string r)∧Drawn0 w w':=by
 unfold impl_pitchText.f at h
 obtain ⟨t,e1,h⟩:=Option.bind_eq_some_iff.1 h
 obtain ⟨n,e2,h⟩:=Option.bind_eq_some_iff.1 h
 obtain ⟨o,e3,h⟩:=Option.bind_eq_some_iff.1 h
 by_cases hn:n.size+1≤9223372036854775807
 rotate_left
 ·rw [if_neg hn] at h;cases h
 rw [if_pos hn] at h
 have A1:=Aside0.mk (fun W=>impl_ToneOf.calls a0 t W e1)
 have A2:=Aside0.mk (fun W=>impl_ToneName.calls t n W e2)
 have A3:=Aside0.mk (fun W=>impl_octaveOf.calls a0 o W e3)
 have hn1:(9223372036854775807<n.size+1)=False:=eq_false zbd
 have hn0:(9223372036854775807<n.size)=False:=eq_false zbd
 have hn2:(9223372036854775807<n.size+0)=False:=eq_false zbd
 clear e1 e2 e3 hn
 by_cases h1:o = -1
 ·subst h1
  rw [if_pos rfl] at h
  obtain rfl:=Option.some.inj h
  clear h
  have hix:∀w:World,(Instr.index 152 (.agg #[.string ⟨#[44]⟩,.string ⟨#[]⟩,.string ⟨#[39]⟩]) (.int .i64 0)).run Tryz.prog w = .ok (.string ⟨#[44]⟩) w:=fun _=>rfl
  go_enter Tryz.func125,Tryz.ntmps125
  go_wp2_with (first
   | (go_at_call 123;(with_reducible refine (A1.out _).mono ?_);rintro e w1 ⟨rfl,⟨nd,rfl⟩⟩)
   | (go_at_call 151;(with_reducible refine (A2.out _).mono ?_);rintro e w1 ⟨rfl,⟨nd,rfl⟩⟩)
   | (go_at_call 124;(with_reducible refine (A3.out _).mono ?_);rintro e w1 ⟨rfl,⟨nd,rfl⟩⟩))
  all_goals go_ret
  all_goals exact ⟨rfl,by repeat (first|exact Drawn0.refl _|apply Drawn0.drewN|apply Drawn0.drew|exact ⟨_,rfl⟩)⟩
 rw [if_neg h1] at h
 by_cases h2:o=0
 ·subst h2
  rw [if_pos rfl] at h
  obtain rfl:=Option.some.inj h
  clear h
  have hix:∀w:World,(Instr.index 152 (.agg #[.string ⟨#[44]⟩,.string ⟨#[]⟩,.string ⟨#[39]⟩]) (.int .i64 1)).run Tryz.prog w = .ok (.string ⟨#[]⟩) w:=fun _=>rfl
  go_enter Tryz.func125,Tryz.ntmps125
  go_wp2_with (first
   | (go_at_call 123;(with_reducible refine (A1.out _).mono ?_);rintro e w1 ⟨rfl,⟨nd,rfl⟩⟩)
   | (go_at_call 151;(with_reducible refine (A2.out _).mono ?_);rintro e w1 ⟨rfl,⟨nd,rfl⟩⟩)
   | (go_at_call 124;(with_reducible refine (A3.out _).mono ?_);rintro e w1 ⟨rfl,⟨nd,rfl⟩⟩))
  all_goals go_ret
  all_goals exact ⟨rfl,by repeat (first|exact Drawn0.refl _|apply Drawn0.drewN|apply Drawn0.drew|exact ⟨_,rfl⟩)⟩
 rw [if_neg h2] at h
 by_cases h3:o=1
 ·subst h3
  rw [if_pos rfl] at h
  obtain rfl:=Option.some.inj h
  clear h
  have hix:∀w:World,(Instr.index 152 (.agg #[.string ⟨#[44]⟩,.string ⟨#[]⟩,.string ⟨#[39]⟩]) (.int .i64 2)).run Tryz.prog w = .ok (.string ⟨#[39]⟩) w:=fun _=>rfl
  go_enter Tryz.func125,Tryz.ntmps125
  go_wp2_with (first
   | (go_at_call 123;(with_reducible refine (A1.out _).mono ?_);rintro e w1 ⟨rfl,⟨nd,rfl⟩⟩)
   | (go_at_call 151;(with_reducible refine (A2.out _).mono ?_);rintro e w1 ⟨rfl,⟨nd,rfl⟩⟩)
   | (go_at_call 124;(with_reducible refine (A3.out _).mono ?_);rintro e w1 ⟨rfl,⟨nd,rfl⟩⟩))
  all_goals go_ret
  all_goals exact ⟨rfl,by repeat (first|exact Drawn0.refl _|apply Drawn0.drewN|apply Drawn0.drew|exact ⟨_,rfl⟩)⟩
 rw [if_neg h3] at h;cases h

def impl_pitchNamed.q (a:ByteArray) (p:Int):Option Bool:=(impl_pitchText.f p).bind fun r=>some (r.toList == a.toList)
def impl_pitchNamed.lst (q:Int→Option Bool):Nat→Int→Option (Int × Bool)
 | 0,_=>some (0,false)
 | n+1,p=>(q p).bind fun b=>if b=true then some (p,true) else impl_pitchNamed.lst q n (p+1)
def impl_pitchNamed.f (a:ByteArray):Option (Int × Bool):=impl_pitchNamed.lst (impl_pitchNamed.q a) 36 (-12)
set_option maxHeartbeats 1600000 in
set_option maxRecDepth 100000 in
theorem impl_pitchNamed.clo (a:ByteArray) (p:Int) (b:Bool) (C:Addr) (w:World) (h3:w.cell? C=some (.string a)) (h:impl_pitchNamed.q a p=some b) :
 Calls Tryz.prog 160 #[.int .i64 p,.pointer (some C)] w fun e w'=>e = .returned (.bool b)∧Below w.heap.size w w':=by
 unfold impl_pitchNamed.q at h
 obtain ⟨r,e1,h⟩:=Option.bind_eq_some_iff.1 h
 obtain rfl:=Option.some.inj h
 clear h
 have HC:=Aside0.mk (fun W=>impl_pitchText.calls p r W e1)
 have hp1:=fun (w:World) (h1:w.cell? C=some (.string a)) (o:Obj)=>(pw_cell_below (below_alloc (Below.refl _ _) o) h1:(w.alloc o).cell? C=some (.string a))
 have h3':=fun o=>hp1 w h3 o
 clear e1
 go_enter Tryz.func160,Tryz.ntmps160
 go_wp2_with fail
 go_region_held3 (fun w'=>w'.cell? C=some (.string a)) (go_keep) (first|(go_at_call 125;refine (HC.out _).mono ?_;rintro e w1 ⟨rfl,⟨nd,rfl⟩⟩))
 all_goals go_wp2
 all_goals go_ret
 all_goals exact ⟨rfl,by repeat (first|(with_reducible first|exact Below.refl _ _|apply below_alloc|apply pw_below_drewN|apply below_drew1)|exact Below.refl _ _)⟩
set_option maxHeartbeats 1600000 in
set_option maxRecDepth 100000 in
theorem impl_pitchNamed.lstC (q:Int→Option Bool) (c0:Value) (r1:Int) (r2:Bool) (w:World)
 (hclo:∀(p:Int) (b:Bool) (W:World),Below w.heap.size w W→q p=some b→Calls Tryz.prog 160 #[.int .i64 p,c0] W fun e W'=>e = .returned (.bool b)∧Below W.heap.size W W')
 (h:impl_pitchNamed.lst q 36 (-12)=some (r1,r2)) :
 Calls Tryz.prog 118 #[.int .i64 (-12),.int .i64 23,.func (.func 160) #[] #[c0]] w fun e w'=>e = .returned (.tuple #[.int .i64 r1,.bool r2])∧Below w.heap.size w w':=by
 have HCL:=Aside0.mk hclo
 have HH:=Aside0.mk h
 clear hclo h
 go_enter Tryz.func118,Tryz.ntmps118
 go_wp2_with fail
 go_loopw [8] (fun i wr=>∃p:Int,-12≤p∧p≤24∧i = .int .i64 p∧Aside0 (impl_pitchNamed.lst q (24 - p).toNat p=some (r1,r2))∧Aside0 (Below w.heap.size w wr)) (fun i _=>(30 - intOf i).toNat)
 case atStart=>exact ⟨-12,zbd,zbd,rfl,HH,⟨Below.refl _ _⟩⟩
 case round=>
  obtain ⟨p,hp0,hp1,rfl,HN,HB⟩:=hrel
  by_cases hlt:p<24
  ·have hd:decide (p≤23)=true:=decide_eq_true zbd
   have hn:=HN.out
   obtain ⟨m,hm⟩:∃m,(24 - p).toNat=m+1:=⟨(23 - p).toNat,zbd⟩
   rw [hm] at hn
   simp only [impl_pitchNamed.lst] at hn
   obtain ⟨b,hq,hn⟩:=Option.bind_eq_some_iff.1 hn
   have HG:=Aside0.mk (HCL.out p b wr HB.out hq)
   have HM:=Aside0.mk hm
   clear hm hq
   cases b with
   | true=>
    rw [if_pos rfl] at hn
    obtain ⟨rfl,rfl⟩:=Prod.mk.inj (Option.some.inj hn)
    clear hn
    go_wp2_with (go_at_call 160;refine HG.out.mono ?_;rintro e w1 ⟨rfl,hb1⟩;have HB1:=Aside0.mk (below_step HB.out hb1);clear hb1)
    go_ret2
    exact ⟨rfl,HB1.out⟩
   | false=>
    rw [if_neg zbm] at hn
    have HN2:=Aside0.mk hn
    clear hn
    go_wp2_with (go_at_call 160;refine HG.out.mono ?_;rintro e w1 ⟨rfl,hb1⟩;have HB1:=Aside0.mk (below_step HB.out hb1);clear hb1)
    go_roundw
    case rel=>
     refine ⟨p+1,zbd,zbd,by go_num,⟨?_⟩,HB1⟩
     have hm:=HM.out
     rw [show (24 - (p+1)).toNat=m by omega]
     exact HN2.out
    case measure=>simp [intOf];omega
  ·obtain rfl:p=24:=by omega
   have hd:decide ((24:Int)≤23)=false:=by decide
   have hn:=HN.out
   simp only [Int.sub_self,Int.toNat_zero,impl_pitchNamed.lst] at hn
   obtain ⟨rfl,rfl⟩:=Prod.mk.inj (Option.some.inj hn)
   clear hn
   go_wp2_with fail
   go_ret2
   exact ⟨rfl,HB.out⟩
set_option maxHeartbeats 1600000 in
set_option maxRecDepth 100000 in
theorem impl_pitchNamed.calls (a0:ByteArray) (r1:Int) (r2:Bool) (w:World) (h:impl_pitchNamed.f a0=some (r1,r2)) :
 Calls Tryz.prog 133 #[.string a0] w fun e w'=>e = .returned (.tuple #[.int .i64 r1,.bool r2])∧Below w.heap.size w w':=by
 unfold impl_pitchNamed.f at h
 have hmf:∀(fn:Fn) (first cap:Array Value) (w:World),(Instr.makeFunc fn first cap).run Tryz.prog w = .ok (.func fn first cap) w:=fun _ _ _ _=>rfl
 have HW:∀W3:World,W3=w.alloc (.cells #[.string a0] 9)→Below w.heap.size w W3∧W3.cell? ⟨w.heap.size,0,none⟩=some (.string a0):=by
  rintro W3 rfl
  exact ⟨below_alloc (Below.refl _ _) _,(blk_cell (blk_new w _) 0).trans rfl⟩
 obtain ⟨hb3,k3⟩:=HW _ rfl
 have HC:=Aside0.mk (impl_pitchNamed.lstC (impl_pitchNamed.q a0) (.pointer (some ⟨w.heap.size,0,none⟩)) r1 r2 _ (fun p b W hW hq=>impl_pitchNamed.clo a0 p b _ W (pw_cell_below hW k3) hq) h)
 have HB3:=Aside0.mk hb3
 clear hb3 k3 HW h
 go_enter Tryz.func133,Tryz.ntmps133
 go_wp2_with (go_at_call 118;refine HC.out.mono ?_;rintro e w1 ⟨rfl,hb⟩;have HB:=Aside0.mk (below_step HB3.out hb);clear hb)
 go_ret2
 exact ⟨rfl,HB.out⟩

def impl_pitchOk.f (a0:Int):Option (Bool):=(impl_within.f a0 (-12) 23).bind fun t101=>(some t101)
set_option maxHeartbeats 8000000 in
set_option maxRecDepth 100000 in
theorem impl_pitchOk.calls (a0:Int) (r:Bool) (w:World) (h:impl_pitchOk.f a0=some r) :
 Calls Tryz.prog 90 #[.int .i64 a0] w fun e w'=>e = .returned (.bool r)∧Drawn0 w w':=by
 have H:((impl_within.f a0 (-12) 23).bind fun t101=>(some t101))=some r:=h
 clear h
 replace H:=Option.bind_eq_some_iff.mp H
 obtain ⟨t101,A20,H⟩:=H
 replace H:(some t101)=some r:=H
 have A2:=Aside0.mk A20
 clear A20
 obtain rfl:=Option.some.inj H
 go_enter Tryz.func90,Tryz.ntmps90
 go_wp2_with (first|((with_reducible refine gate_callee (f:=83) rfl ?_);refine goesL_ (some 4) rfl rfl Tryz.func83 zu rfl #[.int .i64 a0,.int .i64 (-12),.int .i64 23] rfl zc ?_;(with_reducible refine (impl_within.calls a0 (-12) 23 t101 _ A2.out).mono ?_);rintro e w' ⟨rfl,⟨nd,rfl⟩⟩;refine ⟨_,rfl,?_⟩))
 go_ret
 exact ⟨zf,zk⟩

def impl_lengthOk.f (a0:Int):Option (Bool):=(impl_within.f a0 1 64).bind fun t101=>(some t101)
set_option maxHeartbeats 8000000 in
set_option maxRecDepth 100000 in
theorem impl_lengthOk.calls (a0:Int) (r:Bool) (w:World) (h:impl_lengthOk.f a0=some r) :
 Calls Tryz.prog 91 #[.int .i64 a0] w fun e w'=>e = .returned (.bool r)∧Drawn0 w w':=by
 have H:((impl_within.f a0 1 64).bind fun t101=>(some t101))=some r:=h
 clear h
 replace H:=Option.bind_eq_some_iff.mp H
 obtain ⟨t101,A20,H⟩:=H
 replace H:(some t101)=some r:=H
 have A2:=Aside0.mk A20
 clear A20
 obtain rfl:=Option.some.inj H
 go_enter Tryz.func91,Tryz.ntmps91
 go_wp2_with (first|((with_reducible refine gate_callee (f:=83) rfl ?_);refine goesL_ (some 4) rfl rfl Tryz.func83 zu rfl #[.int .i64 a0,.int .i64 1,.int .i64 64] rfl zc ?_;(with_reducible refine (impl_within.calls a0 1 64 t101 _ A2.out).mono ?_);rintro e w' ⟨rfl,⟨nd,rfl⟩⟩;refine ⟨_,rfl,?_⟩))
 go_ret
 exact ⟨zf,zk⟩

def impl_ValidMelody.l0:Nat→List (S67)→Int→Int→Option (Bool)
 | 0,_,_,_=>none
 | k+1,x8,x9,x10=>if x10<x9 then (if 0≤x10 then (if x10<(x8.length:Int) then ((impl_pitchOk.f ((rd_T67 x8 x10).f0)).bind fun t103=>(if t103=true then ((impl_lengthOk.f ((rd_T67 x8 x10).f1)).bind fun t104=>(if t104=true then (impl_ValidMelody.l0 k x8 x9 (wrap64 (x10+1))) else (some false))) else (some false))) else (none)) else (none)) else (some true)
def impl_ValidMelody.f (k:Nat) (l0:List (S67)):Option (Bool):=if (l0.length:Int) > 48 then (some false) else (impl_ValidMelody.l0 k l0 (l0.length:Int) 0)
set_option maxHeartbeats 8000000 in
set_option maxRecDepth 100000 in
theorem impl_ValidMelody.calls (k:Nat) (A0:Option Addr) (c0:Nat) (l0:List (S67)) (r:Bool) (w:World) (hr0:Kd.C k67 w A0 l0.length l0) (hc0:l0.length≤c0) (h:impl_ValidMelody.f k l0=some r) :
 Calls Tryz.prog 70 #[.slice A0 l0.length c0] w fun e w'=>e = .returned (.bool r)∧Below w.heap.size w w':=by
 have hu67:=Tryz.underlying67
 have HR0:=Aside0.mk hr0
 have HC0:=Aside0.mk hc0
 clear hr0 hc0
 have HB:=Aside0.mk (Below.refl w.heap.size w)
 have H:(if (l0.length:Int) > 48 then (some false) else (impl_ValidMelody.l0 k l0 (l0.length:Int) 0))=some r:=h
 clear h
 by_cases c2:(l0.length:Int) > 48
 ·rw [if_pos c2] at H
  have c2b0:decide (48<(l0.length:Int))=true:=decide_eq_true c2
  have c2b1:decide (48<l0.length)=true:=decide_eq_true zbd
  clear c2
  obtain rfl:=Option.some.inj H
  go_enter Tryz.func70,Tryz.ntmps70
  go_wp2
  go_ret
  exact ⟨zg,za⟩
 ·rw [if_neg c2] at H
  have c2b0:decide (48<(l0.length:Int))=false:=decide_eq_false c2
  have c2b1:decide (48<l0.length)=false:=decide_eq_false zbd
  clear c2
  have H':=Aside0.mk H
  clear H
  go_enter Tryz.func70,Tryz.ntmps70
  go_wp2
  go_loopg [10] k (fun kq v10 w'=>∃(x10_1:Int),v10 = .int .i64 x10_1∧Aside0 (impl_ValidMelody.l0 kq l0 (l0.length:Int) x10_1=some r)∧Aside0 (kq≤k)∧Aside0 (Below w.heap.size w w'))
  case atStart=>exact ⟨(0),zf,H',⟨Nat.le_refl _⟩,⟨za⟩⟩
  case round=>
   clear H'
   try clear c2
   try clear c2b0
   try clear c2b1
   try clear p2
   obtain ⟨x10_1,rfl,HA,HK1,HB⟩:=hrel
   cases gk with
   | zero=>exact absurd HA.out (by simp [impl_ValidMelody.l0])
   | succ k1=>
    have H:=HA.out
    clear HA
    simp only [impl_ValidMelody.l0] at H
    by_cases c3:x10_1<(l0.length:Int)
    ·rw [if_pos c3] at H
     have c3b0:decide (x10_1<(l0.length:Int))=true:=decide_eq_true c3
     clear c3
     by_cases c4:0≤x10_1
     ·rw [if_pos c4] at H
      have c4b0:decide (0≤x10_1)=true:=decide_eq_true c4
      clear c4
      by_cases c5:x10_1<(l0.length:Int)
      ·rw [if_pos c5] at H
       have c5b0:decide (x10_1<(l0.length:Int))=true:=decide_eq_true c5
       clear c5
       replace H:=Option.bind_eq_some_iff.mp H
       obtain ⟨t103,A60,H⟩:=H
       replace H:(if t103=true then ((impl_lengthOk.f ((rd_T67 l0 x10_1).f1)).bind fun t104=>(if t104=true then (impl_ValidMelody.l0 k1 l0 (l0.length:Int) (wrap64 (x10_1+1))) else (some false))) else (some false))=some r:=H
       have A6:=Aside0.mk A60
       clear A60
       by_cases c7:t103=true
       ·subst c7
        have H1:((impl_lengthOk.f ((rd_T67 l0 x10_1).f1)).bind fun t104=>(if t104=true then (impl_ValidMelody.l0 k1 l0 (l0.length:Int) (wrap64 (x10_1+1))) else (some false)))=some r:=by rw [if_pos rfl] at H;exact H
        clear H
        have H:=H1
        clear H1
        replace H:=Option.bind_eq_some_iff.mp H
        obtain ⟨t104,A80,H⟩:=H
        replace H:(if t104=true then (impl_ValidMelody.l0 k1 l0 (l0.length:Int) (wrap64 (x10_1+1))) else (some false))=some r:=H
        have A8:=Aside0.mk A80
        clear A80
        by_cases c9:t104=true
        ·subst c9
         have H1:(impl_ValidMelody.l0 k1 l0 (l0.length:Int) (wrap64 (x10_1+1)))=some r:=by rw [if_pos rfl] at H;exact H
         clear H
         have H:=H1
         clear H1
         have H':=Aside0.mk H
         clear H
         have p101:0≤(x10_1:Int):=of_decide_eq_true ze
         have q101:x10_1<(l0.length:Int):=of_decide_eq_true ze
         obtain ⟨ad101,e101,hx101_0,hx101_1⟩:=at_T67 HR0.out x10_1 p101 q101
         cases e101
         replace hx101_0:=(HB.out.cell (World.block_lt_of_cell? w _ hx101_0)).trans hx101_0
         replace hx101_1:=(HB.out.cell (World.block_lt_of_cell? w _ hx101_1)).trans hx101_1
         replace p101:=eq_true p101
         replace q101:=eq_true q101
         go_wp2_with (first|((with_reducible refine gate_dst (N:=4) rfl ?_);refine box_event ?hg (N:=4) ?hd (cs:=#[.int .i64 0,.int .i64 0]) (t:=67) ?hr ?_;(case hd=>rfl);(case hg=>rfl);(case hr=>exact zo);intro gb102 hg w10 hbox hb;have n0_:=Aside0.mk (below_step za hb);have n1_:=Aside0.mk (hbox);have n2_:=Aside0.mk ((by rw [hg];exact (below_size za):w.heap.size≤gb102));have n3_:=Aside0.mk ((by rw [hg];exact (below_size za):w.heap.size≤gb102));clear HB;have HB:=n0_;have BK102:=n1_;have GW102:=n2_;have GE102:=n3_;clear n0_ n1_ n2_ n3_;clear hb hbox hg;have hcz11_0:w10.cell? ⟨gb102,0,none⟩=some (.int .i64 0):=(blk_cell BK102.out 0).trans rfl;have hcz11_1:w10.cell? ⟨gb102,1,none⟩=some (.int .i64 0):=(blk_cell BK102.out 1).trans rfl;have hfz11_0:=blk_frozen BK102.out 0;have hfz11_1:=blk_frozen BK102.out 1)|((with_reducible refine gate_callee (f:=90) rfl ?_);refine goesL_ (some 16) rfl rfl Tryz.func90 zu rfl #[.int .i64 ((rd_T67 l0 x10_1).f0)] rfl zc ?_;(with_reducible refine (impl_pitchOk.calls ((rd_T67 l0 x10_1).f0) true _ A6.out).mono ?_);rintro e w' ⟨rfl,⟨nd,rfl⟩⟩;refine ⟨_,rfl,?_⟩)|(go_at_call 91;(with_reducible refine (impl_lengthOk.calls ((rd_T67 l0 x10_1).f1) true _ A8.out).mono ?_);rintro e w' ⟨rfl,⟨nd,rfl⟩⟩))
         go_roundg k1
         case measure=>have:=HK1.out;omega
         case rel=>exact ⟨(wrap64 (x10_1+1)),zf,H',⟨zcq⟩,⟨zct⟩⟩
        ·replace c9:=Bool.eq_false_iff.mpr c9
         subst c9
         have H1:(some false)=some r:=by rw [if_neg (show ¬ (false=true) by decide)] at H;exact H
         clear H
         have H:=H1
         clear H1
         obtain rfl:=Option.some.inj H
         have p101:0≤(x10_1:Int):=of_decide_eq_true ze
         have q101:x10_1<(l0.length:Int):=of_decide_eq_true ze
         obtain ⟨ad101,e101,hx101_0,hx101_1⟩:=at_T67 HR0.out x10_1 p101 q101
         cases e101
         replace hx101_0:=(HB.out.cell (World.block_lt_of_cell? w _ hx101_0)).trans hx101_0
         replace hx101_1:=(HB.out.cell (World.block_lt_of_cell? w _ hx101_1)).trans hx101_1
         replace p101:=eq_true p101
         replace q101:=eq_true q101
         go_wp2_with (first|((with_reducible refine gate_dst (N:=4) rfl ?_);refine box_event ?hg (N:=4) ?hd (cs:=#[.int .i64 0,.int .i64 0]) (t:=67) ?hr ?_;(case hd=>rfl);(case hg=>rfl);(case hr=>exact zo);intro gb102 hg w12 hbox hb;have n0_:=Aside0.mk (below_step za hb);have n1_:=Aside0.mk (hbox);have n2_:=Aside0.mk ((by rw [hg];exact (below_size za):w.heap.size≤gb102));have n3_:=Aside0.mk ((by rw [hg];exact (below_size za):w.heap.size≤gb102));clear HB;have HB:=n0_;have BK102:=n1_;have GW102:=n2_;have GE102:=n3_;clear n0_ n1_ n2_ n3_;clear hb hbox hg;have hcz13_0:w12.cell? ⟨gb102,0,none⟩=some (.int .i64 0):=(blk_cell BK102.out 0).trans rfl;have hcz13_1:w12.cell? ⟨gb102,1,none⟩=some (.int .i64 0):=(blk_cell BK102.out 1).trans rfl;have hfz13_0:=blk_frozen BK102.out 0;have hfz13_1:=blk_frozen BK102.out 1)|((with_reducible refine gate_callee (f:=90) rfl ?_);refine goesL_ (some 16) rfl rfl Tryz.func90 zu rfl #[.int .i64 ((rd_T67 l0 x10_1).f0)] rfl zc ?_;(with_reducible refine (impl_pitchOk.calls ((rd_T67 l0 x10_1).f0) true _ A6.out).mono ?_);rintro e w' ⟨rfl,⟨nd,rfl⟩⟩;refine ⟨_,rfl,?_⟩)|(go_at_call 91;(with_reducible refine (impl_lengthOk.calls ((rd_T67 l0 x10_1).f1) false _ A8.out).mono ?_);rintro e w' ⟨rfl,⟨nd,rfl⟩⟩))
         go_ret
         exact ⟨zg,zct⟩
       ·replace c7:=Bool.eq_false_iff.mpr c7
        subst c7
        have H1:(some false)=some r:=by rw [if_neg (show ¬ (false=true) by decide)] at H;exact H
        clear H
        have H:=H1
        clear H1
        obtain rfl:=Option.some.inj H
        have p101:0≤(x10_1:Int):=of_decide_eq_true ze
        have q101:x10_1<(l0.length:Int):=of_decide_eq_true ze
        obtain ⟨ad101,e101,hx101_0,hx101_1⟩:=at_T67 HR0.out x10_1 p101 q101
        cases e101
        replace hx101_0:=(HB.out.cell (World.block_lt_of_cell? w _ hx101_0)).trans hx101_0
        replace hx101_1:=(HB.out.cell (World.block_lt_of_cell? w _ hx101_1)).trans hx101_1
        replace p101:=eq_true p101
        replace q101:=eq_true q101
        go_wp2_with (first|((with_reducible refine gate_dst (N:=4) rfl ?_);refine box_event ?hg (N:=4) ?hd (cs:=#[.int .i64 0,.int .i64 0]) (t:=67) ?hr ?_;(case hd=>rfl);(case hg=>rfl);(case hr=>exact zo);intro gb102 hg w14 hbox hb;have n0_:=Aside0.mk (below_step za hb);have n1_:=Aside0.mk (hbox);have n2_:=Aside0.mk ((by rw [hg];exact (below_size za):w.heap.size≤gb102));have n3_:=Aside0.mk ((by rw [hg];exact (below_size za):w.heap.size≤gb102));clear HB;have HB:=n0_;have BK102:=n1_;have GW102:=n2_;have GE102:=n3_;clear n0_ n1_ n2_ n3_;clear hb hbox hg;have hcz15_0:w14.cell? ⟨gb102,0,none⟩=some (.int .i64 0):=(blk_cell BK102.out 0).trans rfl;have hcz15_1:w14.cell? ⟨gb102,1,none⟩=some (.int .i64 0):=(blk_cell BK102.out 1).trans rfl;have hfz15_0:=blk_frozen BK102.out 0;have hfz15_1:=blk_frozen BK102.out 1)|((with_reducible refine gate_callee (f:=90) rfl ?_);refine goesL_ (some 16) rfl rfl Tryz.func90 zu rfl #[.int .i64 ((rd_T67 l0 x10_1).f0)] rfl zc ?_;(with_reducible refine (impl_pitchOk.calls ((rd_T67 l0 x10_1).f0) false _ A6.out).mono ?_);rintro e w' ⟨rfl,⟨nd,rfl⟩⟩;refine ⟨_,rfl,?_⟩))
        go_ret
        exact ⟨zg,zct⟩
      ·rw [if_neg c5] at H
       exact absurd H zbr
     ·rw [if_neg c4] at H
      exact absurd H zbr
    ·rw [if_neg c3] at H
     have c3b0:decide (x10_1<(l0.length:Int))=false:=decide_eq_false c3
     clear c3
     obtain rfl:=Option.some.inj H
     go_wp2
     go_ret
     exact ⟨zg,za⟩

theorem sh_Join_X:Builder.Extra Tryz.prog sh_Join_ren:={ sizeBuilder:=by kernel_rfl,liesBuilder:=by kernel_rfl,t5:=Tryz.underlying5,a5:=Tryz.isAgg5,z5:=Tryz.sizeOf5,v5:=Tryz.zeroValue5,infoByte:=by kernel_rfl,cellsByte:=by kernel_rfl,sizeByte:=by kernel_rfl,neB5:=by decide }
def strings_Join.t (l0:List ByteArray) (a1:ByteArray):ByteArray:=⟨(Lib.join (l0.map (·.data.toList)) a1.data.toList).toArray⟩
def strings_Join.f (l0:List ByteArray) (a1:ByteArray):Option ByteArray:=if l0.length≤1000000∧(strings_Join.t l0 a1).size≤140737488355328 then some (strings_Join.t l0 a1) else none
theorem strings_Join.calls (A0:Option Addr) (c0:Nat) (l0:List ByteArray) (a1:ByteArray) (r:ByteArray) (w:World) (hr0:Kd.C Kd.string w A0 l0.length l0) (hc0:l0.length≤c0) (h:strings_Join.f l0 a1=some r) :
 Calls Tryz.prog 94 #[.slice A0 l0.length c0,.string a1] w fun e w'=>e = .returned (.string r)∧Below w.heap.size w w':=by
 unfold strings_Join.f at h
 by_cases hb:l0.length≤1000000∧(strings_Join.t l0 a1).size≤140737488355328
 rotate_left
 ·rw [if_neg hb] at h;exact absurd h zbr
 rw [if_pos hb] at h
 obtain rfl:=Option.some.inj h
 obtain ⟨hb1,hb2⟩:=hb
 have hsz:(strings_Join.t l0 a1).size=(Lib.join (l0.map (·.data.toList)) a1.data.toList).length:=by
  unfold strings_Join.t;show (Lib.join (l0.map (·.data.toList)) a1.data.toList).toArray.size=_;simp
 rw [hsz] at hb2
 unfold strings_Join.t
 have hR:=Kd.reads_of_C (enc:=Value.string) (d:=ByteArray.empty) (h1:=fun _=>rfl) hr0
 by_cases h0:l0.length=0
 ·obtain rfl:=List.eq_nil_of_length_eq_zero h0
  refine (Any.strings_Join_none sh_Join sh_Join_X A0 c0 a1 w).mono ?_
  rintro e w' ⟨rfl,rfl⟩
  exact ⟨rfl,Below.refl _ _⟩
 ·obtain ⟨ad,rfl,hc⟩:=hR.2.2 zbd
  obtain ⟨bk,o,sp⟩:=ad
  have hsp:sp=none:=by
   have h1:=hc 0 zbd
   cases sp with
   | none=>rfl
   | some s=>
    exfalso
    unfold World.cell? at h1
    simp only [Addr.add] at h1
    split at h1
    ·simp at h1
    ·simp at h1
  subst hsp
  have hlt:bk<w.heap.size:=World.block_lt_of_cell? _ _ (hc 0 zbd)
  refine (Any.strings_Join sh_Join sh_Join_X bk o c0 l0 a1 w (fun j x hx=>?_) hlt zbd hc0 hb2).mono ?_
  ·obtain ⟨hj,rfl⟩:=List.getElem?_eq_some_iff.1 hx
   have:=hc j hj
   rw [List.getD_eq_getElem?_getD,List.getElem?_eq_getElem hj,Option.getD_some,show (⟨bk,o,none⟩:Addr).add j=⟨bk,o+j,none⟩ from by simp [Addr.add]] at this
   exact this
  ·rintro e w' ⟨rfl,hb⟩
   exact ⟨rfl,hb⟩

def impl_MelodyText.l0:Nat→List ByteArray→List (S67)→Int→Int→Option (ByteArray)
 | 0,_,_,_,_=>none
 | k+1,x3,x15,x16,x17=>if x17<x16 then (if 0≤x17 then (if x17<(x15.length:Int) then ((impl_pitchText.f ((rd_T67 x15 x17).f0)).bind fun t105=>(if ((rd_T67 x15 x17).f1)=1 then (if x3.length<8796093022208 then (impl_MelodyText.l0 k (x3++[t105]) x15 x16 (wrap64 (x17+1))) else (none)) else ((impl_Decimal.f ((rd_T67 x15 x17).f1)).bind fun t109=>(if t105.size+t109.size≤9223372036854775807 then (if x3.length<8796093022208 then (impl_MelodyText.l0 k (x3++[t105++t109]) x15 x16 (wrap64 (x17+1))) else (none)) else (none))))) else (none)) else (none)) else ((strings_Join.f x3 (⟨#[32]⟩:ByteArray)).bind fun t102=>(some t102))
def impl_MelodyText.f (k:Nat) (l0:List (S67)):Option (ByteArray):=(impl_ValidMelody.f k l0).bind fun t101=>(if t101=true then (if (l0.length:Int)=0 then (some (⟨#[45]⟩:ByteArray)) else (impl_MelodyText.l0 k ([]:List ByteArray) l0 (l0.length:Int) 0)) else (some (⟨#[]⟩:ByteArray)))
set_option maxHeartbeats 8000000 in
set_option maxRecDepth 100000 in
theorem impl_MelodyText.calls (k:Nat) (A0:Option Addr) (c0:Nat) (l0:List (S67)) (r:ByteArray) (w:World) (hD:Door1 w) (hr0:Kd.C k67 w A0 l0.length l0) (hc0:l0.length≤c0) (h:impl_MelodyText.f k l0=some r) :
 Calls Tryz.prog 134 #[.slice A0 l0.length c0] w fun e w'=>e = .returned (.string r)∧Below w.heap.size w w':=by
 have hu67:=Tryz.underlying67
 have HD:=Aside0.mk hD
 clear hD
 have HR0:=Aside0.mk hr0
 have HC0:=Aside0.mk hc0
 clear hr0 hc0
 have HB:=Aside0.mk (Below.refl w.heap.size w)
 have H:((impl_ValidMelody.f k l0).bind fun t101=>(if t101=true then (if (l0.length:Int)=0 then (some (⟨#[45]⟩:ByteArray)) else (impl_MelodyText.l0 k ([]:List ByteArray) l0 (l0.length:Int) 0)) else (some (⟨#[]⟩:ByteArray))))=some r:=h
 clear h
 replace H:=Option.bind_eq_some_iff.mp H
 obtain ⟨t101,A20,H⟩:=H
 replace H:(if t101=true then (if (l0.length:Int)=0 then (some (⟨#[45]⟩:ByteArray)) else (impl_MelodyText.l0 k ([]:List ByteArray) l0 (l0.length:Int) 0)) else (some (⟨#[]⟩:ByteArray)))=some r:=H
 have A2:=Aside0.mk A20
 clear A20
 by_cases c3:t101=true
 ·subst c3
  have H1:(if (l0.length:Int)=0 then (some (⟨#[45]⟩:ByteArray)) else (impl_MelodyText.l0 k ([]:List ByteArray) l0 (l0.length:Int) 0))=some r:=by rw [if_pos rfl] at H;exact H
  clear H
  have H:=H1
  clear H1
  by_cases c4:(l0.length:Int)=0
  ·rw [if_pos c4] at H
   have c4b0:((l0.length:Int) == 0)=true:=beq_iff_eq.mpr c4
   have c4b1:((l0.length:Int) != 0)=false:=bne_eq_false_iff_eq.mpr c4
   clear c4
   obtain rfl:=Option.some.inj H
   go_enter Tryz.func134,Tryz.ntmps134
   go_wp2_with (first|((with_reducible refine gate_callee (f:=70) rfl ?_);refine goesL_ (some 9) rfl rfl Tryz.func70 zu rfl #[.slice A0 l0.length c0] rfl zc ?_;(with_reducible refine (impl_ValidMelody.calls k _ _ l0 true _ ?side1 ?side2 A2.out).mono ?_);(case side1=>exact zx);(case side2=>exact HC0.out);rintro e w5 ⟨rfl,hb⟩;refine ⟨_,rfl,?_⟩;replace HB:=Aside0.mk (below_step za hb);(try clear hb);(try clear hb2);(try clear hk);(try clear hi)))
   go_ret
   exact ⟨zg,za⟩
  ·rw [if_neg c4] at H
   have c4b0:((l0.length:Int) == 0)=false:=beq_eq_false_iff_ne.mpr c4
   have c4b1:((l0.length:Int) != 0)=true:=bne_iff_ne.mpr c4
   have c4b2:¬ (l0=[]):=fun h_=>c4 (by rw [h_];rfl)
   have H':=Aside0.mk H
   clear H
   go_enter Tryz.func134,Tryz.ntmps134
   go_wp2_with (first|((with_reducible refine gate_callee (f:=70) rfl ?_);refine goesL_ (some 9) rfl rfl Tryz.func70 zu rfl #[.slice A0 l0.length c0] rfl zc ?_;(with_reducible refine (impl_ValidMelody.calls k _ _ l0 true _ ?side1 ?side2 A2.out).mono ?_);(case side1=>exact zx);(case side2=>exact HC0.out);rintro e w6 ⟨rfl,hb⟩;refine ⟨_,rfl,?_⟩;replace HB:=Aside0.mk (below_step za hb);(try clear hb);(try clear hb2);(try clear hk);(try clear hi)))
   go_loopg [3,17] k (fun kq v3 v17 w'=>∃(x3_1:List ByteArray) (x17_1:Int),v17 = .int .i64 x17_1∧Aside0 (impl_MelodyText.l0 kq x3_1 l0 (l0.length:Int) x17_1=some r)∧Aside0 (kq≤k)∧Aside0 (Kd.R Kd.string 9 w' w.heap.size (fun _=>True) v3 x3_1)∧Aside0 (Below w.heap.size w w'))
   case atStart=>exact ⟨(([]:List ByteArray)),(0),zf,H',⟨Nat.le_refl _⟩,⟨zl⟩,⟨za⟩⟩
   case round=>
    clear H'
    try clear c1
    try clear p2
    try clear c3
    try clear c4
    try clear c4b0
    try clear c4b1
    try clear c4b2
    obtain ⟨x3_1,x17_1,rfl,HA,HK1,HO_3,HB⟩:=hrel
    cases gk with
    | zero=>exact absurd HA.out (by simp [impl_MelodyText.l0])
    | succ k1=>
     have H:=HA.out
     clear HA
     simp only [impl_MelodyText.l0] at H
     by_cases c7:x17_1<(l0.length:Int)
     ·rw [if_pos c7] at H
      have c7b0:decide (x17_1<(l0.length:Int))=true:=decide_eq_true c7
      clear c7
      by_cases c8:0≤x17_1
      ·rw [if_pos c8] at H
       have c8b0:decide (0≤x17_1)=true:=decide_eq_true c8
       clear c8
       by_cases c9:x17_1<(l0.length:Int)
       ·rw [if_pos c9] at H
        have c9b0:decide (x17_1<(l0.length:Int))=true:=decide_eq_true c9
        clear c9
        replace H:=Option.bind_eq_some_iff.mp H
        obtain ⟨t105,A100,H⟩:=H
        replace H:(if ((rd_T67 l0 x17_1).f1)=1 then (if x3_1.length<8796093022208 then (impl_MelodyText.l0 k1 (x3_1++[t105]) l0 (l0.length:Int) (wrap64 (x17_1+1))) else (none)) else ((impl_Decimal.f ((rd_T67 l0 x17_1).f1)).bind fun t109=>(if t105.size+t109.size≤9223372036854775807 then (if x3_1.length<8796093022208 then (impl_MelodyText.l0 k1 (x3_1++[t105++t109]) l0 (l0.length:Int) (wrap64 (x17_1+1))) else (none)) else (none))))=some r:=H
        have A10:=Aside0.mk A100
        clear A100
        by_cases c11:((rd_T67 l0 x17_1).f1)=1
        ·rw [if_pos c11] at H
         have c11b0:(((rd_T67 l0 x17_1).f1) == 1)=true:=beq_iff_eq.mpr c11
         have c11b1:(((rd_T67 l0 x17_1).f1) != 1)=false:=bne_eq_false_iff_eq.mpr c11
         clear c11
         by_cases c12:x3_1.length<8796093022208
         ·rw [if_pos c12] at H
          have LMc12:=Aside0.mk c12
          clear c12
          obtain ⟨y106,hy106⟩:∃y_:List ByteArray,y_=(x3_1++[t105]):=⟨_,rfl⟩
          replace H:(impl_MelodyText.l0 k1 y106 l0 (l0.length:Int) (wrap64 (x17_1+1)))=some r:=by first|(rw [hy106];with_reducible exact H)|(have H2_:=(Option.bind_some _ _).symm.trans H;rw [hy106];with_reducible exact H2_)|(have H2_:=(Option.bind_some _ _).symm.trans H;with_reducible exact H2_)|with_reducible exact H|(rw [hy106];exact H)|exact H
          have Ny106:=Aside0.mk hy106
          clear hy106
          have H':=Aside0.mk H
          clear H
          have p103:0≤(x17_1:Int):=of_decide_eq_true ze
          have q103:x17_1<(l0.length:Int):=of_decide_eq_true ze
          obtain ⟨ad103,e103,hx103_0,hx103_1⟩:=at_T67 HR0.out x17_1 p103 q103
          cases e103
          replace hx103_0:=(HB.out.cell (World.block_lt_of_cell? w _ hx103_0)).trans hx103_0
          replace hx103_1:=(HB.out.cell (World.block_lt_of_cell? w _ hx103_1)).trans hx103_1
          replace p103:=eq_true p103
          replace q103:=eq_true q103
          go_wp2_with (first|((with_reducible refine gate_dst (N:=5) rfl ?_);refine box_event ?hg (N:=5) ?hd (cs:=#[.int .i64 0,.int .i64 0]) (t:=67) ?hr ?_;(case hd=>rfl);(case hg=>rfl);(case hr=>exact zo);intro gb104 hg w13 hbox hb;have n0_:=Aside0.mk (Kd.R_below zba hb);have n1_:=Aside0.mk (below_step za hb);have n2_:=Aside0.mk (hbox);have n3_:=Aside0.mk ((by rw [hg];exact (below_size za):w.heap.size≤gb104));have n4_:=Aside0.mk ((by rw [hg];exact (below_size za):w.heap.size≤gb104));clear HO_3;clear HB;have HO_3:=n0_;have HB:=n1_;have BK104:=n2_;have GW104:=n3_;have GE104:=n4_;clear n0_ n1_ n2_ n3_ n4_;clear hb hbox hg;have hcz14_0:w13.cell? ⟨gb104,0,none⟩=some (.int .i64 0):=(blk_cell BK104.out 0).trans rfl;have hcz14_1:w13.cell? ⟨gb104,1,none⟩=some (.int .i64 0):=(blk_cell BK104.out 1).trans rfl;have hfz14_0:=blk_frozen BK104.out 0;have hfz14_1:=blk_frozen BK104.out 1)|((with_reducible refine gate_callee (f:=125) rfl ?_);refine goesL_ (some 23) rfl rfl Tryz.func125 zu rfl #[.int .i64 ((rd_T67 l0 x17_1).f0)] rfl zc ?_;(with_reducible refine (impl_pitchText.calls ((rd_T67 l0 x17_1).f0) t105 _ A10.out).mono ?_);rintro e w' ⟨rfl,⟨nd,rfl⟩⟩;refine ⟨_,rfl,?_⟩)|((with_reducible refine gate_builtin (b:=.append) (xs:=#[.tmp 32,.tmp 34]) rfl ?_);at_builtin;refine Kd.R_append Kd.string (w0:=w) w.heap.size rfl (.tmp 32) (.tmp 34) 104 9 (.string ⟨#[]⟩) 16 rfl Tryz.underlying104 info9 rfl zbm zbd u3 x3_1 t105 [.string t105] (fun _=>True) (fun _=>False) rfl zo ?aP (fun _ hk=>hk.elim) ?aF ?aO ?aB ?aS ?aL ?_;(case aP=>exact rfl);(case aB=>exact zbe);(case aF=>exact zci);(case aO=>exact (by (with_reducible repeat (first|apply Kd.R_alloc|apply Kd.R_drewN|apply Kd.R_drew));exact Kd.R_mono (Kd.R_far (p:=⟨gb104,1,none⟩) (Kd.R_far (p:=⟨gb104,0,none⟩) (Kd.R_types HO_3.out BK104.out zbm) (fun _ hk=>hk.2) (.int .i64 ((rd_T67 l0 x17_1).f0))) (fun _ hk=>hk.2) (.int .i64 ((rd_T67 l0 x17_1).f1))) (fun _ hk=>trivial)));(case aS=>exact (below_size zbe));(case aL=>have:=LMc12.out;omega);intro v107 w15 ho hb hg hat;rw [←Ny106.out] at ho;replace BK104:=Aside0.mk (blk_grown (g:=gb104) (o:=.cells #[.int .i64 ((rd_T67 l0 x17_1).f0),.int .i64 ((rd_T67 l0 x17_1).f1)] 67 (0,0)) (by (with_reducible repeat (first|refine blk_drewN ?_ _|refine blk_drew ?_|refine blk_alloc ?_ _));refine blk_put (cs:=#[.int .i64 ((rd_T67 l0 x17_1).f0),.int .i64 0]) ?_ 1 _ rfl;(with_reducible repeat (first|refine blk_drewN ?_ _|refine blk_drew ?_|refine blk_alloc ?_ _));refine blk_put (cs:=#[.int .i64 0,.int .i64 0]) ?_ 0 _ rfl;(with_reducible repeat (first|refine blk_drewN ?_ _|refine blk_drew ?_|refine blk_alloc ?_ _));exact BK104.out) hg (Kd.R_ne HO_3.out BK104.out zbm));replace HB:=Aside0.mk (hb);have HO108:=Aside0.mk (ho);clear HO_3;clear ho hb hg hat))
          go_roundg k1
          case measure=>have:=HK1.out;omega
          case rel=>exact ⟨(y106),(wrap64 (x17_1+1)),zf,H',⟨zcq⟩,⟨zbo⟩,⟨zbe⟩⟩
         ·rw [if_neg c12] at H
          exact absurd H zbr
        ·rw [if_neg c11] at H
         have c11b0:(((rd_T67 l0 x17_1).f1) == 1)=false:=beq_eq_false_iff_ne.mpr c11
         have c11b1:(((rd_T67 l0 x17_1).f1) != 1)=true:=bne_iff_ne.mpr c11
         replace H:=Option.bind_eq_some_iff.mp H
         obtain ⟨t109,A160,H⟩:=H
         replace H:(if t105.size+t109.size≤9223372036854775807 then (if x3_1.length<8796093022208 then (impl_MelodyText.l0 k1 (x3_1++[t105++t109]) l0 (l0.length:Int) (wrap64 (x17_1+1))) else (none)) else (none))=some r:=H
         have A16:=Aside0.mk A160
         clear A160
         by_cases c17:t105.size+t109.size≤9223372036854775807
         ·rw [if_pos c17] at H
          have c17b0:=eq_true c17
          have c17b1:decide (t105.size+t109.size≤9223372036854775807)=true:=decide_eq_true c17
          try have c17b2:(9223372036854775807<t105.size+t109.size)=False:=eq_false (Nat.not_lt.2 c17)
          by_cases c18:x3_1.length<8796093022208
          ·rw [if_pos c18] at H
           have LMc18:=Aside0.mk c18
           clear c18
           obtain ⟨y110,hy110⟩:∃y_:List ByteArray,y_=(x3_1++[t105++t109]):=⟨_,rfl⟩
           replace H:(impl_MelodyText.l0 k1 y110 l0 (l0.length:Int) (wrap64 (x17_1+1)))=some r:=by first|(rw [hy110];with_reducible exact H)|(have H2_:=(Option.bind_some _ _).symm.trans H;rw [hy110];with_reducible exact H2_)|(have H2_:=(Option.bind_some _ _).symm.trans H;with_reducible exact H2_)|with_reducible exact H|(rw [hy110];exact H)|exact H
           have Ny110:=Aside0.mk hy110
           clear hy110
           have H':=Aside0.mk H
           clear H
           have p103:0≤(x17_1:Int):=of_decide_eq_true ze
           have q103:x17_1<(l0.length:Int):=of_decide_eq_true ze
           obtain ⟨ad103,e103,hx103_0,hx103_1⟩:=at_T67 HR0.out x17_1 p103 q103
           cases e103
           replace hx103_0:=(HB.out.cell (World.block_lt_of_cell? w _ hx103_0)).trans hx103_0
           replace hx103_1:=(HB.out.cell (World.block_lt_of_cell? w _ hx103_1)).trans hx103_1
           replace p103:=eq_true p103
           replace q103:=eq_true q103
           go_wp2_with (first|((with_reducible refine gate_dst (N:=5) rfl ?_);refine box_event ?hg (N:=5) ?hd (cs:=#[.int .i64 0,.int .i64 0]) (t:=67) ?hr ?_;(case hd=>rfl);(case hg=>rfl);(case hr=>exact zo);intro gb104 hg w19 hbox hb;have n0_:=Aside0.mk (Kd.R_below zba hb);have n1_:=Aside0.mk (below_step za hb);have n2_:=Aside0.mk (hbox);have n3_:=Aside0.mk ((by rw [hg];exact (below_size za):w.heap.size≤gb104));have n4_:=Aside0.mk ((by rw [hg];exact (below_size za):w.heap.size≤gb104));clear HO_3;clear HB;have HO_3:=n0_;have HB:=n1_;have BK104:=n2_;have GW104:=n3_;have GE104:=n4_;clear n0_ n1_ n2_ n3_ n4_;clear hb hbox hg;have hcz20_0:w19.cell? ⟨gb104,0,none⟩=some (.int .i64 0):=(blk_cell BK104.out 0).trans rfl;have hcz20_1:w19.cell? ⟨gb104,1,none⟩=some (.int .i64 0):=(blk_cell BK104.out 1).trans rfl;have hfz20_0:=blk_frozen BK104.out 0;have hfz20_1:=blk_frozen BK104.out 1)|((with_reducible refine gate_callee (f:=125) rfl ?_);refine goesL_ (some 23) rfl rfl Tryz.func125 zu rfl #[.int .i64 ((rd_T67 l0 x17_1).f0)] rfl zc ?_;(with_reducible refine (impl_pitchText.calls ((rd_T67 l0 x17_1).f0) t105 _ A10.out).mono ?_);rintro e w' ⟨rfl,⟨nd,rfl⟩⟩;refine ⟨_,rfl,?_⟩)|((with_reducible refine gate_callee (f:=93) rfl ?_);refine goesL_ (some 30) rfl rfl Tryz.func93 zu rfl #[.int .i64 ((rd_T67 l0 x17_1).f1)] rfl zc ?_;(with_reducible refine (impl_Decimal.calls ((rd_T67 l0 x17_1).f1) t109 _ ?side1 A16.out).mono ?_);(case side1=>exact Door1.at HD.out zbe);rintro e w21 ⟨rfl,hb⟩;refine ⟨_,rfl,?_⟩;replace HO_3:=Aside0.mk (Kd.R_below (by (with_reducible repeat (first|apply Kd.R_alloc|apply Kd.R_drewN|apply Kd.R_drew));exact (Kd.R_mono (Kd.R_far (p:=⟨gb104,1,none⟩) (Kd.R_far (p:=⟨gb104,0,none⟩) (Kd.R_types HO_3.out BK104.out zbm) (fun _ hk=>hk.2) (.int .i64 ((rd_T67 l0 x17_1).f0))) (fun _ hk=>hk.2) (.int .i64 ((rd_T67 l0 x17_1).f1))) (fun _ h_=>h_.1))) hb);replace BK104:=Aside0.mk (blk_below (g:=gb104) (o:=.cells #[.int .i64 ((rd_T67 l0 x17_1).f0),.int .i64 ((rd_T67 l0 x17_1).f1)] 67 (0,0)) (by (with_reducible repeat (first|refine blk_drewN ?_ _|refine blk_drew ?_|refine blk_alloc ?_ _));refine blk_put (cs:=#[.int .i64 ((rd_T67 l0 x17_1).f0),.int .i64 0]) ?_ 1 _ rfl;(with_reducible repeat (first|refine blk_drewN ?_ _|refine blk_drew ?_|refine blk_alloc ?_ _));refine blk_put (cs:=#[.int .i64 0,.int .i64 0]) ?_ 0 _ rfl;(with_reducible repeat (first|refine blk_drewN ?_ _|refine blk_drew ?_|refine blk_alloc ?_ _));exact BK104.out) hb);replace HB:=Aside0.mk (below_step zbe hb);(try clear hb);(try clear hb2);(try clear hk);(try clear hi))|((with_reducible refine gate_builtin (b:=.append) (xs:=#[.tmp 32,.tmp 34]) rfl ?_);at_builtin;refine Kd.R_append Kd.string (w0:=w) w.heap.size rfl (.tmp 32) (.tmp 34) 104 9 (.string ⟨#[]⟩) 16 rfl Tryz.underlying104 info9 rfl zbm zbd u3 x3_1 (t105++t109) [.string (t105++t109)] (fun _=>True) (fun _=>False) rfl rfl ?aP (fun _ hk=>hk.elim) ?aF ?aO ?aB ?aS ?aL ?_;(case aP=>exact rfl);(case aB=>exact zbe);(case aF=>exact zci);(case aO=>exact zba);(case aS=>exact (below_size zbe));(case aL=>have:=LMc18.out;omega);intro v111 w22 ho hb hg hat;rw [←Ny110.out] at ho;replace BK104:=Aside0.mk (blk_grown (g:=gb104) (o:=.cells #[.int .i64 ((rd_T67 l0 x17_1).f0),.int .i64 ((rd_T67 l0 x17_1).f1)] 67 (0,0)) (by (with_reducible repeat (first|refine blk_drewN ?_ _|refine blk_drew ?_|refine blk_alloc ?_ _));exact BK104.out) hg (Kd.R_ne HO_3.out BK104.out zbm));replace HB:=Aside0.mk (hb);have HO112:=Aside0.mk (ho);clear HO_3;clear ho hb hg hat))
           go_roundg k1
           case measure=>have:=HK1.out;omega
           case rel=>exact ⟨(y110),(wrap64 (x17_1+1)),zf,H',⟨zcq⟩,⟨zbw⟩,⟨zbe⟩⟩
          ·rw [if_neg c18] at H
           exact absurd H zbr
         ·rw [if_neg c17] at H
          exact absurd H zbr
       ·rw [if_neg c9] at H
        exact absurd H zbr
      ·rw [if_neg c8] at H
       exact absurd H zbr
     ·rw [if_neg c7] at H
      have c7b0:decide (x17_1<(l0.length:Int))=false:=decide_eq_false c7
      clear c7
      replace H:=Option.bind_eq_some_iff.mp H
      obtain ⟨t102,A230,H⟩:=H
      replace H:(some t102)=some r:=H
      have A23:=Aside0.mk A230
      clear A230
      obtain rfl:=Option.some.inj H
      obtain ⟨Ao24,co24,eo24⟩:=Kd.R_slice HO_3.out
      subst eo24
      go_wp2_with (first|((with_reducible refine gate_callee (f:=94) rfl ?_);refine goesL_ (some 38) rfl rfl Tryz.func94 zu rfl #[.slice Ao24 x3_1.length co24,.string (⟨#[32]⟩:ByteArray)] rfl zc ?_;(with_reducible refine (strings_Join.calls _ _ x3_1 (⟨#[32]⟩:ByteArray) t102 _ ?side1 ?side2 A23.out).mono ?_);(case side1=>repeat (first|exact (Kd.R_reads' HO_3.out).2.2|(with_reducible refine Kd.C_alloc ?_ _)|(with_reducible refine Kd.C_drewN ?_ _)|(with_reducible refine Kd.C_drew ?_)));(case side2=>exact (Kd.R_reads' HO_3.out).2.1);rintro e w25 ⟨rfl,hb⟩;refine ⟨_,rfl,?_⟩;replace HO_3:=Aside0.mk (Kd.R_below zba hb);replace HB:=Aside0.mk (below_step za hb);(try clear hb);(try clear hb2);(try clear hk);(try clear hi)))
      go_ret
      exact ⟨zg,za⟩
 ·replace c3:=Bool.eq_false_iff.mpr c3
  subst c3
  have H1:(some (⟨#[]⟩:ByteArray))=some r:=by rw [if_neg (show ¬ (false=true) by decide)] at H;exact H
  clear H
  have H:=H1
  clear H1
  obtain rfl:=Option.some.inj H
  go_enter Tryz.func134,Tryz.ntmps134
  go_wp2_with (first|((with_reducible refine gate_callee (f:=70) rfl ?_);refine goesL_ (some 9) rfl rfl Tryz.func70 zu rfl #[.slice A0 l0.length c0] rfl zc ?_;(with_reducible refine (impl_ValidMelody.calls k _ _ l0 false _ ?side1 ?side2 A2.out).mono ?_);(case side1=>exact zx);(case side2=>exact HC0.out);rintro e w26 ⟨rfl,hb⟩;refine ⟨_,rfl,?_⟩;replace HB:=Aside0.mk (below_step za hb);(try clear hb);(try clear hb2);(try clear hk);(try clear hi)))
  go_ret
  exact ⟨zg,za⟩

def impl_ReadMelody.l0:Nat→ByteArray→List (S67)→List ByteArray→Int→Int→Option ((List (S67)) × Bool)
 | 0,_,_,_,_,_=>none
 | k+1,x0,x4,x14,x15,x16=>if x16<x15 then (if 0≤x16 then (if x16<(x14.length:Int) then ((strings_TrimRight.f (rdOf ByteArray.empty x14 x16) (⟨#[48,49,50,51,52,53,54,55,56,57]⟩:ByteArray)).bind fun t106=>((impl_pitchNamed.f t106).bind fun bt107=>(if t106.toList=(rdOf ByteArray.empty x14 x16).toList then (if bt107.2=true then (if x4.length<8796093022208 then (impl_ReadMelody.l0 k x0 (x4++[(⟨bt107.1,1⟩:S67)]) x14 x15 (wrap64 (x16+1))) else (none)) else (some (([]:List (S67)),false))) else (if 0≤(t106.size:Int) then (if (t106.size:Int)≤((rdOf ByteArray.empty x14 x16).size:Int) then ((impl_ReadDecimal.f ((rdOf ByteArray.empty x14 x16).extract ((t106.size:Int):Int).toNat (rdOf ByteArray.empty x14 x16).size)).bind fun bt112=>(if bt107.2=true then (if x4.length<8796093022208 then (impl_ReadMelody.l0 k x0 (x4++[(⟨bt107.1,bt112.1⟩:S67)]) x14 x15 (wrap64 (x16+1))) else (none)) else (some (([]:List (S67)),false)))) else (none)) else (none))))) else (none)) else (none)) else ((impl_MelodyText.f k x4).bind fun t104=>(if t104.toList=x0.toList then (some (x4,true)) else (some (([]:List (S67)),false))))
def impl_ReadMelody.f (k:Nat) (a0:ByteArray):Option ((List (S67)) × Bool):=if a0.toList=([45]:List UInt8) then (some (([]:List (S67)),true)) else ((strings_SplitN.f a0 (⟨#[32]⟩:ByteArray) 49).bind fun t101=>(impl_ReadMelody.l0 k a0 ([]:List (S67)) t101 (t101.length:Int) 0))
set_option maxHeartbeats 8000000 in
set_option maxRecDepth 100000 in
theorem impl_ReadMelody.calls (k:Nat) (a0:ByteArray) (r1:List (S67)) (r2:Bool) (w:World) (hD:Door2 w) (h:impl_ReadMelody.f k a0=some (r1,r2)) :
 Calls Tryz.prog 103 #[.string a0] w fun e w'=>∃v0_:Value,e = .returned (.tuple #[v0_,.bool r2])∧Kd.R k67 67 w' w.heap.size (fun _=>True) v0_ r1∧Below w.heap.size w w':=by
 have hu67:=Tryz.underlying67
 have HD:=Aside0.mk hD
 clear hD
 have HB:=Aside0.mk (Below.refl w.heap.size w)
 have H:(if a0.toList=([45]:List UInt8) then (some (([]:List (S67)),true)) else ((strings_SplitN.f a0 (⟨#[32]⟩:ByteArray) 49).bind fun t101=>(impl_ReadMelody.l0 k a0 ([]:List (S67)) t101 (t101.length:Int) 0)))=some (r1,r2):=h
 clear h
 by_cases c2:a0.toList=([45]:List UInt8)
 ·rw [if_pos c2] at H
  have c2b0:(a0.toList == ([45]:List UInt8))=true:=beq_iff_eq.mpr c2
  have c2b1:(a0.toList != ([45]:List UInt8))=false:=bne_eq_false_iff_eq.mpr c2
  clear c2
  simp only [Option.some.injEq,Prod.mk.injEq] at H
  obtain ⟨rfl,rfl⟩:=H
  go_enter Tryz.func103,Tryz.ntmps103
  go_wp2
  go_ret2
  exact ⟨_,zg,zl,za⟩
 ·rw [if_neg c2] at H
  have c2b0:(a0.toList == ([45]:List UInt8))=false:=beq_eq_false_iff_ne.mpr c2
  have c2b1:(a0.toList != ([45]:List UInt8))=true:=bne_iff_ne.mpr c2
  replace H:=Option.bind_eq_some_iff.mp H
  obtain ⟨t101,A30,H⟩:=H
  replace H:(impl_ReadMelody.l0 k a0 ([]:List (S67)) t101 (t101.length:Int) 0)=some (r1,r2):=H
  have A3:=Aside0.mk A30
  clear A30
  have H':=Aside0.mk H
  clear H
  go_enter Tryz.func103,Tryz.ntmps103
  go_wp2_with (first|((with_reducible refine gate_callee (f:=84) rfl ?_);refine goesL_ (some 14) rfl rfl Tryz.func84 zu rfl #[.string a0,.string (⟨#[32]⟩:ByteArray),.int .i64 49] rfl zc ?_;(with_reducible refine (strings_SplitN.calls a0 (⟨#[32]⟩:ByteArray) 49 t101 _ ?side1 A3.out).mono ?_);(case side1=>exact Door2.at HD.out za);rintro e w4 ⟨v102,rfl,ho0,hb⟩;refine ⟨_,rfl,?_⟩;have HO103:=Aside0.mk (Kd.R_lower ho0 (below_size za));replace HB:=Aside0.mk (below_step za hb);(try clear hb);(try clear hb2);(try clear hk);(try clear hi);(try clear ho0);obtain ⟨Ao5,co5,eo5⟩:=Kd.R_slice HO103.out;subst eo5))
  go_loopg [4,16] k (fun kq v4 v16 w'=>∃(x4_1:List (S67)) (x16_1:Int),v16 = .int .i64 x16_1∧Aside0 (impl_ReadMelody.l0 kq a0 x4_1 t101 (t101.length:Int) x16_1=some (r1,r2))∧Aside0 (kq≤k)∧Aside0 (Kd.R k67 67 w' w.heap.size (fun _=>True) v4 x4_1)∧Aside0 (Kd.R Kd.string 9 w' w.heap.size (fun _=>True) (.slice Ao5 t101.length co5) t101)∧Aside0 (Below w.heap.size w w'))
  case atStart=>exact ⟨(([]:List (S67))),(0),zf,H',⟨Nat.le_refl _⟩,⟨zl⟩,⟨zbn⟩,⟨za⟩⟩
  case round=>
   clear H'
   try clear c1
   try clear c2
   try clear c2b0
   try clear c2b1
   try clear p2
   obtain ⟨x4_1,x16_1,rfl,HA,HK1,HO_4,HO_14,HB⟩:=hrel
   cases gk with
   | zero=>exact absurd HA.out (by simp [impl_ReadMelody.l0])
   | succ k1=>
    have H:=HA.out
    clear HA
    simp only [impl_ReadMelody.l0] at H
    by_cases c6:x16_1<(t101.length:Int)
    ·rw [if_pos c6] at H
     have c6b0:decide (x16_1<(t101.length:Int))=true:=decide_eq_true c6
     clear c6
     by_cases c7:0≤x16_1
     ·rw [if_pos c7] at H
      have c7b0:decide (0≤x16_1)=true:=decide_eq_true c7
      clear c7
      by_cases c8:x16_1<(t101.length:Int)
      ·rw [if_pos c8] at H
       have c8b0:decide (x16_1<(t101.length:Int))=true:=decide_eq_true c8
       clear c8
       replace H:=Option.bind_eq_some_iff.mp H
       obtain ⟨t106,A90,H⟩:=H
       replace H:((impl_pitchNamed.f t106).bind fun bt107=>(if t106.toList=(rdOf ByteArray.empty t101 x16_1).toList then (if bt107.2=true then (if x4_1.length<8796093022208 then (impl_ReadMelody.l0 k1 a0 (x4_1++[(⟨bt107.1,1⟩:S67)]) t101 (t101.length:Int) (wrap64 (x16_1+1))) else (none)) else (some (([]:List (S67)),false))) else (if 0≤(t106.size:Int) then (if (t106.size:Int)≤((rdOf ByteArray.empty t101 x16_1).size:Int) then ((impl_ReadDecimal.f ((rdOf ByteArray.empty t101 x16_1).extract ((t106.size:Int):Int).toNat (rdOf ByteArray.empty t101 x16_1).size)).bind fun bt112=>(if bt107.2=true then (if x4_1.length<8796093022208 then (impl_ReadMelody.l0 k1 a0 (x4_1++[(⟨bt107.1,bt112.1⟩:S67)]) t101 (t101.length:Int) (wrap64 (x16_1+1))) else (none)) else (some (([]:List (S67)),false)))) else (none)) else (none))))=some (r1,r2):=H
       have A9:=Aside0.mk A90
       clear A90
       replace H:=Option.bind_eq_some_iff.mp H
       obtain ⟨⟨t107,t108⟩,A100,H⟩:=H
       replace H:(if t106.toList=(rdOf ByteArray.empty t101 x16_1).toList then (if t108=true then (if x4_1.length<8796093022208 then (impl_ReadMelody.l0 k1 a0 (x4_1++[(⟨t107,1⟩:S67)]) t101 (t101.length:Int) (wrap64 (x16_1+1))) else (none)) else (some (([]:List (S67)),false))) else (if 0≤(t106.size:Int) then (if (t106.size:Int)≤((rdOf ByteArray.empty t101 x16_1).size:Int) then ((impl_ReadDecimal.f ((rdOf ByteArray.empty t101 x16_1).extract ((t106.size:Int):Int).toNat (rdOf ByteArray.empty t101 x16_1).size)).bind fun bt112=>(if t108=true then (if x4_1.length<8796093022208 then (impl_ReadMelody.l0 k1 a0 (x4_1++[(⟨t107,bt112.1⟩:S67)]) t101 (t101.length:Int) (wrap64 (x16_1+1))) else (none)) else (some (([]:List (S67)),false)))) else (none)) else (none)))=some (r1,r2):=H
       have A10:=Aside0.mk A100
       clear A100
       by_cases c11:t106.toList=(rdOf ByteArray.empty t101 x16_1).toList
       ·rw [if_pos c11] at H
        have c11b0:(t106.toList == (rdOf ByteArray.empty t101 x16_1).toList)=true:=beq_iff_eq.mpr c11
        have c11b1:(t106.toList != (rdOf ByteArray.empty t101 x16_1).toList)=false:=bne_eq_false_iff_eq.mpr c11
        clear c11
        by_cases c12:t108=true
        ·subst c12
         have H1:(if x4_1.length<8796093022208 then (impl_ReadMelody.l0 k1 a0 (x4_1++[(⟨t107,1⟩:S67)]) t101 (t101.length:Int) (wrap64 (x16_1+1))) else (none))=some (r1,r2):=by rw [if_pos rfl] at H;exact H
         clear H
         have H:=H1
         clear H1
         by_cases c13:x4_1.length<8796093022208
         ·rw [if_pos c13] at H
          have LMc13:=Aside0.mk c13
          clear c13
          obtain ⟨y109,hy109⟩:∃y_:List (S67),y_=(x4_1++[(⟨t107,1⟩:S67)]):=⟨_,rfl⟩
          replace H:(impl_ReadMelody.l0 k1 a0 y109 t101 (t101.length:Int) (wrap64 (x16_1+1)))=some (r1,r2):=by first|(rw [hy109];with_reducible exact H)|(have H2_:=(Option.bind_some _ _).symm.trans H;rw [hy109];with_reducible exact H2_)|(have H2_:=(Option.bind_some _ _).symm.trans H;with_reducible exact H2_)|with_reducible exact H|(rw [hy109];exact H)|exact H
          have Ny109:=Aside0.mk hy109
          clear hy109
          have H':=Aside0.mk H
          clear H
          have p105:0≤(x16_1:Int):=of_decide_eq_true ze
          have q105:x16_1<(t101.length:Int):=of_decide_eq_true ze
          obtain ⟨ad105,e105,hx105_0⟩:=Kd.at_string (Kd.R_reads' HO_14.out).2.2 x16_1 p105 q105
          cases e105
          replace p105:=eq_true p105
          replace q105:=eq_true q105
          go_wp2_with (first|((with_reducible refine gate_callee (f:=132) rfl ?_);refine goesL_ (some 21) rfl rfl Tryz.func132 zu rfl #[.string (rdOf ByteArray.empty t101 x16_1),.string (⟨#[48,49,50,51,52,53,54,55,56,57]⟩:ByteArray)] rfl zc ?_;(with_reducible refine (strings_TrimRight.calls (rdOf ByteArray.empty t101 x16_1) (⟨#[48,49,50,51,52,53,54,55,56,57]⟩:ByteArray) t106 _ A9.out).mono ?_);rintro e w14 ⟨rfl,hb⟩;refine ⟨_,rfl,?_⟩;replace HO_4:=Aside0.mk (Kd.R_below zr hb);replace HO_14:=Aside0.mk (Kd.R_below zaq hb);replace HB:=Aside0.mk (below_step za hb);(try clear hb);(try clear hb2);(try clear hk);(try clear hi))|((with_reducible refine gate_callee (f:=133) rfl ?_);refine goesL_ (some 24) rfl rfl Tryz.func133 zu rfl #[.string t106] rfl zc ?_;(with_reducible refine (impl_pitchNamed.calls t106 t107 true _ A10.out).mono ?_);rintro e w15 ⟨rfl,hb⟩;refine ⟨_,rfl,?_⟩;replace HO_4:=Aside0.mk (Kd.R_below zr hb);replace HO_14:=Aside0.mk (Kd.R_below zaq hb);replace HB:=Aside0.mk (below_step za hb);(try clear hb);(try clear hb2);(try clear hk);(try clear hi))|((with_reducible refine gate_builtin (b:=.append) (xs:=#[.tmp 40,.tmp 44]) rfl ?_);at_builtin;refine Kd.R_append k67 (w0:=w) w.heap.size rfl (.tmp 40) (.tmp 44) 30 67 (.agg #[(.int .i64 0),(.int .i64 0)]) 16 rfl Tryz.underlying30 info67 rfl zbm zbd u4 x4_1 (⟨t107,1⟩:S67) [.int .i64 t107,.int .i64 1] (fun _=>True) (fun _=>False) rfl rfl ?aP (fun _ hk=>hk.elim) ?aF ?aO ?aB ?aS ?aL ?_;(case aP=>exact k67_mkM _ _ _ (⟨t107,1⟩:S67));(case aB=>exact za);(case aF=>exact zci);(case aO=>exact zr);(case aS=>exact (below_size za));(case aL=>have:=LMc13.out;omega);intro v110 w16 ho hb hg hat;rw [←Ny109.out] at ho;replace HO_14:=Aside0.mk (Kd.R_over' zaq (Kd.R_typed zr) zbm hg);replace HB:=Aside0.mk (hb);have HO111:=Aside0.mk (ho);clear HO_4;clear ho hb hg hat))
          go_roundg k1
          case measure=>have:=HK1.out;omega
          case rel=>exact ⟨(y109),(wrap64 (x16_1+1)),zf,H',⟨zcq⟩,⟨by (with_reducible repeat (first|apply Kd.R_alloc|apply Kd.R_drewN|apply Kd.R_drew));exact HO111.out⟩,⟨zaq⟩,⟨za⟩⟩
         ·rw [if_neg c13] at H
          exact absurd H zbr
        ·replace c12:=Bool.eq_false_iff.mpr c12
         subst c12
         have H1:(some (([]:List (S67)),false))=some (r1,r2):=by rw [if_neg (show ¬ (false=true) by decide)] at H;exact H
         clear H
         have H:=H1
         clear H1
         simp only [Option.some.injEq,Prod.mk.injEq] at H
         obtain ⟨rfl,rfl⟩:=H
         have p105:0≤(x16_1:Int):=of_decide_eq_true ze
         have q105:x16_1<(t101.length:Int):=of_decide_eq_true ze
         obtain ⟨ad105,e105,hx105_0⟩:=Kd.at_string (Kd.R_reads' HO_14.out).2.2 x16_1 p105 q105
         cases e105
         replace p105:=eq_true p105
         replace q105:=eq_true q105
         go_wp2_with (first|((with_reducible refine gate_callee (f:=132) rfl ?_);refine goesL_ (some 21) rfl rfl Tryz.func132 zu rfl #[.string (rdOf ByteArray.empty t101 x16_1),.string (⟨#[48,49,50,51,52,53,54,55,56,57]⟩:ByteArray)] rfl zc ?_;(with_reducible refine (strings_TrimRight.calls (rdOf ByteArray.empty t101 x16_1) (⟨#[48,49,50,51,52,53,54,55,56,57]⟩:ByteArray) t106 _ A9.out).mono ?_);rintro e w17 ⟨rfl,hb⟩;refine ⟨_,rfl,?_⟩;replace HO_4:=Aside0.mk (Kd.R_below zr hb);replace HO_14:=Aside0.mk (Kd.R_below zaq hb);replace HB:=Aside0.mk (below_step za hb);(try clear hb);(try clear hb2);(try clear hk);(try clear hi))|((with_reducible refine gate_callee (f:=133) rfl ?_);refine goesL_ (some 24) rfl rfl Tryz.func133 zu rfl #[.string t106] rfl zc ?_;(with_reducible refine (impl_pitchNamed.calls t106 t107 false _ A10.out).mono ?_);rintro e w18 ⟨rfl,hb⟩;refine ⟨_,rfl,?_⟩;replace HO_4:=Aside0.mk (Kd.R_below zr hb);replace HO_14:=Aside0.mk (Kd.R_below zaq hb);replace HB:=Aside0.mk (below_step za hb);(try clear hb);(try clear hb2);(try clear hk);(try clear hi)))
         go_ret2
         exact ⟨_,zg,zl,za⟩
       ·rw [if_neg c11] at H
        have c11b0:(t106.toList == (rdOf ByteArray.empty t101 x16_1).toList)=false:=beq_eq_false_iff_ne.mpr c11
        have c11b1:(t106.toList != (rdOf ByteArray.empty t101 x16_1).toList)=true:=bne_iff_ne.mpr c11
        by_cases c19:0≤(t106.size:Int)
        ·rw [if_pos c19] at H
         have c19b0:=eq_true c19
         have c19b1:decide (0≤(t106.size:Int))=true:=decide_eq_true c19
         clear c19
         by_cases c20:(t106.size:Int)≤((rdOf ByteArray.empty t101 x16_1).size:Int)
         ·rw [if_pos c20] at H
          have c20b0:=eq_true c20
          have c20b1:decide ((t106.size:Int)≤((rdOf ByteArray.empty t101 x16_1).size:Int))=true:=decide_eq_true c20
          clear c20
          replace H:=Option.bind_eq_some_iff.mp H
          obtain ⟨⟨t112,t113⟩,A210,H⟩:=H
          replace H:(if t108=true then (if x4_1.length<8796093022208 then (impl_ReadMelody.l0 k1 a0 (x4_1++[(⟨t107,t112⟩:S67)]) t101 (t101.length:Int) (wrap64 (x16_1+1))) else (none)) else (some (([]:List (S67)),false)))=some (r1,r2):=H
          have A21:=Aside0.mk A210
          clear A210
          by_cases c22:t108=true
          ·subst c22
           have H1:(if x4_1.length<8796093022208 then (impl_ReadMelody.l0 k1 a0 (x4_1++[(⟨t107,t112⟩:S67)]) t101 (t101.length:Int) (wrap64 (x16_1+1))) else (none))=some (r1,r2):=by rw [if_pos rfl] at H;exact H
           clear H
           have H:=H1
           clear H1
           by_cases c23:x4_1.length<8796093022208
           ·rw [if_pos c23] at H
            have LMc23:=Aside0.mk c23
            clear c23
            obtain ⟨y114,hy114⟩:∃y_:List (S67),y_=(x4_1++[(⟨t107,t112⟩:S67)]):=⟨_,rfl⟩
            replace H:(impl_ReadMelody.l0 k1 a0 y114 t101 (t101.length:Int) (wrap64 (x16_1+1)))=some (r1,r2):=by first|(rw [hy114];with_reducible exact H)|(have H2_:=(Option.bind_some _ _).symm.trans H;rw [hy114];with_reducible exact H2_)|(have H2_:=(Option.bind_some _ _).symm.trans H;with_reducible exact H2_)|with_reducible exact H|(rw [hy114];exact H)|exact H
            have Ny114:=Aside0.mk hy114
            clear hy114
            have H':=Aside0.mk H
            clear H
            have p105:0≤(x16_1:Int):=of_decide_eq_true ze
            have q105:x16_1<(t101.length:Int):=of_decide_eq_true ze
            obtain ⟨ad105,e105,hx105_0⟩:=Kd.at_string (Kd.R_reads' HO_14.out).2.2 x16_1 p105 q105
            cases e105
            replace p105:=eq_true p105
            replace q105:=eq_true q105
            go_wp2_with (first|((with_reducible refine gate_callee (f:=132) rfl ?_);refine goesL_ (some 21) rfl rfl Tryz.func132 zu rfl #[.string (rdOf ByteArray.empty t101 x16_1),.string (⟨#[48,49,50,51,52,53,54,55,56,57]⟩:ByteArray)] rfl zc ?_;(with_reducible refine (strings_TrimRight.calls (rdOf ByteArray.empty t101 x16_1) (⟨#[48,49,50,51,52,53,54,55,56,57]⟩:ByteArray) t106 _ A9.out).mono ?_);rintro e w24 ⟨rfl,hb⟩;refine ⟨_,rfl,?_⟩;replace HO_4:=Aside0.mk (Kd.R_below zr hb);replace HO_14:=Aside0.mk (Kd.R_below zaq hb);replace HB:=Aside0.mk (below_step za hb);(try clear hb);(try clear hb2);(try clear hk);(try clear hi))|((with_reducible refine gate_callee (f:=133) rfl ?_);refine goesL_ (some 24) rfl rfl Tryz.func133 zu rfl #[.string t106] rfl zc ?_;(with_reducible refine (impl_pitchNamed.calls t106 t107 true _ A10.out).mono ?_);rintro e w25 ⟨rfl,hb⟩;refine ⟨_,rfl,?_⟩;replace HO_4:=Aside0.mk (Kd.R_below zr hb);replace HO_14:=Aside0.mk (Kd.R_below zaq hb);replace HB:=Aside0.mk (below_step za hb);(try clear hb);(try clear hb2);(try clear hk);(try clear hi))|((with_reducible refine gate_callee (f:=87) rfl ?_);refine goesL_ (some 35) rfl rfl Tryz.func87 zu rfl #[.string ((rdOf ByteArray.empty t101 x16_1).extract ((t106.size:Int):Int).toNat (rdOf ByteArray.empty t101 x16_1).size)] rfl zc ?_;(with_reducible refine (impl_ReadDecimal.calls ((rdOf ByteArray.empty t101 x16_1).extract ((t106.size:Int):Int).toNat (rdOf ByteArray.empty t101 x16_1).size) t112 t113 _ ?side1 A21.out).mono ?_);(case side1=>exact Door2.at HD.out za);rintro e w26 ⟨rfl,hb⟩;refine ⟨_,rfl,?_⟩;replace HO_4:=Aside0.mk (Kd.R_below zr hb);replace HO_14:=Aside0.mk (Kd.R_below zaq hb);replace HB:=Aside0.mk (below_step za hb);(try clear hb);(try clear hb2);(try clear hk);(try clear hi))|((with_reducible refine gate_builtin (b:=.append) (xs:=#[.tmp 40,.tmp 44]) rfl ?_);at_builtin;refine Kd.R_append k67 (w0:=w) w.heap.size rfl (.tmp 40) (.tmp 44) 30 67 (.agg #[(.int .i64 0),(.int .i64 0)]) 16 rfl Tryz.underlying30 info67 rfl zbm zbd u4 x4_1 (⟨t107,t112⟩:S67) [.int .i64 t107,.int .i64 t112] (fun _=>True) (fun _=>False) rfl rfl ?aP (fun _ hk=>hk.elim) ?aF ?aO ?aB ?aS ?aL ?_;(case aP=>exact k67_mkM _ _ _ (⟨t107,t112⟩:S67));(case aB=>exact za);(case aF=>exact zci);(case aO=>exact zr);(case aS=>exact (below_size za));(case aL=>have:=LMc23.out;omega);intro v115 w27 ho hb hg hat;rw [←Ny114.out] at ho;replace HO_14:=Aside0.mk (Kd.R_over' zaq (Kd.R_typed zr) zbm hg);replace HB:=Aside0.mk (hb);have HO116:=Aside0.mk (ho);clear HO_4;clear ho hb hg hat))
            go_roundg k1
            case measure=>have:=HK1.out;omega
            case rel=>exact ⟨(y114),(wrap64 (x16_1+1)),zf,H',⟨zcq⟩,⟨by (with_reducible repeat (first|apply Kd.R_alloc|apply Kd.R_drewN|apply Kd.R_drew));exact HO116.out⟩,⟨zaq⟩,⟨za⟩⟩
           ·rw [if_neg c23] at H
            exact absurd H zbr
          ·replace c22:=Bool.eq_false_iff.mpr c22
           subst c22
           have H1:(some (([]:List (S67)),false))=some (r1,r2):=by rw [if_neg (show ¬ (false=true) by decide)] at H;exact H
           clear H
           have H:=H1
           clear H1
           simp only [Option.some.injEq,Prod.mk.injEq] at H
           obtain ⟨rfl,rfl⟩:=H
           have p105:0≤(x16_1:Int):=of_decide_eq_true ze
           have q105:x16_1<(t101.length:Int):=of_decide_eq_true ze
           obtain ⟨ad105,e105,hx105_0⟩:=Kd.at_string (Kd.R_reads' HO_14.out).2.2 x16_1 p105 q105
           cases e105
           replace p105:=eq_true p105
           replace q105:=eq_true q105
           go_wp2_with (first|((with_reducible refine gate_callee (f:=132) rfl ?_);refine goesL_ (some 21) rfl rfl Tryz.func132 zu rfl #[.string (rdOf ByteArray.empty t101 x16_1),.string (⟨#[48,49,50,51,52,53,54,55,56,57]⟩:ByteArray)] rfl zc ?_;(with_reducible refine (strings_TrimRight.calls (rdOf ByteArray.empty t101 x16_1) (⟨#[48,49,50,51,52,53,54,55,56,57]⟩:ByteArray) t106 _ A9.out).mono ?_);rintro e w28 ⟨rfl,hb⟩;refine ⟨_,rfl,?_⟩;replace HO_4:=Aside0.mk (Kd.R_below zr hb);replace HO_14:=Aside0.mk (Kd.R_below zaq hb);replace HB:=Aside0.mk (below_step za hb);(try clear hb);(try clear hb2);(try clear hk);(try clear hi))|((with_reducible refine gate_callee (f:=133) rfl ?_);refine goesL_ (some 24) rfl rfl Tryz.func133 zu rfl #[.string t106] rfl zc ?_;(with_reducible refine (impl_pitchNamed.calls t106 t107 false _ A10.out).mono ?_);rintro e w29 ⟨rfl,hb⟩;refine ⟨_,rfl,?_⟩;replace HO_4:=Aside0.mk (Kd.R_below zr hb);replace HO_14:=Aside0.mk (Kd.R_below zaq hb);replace HB:=Aside0.mk (below_step za hb);(try clear hb);(try clear hb2);(try clear hk);(try clear hi))|((with_reducible refine gate_callee (f:=87) rfl ?_);refine goesL_ (some 35) rfl rfl Tryz.func87 zu rfl #[.string ((rdOf ByteArray.empty t101 x16_1).extract ((t106.size:Int):Int).toNat (rdOf ByteArray.empty t101 x16_1).size)] rfl zc ?_;(with_reducible refine (impl_ReadDecimal.calls ((rdOf ByteArray.empty t101 x16_1).extract ((t106.size:Int):Int).toNat (rdOf ByteArray.empty t101 x16_1).size) t112 t113 _ ?side1 A21.out).mono ?_);(case side1=>exact Door2.at HD.out za);rintro e w30 ⟨rfl,hb⟩;refine ⟨_,rfl,?_⟩;replace HO_4:=Aside0.mk (Kd.R_below zr hb);replace HO_14:=Aside0.mk (Kd.R_below zaq hb);replace HB:=Aside0.mk (below_step za hb);(try clear hb);(try clear hb2);(try clear hk);(try clear hi)))
           go_ret2
           exact ⟨_,zg,zl,za⟩
         ·rw [if_neg c20] at H
          exact absurd H zbr
        ·rw [if_neg c19] at H
         exact absurd H zbr
      ·rw [if_neg c8] at H
       exact absurd H zbr
     ·rw [if_neg c7] at H
      exact absurd H zbr
    ·rw [if_neg c6] at H
     have c6b0:decide (x16_1<(t101.length:Int))=false:=decide_eq_false c6
     clear c6
     replace H:=Option.bind_eq_some_iff.mp H
     obtain ⟨t104,A310,H⟩:=H
     replace H:(if t104.toList=a0.toList then (some (x4_1,true)) else (some (([]:List (S67)),false)))=some (r1,r2):=H
     have A31:=Aside0.mk A310
     clear A310
     by_cases c32:t104.toList=a0.toList
     ·rw [if_pos c32] at H
      have c32b0:(t104.toList == a0.toList)=true:=beq_iff_eq.mpr c32
      have c32b1:(t104.toList != a0.toList)=false:=bne_eq_false_iff_eq.mpr c32
      clear c32
      simp only [Option.some.injEq,Prod.mk.injEq] at H
      obtain ⟨rfl,rfl⟩:=H
      obtain ⟨Ao33,co33,eo33⟩:=Kd.R_slice HO_4.out
      subst eo33
      go_wp2_with (first|((with_reducible refine gate_callee (f:=134) rfl ?_);refine goesL_ (some 48) rfl rfl Tryz.func134 zu rfl #[.slice Ao33 x4_1.length co33] rfl zc ?_;(with_reducible refine (impl_MelodyText.calls k1 _ _ x4_1 t104 _ ?side3 ?side1 ?side2 A31.out).mono ?_);(case side1=>repeat (first|exact (Kd.R_reads' HO_4.out).2.2|(with_reducible refine Kd.C_alloc ?_ _)|(with_reducible refine Kd.C_drewN ?_ _)|(with_reducible refine Kd.C_drew ?_)));(case side2=>exact (Kd.R_reads' HO_4.out).2.1);(case side3=>exact Door2.one (Door2.at HD.out za));rintro e w34 ⟨rfl,hb⟩;refine ⟨_,rfl,?_⟩;replace HO_4:=Aside0.mk (Kd.R_below zr hb);replace HO_14:=Aside0.mk (Kd.R_below zaq hb);replace HB:=Aside0.mk (below_step za hb);(try clear hb);(try clear hb2);(try clear hk);(try clear hi)))
      go_ret2
      exact ⟨_,zg,zr,za⟩
     ·rw [if_neg c32] at H
      have c32b0:(t104.toList == a0.toList)=false:=beq_eq_false_iff_ne.mpr c32
      have c32b1:(t104.toList != a0.toList)=true:=bne_iff_ne.mpr c32
      simp only [Option.some.injEq,Prod.mk.injEq] at H
      obtain ⟨rfl,rfl⟩:=H
      obtain ⟨Ao35,co35,eo35⟩:=Kd.R_slice HO_4.out
      subst eo35
      go_wp2_with (first|((with_reducible refine gate_callee (f:=134) rfl ?_);refine goesL_ (some 48) rfl rfl Tryz.func134 zu rfl #[.slice Ao35 x4_1.length co35] rfl zc ?_;(with_reducible refine (impl_MelodyText.calls k1 _ _ x4_1 t104 _ ?side3 ?side1 ?side2 A31.out).mono ?_);(case side1=>repeat (first|exact (Kd.R_reads' HO_4.out).2.2|(with_reducible refine Kd.C_alloc ?_ _)|(with_reducible refine Kd.C_drewN ?_ _)|(with_reducible refine Kd.C_drew ?_)));(case side2=>exact (Kd.R_reads' HO_4.out).2.1);(case side3=>exact Door2.one (Door2.at HD.out za));rintro e w36 ⟨rfl,hb⟩;refine ⟨_,rfl,?_⟩;replace HO_4:=Aside0.mk (Kd.R_below zr hb);replace HO_14:=Aside0.mk (Kd.R_below zaq hb);replace HB:=Aside0.mk (below_step za hb);(try clear hb);(try clear hb2);(try clear hk);(try clear hi)))
      go_ret2
      exact ⟨_,zg,zl,za⟩

mutual
def impl_barWords.l0:Nat→List (S95)→List ByteArray→Int→Int→Bool→Bool→Int→Int→Option ((List (S95)) × Bool)
 | 0,_,_,_,_,_,_,_,_=>none
 | k+1,x4,x17,x18,x19,x102000,x102001,x102002,x102003=>if x19<x18 then (if 0≤x19 then (if x19<(x17.length:Int) then (if (rdOf ByteArray.empty x17 x19).toList=([124]:List UInt8) then (impl_barWords.j1 k x4 (rdOf ByteArray.empty x17 x19) x17 x18 x19 true x102000 x102001 x102002 x102003) else (impl_barWords.j1 k x4 (rdOf ByteArray.empty x17 x19) x17 x18 x19 ((rdOf ByteArray.empty x17 x19).toList == ([124,124]:List UInt8)) x102000 x102001 x102002 x102003)) else (none)) else (none)) else (some (x4,true))
def impl_barWords.j1:Nat→List (S95)→ByteArray→List ByteArray→Int→Int→Bool→Bool→Bool→Int→Int→Option ((List (S95)) × Bool)
 | 0,_,_,_,_,_,_,_,_,_,_=>none
 | k+1,x4,x7,x17,x18,x19,x28,x102000,x102001,x102002,x102003=>if x28=true then (if x4.length<5864062014805 then (impl_barWords.l0 k (x4++[(⟨true,false,(⟨0,0⟩:S67)⟩:S95)]) x17 x18 (wrap64 (x19+1)) x102000 x102001 x102002 x102003) else (none)) else ((strings_CutPrefix.f x7 (⟨#[126]⟩:ByteArray)).bind fun bt109=>((impl_ReadMelody.f k bt109.1).bind fun bt111=>(if bt111.2=true then (impl_barWords.j2 k x4 bt109.2 bt111.1 x17 x18 x19 ((bt111.1.length:Int) != 1) x102000 x102001 x102002 x102003) else (impl_barWords.j2 k x4 bt109.2 bt111.1 x17 x18 x19 true x102000 x102001 x102002 x102003))))
def impl_barWords.j2:Nat→List (S95)→Bool→List (S67)→List ByteArray→Int→Int→Bool→Bool→Bool→Int→Int→Option ((List (S95)) × Bool)
 | 0,_,_,_,_,_,_,_,_,_,_,_=>none
 | k+1,x4,x9,x10,x17,x18,x19,x49,x102000,x102001,x102002,x102003=>if x49=true then (some (([]:List (S95)),false)) else (if 0<(x10.length:Int) then (if x9=true then (if x102000=true then (some (([]:List (S95)),false)) else (if x102002=((rd_T67 x10 0).f0) then (if x4.length<5864062014805 then (impl_barWords.l0 k (x4++[(⟨false,x9,(⟨(rd_T67 x10 0).f0,(rd_T67 x10 0).f1⟩:S67)⟩:S95)]) x17 x18 (wrap64 (x19+1)) false x9 ((rd_T67 x10 0).f0) ((rd_T67 x10 0).f1)) else (none)) else (some (([]:List (S95)),false)))) else (if x4.length<5864062014805 then (impl_barWords.l0 k (x4++[(⟨false,x9,(⟨(rd_T67 x10 0).f0,(rd_T67 x10 0).f1⟩:S67)⟩:S95)]) x17 x18 (wrap64 (x19+1)) false x9 ((rd_T67 x10 0).f0) ((rd_T67 x10 0).f1)) else (none))) else (none))
end
def impl_barWords.f (k:Nat) (a0:ByteArray):Option ((List (S95)) × Bool):=if a0.toList=([45]:List UInt8) then (some (([]:List (S95)),true)) else ((strings_Split.f a0 (⟨#[32]⟩:ByteArray)).bind fun t102=>(impl_barWords.l0 k ([]:List (S95)) t102 (t102.length:Int) 0 true false 0 0))
set_option maxHeartbeats 8000000 in
set_option maxRecDepth 100000 in
theorem impl_barWords.calls (k:Nat) (a0:ByteArray) (r1:List (S95)) (r2:Bool) (w:World) (hD:Door2 w) (h:impl_barWords.f k a0=some (r1,r2)) :
 Calls Tryz.prog 63 #[.string a0] w fun e w'=>∃v0_:Value,e = .returned (.tuple #[v0_,.bool r2])∧Kd.R k95 95 w' w.heap.size (fun _=>True) v0_ r1∧Below w.heap.size w w':=by
 have hu95:=Tryz.underlying95
 have hu67:=Tryz.underlying67
 have HD:=Aside0.mk hD
 clear hD
 have HB:=Aside0.mk (Below.refl w.heap.size w)
 have H:(if a0.toList=([45]:List UInt8) then (some (([]:List (S95)),true)) else ((strings_Split.f a0 (⟨#[32]⟩:ByteArray)).bind fun t102=>(impl_barWords.l0 k ([]:List (S95)) t102 (t102.length:Int) 0 true false 0 0)))=some (r1,r2):=h
 clear h
 by_cases c2:a0.toList=([45]:List UInt8)
 ·rw [if_pos c2] at H
  have c2b0:(a0.toList == ([45]:List UInt8))=true:=beq_iff_eq.mpr c2
  have c2b1:(a0.toList != ([45]:List UInt8))=false:=bne_eq_false_iff_eq.mpr c2
  clear c2
  simp only [Option.some.injEq,Prod.mk.injEq] at H
  obtain ⟨rfl,rfl⟩:=H
  go_enter Tryz.func63,Tryz.ntmps63
  go_wp2
  go_ret2
  exact ⟨_,zg,zl,za⟩
 ·rw [if_neg c2] at H
  have c2b0:(a0.toList == ([45]:List UInt8))=false:=beq_eq_false_iff_ne.mpr c2
  have c2b1:(a0.toList != ([45]:List UInt8))=true:=bne_iff_ne.mpr c2
  replace H:=Option.bind_eq_some_iff.mp H
  obtain ⟨t102,A30,H⟩:=H
  replace H:(impl_barWords.l0 k ([]:List (S95)) t102 (t102.length:Int) 0 true false 0 0)=some (r1,r2):=H
  have A3:=Aside0.mk A30
  clear A30
  have H':=Aside0.mk H
  clear H
  go_enter Tryz.func63,Tryz.ntmps63
  go_wp2_with (first|((with_reducible refine gate_dst (N:=5) rfl ?_);refine box_event ?hg (N:=5) ?hd (cs:=#[.bool false,.bool false,.int .i64 0,.int .i64 0]) (t:=95) ?hr ?_;(case hd=>rfl);(case hg=>rfl);(case hr=>exact zo);intro gb101 hg w4 hbox hb;have n0_:=Aside0.mk (below_step za hb);have n1_:=Aside0.mk (hbox);have n2_:=Aside0.mk ((by rw [hg];exact (below_size za):w.heap.size≤gb101));have n3_:=Aside0.mk ((by rw [hg];exact (below_size za):w.heap.size≤gb101));clear HB;have HB:=n0_;have BK101:=n1_;have GW101:=n2_;have GE101:=n3_;clear n0_ n1_ n2_ n3_;clear hb hbox hg;have hcz5_0:w4.cell? ⟨gb101,0,none⟩=some (.bool false):=(blk_cell BK101.out 0).trans rfl;have hcz5_1:w4.cell? ⟨gb101,1,none⟩=some (.bool false):=(blk_cell BK101.out 1).trans rfl;have hcz5_2:w4.cell? ⟨gb101,2,none⟩=some (.int .i64 0):=(blk_cell BK101.out 2).trans rfl;have hcz5_3:w4.cell? ⟨gb101,3,none⟩=some (.int .i64 0):=(blk_cell BK101.out 3).trans rfl;have hfz5_0:=blk_frozen BK101.out 0;have hfz5_1:=blk_frozen BK101.out 1;have hfz5_2:=blk_frozen BK101.out 2;have hfz5_3:=blk_frozen BK101.out 3)|((with_reducible refine gate_callee (f:=101) rfl ?_);refine goesL_ (some 17) rfl rfl Tryz.func101 zu rfl #[.string a0,.string (⟨#[32]⟩:ByteArray)] rfl zc ?_;(with_reducible refine (strings_Split.calls a0 (⟨#[32]⟩:ByteArray) t102 _ ?side1 A3.out).mono ?_);(case side1=>exact Door2.at HD.out zb);rintro e w6 ⟨v103,rfl,ho0,hb⟩;refine ⟨_,rfl,?_⟩;have HO104:=Aside0.mk (Kd.R_lower ho0 (below_size zb));replace BK101:=Aside0.mk (blk_below (g:=gb101) (o:=.cells #[.bool true,.bool false,.int .i64 0,.int .i64 0] 95 (0,0)) (by (with_reducible repeat (first|refine blk_drewN ?_ _|refine blk_drew ?_|refine blk_alloc ?_ _));refine blk_put (cs:=#[.bool true,.bool false,.int .i64 0,.int .i64 0]) ?_ 3 _ rfl;(with_reducible repeat (first|refine blk_drewN ?_ _|refine blk_drew ?_|refine blk_alloc ?_ _));refine blk_put (cs:=#[.bool true,.bool false,.int .i64 0,.int .i64 0]) ?_ 2 _ rfl;(with_reducible repeat (first|refine blk_drewN ?_ _|refine blk_drew ?_|refine blk_alloc ?_ _));refine blk_put (cs:=#[.bool true,.bool false,.int .i64 0,.int .i64 0]) ?_ 1 _ rfl;(with_reducible repeat (first|refine blk_drewN ?_ _|refine blk_drew ?_|refine blk_alloc ?_ _));refine blk_put (cs:=#[.bool false,.bool false,.int .i64 0,.int .i64 0]) ?_ 0 _ rfl;(with_reducible repeat (first|refine blk_drewN ?_ _|refine blk_drew ?_|refine blk_alloc ?_ _));exact BK101.out) hb);replace HB:=Aside0.mk (below_step zb hb);(try clear hb);(try clear hb2);(try clear hk);(try clear hi);(try clear ho0);obtain ⟨Ao7,co7,eo7⟩:=Kd.R_slice HO104.out;subst eo7))
  go_loopg [4,19] k (fun kq v4 v19 w'=>∃(x4_1:List (S95)) (x19_1:Int) (x102000_1:Bool) (x102001_1:Bool) (x102002_1:Int) (x102003_1:Int),v19 = .int .i64 x19_1∧Aside0 (impl_barWords.l0 kq x4_1 t102 (t102.length:Int) x19_1 x102000_1 x102001_1 x102002_1 x102003_1=some (r1,r2))∧Aside0 (kq≤k)∧Aside0 (Kd.R k95 95 w' w.heap.size (fun k_=>k_≠gb101) v4 x4_1)∧Aside0 (Kd.R Kd.string 9 w' w.heap.size (fun _=>True) (.slice Ao7 t102.length co7) t102)∧Aside0 (w'.heap[gb101]?=some (.cells #[.bool x102000_1,.bool x102001_1,.int .i64 x102002_1,.int .i64 x102003_1] 95 (0,0)))∧Aside0 (Below w.heap.size w w'))
  case atStart=>exact ⟨(([]:List (S95))),(0),(true),(false),(0),(0),zf,H',⟨Nat.le_refl _⟩,⟨zl⟩,⟨zda⟩,⟨zd⟩,⟨zb⟩⟩
  case round=>
   clear H'
   try clear c1
   try clear c2
   try clear c2b0
   try clear c2b1
   try clear p2
   try clear c6
   try clear hcz5_0
   try clear hcz5_1
   try clear hcz5_2
   try clear hcz5_3
   try clear hfz5_0
   try clear hfz5_1
   try clear hfz5_2
   try clear hfz5_3
   obtain ⟨x4_1,x19_1,x102000_1,x102001_1,x102002_1,x102003_1,rfl,HA,HK1,HO_4,HO_17,BK101,HB⟩:=hrel
   cases gk with
   | zero=>exact absurd HA.out (by simp [impl_barWords.l0])
   | succ k1=>
    have H:=HA.out
    clear HA
    simp only [impl_barWords.l0] at H
    by_cases c8:x19_1<(t102.length:Int)
    ·rw [if_pos c8] at H
     have c8b0:decide (x19_1<(t102.length:Int))=true:=decide_eq_true c8
     clear c8
     by_cases c9:0≤x19_1
     ·rw [if_pos c9] at H
      have c9b0:decide (0≤x19_1)=true:=decide_eq_true c9
      clear c9
      by_cases c10:x19_1<(t102.length:Int)
      ·rw [if_pos c10] at H
       have c10b0:decide (x19_1<(t102.length:Int))=true:=decide_eq_true c10
       clear c10
       have HC11:=Aside0.mk H
       clear H
       have p105:0≤(x19_1:Int):=of_decide_eq_true ze
       have q105:x19_1<(t102.length:Int):=of_decide_eq_true ze
       obtain ⟨ad105,e105,hx105_0⟩:=Kd.at_string (Kd.R_reads' HO_17.out).2.2 x19_1 p105 q105
       cases e105
       replace p105:=eq_true p105
       replace q105:=eq_true q105
       go_upto_region 8 with (fail)
       go_cut [28] (fun v28 wc=>∃(kq:Nat) (x28_10:Bool),v28 = .bool x28_10∧Aside0 (impl_barWords.j1 kq x4_1 (rdOf ByteArray.empty t102 x19_1) t102 (t102.length:Int) x19_1 x28_10 x102000_1 x102001_1 x102002_1 x102003_1=some (r1,r2))∧Aside0 (kq≤k1)∧Aside0 (Kd.R k95 95 wc w.heap.size (fun k_=>k_≠gb101) u4 x4_1)∧Aside0 (Kd.R Kd.string 9 wc w.heap.size (fun _=>True) (.slice (some ad105) t102.length co7) t102)∧Aside0 (wc.heap[gb101]?=some (.cells #[.bool x102000_1,.bool x102001_1,.int .i64 x102002_1,.int .i64 x102003_1] 95 (0,0)))∧Aside0 (Below w.heap.size w wc))
       case first=>
        have H:=HC11.out
        clear HC11
        by_cases c12:(rdOf ByteArray.empty t102 x19_1).toList=([124]:List UInt8)
        ·rw [if_pos c12] at H
         have c12b0:((rdOf ByteArray.empty t102 x19_1).toList == ([124]:List UInt8))=true:=beq_iff_eq.mpr c12
         have c12b1:((rdOf ByteArray.empty t102 x19_1).toList != ([124]:List UInt8))=false:=bne_eq_false_iff_eq.mpr c12
         clear c12
         (first|rw [c12b0]|(simp only [i64_w,i32_w];rw [c12b0])|skip)
         have H':=Aside0.mk H
         clear H
         go_wp2
         go_meet
         case rel=>exact ⟨_,(true),zf,H',⟨zcc⟩,⟨zr⟩,⟨zbk⟩,⟨zd⟩,⟨zb⟩⟩
        ·rw [if_neg c12] at H
         have c12b0:((rdOf ByteArray.empty t102 x19_1).toList == ([124]:List UInt8))=false:=beq_eq_false_iff_ne.mpr c12
         have c12b1:((rdOf ByteArray.empty t102 x19_1).toList != ([124]:List UInt8))=true:=bne_iff_ne.mpr c12
         (first|rw [c12b0]|(simp only [i64_w,i32_w];rw [c12b0])|skip)
         have H':=Aside0.mk H
         clear H
         go_wp2
         go_meet
         case rel=>exact ⟨_,(((rdOf ByteArray.empty t102 x19_1).toList == ([124,124]:List UInt8))),zf,H',⟨zcc⟩,⟨zr⟩,⟨zbk⟩,⟨zd⟩,⟨zb⟩⟩
       case rest=>
        clear HC11
        try clear c1
        try clear p1
        try clear q1
        try clear hx1
        try clear c2
        try clear c2b0
        try clear c2b1
        try clear p2
        try clear c6
        try clear c8
        try clear c8b0
        try clear c9
        try clear c9b0
        try clear c10
        try clear c10b0
        try clear p10
        try clear q10
        try clear hx10
        try clear c12
        try clear c12b0
        try clear c12b1
        try clear hcz5_0
        try clear hcz5_1
        try clear hcz5_2
        try clear hcz5_3
        try clear hfz5_0
        try clear hfz5_1
        try clear hfz5_2
        try clear hfz5_3
        try clear hx105_0
        try clear p105
        try clear p2
        try clear q105
        obtain ⟨kq,x28_10,rfl,HA,HJ10,HO_4,HO_17,BK101,HB⟩:=hcut
        cases kq with
        | zero=>exact absurd HA.out (by simp [impl_barWords.j1])
        | succ kj10=>
         have H:=HA.out
         clear HA
         simp only [impl_barWords.j1] at H
         by_cases c13:x28_10=true
         ·subst c13
          have H1:(if x4_1.length<5864062014805 then (impl_barWords.l0 kj10 (x4_1++[(⟨true,false,(⟨0,0⟩:S67)⟩:S95)]) t102 (t102.length:Int) (wrap64 (x19_1+1)) x102000_1 x102001_1 x102002_1 x102003_1) else (none))=some (r1,r2):=by rw [if_pos rfl] at H;exact H
          clear H
          have H:=H1
          clear H1
          by_cases c14:x4_1.length<5864062014805
          ·rw [if_pos c14] at H
           have LMc14:=Aside0.mk c14
           clear c14
           obtain ⟨y106,hy106⟩:∃y_:List (S95),y_=(x4_1++[(⟨true,false,(⟨0,0⟩:S67)⟩:S95)]):=⟨_,rfl⟩
           replace H:(impl_barWords.l0 kj10 y106 t102 (t102.length:Int) (wrap64 (x19_1+1)) x102000_1 x102001_1 x102002_1 x102003_1)=some (r1,r2):=by first|(rw [hy106];with_reducible exact H)|(have H2_:=(Option.bind_some _ _).symm.trans H;rw [hy106];with_reducible exact H2_)|(have H2_:=(Option.bind_some _ _).symm.trans H;with_reducible exact H2_)|with_reducible exact H|(rw [hy106];exact H)|exact H
           have Ny106:=Aside0.mk hy106
           clear hy106
           have H':=Aside0.mk H
           clear H
           go_wp2_with (first|((with_reducible refine gate_builtin (b:=.append) (xs:=#[.tmp 29,.tmp 31]) rfl ?_);at_builtin;refine Kd.R_append k95 (w0:=w) w.heap.size rfl (.tmp 29) (.tmp 31) 84 95 (.agg #[(.bool false),(.bool false),(.int .i64 0),(.int .i64 0)]) 24 rfl Tryz.underlying84 info95 rfl zbm zbd u4 x4_1 (⟨true,false,(⟨0,0⟩:S67)⟩:S95) [.bool true,.bool false,.int .i64 0,.int .i64 0] (fun k_=>k_≠gb101) (fun _=>False) rfl rfl ?aP (fun _ hk=>hk.elim) ?aF ?aO ?aB ?aS ?aL ?_;(case aP=>exact k95_mkM _ _ _ (⟨true,false,(⟨0,0⟩:S67)⟩:S95));(case aB=>exact zb);(case aF=>exact (fun k_ hk=>Kd.freshB (g:=gb101) (o:=.cells #[.bool x102000_1,.bool x102001_1,.int .i64 x102002_1,.int .i64 x102003_1] 95 (0,0)) zd k_ hk));(case aO=>exact zr);(case aS=>exact (below_size zb));(case aL=>have:=LMc14.out;omega);intro v107 w15 ho hb hg hat;rw [←Ny106.out] at ho;replace HO_17:=Aside0.mk (Kd.R_over' zbk (Kd.R_typed zr) zbm hg);replace BK101:=Aside0.mk (blk_grown (g:=gb101) (o:=.cells #[.bool x102000_1,.bool x102001_1,.int .i64 x102002_1,.int .i64 x102003_1] 95 (0,0)) zd hg (Kd.R_away HO_4.out (fun _ hk=>hk)));replace HB:=Aside0.mk (hb);have HO108:=Aside0.mk (ho);clear HO_4;clear ho hb hg hat))
           go_roundg kj10
           case measure=>have:=HK1.out;have:=HJ10.out;omega
           case rel=>exact ⟨(y106),(wrap64 (x19_1+1)),(x102000_1),(x102001_1),(x102002_1),(x102003_1),zf,H',⟨by have:=HK1.out;have:=HJ10.out;omega⟩,⟨zbo⟩,⟨zbk⟩,⟨zd⟩,⟨zb⟩⟩
          ·rw [if_neg c14] at H
           exact absurd H zbr
         ·replace c13:=Bool.eq_false_iff.mpr c13
          subst c13
          have H1:((strings_CutPrefix.f (rdOf ByteArray.empty t102 x19_1) (⟨#[126]⟩:ByteArray)).bind fun bt109=>((impl_ReadMelody.f kj10 bt109.1).bind fun bt111=>(if bt111.2=true then (impl_barWords.j2 kj10 x4_1 bt109.2 bt111.1 t102 (t102.length:Int) x19_1 ((bt111.1.length:Int) != 1) x102000_1 x102001_1 x102002_1 x102003_1) else (impl_barWords.j2 kj10 x4_1 bt109.2 bt111.1 t102 (t102.length:Int) x19_1 true x102000_1 x102001_1 x102002_1 x102003_1))))=some (r1,r2):=by rw [if_neg (show ¬ (false=true) by decide)] at H;exact H
          clear H
          have H:=H1
          clear H1
          replace H:=Option.bind_eq_some_iff.mp H
          obtain ⟨⟨t109,t110⟩,A160,H⟩:=H
          replace H:((impl_ReadMelody.f kj10 t109).bind fun bt111=>(if bt111.2=true then (impl_barWords.j2 kj10 x4_1 t110 bt111.1 t102 (t102.length:Int) x19_1 ((bt111.1.length:Int) != 1) x102000_1 x102001_1 x102002_1 x102003_1) else (impl_barWords.j2 kj10 x4_1 t110 bt111.1 t102 (t102.length:Int) x19_1 true x102000_1 x102001_1 x102002_1 x102003_1)))=some (r1,r2):=H
          have A16:=Aside0.mk A160
          clear A160
          replace H:=Option.bind_eq_some_iff.mp H
          obtain ⟨⟨t111,t112⟩,A170,H⟩:=H
          replace H:(if t112=true then (impl_barWords.j2 kj10 x4_1 t110 t111 t102 (t102.length:Int) x19_1 ((t111.length:Int) != 1) x102000_1 x102001_1 x102002_1 x102003_1) else (impl_barWords.j2 kj10 x4_1 t110 t111 t102 (t102.length:Int) x19_1 true x102000_1 x102001_1 x102002_1 x102003_1))=some (r1,r2):=H
          have A17:=Aside0.mk A170
          clear A170
          have HC18:=Aside0.mk H
          clear H
          go_upto_region 12 with (first|((with_reducible refine gate_callee (f:=102) rfl ?_);refine goesL_ (some 35) rfl rfl Tryz.func102 zu rfl #[.string (rdOf ByteArray.empty t102 x19_1),.string (⟨#[126]⟩:ByteArray)] rfl zc ?_;(with_reducible refine (strings_CutPrefix.calls (rdOf ByteArray.empty t102 x19_1) (⟨#[126]⟩:ByteArray) t109 t110 _ A16.out).mono ?_);rintro e w' ⟨rfl,⟨nd,rfl⟩⟩;refine ⟨_,rfl,?_⟩)|((with_reducible refine gate_callee (f:=103) rfl ?_);refine goesL_ (some 40) rfl rfl Tryz.func103 zu rfl #[.string t109] rfl zc ?_;(with_reducible refine (impl_ReadMelody.calls kj10 t109 t111 t112 _ ?side1 A17.out).mono ?_);(case side1=>exact Door2.at HD.out zb);rintro e w19 ⟨v113,rfl,ho0,hb⟩;refine ⟨_,rfl,?_⟩;replace HO_4:=Aside0.mk (Kd.R_below zr hb);replace HO_17:=Aside0.mk (Kd.R_below zbk hb);have HO114:=Aside0.mk (Kd.R_lower ho0 (below_size zb));replace BK101:=Aside0.mk (blk_below (g:=gb101) (o:=.cells #[.bool x102000_1,.bool x102001_1,.int .i64 x102002_1,.int .i64 x102003_1] 95 (0,0)) zd hb);replace HB:=Aside0.mk (below_step zb hb);(try clear hb);(try clear hb2);(try clear hk);(try clear hi);(try clear ho0)))
          (try simp only [Act.put,List.setIfInBounds_toArray,List.set_cons_zero,List.set_cons_succ])
          go_cut [49] (fun v49 wc=>∃(kq:Nat) (x49_17:Bool),v49 = .bool x49_17∧Aside0 (impl_barWords.j2 kq x4_1 t110 t111 t102 (t102.length:Int) x19_1 x49_17 x102000_1 x102001_1 x102002_1 x102003_1=some (r1,r2))∧Aside0 (kq≤kj10)∧Aside0 (Kd.R k95 95 wc w.heap.size (fun k_=>k_≠gb101) u4 x4_1)∧Aside0 (Kd.R k67 67 wc w.heap.size (fun _=>True) v113 t111)∧Aside0 (Kd.R Kd.string 9 wc w.heap.size (fun _=>True) (.slice (some ad105) t102.length co7) t102)∧Aside0 (wc.heap[gb101]?=some (.cells #[.bool x102000_1,.bool x102001_1,.int .i64 x102002_1,.int .i64 x102003_1] 95 (0,0)))∧Aside0 (Below w.heap.size w wc))
          case first=>
           have H:=HC18.out
           clear HC18
           by_cases c20:t112=true
           ·subst c20
            have H1:(impl_barWords.j2 kj10 x4_1 t110 t111 t102 (t102.length:Int) x19_1 ((t111.length:Int) != 1) x102000_1 x102001_1 x102002_1 x102003_1)=some (r1,r2):=by rw [if_pos rfl] at H;exact H
            clear H
            have H:=H1
            clear H1
            have H':=Aside0.mk H
            clear H
            obtain ⟨Ao21,co21,eo21⟩:=Kd.R_slice HO114.out
            subst eo21
            go_wp2
            go_meet
            case rel=>exact ⟨_,(((t111.length:Int) != 1)),zf,H',⟨by have:=HK1.out;have:=HJ10.out;first|omega|exact Nat.le_refl _⟩,⟨zr⟩,⟨by (with_reducible repeat (first|apply Kd.R_alloc|apply Kd.R_drewN|apply Kd.R_drew));exact HO114.out⟩,⟨zbk⟩,⟨zd⟩,⟨zb⟩⟩
           ·replace c20:=Bool.eq_false_iff.mpr c20
            subst c20
            have H1:(impl_barWords.j2 kj10 x4_1 t110 t111 t102 (t102.length:Int) x19_1 true x102000_1 x102001_1 x102002_1 x102003_1)=some (r1,r2):=by rw [if_neg (show ¬ (false=true) by decide)] at H;exact H
            clear H
            have H:=H1
            clear H1
            have H':=Aside0.mk H
            clear H
            go_wp2
            go_meet
            case rel=>exact ⟨_,(true),zf,H',⟨by have:=HK1.out;have:=HJ10.out;first|omega|exact Nat.le_refl _⟩,⟨zr⟩,⟨by (with_reducible repeat (first|apply Kd.R_alloc|apply Kd.R_drewN|apply Kd.R_drew));exact HO114.out⟩,⟨zbk⟩,⟨zd⟩,⟨zb⟩⟩
          case rest=>
           clear HC18
           try clear c1
           try clear p1
           try clear q1
           try clear hx1
           try clear c2
           try clear c2b0
           try clear c2b1
           try clear p2
           try clear c6
           try clear p6
           try clear c8
           try clear c8b0
           try clear c9
           try clear c9b0
           try clear c10
           try clear c10b0
           try clear p10
           try clear q10
           try clear hx10
           try clear c12
           try clear c12b0
           try clear c12b1
           try clear c13
           try clear c14
           try clear c20
           try clear hcz5_0
           try clear hcz5_1
           try clear hcz5_2
           try clear hcz5_3
           try clear hfz5_0
           try clear hfz5_1
           try clear hfz5_2
           try clear hfz5_3
           try clear hx105_0
           try clear p1
           try clear p10
           try clear p105
           try clear p2
           try clear q1
           try clear q10
           try clear q105
           obtain ⟨kq,x49_17,rfl,HA,HJ17,HO_4,HO_10,HO_17,BK101,HB⟩:=hcut
           cases kq with
           | zero=>exact absurd HA.out (by simp [impl_barWords.j2])
           | succ kj17=>
            have H:=HA.out
            clear HA
            simp only [impl_barWords.j2] at H
            by_cases c22:x49_17=true
            ·subst c22
             have H1:(some (([]:List (S95)),false))=some (r1,r2):=by rw [if_pos rfl] at H;exact H
             clear H
             have H:=H1
             clear H1
             simp only [Option.some.injEq,Prod.mk.injEq] at H
             obtain ⟨rfl,rfl⟩:=H
             go_wp2
             go_ret2
             exact ⟨_,zg,zl,zb⟩
            ·replace c22:=Bool.eq_false_iff.mpr c22
             subst c22
             have H1:(if 0<(t111.length:Int) then (if t110=true then (if x102000_1=true then (some (([]:List (S95)),false)) else (if x102002_1=((rd_T67 t111 0).f0) then (if x4_1.length<5864062014805 then (impl_barWords.l0 kj17 (x4_1++[(⟨false,t110,(⟨(rd_T67 t111 0).f0,(rd_T67 t111 0).f1⟩:S67)⟩:S95)]) t102 (t102.length:Int) (wrap64 (x19_1+1)) false t110 ((rd_T67 t111 0).f0) ((rd_T67 t111 0).f1)) else (none)) else (some (([]:List (S95)),false)))) else (if x4_1.length<5864062014805 then (impl_barWords.l0 kj17 (x4_1++[(⟨false,t110,(⟨(rd_T67 t111 0).f0,(rd_T67 t111 0).f1⟩:S67)⟩:S95)]) t102 (t102.length:Int) (wrap64 (x19_1+1)) false t110 ((rd_T67 t111 0).f0) ((rd_T67 t111 0).f1)) else (none))) else (none))=some (r1,r2):=by rw [if_neg (show ¬ (false=true) by decide)] at H;exact H
             clear H
             have H:=H1
             clear H1
             by_cases c23:0<(t111.length:Int)
             ·rw [if_pos c23] at H
              have c23b0:decide (0<(t111.length:Int))=true:=decide_eq_true c23
              have c23b1:decide (0<t111.length)=true:=decide_eq_true zbd
              clear c23
              by_cases c24:t110=true
              ·subst c24
               have H1:(if x102000_1=true then (some (([]:List (S95)),false)) else (if x102002_1=((rd_T67 t111 0).f0) then (if x4_1.length<5864062014805 then (impl_barWords.l0 kj17 (x4_1++[(⟨false,true,(⟨(rd_T67 t111 0).f0,(rd_T67 t111 0).f1⟩:S67)⟩:S95)]) t102 (t102.length:Int) (wrap64 (x19_1+1)) false true ((rd_T67 t111 0).f0) ((rd_T67 t111 0).f1)) else (none)) else (some (([]:List (S95)),false))))=some (r1,r2):=by rw [if_pos rfl] at H;exact H
               clear H
               have H:=H1
               clear H1
               by_cases c25:x102000_1=true
               ·subst c25
                have H1:(some (([]:List (S95)),false))=some (r1,r2):=by rw [if_pos rfl] at H;exact H
                clear H
                have H:=H1
                clear H1
                simp only [Option.some.injEq,Prod.mk.injEq] at H
                obtain ⟨rfl,rfl⟩:=H
                obtain ⟨Ao26,co26,eo26⟩:=Kd.R_slice HO_10.out
                subst eo26
                have p115:0≤(0:Int):=zbd
                have q115:0<(t111.length:Int):=of_decide_eq_true ze
                obtain ⟨ad115,e115,hx115_0,hx115_1⟩:=at_T67 (Kd.R_reads' HO_10.out).2.2 0 p115 q115
                cases e115
                have qi115:(0<t111.length)=True:=eq_true zbd
                (try rw [show ((0:Int)).toNat=0 from rfl] at hx115_0)
                (try rw [show 0*2=0 from rfl] at hx115_0)
                (try rw [Addr.add_zero'] at hx115_0)
                (try rw [show ((0:Int)).toNat=0 from rfl] at hx115_1)
                (try rw [show 0*2=0 from rfl] at hx115_1)
                (try rw [Addr.add_zero'] at hx115_1)
                replace p115:=eq_true p115
                replace q115:=eq_true q115
                go_wp2_with (first|((with_reducible refine gate_dst (N:=12) rfl ?_);refine box_event ?hg (N:=12) ?hd (cs:=#[.bool false,.bool false,.int .i64 0,.int .i64 0]) (t:=95) ?hr ?_;(case hd=>rfl);(case hg=>rfl);(case hr=>exact zo);intro gb116 hg w27 hbox hb;have n0_:=Aside0.mk (Kd.R_below (Kd.R_elderB zr gb116 (Nat.le_of_eq hg.symm)) hb);have n1_:=Aside0.mk (Kd.R_below zax hb);have n2_:=Aside0.mk (Kd.R_below zbk hb);have n3_:=Aside0.mk (blk_below (g:=gb101) (o:=.cells #[.bool true,.bool x102001_1,.int .i64 x102002_1,.int .i64 x102003_1] 95 (0,0)) zd hb);have n4_:=Aside0.mk (below_step zb hb);have n5_:=Aside0.mk (hbox);have n6_:=Aside0.mk ((by rw [hg];exact (below_size zb):w.heap.size≤gb116));have n7_:=Aside0.mk ((by rw [hg];exact (below_size zb):w.heap.size≤gb116));have n8_:=Aside0.mk ((by rw [hg];exact Nat.ne_of_lt (blk_lt (g:=gb101) (o:=.cells #[.bool true,.bool x102001_1,.int .i64 x102002_1,.int .i64 x102003_1] 95 (0,0)) zd):gb101≠gb116));have n9_:=Aside0.mk ((by rw [hg];exact Nat.ne_of_gt (blk_lt (g:=gb101) (o:=.cells #[.bool true,.bool x102001_1,.int .i64 x102002_1,.int .i64 x102003_1] 95 (0,0)) zd):gb116≠gb101));clear HO_4;clear HO_10;clear HO_17;clear BK101;clear HB;have HO_4:=n0_;have HO_10:=n1_;have HO_17:=n2_;have BK101:=n3_;have HB:=n4_;have BK116:=n5_;have GW116:=n6_;have GE116:=n7_;have NB101_116:=n8_;have NB116_101:=n9_;clear n0_ n1_ n2_ n3_ n4_ n5_ n6_ n7_ n8_ n9_;clear hb hbox hg;have hnb28:=NB116_101.out;have hnc28:=NB101_116.out;have hcz29_0:w27.cell? ⟨gb116,0,none⟩=some (.bool false):=(blk_cell BK116.out 0).trans rfl;have hcz29_1:w27.cell? ⟨gb116,1,none⟩=some (.bool false):=(blk_cell BK116.out 1).trans rfl;have hcz29_2:w27.cell? ⟨gb116,2,none⟩=some (.int .i64 0):=(blk_cell BK116.out 2).trans rfl;have hcz29_3:w27.cell? ⟨gb116,3,none⟩=some (.int .i64 0):=(blk_cell BK116.out 3).trans rfl;have hfz29_0:=blk_frozen BK116.out 0;have hfz29_1:=blk_frozen BK116.out 1;have hfz29_2:=blk_frozen BK116.out 2;have hfz29_3:=blk_frozen BK116.out 3;have hcz30_0:w27.cell? ⟨gb101,0,none⟩=some (.bool true):=(blk_cell BK101.out 0).trans rfl;have hcz30_1:w27.cell? ⟨gb101,1,none⟩=some (.bool x102001_1):=(blk_cell BK101.out 1).trans rfl;have hcz30_2:w27.cell? ⟨gb101,2,none⟩=some (.int .i64 x102002_1):=(blk_cell BK101.out 2).trans rfl;have hcz30_3:w27.cell? ⟨gb101,3,none⟩=some (.int .i64 x102003_1):=(blk_cell BK101.out 3).trans rfl;have hfz30_0:=blk_frozen BK101.out 0;have hfz30_1:=blk_frozen BK101.out 1;have hfz30_2:=blk_frozen BK101.out 2;have hfz30_3:=blk_frozen BK101.out 3))
                go_ret2
                exact ⟨_,zg,zl,zau⟩
               ·replace c25:=Bool.eq_false_iff.mpr c25
                subst c25
                have H1:(if x102002_1=((rd_T67 t111 0).f0) then (if x4_1.length<5864062014805 then (impl_barWords.l0 kj17 (x4_1++[(⟨false,true,(⟨(rd_T67 t111 0).f0,(rd_T67 t111 0).f1⟩:S67)⟩:S95)]) t102 (t102.length:Int) (wrap64 (x19_1+1)) false true ((rd_T67 t111 0).f0) ((rd_T67 t111 0).f1)) else (none)) else (some (([]:List (S95)),false)))=some (r1,r2):=by rw [if_neg (show ¬ (false=true) by decide)] at H;exact H
                clear H
                have H:=H1
                clear H1
                by_cases c31:x102002_1=((rd_T67 t111 0).f0)
                ·rw [if_pos c31] at H
                 have c31b0:(x102002_1 == ((rd_T67 t111 0).f0))=true:=beq_iff_eq.mpr c31
                 have c31b1:(x102002_1 != ((rd_T67 t111 0).f0))=false:=bne_eq_false_iff_eq.mpr c31
                 clear c31
                 by_cases c32:x4_1.length<5864062014805
                 ·rw [if_pos c32] at H
                  have LMc32:=Aside0.mk c32
                  clear c32
                  obtain ⟨y117,hy117⟩:∃y_:List (S95),y_=(x4_1++[(⟨false,true,(⟨(rd_T67 t111 0).f0,(rd_T67 t111 0).f1⟩:S67)⟩:S95)]):=⟨_,rfl⟩
                  replace H:(impl_barWords.l0 kj17 y117 t102 (t102.length:Int) (wrap64 (x19_1+1)) false true ((rd_T67 t111 0).f0) ((rd_T67 t111 0).f1))=some (r1,r2):=by first|(rw [hy117];with_reducible exact H)|(have H2_:=(Option.bind_some _ _).symm.trans H;rw [hy117];with_reducible exact H2_)|(have H2_:=(Option.bind_some _ _).symm.trans H;with_reducible exact H2_)|with_reducible exact H|(rw [hy117];exact H)|exact H
                  have Ny117:=Aside0.mk hy117
                  clear hy117
                  have H':=Aside0.mk H
                  clear H
                  obtain ⟨Ao33,co33,eo33⟩:=Kd.R_slice HO_10.out
                  subst eo33
                  have p115:0≤(0:Int):=zbd
                  have q115:0<(t111.length:Int):=of_decide_eq_true ze
                  obtain ⟨ad115,e115,hx115_0,hx115_1⟩:=at_T67 (Kd.R_reads' HO_10.out).2.2 0 p115 q115
                  cases e115
                  have qi115:(0<t111.length)=True:=eq_true zbd
                  (try rw [show ((0:Int)).toNat=0 from rfl] at hx115_0)
                  (try rw [show 0*2=0 from rfl] at hx115_0)
                  (try rw [Addr.add_zero'] at hx115_0)
                  (try rw [show ((0:Int)).toNat=0 from rfl] at hx115_1)
                  (try rw [show 0*2=0 from rfl] at hx115_1)
                  (try rw [Addr.add_zero'] at hx115_1)
                  replace p115:=eq_true p115
                  replace q115:=eq_true q115
                  go_wp2_with (first|((with_reducible refine gate_dst (N:=12) rfl ?_);refine box_event ?hg (N:=12) ?hd (cs:=#[.bool false,.bool false,.int .i64 0,.int .i64 0]) (t:=95) ?hr ?_;(case hd=>rfl);(case hg=>rfl);(case hr=>exact zo);intro gb116 hg w34 hbox hb;have n0_:=Aside0.mk (Kd.R_below (Kd.R_elderB zr gb116 (Nat.le_of_eq hg.symm)) hb);have n1_:=Aside0.mk (Kd.R_below zax hb);have n2_:=Aside0.mk (Kd.R_below zbk hb);have n3_:=Aside0.mk (blk_below (g:=gb101) (o:=.cells #[.bool false,.bool x102001_1,.int .i64 x102002_1,.int .i64 x102003_1] 95 (0,0)) zd hb);have n4_:=Aside0.mk (below_step zb hb);have n5_:=Aside0.mk (hbox);have n6_:=Aside0.mk ((by rw [hg];exact (below_size zb):w.heap.size≤gb116));have n7_:=Aside0.mk ((by rw [hg];exact (below_size zb):w.heap.size≤gb116));have n8_:=Aside0.mk ((by rw [hg];exact Nat.ne_of_lt (blk_lt (g:=gb101) (o:=.cells #[.bool false,.bool x102001_1,.int .i64 x102002_1,.int .i64 x102003_1] 95 (0,0)) zd):gb101≠gb116));have n9_:=Aside0.mk ((by rw [hg];exact Nat.ne_of_gt (blk_lt (g:=gb101) (o:=.cells #[.bool false,.bool x102001_1,.int .i64 x102002_1,.int .i64 x102003_1] 95 (0,0)) zd):gb116≠gb101));clear HO_4;clear HO_10;clear HO_17;clear BK101;clear HB;have HO_4:=n0_;have HO_10:=n1_;have HO_17:=n2_;have BK101:=n3_;have HB:=n4_;have BK116:=n5_;have GW116:=n6_;have GE116:=n7_;have NB101_116:=n8_;have NB116_101:=n9_;clear n0_ n1_ n2_ n3_ n4_ n5_ n6_ n7_ n8_ n9_;clear hb hbox hg;have hnb35:=NB116_101.out;have hnc35:=NB101_116.out;have hcz36_0:w34.cell? ⟨gb116,0,none⟩=some (.bool false):=(blk_cell BK116.out 0).trans rfl;have hcz36_1:w34.cell? ⟨gb116,1,none⟩=some (.bool false):=(blk_cell BK116.out 1).trans rfl;have hcz36_2:w34.cell? ⟨gb116,2,none⟩=some (.int .i64 0):=(blk_cell BK116.out 2).trans rfl;have hcz36_3:w34.cell? ⟨gb116,3,none⟩=some (.int .i64 0):=(blk_cell BK116.out 3).trans rfl;have hfz36_0:=blk_frozen BK116.out 0;have hfz36_1:=blk_frozen BK116.out 1;have hfz36_2:=blk_frozen BK116.out 2;have hfz36_3:=blk_frozen BK116.out 3;have hcz37_0:w34.cell? ⟨gb101,0,none⟩=some (.bool false):=(blk_cell BK101.out 0).trans rfl;have hcz37_1:w34.cell? ⟨gb101,1,none⟩=some (.bool x102001_1):=(blk_cell BK101.out 1).trans rfl;have hcz37_2:w34.cell? ⟨gb101,2,none⟩=some (.int .i64 x102002_1):=(blk_cell BK101.out 2).trans rfl;have hcz37_3:w34.cell? ⟨gb101,3,none⟩=some (.int .i64 x102003_1):=(blk_cell BK101.out 3).trans rfl;have hfz37_0:=blk_frozen BK101.out 0;have hfz37_1:=blk_frozen BK101.out 1;have hfz37_2:=blk_frozen BK101.out 2;have hfz37_3:=blk_frozen BK101.out 3)|((with_reducible refine gate_builtin (b:=.append) (xs:=#[.tmp 69,.tmp 71]) rfl ?_);at_builtin;refine Kd.R_append k95 (w0:=w) w.heap.size rfl (.tmp 69) (.tmp 71) 84 95 (.agg #[(.bool false),(.bool false),(.int .i64 0),(.int .i64 0)]) 24 rfl Tryz.underlying84 info95 rfl zbm zbd u4 x4_1 (⟨false,true,(⟨(rd_T67 t111 0).f0,(rd_T67 t111 0).f1⟩:S67)⟩:S95) [.bool false,.bool true,.int .i64 ((rd_T67 t111 0).f0),.int .i64 ((rd_T67 t111 0).f1)] (fun k_=>k_≠gb101∧k_≠gb116) (fun _=>False) rfl zo ?aP (fun _ hk=>hk.elim) ?aF ?aO ?aB ?aS ?aL ?_;(case aP=>exact k95_mkM _ _ _ (⟨false,true,(⟨(rd_T67 t111 0).f0,(rd_T67 t111 0).f1⟩:S67)⟩:S95));(case aB=>exact zau);(case aF=>exact (fun k_ hk=>⟨Kd.freshB (g:=gb101) (o:=.cells #[.bool false,.bool x102001_1,.int .i64 x102002_1,.int .i64 x102003_1] 95 (0,0)) zv k_ hk,Kd.freshB (g:=gb116) (o:=.cells #[.bool false,.bool true,.int .i64 ((rd_T67 t111 0).f0),.int .i64 ((rd_T67 t111 0).f1)] 95 (0,0)) (by (with_reducible repeat (first|refine blk_drewN ?_ _|refine blk_drew ?_|refine blk_alloc ?_ _));refine blk_put (cs:=#[.bool false,.bool true,.int .i64 ((rd_T67 t111 0).f0),.int .i64 0]) ?_ 3 _ rfl;(with_reducible repeat (first|refine blk_drewN ?_ _|refine blk_drew ?_|refine blk_alloc ?_ _));refine blk_put (cs:=#[.bool false,.bool true,.int .i64 0,.int .i64 0]) ?_ 2 _ rfl;(with_reducible repeat (first|refine blk_drewN ?_ _|refine blk_drew ?_|refine blk_alloc ?_ _));refine blk_put (cs:=#[.bool false,.bool false,.int .i64 0,.int .i64 0]) ?_ 1 _ rfl;(with_reducible repeat (first|refine blk_drewN ?_ _|refine blk_drew ?_|refine blk_alloc ?_ _));refine blk_put (cs:=#[.bool false,.bool false,.int .i64 0,.int .i64 0]) ?_ 0 _ rfl;(with_reducible repeat (first|refine blk_drewN ?_ _|refine blk_drew ?_|refine blk_alloc ?_ _));exact BK116.out) k_ hk⟩));(case aO=>exact (by (with_reducible repeat (first|apply Kd.R_alloc|apply Kd.R_drewN|apply Kd.R_drew));exact Kd.R_mono (Kd.R_far (p:=⟨gb116,3,none⟩) (Kd.R_far (p:=⟨gb116,2,none⟩) (Kd.R_far (p:=⟨gb116,1,none⟩) (Kd.R_far (p:=⟨gb116,0,none⟩) (Kd.R_mono HO_4.out (fun k_ hk=>(⟨hk,hk.2⟩:_∧k_≠gb116))) (fun _ hk=>hk.2) (.bool false)) (fun _ hk=>hk.2) (.bool true)) (fun _ hk=>hk.2) (.int .i64 ((rd_T67 t111 0).f0))) (fun _ hk=>hk.2) (.int .i64 ((rd_T67 t111 0).f1))) (fun _ hk=>⟨hk.1.1,hk.1.2⟩)));(case aS=>exact (below_size zau));(case aL=>have:=LMc32.out;omega);intro v118 w38 ho hb hg hat;rw [←Ny117.out] at ho;replace HO_10:=Aside0.mk (Kd.R_over' (by (with_reducible repeat (first|apply Kd.R_alloc|apply Kd.R_drewN|apply Kd.R_drew));exact (Kd.R_mono (Kd.R_far (p:=⟨gb116,3,none⟩) (Kd.R_far (p:=⟨gb116,2,none⟩) (Kd.R_far (p:=⟨gb116,1,none⟩) (Kd.R_far (p:=⟨gb116,0,none⟩) (Kd.R_types HO_10.out BK116.out zbm) (fun _ hk=>hk.2) (.bool false)) (fun _ hk=>hk.2) (.bool true)) (fun _ hk=>hk.2) (.int .i64 ((rd_T67 t111 0).f0))) (fun _ hk=>hk.2) (.int .i64 ((rd_T67 t111 0).f1))) (fun _ h_=>h_.1))) (Kd.R_typed (by (with_reducible repeat (first|apply Kd.R_alloc|apply Kd.R_drewN|apply Kd.R_drew));exact (Kd.R_mono (Kd.R_far (p:=⟨gb116,3,none⟩) (Kd.R_far (p:=⟨gb116,2,none⟩) (Kd.R_far (p:=⟨gb116,1,none⟩) (Kd.R_far (p:=⟨gb116,0,none⟩) (Kd.R_mono HO_4.out (fun k_ hk=>(⟨hk,hk.2⟩:_∧k_≠gb116))) (fun _ hk=>hk.2) (.bool false)) (fun _ hk=>hk.2) (.bool true)) (fun _ hk=>hk.2) (.int .i64 ((rd_T67 t111 0).f0))) (fun _ hk=>hk.2) (.int .i64 ((rd_T67 t111 0).f1))) (fun _ h_=>h_.1)))) zbm hg);replace HO_17:=Aside0.mk (Kd.R_over' (by (with_reducible repeat (first|apply Kd.R_alloc|apply Kd.R_drewN|apply Kd.R_drew));exact (Kd.R_mono (Kd.R_far (p:=⟨gb116,3,none⟩) (Kd.R_far (p:=⟨gb116,2,none⟩) (Kd.R_far (p:=⟨gb116,1,none⟩) (Kd.R_far (p:=⟨gb116,0,none⟩) (Kd.R_types HO_17.out BK116.out zbm) (fun _ hk=>hk.2) (.bool false)) (fun _ hk=>hk.2) (.bool true)) (fun _ hk=>hk.2) (.int .i64 ((rd_T67 t111 0).f0))) (fun _ hk=>hk.2) (.int .i64 ((rd_T67 t111 0).f1))) (fun _ h_=>h_.1))) (Kd.R_typed (by (with_reducible repeat (first|apply Kd.R_alloc|apply Kd.R_drewN|apply Kd.R_drew));exact (Kd.R_mono (Kd.R_far (p:=⟨gb116,3,none⟩) (Kd.R_far (p:=⟨gb116,2,none⟩) (Kd.R_far (p:=⟨gb116,1,none⟩) (Kd.R_far (p:=⟨gb116,0,none⟩) (Kd.R_mono HO_4.out (fun k_ hk=>(⟨hk,hk.2⟩:_∧k_≠gb116))) (fun _ hk=>hk.2) (.bool false)) (fun _ hk=>hk.2) (.bool true)) (fun _ hk=>hk.2) (.int .i64 ((rd_T67 t111 0).f0))) (fun _ hk=>hk.2) (.int .i64 ((rd_T67 t111 0).f1))) (fun _ h_=>h_.1)))) zbm hg);replace BK101:=Aside0.mk (blk_grown (g:=gb101) (o:=.cells #[.bool false,.bool x102001_1,.int .i64 x102002_1,.int .i64 x102003_1] 95 (0,0)) zv hg (Kd.R_away HO_4.out (fun _ hk=>hk.1)));replace BK116:=Aside0.mk (blk_grown (g:=gb116) (o:=.cells #[.bool false,.bool true,.int .i64 ((rd_T67 t111 0).f0),.int .i64 ((rd_T67 t111 0).f1)] 95 (0,0)) (by (with_reducible repeat (first|refine blk_drewN ?_ _|refine blk_drew ?_|refine blk_alloc ?_ _));refine blk_put (cs:=#[.bool false,.bool true,.int .i64 ((rd_T67 t111 0).f0),.int .i64 0]) ?_ 3 _ rfl;(with_reducible repeat (first|refine blk_drewN ?_ _|refine blk_drew ?_|refine blk_alloc ?_ _));refine blk_put (cs:=#[.bool false,.bool true,.int .i64 0,.int .i64 0]) ?_ 2 _ rfl;(with_reducible repeat (first|refine blk_drewN ?_ _|refine blk_drew ?_|refine blk_alloc ?_ _));refine blk_put (cs:=#[.bool false,.bool false,.int .i64 0,.int .i64 0]) ?_ 1 _ rfl;(with_reducible repeat (first|refine blk_drewN ?_ _|refine blk_drew ?_|refine blk_alloc ?_ _));refine blk_put (cs:=#[.bool false,.bool false,.int .i64 0,.int .i64 0]) ?_ 0 _ rfl;(with_reducible repeat (first|refine blk_drewN ?_ _|refine blk_drew ?_|refine blk_alloc ?_ _));exact BK116.out) hg (Kd.R_away HO_4.out (fun _ hk=>hk.2)));replace HB:=Aside0.mk (hb);have HO119:=Aside0.mk (ho);clear HO_4;clear ho hb hg hat;have hcz39_0:w38.cell? ⟨gb116,0,none⟩=some (.bool false):=(blk_cell BK116.out 0).trans rfl;have hcz39_1:w38.cell? ⟨gb116,1,none⟩=some (.bool true):=(blk_cell BK116.out 1).trans rfl;have hcz39_2:w38.cell? ⟨gb116,2,none⟩=some (.int .i64 ((rd_T67 t111 0).f0)):=(blk_cell BK116.out 2).trans rfl;have hcz39_3:w38.cell? ⟨gb116,3,none⟩=some (.int .i64 ((rd_T67 t111 0).f1)):=(blk_cell BK116.out 3).trans rfl;have hfz39_0:=blk_frozen BK116.out 0;have hfz39_1:=blk_frozen BK116.out 1;have hfz39_2:=blk_frozen BK116.out 2;have hfz39_3:=blk_frozen BK116.out 3;have hcz40_0:w38.cell? ⟨gb101,0,none⟩=some (.bool false):=(blk_cell BK101.out 0).trans rfl;have hcz40_1:w38.cell? ⟨gb101,1,none⟩=some (.bool x102001_1):=(blk_cell BK101.out 1).trans rfl;have hcz40_2:w38.cell? ⟨gb101,2,none⟩=some (.int .i64 x102002_1):=(blk_cell BK101.out 2).trans rfl;have hcz40_3:w38.cell? ⟨gb101,3,none⟩=some (.int .i64 x102003_1):=(blk_cell BK101.out 3).trans rfl;have hfz40_0:=blk_frozen BK101.out 0;have hfz40_1:=blk_frozen BK101.out 1;have hfz40_2:=blk_frozen BK101.out 2;have hfz40_3:=blk_frozen BK101.out 3))
                  go_roundg kj17
                  case measure=>have:=HK1.out;have:=HJ10.out;have:=HJ17.out;omega
                  case rel=>exact ⟨(y117),(wrap64 (x19_1+1)),(false),(true),((rd_T67 t111 0).f0),((rd_T67 t111 0).f1),zf,H',⟨by have:=HK1.out;have:=HJ10.out;have:=HJ17.out;omega⟩,⟨by (with_reducible repeat (first|apply Kd.R_alloc|apply Kd.R_drewN|apply Kd.R_drew));exact Kd.R_mono (Kd.R_far (p:=⟨gb101,3,none⟩) (Kd.R_far (p:=⟨gb101,2,none⟩) (Kd.R_far (p:=⟨gb101,1,none⟩) (Kd.R_far (p:=⟨gb101,0,none⟩) (Kd.R_mono HO119.out (fun k_ hk=>(⟨hk,hk.1⟩:_∧k_≠gb101))) (fun _ hk=>hk.2) (.bool false)) (fun _ hk=>hk.2) (.bool true)) (fun _ hk=>hk.2) (.int .i64 ((rd_T67 t111 0).f0))) (fun _ hk=>hk.2) (.int .i64 ((rd_T67 t111 0).f1))) (fun _ hk=>hk.1.1)⟩,⟨by (with_reducible repeat (first|apply Kd.R_alloc|apply Kd.R_drewN|apply Kd.R_drew));exact Kd.R_mono (Kd.R_far (p:=⟨gb101,3,none⟩) (Kd.R_far (p:=⟨gb101,2,none⟩) (Kd.R_far (p:=⟨gb101,1,none⟩) (Kd.R_far (p:=⟨gb101,0,none⟩) (Kd.R_types HO_17.out BK101.out zbm) (fun _ hk=>hk.2) (.bool false)) (fun _ hk=>hk.2) (.bool true)) (fun _ hk=>hk.2) (.int .i64 ((rd_T67 t111 0).f0))) (fun _ hk=>hk.2) (.int .i64 ((rd_T67 t111 0).f1))) (fun _ hk=>trivial)⟩,⟨by (with_reducible repeat (first|refine blk_drewN ?_ _|refine blk_drew ?_|refine blk_alloc ?_ _));refine blk_put (cs:=#[.bool false,.bool true,.int .i64 ((rd_T67 t111 0).f0),.int .i64 x102003_1]) ?_ 3 _ rfl;(with_reducible repeat (first|refine blk_drewN ?_ _|refine blk_drew ?_|refine blk_alloc ?_ _));refine blk_put (cs:=#[.bool false,.bool true,.int .i64 x102002_1,.int .i64 x102003_1]) ?_ 2 _ rfl;(with_reducible repeat (first|refine blk_drewN ?_ _|refine blk_drew ?_|refine blk_alloc ?_ _));refine blk_put (cs:=#[.bool false,.bool x102001_1,.int .i64 x102002_1,.int .i64 x102003_1]) ?_ 1 _ rfl;(with_reducible repeat (first|refine blk_drewN ?_ _|refine blk_drew ?_|refine blk_alloc ?_ _));refine blk_put (cs:=#[.bool false,.bool x102001_1,.int .i64 x102002_1,.int .i64 x102003_1]) ?_ 0 _ rfl;(with_reducible repeat (first|refine blk_drewN ?_ _|refine blk_drew ?_|refine blk_alloc ?_ _));exact BK101.out⟩,⟨zau⟩⟩
                 ·rw [if_neg c32] at H
                  exact absurd H zbr
                ·rw [if_neg c31] at H
                 have c31b0:(x102002_1 == ((rd_T67 t111 0).f0))=false:=beq_eq_false_iff_ne.mpr c31
                 have c31b1:(x102002_1 != ((rd_T67 t111 0).f0))=true:=bne_iff_ne.mpr c31
                 simp only [Option.some.injEq,Prod.mk.injEq] at H
                 obtain ⟨rfl,rfl⟩:=H
                 obtain ⟨Ao41,co41,eo41⟩:=Kd.R_slice HO_10.out
                 subst eo41
                 have p115:0≤(0:Int):=zbd
                 have q115:0<(t111.length:Int):=of_decide_eq_true ze
                 obtain ⟨ad115,e115,hx115_0,hx115_1⟩:=at_T67 (Kd.R_reads' HO_10.out).2.2 0 p115 q115
                 cases e115
                 have qi115:(0<t111.length)=True:=eq_true zbd
                 (try rw [show ((0:Int)).toNat=0 from rfl] at hx115_0)
                 (try rw [show 0*2=0 from rfl] at hx115_0)
                 (try rw [Addr.add_zero'] at hx115_0)
                 (try rw [show ((0:Int)).toNat=0 from rfl] at hx115_1)
                 (try rw [show 0*2=0 from rfl] at hx115_1)
                 (try rw [Addr.add_zero'] at hx115_1)
                 replace p115:=eq_true p115
                 replace q115:=eq_true q115
                 go_wp2_with (first|((with_reducible refine gate_dst (N:=12) rfl ?_);refine box_event ?hg (N:=12) ?hd (cs:=#[.bool false,.bool false,.int .i64 0,.int .i64 0]) (t:=95) ?hr ?_;(case hd=>rfl);(case hg=>rfl);(case hr=>exact zo);intro gb116 hg w42 hbox hb;have n0_:=Aside0.mk (Kd.R_below (Kd.R_elderB zr gb116 (Nat.le_of_eq hg.symm)) hb);have n1_:=Aside0.mk (Kd.R_below zax hb);have n2_:=Aside0.mk (Kd.R_below zbk hb);have n3_:=Aside0.mk (blk_below (g:=gb101) (o:=.cells #[.bool false,.bool x102001_1,.int .i64 x102002_1,.int .i64 x102003_1] 95 (0,0)) zd hb);have n4_:=Aside0.mk (below_step zb hb);have n5_:=Aside0.mk (hbox);have n6_:=Aside0.mk ((by rw [hg];exact (below_size zb):w.heap.size≤gb116));have n7_:=Aside0.mk ((by rw [hg];exact (below_size zb):w.heap.size≤gb116));have n8_:=Aside0.mk ((by rw [hg];exact Nat.ne_of_lt (blk_lt (g:=gb101) (o:=.cells #[.bool false,.bool x102001_1,.int .i64 x102002_1,.int .i64 x102003_1] 95 (0,0)) zd):gb101≠gb116));have n9_:=Aside0.mk ((by rw [hg];exact Nat.ne_of_gt (blk_lt (g:=gb101) (o:=.cells #[.bool false,.bool x102001_1,.int .i64 x102002_1,.int .i64 x102003_1] 95 (0,0)) zd):gb116≠gb101));clear HO_4;clear HO_10;clear HO_17;clear BK101;clear HB;have HO_4:=n0_;have HO_10:=n1_;have HO_17:=n2_;have BK101:=n3_;have HB:=n4_;have BK116:=n5_;have GW116:=n6_;have GE116:=n7_;have NB101_116:=n8_;have NB116_101:=n9_;clear n0_ n1_ n2_ n3_ n4_ n5_ n6_ n7_ n8_ n9_;clear hb hbox hg;have hnb43:=NB116_101.out;have hnc43:=NB101_116.out;have hcz44_0:w42.cell? ⟨gb116,0,none⟩=some (.bool false):=(blk_cell BK116.out 0).trans rfl;have hcz44_1:w42.cell? ⟨gb116,1,none⟩=some (.bool false):=(blk_cell BK116.out 1).trans rfl;have hcz44_2:w42.cell? ⟨gb116,2,none⟩=some (.int .i64 0):=(blk_cell BK116.out 2).trans rfl;have hcz44_3:w42.cell? ⟨gb116,3,none⟩=some (.int .i64 0):=(blk_cell BK116.out 3).trans rfl;have hfz44_0:=blk_frozen BK116.out 0;have hfz44_1:=blk_frozen BK116.out 1;have hfz44_2:=blk_frozen BK116.out 2;have hfz44_3:=blk_frozen BK116.out 3;have hcz45_0:w42.cell? ⟨gb101,0,none⟩=some (.bool false):=(blk_cell BK101.out 0).trans rfl;have hcz45_1:w42.cell? ⟨gb101,1,none⟩=some (.bool x102001_1):=(blk_cell BK101.out 1).trans rfl;have hcz45_2:w42.cell? ⟨gb101,2,none⟩=some (.int .i64 x102002_1):=(blk_cell BK101.out 2).trans rfl;have hcz45_3:w42.cell? ⟨gb101,3,none⟩=some (.int .i64 x102003_1):=(blk_cell BK101.out 3).trans rfl;have hfz45_0:=blk_frozen BK101.out 0;have hfz45_1:=blk_frozen BK101.out 1;have hfz45_2:=blk_frozen BK101.out 2;have hfz45_3:=blk_frozen BK101.out 3))
                 go_ret2
                 exact ⟨_,zg,zl,zau⟩
              ·replace c24:=Bool.eq_false_iff.mpr c24
               subst c24
               have H1:(if x4_1.length<5864062014805 then (impl_barWords.l0 kj17 (x4_1++[(⟨false,false,(⟨(rd_T67 t111 0).f0,(rd_T67 t111 0).f1⟩:S67)⟩:S95)]) t102 (t102.length:Int) (wrap64 (x19_1+1)) false false ((rd_T67 t111 0).f0) ((rd_T67 t111 0).f1)) else (none))=some (r1,r2):=by rw [if_neg (show ¬ (false=true) by decide)] at H;exact H
               clear H
               have H:=H1
               clear H1
               by_cases c46:x4_1.length<5864062014805
               ·rw [if_pos c46] at H
                have LMc46:=Aside0.mk c46
                clear c46
                obtain ⟨y120,hy120⟩:∃y_:List (S95),y_=(x4_1++[(⟨false,false,(⟨(rd_T67 t111 0).f0,(rd_T67 t111 0).f1⟩:S67)⟩:S95)]):=⟨_,rfl⟩
                replace H:(impl_barWords.l0 kj17 y120 t102 (t102.length:Int) (wrap64 (x19_1+1)) false false ((rd_T67 t111 0).f0) ((rd_T67 t111 0).f1))=some (r1,r2):=by first|(rw [hy120];with_reducible exact H)|(have H2_:=(Option.bind_some _ _).symm.trans H;rw [hy120];with_reducible exact H2_)|(have H2_:=(Option.bind_some _ _).symm.trans H;with_reducible exact H2_)|with_reducible exact H|(rw [hy120];exact H)|exact H
                have Ny120:=Aside0.mk hy120
                clear hy120
                have H':=Aside0.mk H
                clear H
                obtain ⟨Ao47,co47,eo47⟩:=Kd.R_slice HO_10.out
                subst eo47
                have p115:0≤(0:Int):=zbd
                have q115:0<(t111.length:Int):=of_decide_eq_true ze
                obtain ⟨ad115,e115,hx115_0,hx115_1⟩:=at_T67 (Kd.R_reads' HO_10.out).2.2 0 p115 q115
                cases e115
                have qi115:(0<t111.length)=True:=eq_true zbd
                (try rw [show ((0:Int)).toNat=0 from rfl] at hx115_0)
                (try rw [show 0*2=0 from rfl] at hx115_0)
                (try rw [Addr.add_zero'] at hx115_0)
                (try rw [show ((0:Int)).toNat=0 from rfl] at hx115_1)
                (try rw [show 0*2=0 from rfl] at hx115_1)
                (try rw [Addr.add_zero'] at hx115_1)
                replace p115:=eq_true p115
                replace q115:=eq_true q115
                go_wp2_with (first|((with_reducible refine gate_dst (N:=12) rfl ?_);refine box_event ?hg (N:=12) ?hd (cs:=#[.bool false,.bool false,.int .i64 0,.int .i64 0]) (t:=95) ?hr ?_;(case hd=>rfl);(case hg=>rfl);(case hr=>exact zo);intro gb116 hg w48 hbox hb;have n0_:=Aside0.mk (Kd.R_below (Kd.R_elderB zr gb116 (Nat.le_of_eq hg.symm)) hb);have n1_:=Aside0.mk (Kd.R_below zax hb);have n2_:=Aside0.mk (Kd.R_below zbk hb);have n3_:=Aside0.mk (blk_below (g:=gb101) (o:=.cells #[.bool x102000_1,.bool x102001_1,.int .i64 x102002_1,.int .i64 x102003_1] 95 (0,0)) zd hb);have n4_:=Aside0.mk (below_step zb hb);have n5_:=Aside0.mk (hbox);have n6_:=Aside0.mk ((by rw [hg];exact (below_size zb):w.heap.size≤gb116));have n7_:=Aside0.mk ((by rw [hg];exact (below_size zb):w.heap.size≤gb116));have n8_:=Aside0.mk ((by rw [hg];exact Nat.ne_of_lt (blk_lt (g:=gb101) (o:=.cells #[.bool x102000_1,.bool x102001_1,.int .i64 x102002_1,.int .i64 x102003_1] 95 (0,0)) zd):gb101≠gb116));have n9_:=Aside0.mk ((by rw [hg];exact Nat.ne_of_gt (blk_lt (g:=gb101) (o:=.cells #[.bool x102000_1,.bool x102001_1,.int .i64 x102002_1,.int .i64 x102003_1] 95 (0,0)) zd):gb116≠gb101));clear HO_4;clear HO_10;clear HO_17;clear BK101;clear HB;have HO_4:=n0_;have HO_10:=n1_;have HO_17:=n2_;have BK101:=n3_;have HB:=n4_;have BK116:=n5_;have GW116:=n6_;have GE116:=n7_;have NB101_116:=n8_;have NB116_101:=n9_;clear n0_ n1_ n2_ n3_ n4_ n5_ n6_ n7_ n8_ n9_;clear hb hbox hg;have hnb49:=NB116_101.out;have hnc49:=NB101_116.out;have hcz50_0:w48.cell? ⟨gb116,0,none⟩=some (.bool false):=(blk_cell BK116.out 0).trans rfl;have hcz50_1:w48.cell? ⟨gb116,1,none⟩=some (.bool false):=(blk_cell BK116.out 1).trans rfl;have hcz50_2:w48.cell? ⟨gb116,2,none⟩=some (.int .i64 0):=(blk_cell BK116.out 2).trans rfl;have hcz50_3:w48.cell? ⟨gb116,3,none⟩=some (.int .i64 0):=(blk_cell BK116.out 3).trans rfl;have hfz50_0:=blk_frozen BK116.out 0;have hfz50_1:=blk_frozen BK116.out 1;have hfz50_2:=blk_frozen BK116.out 2;have hfz50_3:=blk_frozen BK116.out 3)|((with_reducible refine gate_builtin (b:=.append) (xs:=#[.tmp 69,.tmp 71]) rfl ?_);at_builtin;refine Kd.R_append k95 (w0:=w) w.heap.size rfl (.tmp 69) (.tmp 71) 84 95 (.agg #[(.bool false),(.bool false),(.int .i64 0),(.int .i64 0)]) 24 rfl Tryz.underlying84 info95 rfl zbm zbd u4 x4_1 (⟨false,false,(⟨(rd_T67 t111 0).f0,(rd_T67 t111 0).f1⟩:S67)⟩:S95) [.bool false,.bool false,.int .i64 ((rd_T67 t111 0).f0),.int .i64 ((rd_T67 t111 0).f1)] (fun k_=>k_≠gb101∧k_≠gb116) (fun _=>False) rfl zo ?aP (fun _ hk=>hk.elim) ?aF ?aO ?aB ?aS ?aL ?_;(case aP=>exact k95_mkM _ _ _ (⟨false,false,(⟨(rd_T67 t111 0).f0,(rd_T67 t111 0).f1⟩:S67)⟩:S95));(case aB=>exact zau);(case aF=>exact (fun k_ hk=>⟨Kd.freshB (g:=gb101) (o:=.cells #[.bool x102000_1,.bool x102001_1,.int .i64 x102002_1,.int .i64 x102003_1] 95 (0,0)) zv k_ hk,Kd.freshB (g:=gb116) (o:=.cells #[.bool false,.bool false,.int .i64 ((rd_T67 t111 0).f0),.int .i64 ((rd_T67 t111 0).f1)] 95 (0,0)) (by (with_reducible repeat (first|refine blk_drewN ?_ _|refine blk_drew ?_|refine blk_alloc ?_ _));refine blk_put (cs:=#[.bool false,.bool false,.int .i64 ((rd_T67 t111 0).f0),.int .i64 0]) ?_ 3 _ rfl;(with_reducible repeat (first|refine blk_drewN ?_ _|refine blk_drew ?_|refine blk_alloc ?_ _));refine blk_put (cs:=#[.bool false,.bool false,.int .i64 0,.int .i64 0]) ?_ 2 _ rfl;(with_reducible repeat (first|refine blk_drewN ?_ _|refine blk_drew ?_|refine blk_alloc ?_ _));refine blk_put (cs:=#[.bool false,.bool false,.int .i64 0,.int .i64 0]) ?_ 1 _ rfl;(with_reducible repeat (first|refine blk_drewN ?_ _|refine blk_drew ?_|refine blk_alloc ?_ _));refine blk_put (cs:=#[.bool false,.bool false,.int .i64 0,.int .i64 0]) ?_ 0 _ rfl;(with_reducible repeat (first|refine blk_drewN ?_ _|refine blk_drew ?_|refine blk_alloc ?_ _));exact BK116.out) k_ hk⟩));(case aO=>exact (by (with_reducible repeat (first|apply Kd.R_alloc|apply Kd.R_drewN|apply Kd.R_drew));exact Kd.R_mono (Kd.R_far (p:=⟨gb116,3,none⟩) (Kd.R_far (p:=⟨gb116,2,none⟩) (Kd.R_far (p:=⟨gb116,1,none⟩) (Kd.R_far (p:=⟨gb116,0,none⟩) (Kd.R_mono HO_4.out (fun k_ hk=>(⟨hk,hk.2⟩:_∧k_≠gb116))) (fun _ hk=>hk.2) (.bool false)) (fun _ hk=>hk.2) (.bool false)) (fun _ hk=>hk.2) (.int .i64 ((rd_T67 t111 0).f0))) (fun _ hk=>hk.2) (.int .i64 ((rd_T67 t111 0).f1))) (fun _ hk=>⟨hk.1.1,hk.1.2⟩)));(case aS=>exact (below_size zau));(case aL=>have:=LMc46.out;omega);intro v121 w51 ho hb hg hat;rw [←Ny120.out] at ho;replace HO_10:=Aside0.mk (Kd.R_over' (by (with_reducible repeat (first|apply Kd.R_alloc|apply Kd.R_drewN|apply Kd.R_drew));exact (Kd.R_mono (Kd.R_far (p:=⟨gb116,3,none⟩) (Kd.R_far (p:=⟨gb116,2,none⟩) (Kd.R_far (p:=⟨gb116,1,none⟩) (Kd.R_far (p:=⟨gb116,0,none⟩) (Kd.R_types HO_10.out BK116.out zbm) (fun _ hk=>hk.2) (.bool false)) (fun _ hk=>hk.2) (.bool false)) (fun _ hk=>hk.2) (.int .i64 ((rd_T67 t111 0).f0))) (fun _ hk=>hk.2) (.int .i64 ((rd_T67 t111 0).f1))) (fun _ h_=>h_.1))) (Kd.R_typed (by (with_reducible repeat (first|apply Kd.R_alloc|apply Kd.R_drewN|apply Kd.R_drew));exact (Kd.R_mono (Kd.R_far (p:=⟨gb116,3,none⟩) (Kd.R_far (p:=⟨gb116,2,none⟩) (Kd.R_far (p:=⟨gb116,1,none⟩) (Kd.R_far (p:=⟨gb116,0,none⟩) (Kd.R_mono HO_4.out (fun k_ hk=>(⟨hk,hk.2⟩:_∧k_≠gb116))) (fun _ hk=>hk.2) (.bool false)) (fun _ hk=>hk.2) (.bool false)) (fun _ hk=>hk.2) (.int .i64 ((rd_T67 t111 0).f0))) (fun _ hk=>hk.2) (.int .i64 ((rd_T67 t111 0).f1))) (fun _ h_=>h_.1)))) zbm hg);replace HO_17:=Aside0.mk (Kd.R_over' (by (with_reducible repeat (first|apply Kd.R_alloc|apply Kd.R_drewN|apply Kd.R_drew));exact (Kd.R_mono (Kd.R_far (p:=⟨gb116,3,none⟩) (Kd.R_far (p:=⟨gb116,2,none⟩) (Kd.R_far (p:=⟨gb116,1,none⟩) (Kd.R_far (p:=⟨gb116,0,none⟩) (Kd.R_types HO_17.out BK116.out zbm) (fun _ hk=>hk.2) (.bool false)) (fun _ hk=>hk.2) (.bool false)) (fun _ hk=>hk.2) (.int .i64 ((rd_T67 t111 0).f0))) (fun _ hk=>hk.2) (.int .i64 ((rd_T67 t111 0).f1))) (fun _ h_=>h_.1))) (Kd.R_typed (by (with_reducible repeat (first|apply Kd.R_alloc|apply Kd.R_drewN|apply Kd.R_drew));exact (Kd.R_mono (Kd.R_far (p:=⟨gb116,3,none⟩) (Kd.R_far (p:=⟨gb116,2,none⟩) (Kd.R_far (p:=⟨gb116,1,none⟩) (Kd.R_far (p:=⟨gb116,0,none⟩) (Kd.R_mono HO_4.out (fun k_ hk=>(⟨hk,hk.2⟩:_∧k_≠gb116))) (fun _ hk=>hk.2) (.bool false)) (fun _ hk=>hk.2) (.bool false)) (fun _ hk=>hk.2) (.int .i64 ((rd_T67 t111 0).f0))) (fun _ hk=>hk.2) (.int .i64 ((rd_T67 t111 0).f1))) (fun _ h_=>h_.1)))) zbm hg);replace BK101:=Aside0.mk (blk_grown (g:=gb101) (o:=.cells #[.bool x102000_1,.bool x102001_1,.int .i64 x102002_1,.int .i64 x102003_1] 95 (0,0)) zv hg (Kd.R_away HO_4.out (fun _ hk=>hk.1)));replace BK116:=Aside0.mk (blk_grown (g:=gb116) (o:=.cells #[.bool false,.bool false,.int .i64 ((rd_T67 t111 0).f0),.int .i64 ((rd_T67 t111 0).f1)] 95 (0,0)) (by (with_reducible repeat (first|refine blk_drewN ?_ _|refine blk_drew ?_|refine blk_alloc ?_ _));refine blk_put (cs:=#[.bool false,.bool false,.int .i64 ((rd_T67 t111 0).f0),.int .i64 0]) ?_ 3 _ rfl;(with_reducible repeat (first|refine blk_drewN ?_ _|refine blk_drew ?_|refine blk_alloc ?_ _));refine blk_put (cs:=#[.bool false,.bool false,.int .i64 0,.int .i64 0]) ?_ 2 _ rfl;(with_reducible repeat (first|refine blk_drewN ?_ _|refine blk_drew ?_|refine blk_alloc ?_ _));refine blk_put (cs:=#[.bool false,.bool false,.int .i64 0,.int .i64 0]) ?_ 1 _ rfl;(with_reducible repeat (first|refine blk_drewN ?_ _|refine blk_drew ?_|refine blk_alloc ?_ _));refine blk_put (cs:=#[.bool false,.bool false,.int .i64 0,.int .i64 0]) ?_ 0 _ rfl;(with_reducible repeat (first|refine blk_drewN ?_ _|refine blk_drew ?_|refine blk_alloc ?_ _));exact BK116.out) hg (Kd.R_away HO_4.out (fun _ hk=>hk.2)));replace HB:=Aside0.mk (hb);have HO122:=Aside0.mk (ho);clear HO_4;clear ho hb hg hat;have hcz52_0:w51.cell? ⟨gb116,0,none⟩=some (.bool false):=(blk_cell BK116.out 0).trans rfl;have hcz52_1:w51.cell? ⟨gb116,1,none⟩=some (.bool false):=(blk_cell BK116.out 1).trans rfl;have hcz52_2:w51.cell? ⟨gb116,2,none⟩=some (.int .i64 ((rd_T67 t111 0).f0)):=(blk_cell BK116.out 2).trans rfl;have hcz52_3:w51.cell? ⟨gb116,3,none⟩=some (.int .i64 ((rd_T67 t111 0).f1)):=(blk_cell BK116.out 3).trans rfl;have hfz52_0:=blk_frozen BK116.out 0;have hfz52_1:=blk_frozen BK116.out 1;have hfz52_2:=blk_frozen BK116.out 2;have hfz52_3:=blk_frozen BK116.out 3;have hcz53_0:w51.cell? ⟨gb101,0,none⟩=some (.bool x102000_1):=(blk_cell BK101.out 0).trans rfl;have hcz53_1:w51.cell? ⟨gb101,1,none⟩=some (.bool x102001_1):=(blk_cell BK101.out 1).trans rfl;have hcz53_2:w51.cell? ⟨gb101,2,none⟩=some (.int .i64 x102002_1):=(blk_cell BK101.out 2).trans rfl;have hcz53_3:w51.cell? ⟨gb101,3,none⟩=some (.int .i64 x102003_1):=(blk_cell BK101.out 3).trans rfl;have hfz53_0:=blk_frozen BK101.out 0;have hfz53_1:=blk_frozen BK101.out 1;have hfz53_2:=blk_frozen BK101.out 2;have hfz53_3:=blk_frozen BK101.out 3))
                go_roundg kj17
                case measure=>have:=HK1.out;have:=HJ10.out;have:=HJ17.out;omega
                case rel=>exact ⟨(y120),(wrap64 (x19_1+1)),(false),(false),((rd_T67 t111 0).f0),((rd_T67 t111 0).f1),zf,H',⟨by have:=HK1.out;have:=HJ10.out;have:=HJ17.out;omega⟩,⟨by (with_reducible repeat (first|apply Kd.R_alloc|apply Kd.R_drewN|apply Kd.R_drew));exact Kd.R_mono (Kd.R_far (p:=⟨gb101,3,none⟩) (Kd.R_far (p:=⟨gb101,2,none⟩) (Kd.R_far (p:=⟨gb101,1,none⟩) (Kd.R_far (p:=⟨gb101,0,none⟩) (Kd.R_mono HO122.out (fun k_ hk=>(⟨hk,hk.1⟩:_∧k_≠gb101))) (fun _ hk=>hk.2) (.bool false)) (fun _ hk=>hk.2) (.bool false)) (fun _ hk=>hk.2) (.int .i64 ((rd_T67 t111 0).f0))) (fun _ hk=>hk.2) (.int .i64 ((rd_T67 t111 0).f1))) (fun _ hk=>hk.1.1)⟩,⟨by (with_reducible repeat (first|apply Kd.R_alloc|apply Kd.R_drewN|apply Kd.R_drew));exact Kd.R_mono (Kd.R_far (p:=⟨gb101,3,none⟩) (Kd.R_far (p:=⟨gb101,2,none⟩) (Kd.R_far (p:=⟨gb101,1,none⟩) (Kd.R_far (p:=⟨gb101,0,none⟩) (Kd.R_types HO_17.out BK101.out zbm) (fun _ hk=>hk.2) (.bool false)) (fun _ hk=>hk.2) (.bool false)) (fun _ hk=>hk.2) (.int .i64 ((rd_T67 t111 0).f0))) (fun _ hk=>hk.2) (.int .i64 ((rd_T67 t111 0).f1))) (fun _ hk=>trivial)⟩,⟨by (with_reducible repeat (first|refine blk_drewN ?_ _|refine blk_drew ?_|refine blk_alloc ?_ _));refine blk_put (cs:=#[.bool false,.bool false,.int .i64 ((rd_T67 t111 0).f0),.int .i64 x102003_1]) ?_ 3 _ rfl;(with_reducible repeat (first|refine blk_drewN ?_ _|refine blk_drew ?_|refine blk_alloc ?_ _));refine blk_put (cs:=#[.bool false,.bool false,.int .i64 x102002_1,.int .i64 x102003_1]) ?_ 2 _ rfl;(with_reducible repeat (first|refine blk_drewN ?_ _|refine blk_drew ?_|refine blk_alloc ?_ _));refine blk_put (cs:=#[.bool false,.bool x102001_1,.int .i64 x102002_1,.int .i64 x102003_1]) ?_ 1 _ rfl;(with_reducible repeat (first|refine blk_drewN ?_ _|refine blk_drew ?_|refine blk_alloc ?_ _));refine blk_put (cs:=#[.bool x102000_1,.bool x102001_1,.int .i64 x102002_1,.int .i64 x102003_1]) ?_ 0 _ rfl;(with_reducible repeat (first|refine blk_drewN ?_ _|refine blk_drew ?_|refine blk_alloc ?_ _));exact BK101.out⟩,⟨zau⟩⟩
               ·rw [if_neg c46] at H
                exact absurd H zbr
             ·rw [if_neg c23] at H
              exact absurd H zbr
      ·rw [if_neg c10] at H
       exact absurd H zbr
     ·rw [if_neg c9] at H
      exact absurd H zbr
    ·rw [if_neg c8] at H
     have c8b0:decide (x19_1<(t102.length:Int))=false:=decide_eq_false c8
     clear c8
     simp only [Option.some.injEq,Prod.mk.injEq] at H
     obtain ⟨rfl,rfl⟩:=H
     go_wp2
     go_ret2
     exact ⟨_,zg,by (with_reducible repeat (first|apply Kd.R_alloc|apply Kd.R_drewN|apply Kd.R_drew));exact Kd.R_mono HO_4.out (fun _ hk=>trivial),zb⟩

def impl_onlyNameBytes.l0:Nat→ByteArray→Int→Int→Option (Bool)
 | 0,_,_,_=>none
 | k+1,x0,x6,x7=>if x7<x6 then (if 0≤x7 then (if x7<(x0.size:Int) then (if (bt x0 x7)<97 then (if (bt x0 x7)<48 then (some false) else (if (bt x0 x7) > 57 then (some false) else (impl_onlyNameBytes.l0 k x0 x6 (wrap64 (x7+1))))) else (if (bt x0 x7) > 122 then (if (bt x0 x7)<48 then (some false) else (if (bt x0 x7) > 57 then (some false) else (impl_onlyNameBytes.l0 k x0 x6 (wrap64 (x7+1))))) else (impl_onlyNameBytes.l0 k x0 x6 (wrap64 (x7+1))))) else (none)) else (none)) else (some true)
def impl_onlyNameBytes.f (k:Nat) (a0:ByteArray):Option (Bool):=impl_onlyNameBytes.l0 k a0 (a0.size:Int) 0
set_option maxHeartbeats 8000000 in
set_option maxRecDepth 100000 in
theorem impl_onlyNameBytes.calls (k:Nat) (a0:ByteArray) (r:Bool) (w:World) (h:impl_onlyNameBytes.f k a0=some r) :
 Calls Tryz.prog 166 #[.string a0] w fun e w'=>e = .returned (.bool r)∧Drawn0 w w':=by
 have H:(impl_onlyNameBytes.l0 k a0 (a0.size:Int) 0)=some r:=h
 clear h
 have H':=Aside0.mk H
 clear H
 go_enter Tryz.func166,Tryz.ntmps166
 go_wp2
 go_loopg [7] k (fun kq v7 w'=>∃(x7_1:Int),v7 = .int .i64 x7_1∧Aside0 (impl_onlyNameBytes.l0 kq a0 (a0.size:Int) x7_1=some r)∧Aside0 (kq≤k)∧Drawn0 w w')
 case atStart=>exact ⟨(0),zf,H',⟨Nat.le_refl _⟩,zk⟩
 case round=>
  clear H'
  try clear c1
  obtain ⟨x7_1,rfl,HA,HK1,⟨m1,rfl⟩⟩:=hrel
  cases gk with
  | zero=>exact absurd HA.out (by simp [impl_onlyNameBytes.l0])
  | succ k1=>
   have H:=HA.out
   clear HA
   simp only [impl_onlyNameBytes.l0] at H
   by_cases c2:x7_1<(a0.size:Int)
   ·rw [if_pos c2] at H
    have c2b0:decide (x7_1<(a0.size:Int))=true:=decide_eq_true c2
    clear c2
    by_cases c3:0≤x7_1
    ·rw [if_pos c3] at H
     have c3b0:decide (0≤x7_1)=true:=decide_eq_true c3
     clear c3
     by_cases c4:x7_1<(a0.size:Int)
     ·rw [if_pos c4] at H
      have c4b0:decide (x7_1<(a0.size:Int))=true:=decide_eq_true c4
      clear c4
      by_cases c6:(bt a0 x7_1)<97
      ·rw [if_pos c6] at H
       have c6b0:decide ((bt a0 x7_1)<97)=true:=decide_eq_true c6
       clear c6
       by_cases c7:(bt a0 x7_1)<48
       ·rw [if_pos c7] at H
        have c7b0:decide ((bt a0 x7_1)<48)=true:=decide_eq_true c7
        clear c7
        obtain rfl:=Option.some.inj H
        have p5:0≤(x7_1:Int):=of_decide_eq_true ze
        have q5:x7_1<(a0.size:Int):=of_decide_eq_true ze
        have hx5:=bt_at a0 x7_1
        replace p5:=eq_true p5
        replace q5:=eq_true q5
        go_wp2
        go_ret
        exact ⟨zf,zk⟩
       ·rw [if_neg c7] at H
        have c7b0:decide ((bt a0 x7_1)<48)=false:=decide_eq_false c7
        clear c7
        by_cases c8:(bt a0 x7_1) > 57
        ·rw [if_pos c8] at H
         have c8b0:decide (57<(bt a0 x7_1))=true:=decide_eq_true c8
         clear c8
         obtain rfl:=Option.some.inj H
         have p5:0≤(x7_1:Int):=of_decide_eq_true ze
         have q5:x7_1<(a0.size:Int):=of_decide_eq_true ze
         have hx5:=bt_at a0 x7_1
         replace p5:=eq_true p5
         replace q5:=eq_true q5
         go_wp2
         go_ret
         exact ⟨zf,zk⟩
        ·rw [if_neg c8] at H
         have c8b0:decide (57<(bt a0 x7_1))=false:=decide_eq_false c8
         clear c8
         have H':=Aside0.mk H
         clear H
         have p5:0≤(x7_1:Int):=of_decide_eq_true ze
         have q5:x7_1<(a0.size:Int):=of_decide_eq_true ze
         have hx5:=bt_at a0 x7_1
         replace p5:=eq_true p5
         replace q5:=eq_true q5
         go_wp2
         go_roundg k1
         case measure=>have:=HK1.out;omega
         case rel=>exact ⟨(wrap64 (x7_1+1)),zf,H',⟨zcq⟩,zk⟩
      ·rw [if_neg c6] at H
       have c6b0:decide ((bt a0 x7_1)<97)=false:=decide_eq_false c6
       clear c6
       by_cases c9:(bt a0 x7_1) > 122
       ·rw [if_pos c9] at H
        have c9b0:decide (122<(bt a0 x7_1))=true:=decide_eq_true c9
        clear c9
        by_cases c10:(bt a0 x7_1)<48
        ·rw [if_pos c10] at H
         have c10b0:decide ((bt a0 x7_1)<48)=true:=decide_eq_true c10
         clear c10
         obtain rfl:=Option.some.inj H
         have p5:0≤(x7_1:Int):=of_decide_eq_true ze
         have q5:x7_1<(a0.size:Int):=of_decide_eq_true ze
         have hx5:=bt_at a0 x7_1
         replace p5:=eq_true p5
         replace q5:=eq_true q5
         go_wp2
         go_ret
         exact ⟨zf,zk⟩
        ·rw [if_neg c10] at H
         have c10b0:decide ((bt a0 x7_1)<48)=false:=decide_eq_false c10
         clear c10
         by_cases c11:(bt a0 x7_1) > 57
         ·rw [if_pos c11] at H
          have c11b0:decide (57<(bt a0 x7_1))=true:=decide_eq_true c11
          clear c11
          obtain rfl:=Option.some.inj H
          have p5:0≤(x7_1:Int):=of_decide_eq_true ze
          have q5:x7_1<(a0.size:Int):=of_decide_eq_true ze
          have hx5:=bt_at a0 x7_1
          replace p5:=eq_true p5
          replace q5:=eq_true q5
          go_wp2
          go_ret
          exact ⟨zf,zk⟩
         ·rw [if_neg c11] at H
          have c11b0:decide (57<(bt a0 x7_1))=false:=decide_eq_false c11
          clear c11
          have H':=Aside0.mk H
          clear H
          have p5:0≤(x7_1:Int):=of_decide_eq_true ze
          have q5:x7_1<(a0.size:Int):=of_decide_eq_true ze
          have hx5:=bt_at a0 x7_1
          replace p5:=eq_true p5
          replace q5:=eq_true q5
          go_wp2
          go_roundg k1
          case measure=>have:=HK1.out;omega
          case rel=>exact ⟨(wrap64 (x7_1+1)),zf,H',⟨zcq⟩,zk⟩
       ·rw [if_neg c9] at H
        have c9b0:decide (122<(bt a0 x7_1))=false:=decide_eq_false c9
        clear c9
        have H':=Aside0.mk H
        clear H
        have p5:0≤(x7_1:Int):=of_decide_eq_true ze
        have q5:x7_1<(a0.size:Int):=of_decide_eq_true ze
        have hx5:=bt_at a0 x7_1
        replace p5:=eq_true p5
        replace q5:=eq_true q5
        go_wp2
        go_roundg k1
        case measure=>have:=HK1.out;omega
        case rel=>exact ⟨(wrap64 (x7_1+1)),zf,H',⟨zcq⟩,zk⟩
     ·rw [if_neg c4] at H
      exact absurd H zbr
    ·rw [if_neg c3] at H
     exact absurd H zbr
   ·rw [if_neg c2] at H
    have c2b0:decide (x7_1<(a0.size:Int))=false:=decide_eq_false c2
    clear c2
    obtain rfl:=Option.some.inj H
    go_wp2
    go_ret
    exact ⟨zf,zk⟩

def impl_IsName.f (k:Nat) (a0:ByteArray):Option (Bool):=if (a0.size:Int)<1 then (some false) else (if (a0.size:Int) > 10 then (some false) else (if 0<(a0.size:Int) then (if (bt a0 0)<97 then (some false) else (if (bt a0 0) > 122 then (some false) else ((impl_onlyNameBytes.f k a0).bind fun t101=>(some t101)))) else (none)))
set_option maxHeartbeats 8000000 in
set_option maxRecDepth 100000 in
theorem impl_IsName.calls (k:Nat) (a0:ByteArray) (r:Bool) (w:World) (h:impl_IsName.f k a0=some r) :
 Calls Tryz.prog 141 #[.string a0] w fun e w'=>e = .returned (.bool r)∧Drawn0 w w':=by
 have H:(if (a0.size:Int)<1 then (some false) else (if (a0.size:Int) > 10 then (some false) else (if 0<(a0.size:Int) then (if (bt a0 0)<97 then (some false) else (if (bt a0 0) > 122 then (some false) else ((impl_onlyNameBytes.f k a0).bind fun t101=>(some t101)))) else (none))))=some r:=h
 clear h
 by_cases c2:(a0.size:Int)<1
 ·rw [if_pos c2] at H
  have c2b0:decide ((a0.size:Int)<1)=true:=decide_eq_true c2
  have c2b1:decide (a0.size<1)=true:=decide_eq_true zbd
  clear c2
  obtain rfl:=Option.some.inj H
  go_enter Tryz.func141,Tryz.ntmps141
  go_wp2
  go_ret
  exact ⟨zf,zk⟩
 ·rw [if_neg c2] at H
  have c2b0:decide ((a0.size:Int)<1)=false:=decide_eq_false c2
  have c2b1:decide (a0.size<1)=false:=decide_eq_false zbd
  clear c2
  by_cases c3:(a0.size:Int) > 10
  ·rw [if_pos c3] at H
   have c3b0:decide (10<(a0.size:Int))=true:=decide_eq_true c3
   have c3b1:decide (10<a0.size)=true:=decide_eq_true zbd
   clear c3
   obtain rfl:=Option.some.inj H
   go_enter Tryz.func141,Tryz.ntmps141
   go_wp2
   go_ret
   exact ⟨zf,zk⟩
  ·rw [if_neg c3] at H
   have c3b0:decide (10<(a0.size:Int))=false:=decide_eq_false c3
   have c3b1:decide (10<a0.size)=false:=decide_eq_false zbd
   clear c3
   by_cases c4:0<(a0.size:Int)
   ·rw [if_pos c4] at H
    have c4b0:decide (0<(a0.size:Int))=true:=decide_eq_true c4
    have c4b1:decide (0<a0.size)=true:=decide_eq_true zbd
    clear c4
    by_cases c6:(bt a0 0)<97
    ·rw [if_pos c6] at H
     have c6b0:decide ((bt a0 0)<97)=true:=decide_eq_true c6
     clear c6
     obtain rfl:=Option.some.inj H
     have p5:0≤(0:Int):=zbd
     have q5:0<a0.size:=(by have:(0:Int)<(a0.size:Int):=of_decide_eq_true ze;omega)
     have hx5:∀h:0<a0.size,((a0[0]'h).toNat:Int)=bt a0 0:=bt_at a0 0
     clear p5
     have qi5:(0<(a0.size:Int))=True:=eq_true (of_decide_eq_true ze)
     replace q5:=eq_true q5
     go_enter Tryz.func141,Tryz.ntmps141
     go_wp2
     go_ret
     exact ⟨zf,zk⟩
    ·rw [if_neg c6] at H
     have c6b0:decide ((bt a0 0)<97)=false:=decide_eq_false c6
     clear c6
     by_cases c8:(bt a0 0) > 122
     ·rw [if_pos c8] at H
      have c8b0:decide (122<(bt a0 0))=true:=decide_eq_true c8
      clear c8
      obtain rfl:=Option.some.inj H
      have p5:0≤(0:Int):=zbd
      have q5:0<a0.size:=(by have:(0:Int)<(a0.size:Int):=of_decide_eq_true ze;omega)
      have hx5:∀h:0<a0.size,((a0[0]'h).toNat:Int)=bt a0 0:=bt_at a0 0
      clear p5
      have qi5:(0<(a0.size:Int))=True:=eq_true (of_decide_eq_true ze)
      replace q5:=eq_true q5
      have p7:0≤(0:Int):=zbd
      have q7:0<a0.size:=(by have:(0:Int)<(a0.size:Int):=of_decide_eq_true ze;omega)
      have hx7:∀h:0<a0.size,((a0[0]'h).toNat:Int)=bt a0 0:=bt_at a0 0
      clear p7
      have qi7:(0<(a0.size:Int))=True:=eq_true (of_decide_eq_true ze)
      replace q7:=eq_true q7
      go_enter Tryz.func141,Tryz.ntmps141
      go_wp2
      go_ret
      exact ⟨zf,zk⟩
     ·rw [if_neg c8] at H
      have c8b0:decide (122<(bt a0 0))=false:=decide_eq_false c8
      clear c8
      replace H:=Option.bind_eq_some_iff.mp H
      obtain ⟨t101,A90,H⟩:=H
      replace H:(some t101)=some r:=H
      have A9:=Aside0.mk A90
      clear A90
      obtain rfl:=Option.some.inj H
      have p5:0≤(0:Int):=zbd
      have q5:0<a0.size:=(by have:(0:Int)<(a0.size:Int):=of_decide_eq_true ze;omega)
      have hx5:∀h:0<a0.size,((a0[0]'h).toNat:Int)=bt a0 0:=bt_at a0 0
      clear p5
      have qi5:(0<(a0.size:Int))=True:=eq_true (of_decide_eq_true ze)
      replace q5:=eq_true q5
      have p7:0≤(0:Int):=zbd
      have q7:0<a0.size:=(by have:(0:Int)<(a0.size:Int):=of_decide_eq_true ze;omega)
      have hx7:∀h:0<a0.size,((a0[0]'h).toNat:Int)=bt a0 0:=bt_at a0 0
      clear p7
      have qi7:(0<(a0.size:Int))=True:=eq_true (of_decide_eq_true ze)
      replace q7:=eq_true q7
      go_enter Tryz.func141,Tryz.ntmps141
      go_wp2_with (first|((with_reducible refine gate_callee (f:=166) rfl ?_);refine goesL_ (some 22) rfl rfl Tryz.func166 zu rfl #[.string a0] rfl zc ?_;(with_reducible refine (impl_onlyNameBytes.calls k a0 t101 _ A9.out).mono ?_);rintro e w' ⟨rfl,⟨nd,rfl⟩⟩;refine ⟨_,rfl,?_⟩))
      go_ret
      exact ⟨zf,zk⟩
   ·rw [if_neg c4] at H
    exact absurd H zbr

def impl_allWithin.p (a1 a2 n:Int):Bool:=!decide (a1≤n) || !decide (n≤a2)
def impl_allWithin.f (l0:List Int) (a1:Int) (a2:Int):Option (Bool):=some (!(l0.any (impl_allWithin.p a1 a2)))
theorem impl_allWithin.within (x lo hi:Int):impl_within.f x lo hi=some (decide (lo≤x)&&decide (x≤hi)):=by
 unfold impl_within.f
 by_cases h:x≥lo
 ·rw [if_pos h];simp [ge_iff_le.1 h]
 ·rw [if_neg h]
  have h':¬ lo≤x:=h
  simp [h']
theorem impl_allWithin.clo (x lo hi:Int) (b1 b2:Nat) (w:World) (h1:w.cell? ⟨b1,0,none⟩=some (.int .i64 lo)) (h2:w.cell? ⟨b2,0,none⟩=some (.int .i64 hi)) :
 Calls Tryz.prog 168 #[.int .i64 x,.pointer (some ⟨b1,0,none⟩),.pointer (some ⟨b2,0,none⟩)] w fun e w'=>e = .returned (.bool (impl_allWithin.p lo hi x))∧Below w.heap.size w w':=by
 go_enter Tryz.func168,Tryz.ntmps168
 go_wp2_with (go_at_call 83;refine (impl_within.calls x lo hi _ _ (impl_allWithin.within x lo hi)).mono ?_;rintro e w' ⟨rfl,⟨nd,rfl⟩⟩)
 go_ret
 exact ⟨rfl,pw_below_drewN (Below.refl _ _) nd⟩
theorem impl_allWithin.below_cell {w W:World} (hb:Below w.heap.size w W) {b:Nat} {v:Value} (h:w.cell? ⟨b,0,none⟩=some v):W.cell? ⟨b,0,none⟩=some v:=(hb.cell (World.block_lt_of_cell? w _ h)).trans h
set_option maxHeartbeats 1600000 in
set_option maxRecDepth 100000 in
theorem impl_allWithin.idx (A0:Option Addr) (c0:Nat) (l0:List Int) (lo hi:Int) (b1 b2:Nat) (w:World) (hr0:Kd.C (Kd.int .i64) w A0 l0.length l0) (h1:w.cell? ⟨b1,0,none⟩=some (.int .i64 lo)) (h2:w.cell? ⟨b2,0,none⟩=some (.int .i64 hi)) :
 Calls Tryz.prog 193 #[.slice A0 l0.length c0,.func (.func 168) #[] #[.pointer (some ⟨b1,0,none⟩),.pointer (some ⟨b2,0,none⟩)]] w fun e w'=>∃n:Int,e = .returned (.int .i64 n)∧(l0.any (impl_allWithin.p lo hi)=decide (0≤n))∧Below w.heap.size w w':=by
 have hlen:l0.length≤9223372036854775807:=hr0.2.1
 have HR:=Aside0.mk hr0
 clear hr0
 have H1:=Aside0.mk h1
 have H2:=Aside0.mk h2
 clear h1 h2
 go_enter Tryz.func193,Tryz.ntmps193
 go_wp2_with fail
 go_loopw [8] (fun i wr=>∃k:Nat,k≤l0.length∧i = .int .i64 k∧Aside0 (∀j,j<k→impl_allWithin.p lo hi (l0.getD j 0)=false)∧Aside0 (Below w.heap.size w wr)) (fun i _=>l0.length - (intOf i).toNat)
 case atStart=>exact ⟨0,Nat.zero_le _,rfl,⟨fun j hj=>by omega⟩,⟨Below.refl _ _⟩⟩
 case round=>
  obtain ⟨k,hk,rfl,HN,HB⟩:=hrel
  by_cases hlt:k<l0.length
  ·obtain ⟨ad,rfl,hx⟩:=Kd.at_int HR.out (k:Int) zbd zbd
   have hx2:wr.cell? (ad.add k)=some (.int .i64 (rd l0 k)):=by
    have:=(HB.out.cell (World.block_lt_of_cell? w _ hx)).trans hx
    simpa using this
   have hg:=(impl_allWithin.clo (rd l0 k) lo hi b1 b2 wr (impl_allWithin.below_cell HB.out H1.out) (impl_allWithin.below_cell HB.out H2.out))
   have HG:=Aside0.mk hg
   have HX:=hx2
   clear hg hx hx2
   cases hp:impl_allWithin.p lo hi (rd l0 k) with
   | true=>
    rw [hp] at HG
    have HP:=Aside0.mk hp
    clear hp
    go_wp2_with (go_at_call 168;refine HG.out.mono ?_;rintro e w1 ⟨rfl,hb⟩;have HB1:=Aside0.mk (below_step HB.out hb);clear hb)
    go_ret
    refine ⟨k,rfl,?_,HB1.out⟩
    rw [decide_eq_true zbd,List.any_eq_true]
    refine ⟨rd l0 k,?_,HP.out⟩
    have e:rd l0 (k:Int)=l0[k]:=by simp [rd,List.getD_eq_getElem?_getD,List.getElem?_eq_getElem hlt]
    rw [e];exact List.getElem_mem hlt
   | false=>
    rw [hp] at HG
    have HP:=Aside0.mk hp
    clear hp
    go_wp2_with (go_at_call 168;refine HG.out.mono ?_;rintro e w1 ⟨rfl,hb⟩;have HB1:=Aside0.mk (below_step HB.out hb);clear hb)
    go_roundw
    case rel=>
     refine ⟨k+1,zbd,by go_num,⟨fun j hj=>?_⟩,HB1⟩
     by_cases hjk:j<k
     ·exact HN.out j hjk
     ·obtain rfl:j=k:=by omega
      have:=HP.out
      simpa [rd] using this
    case measure=>simp [intOf];omega
  ·have hkl:k=l0.length:=by omega
   clear hlt
   have HN':=HN
   go_wp2_with fail
   go_ret
   refine ⟨-1,rfl,?_,HB.out⟩
   rw [decide_eq_false zbd,List.any_eq_false]
   intro x hx
   obtain ⟨j,hj,rfl⟩:=List.getElem_of_mem hx
   have:=HN'.out j zbd
   rw [List.getD_eq_getElem?_getD,List.getElem?_eq_getElem hj] at this
   simpa using this
theorem impl_allWithin.has (A0:Option Addr) (c0:Nat) (l0:List Int) (lo hi:Int) (b1 b2:Nat) (w:World) (hr0:Kd.C (Kd.int .i64) w A0 l0.length l0) (h1:w.cell? ⟨b1,0,none⟩=some (.int .i64 lo)) (h2:w.cell? ⟨b2,0,none⟩=some (.int .i64 hi)) :
 Calls Tryz.prog 167 #[.slice A0 l0.length c0,.func (.func 168) #[] #[.pointer (some ⟨b1,0,none⟩),.pointer (some ⟨b2,0,none⟩)]] w fun e w'=>e = .returned (.bool (l0.any (impl_allWithin.p lo hi)))∧Below w.heap.size w w':=by
 have HC:=Aside0.mk (impl_allWithin.idx A0 c0 l0 lo hi b1 b2 w hr0 h1 h2)
 clear hr0 h1 h2
 go_enter Tryz.func167,Tryz.ntmps167
 go_wp2_with (go_at_call 193;refine HC.out.mono ?_;rintro e w1 ⟨n,rfl,hn,hb⟩;have HB:=Aside0.mk hb;have HN:=Aside0.mk hn;clear hb hn)
 go_ret
 exact ⟨by rw [HN.out];rfl,HB.out⟩
theorem impl_allWithin.calls (A0:Option Addr) (c0:Nat) (l0:List Int) (a1:Int) (a2:Int) (r:Bool) (w:World) (hr0:Kd.C (Kd.int .i64) w A0 l0.length l0) (hc0:l0.length≤c0) (h:impl_allWithin.f l0 a1 a2=some r) :
 Calls Tryz.prog 142 #[.slice A0 l0.length c0,.int .i64 a1,.int .i64 a2] w fun e w'=>e = .returned (.bool r)∧Below w.heap.size w w':=by
 obtain rfl:=Option.some.inj h
 have hmf:∀(fn:Fn) (first cap:Array Value) (w:World),(Instr.makeFunc fn first cap).run Tryz.prog w = .ok (.func fn first cap) w:=fun _ _ _ _=>rfl
 have hb2:Below w.heap.size w ((w.alloc (.cells #[.int .i64 a1] 2)).alloc (.cells #[.int .i64 a2] 2)):=((Below.refl _ _).alloc (Nat.le_refl _) _).alloc zbr _
 have HC:=Aside0.mk (impl_allWithin.has A0 c0 l0 a1 a2 w.heap.size (w.heap.size+1) ((w.alloc (.cells #[.int .i64 a1] 2)).alloc (.cells #[.int .i64 a2] 2)) (Kd.C_below hr0 hb2)
  (by rw [World.cell?_alloc_past _ _ _ zbr,World.cell?_alloc_at _ _ _ _ rfl];rfl) (by rw [World.cell?_alloc_at _ _ _ _ zbr];rfl))
 clear hr0 hc0 h
 go_enter Tryz.func142,Tryz.ntmps142
 go_wp2_with (go_at_call 167;refine HC.out.mono ?_;rintro e w1 ⟨rfl,hb⟩;have HB:=Aside0.mk (below_then hb2 (by simp;omega) hb);clear hb)
 go_ret
 exact ⟨rfl,HB.out⟩

def impl_sumOf.l0:Nat→Int→List Int→Int→Int→Option (Int)
 | 0,_,_,_,_=>none
 | k+1,x3,x6,x7,x8=>if x8<x7 then (if 0≤x8 then (if x8<(x6.length:Int) then (impl_sumOf.l0 k (wrap64 (x3+(rd x6 x8))) x6 x7 (wrap64 (x8+1))) else (none)) else (none)) else (some x3)
def impl_sumOf.f (k:Nat) (l0:List Int):Option (Int):=impl_sumOf.l0 k 0 l0 (l0.length:Int) 0
set_option maxHeartbeats 8000000 in
set_option maxRecDepth 100000 in
theorem impl_sumOf.calls (k:Nat) (A0:Option Addr) (c0:Nat) (l0:List Int) (r:Int) (w:World) (hr0:Kd.C (Kd.int .i64) w A0 l0.length l0) (hc0:l0.length≤c0) (h:impl_sumOf.f k l0=some r) :
 Calls Tryz.prog 169 #[.slice A0 l0.length c0] w fun e w'=>e = .returned (.int .i64 r)∧Drawn0 w w':=by
 have HR0:=Aside0.mk hr0
 have HC0:=Aside0.mk hc0
 clear hr0 hc0
 have H:(impl_sumOf.l0 k 0 l0 (l0.length:Int) 0)=some r:=h
 clear h
 have H':=Aside0.mk H
 clear H
 go_enter Tryz.func169,Tryz.ntmps169
 go_wp2
 go_loopg [3,8] k (fun kq v3 v8 w'=>∃(x3_1:Int) (x8_1:Int),v3 = .int .i64 x3_1∧v8 = .int .i64 x8_1∧Aside0 (impl_sumOf.l0 kq x3_1 l0 (l0.length:Int) x8_1=some r)∧Aside0 (kq≤k)∧Drawn0 w w')
 case atStart=>exact ⟨(0),(0),zf,zf,H',⟨Nat.le_refl _⟩,zk⟩
 case round=>
  clear H'
  try clear c1
  obtain ⟨x3_1,x8_1,rfl,rfl,HA,HK1,⟨m1,rfl⟩⟩:=hrel
  cases gk with
  | zero=>exact absurd HA.out (by simp [impl_sumOf.l0])
  | succ k1=>
   have H:=HA.out
   clear HA
   simp only [impl_sumOf.l0] at H
   by_cases c2:x8_1<(l0.length:Int)
   ·rw [if_pos c2] at H
    have c2b0:decide (x8_1<(l0.length:Int))=true:=decide_eq_true c2
    clear c2
    by_cases c3:0≤x8_1
    ·rw [if_pos c3] at H
     have c3b0:decide (0≤x8_1)=true:=decide_eq_true c3
     clear c3
     by_cases c4:x8_1<(l0.length:Int)
     ·rw [if_pos c4] at H
      have c4b0:decide (x8_1<(l0.length:Int))=true:=decide_eq_true c4
      clear c4
      have H':=Aside0.mk H
      clear H
      have p101:0≤(x8_1:Int):=of_decide_eq_true ze
      have q101:x8_1<(l0.length:Int):=of_decide_eq_true ze
      obtain ⟨ad101,e101,hx101_0⟩:=Kd.at_int HR0.out x8_1 p101 q101
      cases e101
      replace p101:=eq_true p101
      replace q101:=eq_true q101
      go_wp2
      go_roundg k1
      case measure=>have:=HK1.out;omega
      case rel=>exact ⟨(wrap64 (x3_1+(rd l0 x8_1))),(wrap64 (x8_1+1)),zf,zf,H',⟨zcq⟩,zk⟩
     ·rw [if_neg c4] at H
      exact absurd H zbr
    ·rw [if_neg c3] at H
     exact absurd H zbr
   ·rw [if_neg c2] at H
    have c2b0:decide (x8_1<(l0.length:Int))=false:=decide_eq_false c2
    clear c2
    obtain rfl:=Option.some.inj H
    go_wp2
    go_ret
    exact ⟨zf,zk⟩

def impl_Tala_beats.f (k:Nat) (a0_0:ByteArray) (l0_1:List Int) (l0_2:List Int):Option (Int):=(impl_sumOf.f k l0_1).bind fun t102=>(some t102)
set_option maxHeartbeats 8000000 in
set_option maxRecDepth 100000 in
theorem impl_Tala_beats.calls (k:Nat) (a0_0:ByteArray) (A0_1:Option Addr) (c0_1:Nat) (l0_1:List Int) (A0_2:Option Addr) (c0_2:Nat) (l0_2:List Int) (r:Int) (w:World) (hr0_1:Kd.C (Kd.int .i64) w A0_1 l0_1.length l0_1) (hc0_1:l0_1.length≤c0_1) (hr0_2:Kd.C (Kd.int .i64) w A0_2 l0_2.length l0_2) (hc0_2:l0_2.length≤c0_2) (h:impl_Tala_beats.f k a0_0 l0_1 l0_2=some r) :
 Calls Tryz.prog 143 #[.agg #[.string a0_0,.slice A0_1 l0_1.length c0_1,.slice A0_2 l0_2.length c0_2]] w fun e w'=>e = .returned (.int .i64 r)∧Below w.heap.size w w':=by
 have hu50:=Tryz.underlying50
 have HR0_1:=Aside0.mk hr0_1
 have HC0_1:=Aside0.mk hc0_1
 clear hr0_1 hc0_1
 have HR0_2:=Aside0.mk hr0_2
 have HC0_2:=Aside0.mk hc0_2
 clear hr0_2 hc0_2
 have HB:=Aside0.mk (Below.refl w.heap.size w)
 have H:((impl_sumOf.f k l0_1).bind fun t102=>(some t102))=some r:=h
 clear h
 replace H:=Option.bind_eq_some_iff.mp H
 obtain ⟨t102,A20,H⟩:=H
 replace H:(some t102)=some r:=H
 have A2:=Aside0.mk A20
 clear A20
 obtain rfl:=Option.some.inj H
 go_enter Tryz.func143,Tryz.ntmps143
 go_wp2_with (first|((with_reducible refine gate_dst (N:=1) rfl ?_);refine box_event ?hg (N:=1) ?hd (cs:=#[.string a0_0,.slice A0_1 l0_1.length c0_1,.slice A0_2 l0_2.length c0_2]) (t:=50) ?hr ?_;(case hd=>rfl);(case hg=>rfl);(case hr=>exact zo);intro gb101 hg w3 hbox hb;have n0_:=Aside0.mk (below_step za hb);have n1_:=Aside0.mk (hbox);have n2_:=Aside0.mk ((by rw [hg];exact (below_size za):w.heap.size≤gb101));have n3_:=Aside0.mk ((by rw [hg];exact (below_size za):w.heap.size≤gb101));clear HB;have HB:=n0_;have BK101:=n1_;have GW101:=n2_;have GE101:=n3_;clear n0_ n1_ n2_ n3_;clear hb hbox hg;have hcz4_0:w3.cell? ⟨gb101,0,none⟩=some (.string a0_0):=(blk_cell BK101.out 0).trans rfl;have hcz4_1:w3.cell? ⟨gb101,1,none⟩=some (.slice A0_1 l0_1.length c0_1):=(blk_cell BK101.out 1).trans rfl;have hcz4_2:w3.cell? ⟨gb101,2,none⟩=some (.slice A0_2 l0_2.length c0_2):=(blk_cell BK101.out 2).trans rfl;have hfz4_0:=blk_frozen BK101.out 0;have hfz4_1:=blk_frozen BK101.out 1;have hfz4_2:=blk_frozen BK101.out 2)|((with_reducible refine gate_callee (f:=169) rfl ?_);refine goesL_ (some 5) rfl rfl Tryz.func169 zu rfl #[.slice A0_1 l0_1.length c0_1] rfl zc ?_;(with_reducible refine (impl_sumOf.calls k _ _ l0_1 t102 _ ?side1 ?side2 A2.out).mono ?_);(case side1=>exact zaf);(case side2=>exact HC0_1.out);rintro e w' ⟨rfl,⟨nd,rfl⟩⟩;refine ⟨_,rfl,?_⟩))
 go_ret
 exact ⟨zg,zb⟩

def impl_ValidTala.f (k:Nat) (a0_0:ByteArray) (l0_1:List Int) (l0_2:List Int):Option (Bool):=(impl_IsName.f k a0_0).bind fun t102=>(if t102=true then (if (l0_1.length:Int)<1 then (some false) else (if (l0_1.length:Int) > 8 then (some false) else ((impl_allWithin.f l0_1 1 16).bind fun t103=>(if t103=true then ((impl_Tala_beats.f k a0_0 l0_1 l0_2).bind fun t104=>(if t104 > 32 then (some false) else (if (l0_2.length:Int)=(l0_1.length:Int) then (if 0<(l0_2.length:Int) then (if (rd l0_2 0)=1 then (if 1≤(l0_2.length:Int) then ((impl_allWithin.f (l0_2.drop 1) 2 3).bind fun t107=>(some t107)) else (none)) else (some false)) else (none)) else (some false)))) else (some false))))) else (some false))
set_option maxHeartbeats 8000000 in
set_option maxRecDepth 100000 in
theorem impl_ValidTala.calls (k:Nat) (a0_0:ByteArray) (A0_1:Option Addr) (c0_1:Nat) (l0_1:List Int) (A0_2:Option Addr) (c0_2:Nat) (l0_2:List Int) (r:Bool) (w:World) (hr0_1:Kd.C (Kd.int .i64) w A0_1 l0_1.length l0_1) (hc0_1:l0_1.length≤c0_1) (hr0_2:Kd.C (Kd.int .i64) w A0_2 l0_2.length l0_2) (hc0_2:l0_2.length≤c0_2) (h:impl_ValidTala.f k a0_0 l0_1 l0_2=some r) :
 Calls Tryz.prog 110 #[.agg #[.string a0_0,.slice A0_1 l0_1.length c0_1,.slice A0_2 l0_2.length c0_2]] w fun e w'=>e = .returned (.bool r)∧Below w.heap.size w w':=by
 have hu50:=Tryz.underlying50
 have HR0_1:=Aside0.mk hr0_1
 have HC0_1:=Aside0.mk hc0_1
 clear hr0_1 hc0_1
 have HR0_2:=Aside0.mk hr0_2
 have HC0_2:=Aside0.mk hc0_2
 clear hr0_2 hc0_2
 have HB:=Aside0.mk (Below.refl w.heap.size w)
 have H:((impl_IsName.f k a0_0).bind fun t102=>(if t102=true then (if (l0_1.length:Int)<1 then (some false) else (if (l0_1.length:Int) > 8 then (some false) else ((impl_allWithin.f l0_1 1 16).bind fun t103=>(if t103=true then ((impl_Tala_beats.f k a0_0 l0_1 l0_2).bind fun t104=>(if t104 > 32 then (some false) else (if (l0_2.length:Int)=(l0_1.length:Int) then (if 0<(l0_2.length:Int) then (if (rd l0_2 0)=1 then (if 1≤(l0_2.length:Int) then ((impl_allWithin.f (l0_2.drop 1) 2 3).bind fun t107=>(some t107)) else (none)) else (some false)) else (none)) else (some false)))) else (some false))))) else (some false)))=some r:=h
 clear h
 replace H:=Option.bind_eq_some_iff.mp H
 obtain ⟨t102,A20,H⟩:=H
 replace H:(if t102=true then (if (l0_1.length:Int)<1 then (some false) else (if (l0_1.length:Int) > 8 then (some false) else ((impl_allWithin.f l0_1 1 16).bind fun t103=>(if t103=true then ((impl_Tala_beats.f k a0_0 l0_1 l0_2).bind fun t104=>(if t104 > 32 then (some false) else (if (l0_2.length:Int)=(l0_1.length:Int) then (if 0<(l0_2.length:Int) then (if (rd l0_2 0)=1 then (if 1≤(l0_2.length:Int) then ((impl_allWithin.f (l0_2.drop 1) 2 3).bind fun t107=>(some t107)) else (none)) else (some false)) else (none)) else (some false)))) else (some false))))) else (some false))=some r:=H
 have A2:=Aside0.mk A20
 clear A20
 by_cases c3:t102=true
 ·subst c3
  have H1:(if (l0_1.length:Int)<1 then (some false) else (if (l0_1.length:Int) > 8 then (some false) else ((impl_allWithin.f l0_1 1 16).bind fun t103=>(if t103=true then ((impl_Tala_beats.f k a0_0 l0_1 l0_2).bind fun t104=>(if t104 > 32 then (some false) else (if (l0_2.length:Int)=(l0_1.length:Int) then (if 0<(l0_2.length:Int) then (if (rd l0_2 0)=1 then (if 1≤(l0_2.length:Int) then ((impl_allWithin.f (l0_2.drop 1) 2 3).bind fun t107=>(some t107)) else (none)) else (some false)) else (none)) else (some false)))) else (some false)))))=some r:=by rw [if_pos rfl] at H;exact H
  clear H
  have H:=H1
  clear H1
  by_cases c4:(l0_1.length:Int)<1
  ·rw [if_pos c4] at H
   have c4b0:decide ((l0_1.length:Int)<1)=true:=decide_eq_true c4
   have c4b1:decide (l0_1.length<1)=true:=decide_eq_true zbd
   clear c4
   obtain rfl:=Option.some.inj H
   go_enter Tryz.func110,Tryz.ntmps110
   go_wp2_with (first|((with_reducible refine gate_dst (N:=1) rfl ?_);refine box_event ?hg (N:=1) ?hd (cs:=#[.string a0_0,.slice A0_1 l0_1.length c0_1,.slice A0_2 l0_2.length c0_2]) (t:=50) ?hr ?_;(case hd=>rfl);(case hg=>rfl);(case hr=>exact zo);intro gb101 hg w5 hbox hb;have n0_:=Aside0.mk (below_step za hb);have n1_:=Aside0.mk (hbox);have n2_:=Aside0.mk ((by rw [hg];exact (below_size za):w.heap.size≤gb101));have n3_:=Aside0.mk ((by rw [hg];exact (below_size za):w.heap.size≤gb101));clear HB;have HB:=n0_;have BK101:=n1_;have GW101:=n2_;have GE101:=n3_;clear n0_ n1_ n2_ n3_;clear hb hbox hg;have hcz6_0:w5.cell? ⟨gb101,0,none⟩=some (.string a0_0):=(blk_cell BK101.out 0).trans rfl;have hcz6_1:w5.cell? ⟨gb101,1,none⟩=some (.slice A0_1 l0_1.length c0_1):=(blk_cell BK101.out 1).trans rfl;have hcz6_2:w5.cell? ⟨gb101,2,none⟩=some (.slice A0_2 l0_2.length c0_2):=(blk_cell BK101.out 2).trans rfl;have hfz6_0:=blk_frozen BK101.out 0;have hfz6_1:=blk_frozen BK101.out 1;have hfz6_2:=blk_frozen BK101.out 2)|((with_reducible refine gate_callee (f:=141) rfl ?_);refine goesL_ (some 5) rfl rfl Tryz.func141 zu rfl #[.string a0_0] rfl zc ?_;(with_reducible refine (impl_IsName.calls k a0_0 true _ A2.out).mono ?_);rintro e w' ⟨rfl,⟨nd,rfl⟩⟩;refine ⟨_,rfl,?_⟩))
   go_ret
   exact ⟨zg,zb⟩
  ·rw [if_neg c4] at H
   have c4b0:decide ((l0_1.length:Int)<1)=false:=decide_eq_false c4
   have c4b1:decide (l0_1.length<1)=false:=decide_eq_false zbd
   clear c4
   by_cases c7:(l0_1.length:Int) > 8
   ·rw [if_pos c7] at H
    have c7b0:decide (8<(l0_1.length:Int))=true:=decide_eq_true c7
    have c7b1:decide (8<l0_1.length)=true:=decide_eq_true zbd
    clear c7
    obtain rfl:=Option.some.inj H
    go_enter Tryz.func110,Tryz.ntmps110
    go_wp2_with (first|((with_reducible refine gate_dst (N:=1) rfl ?_);refine box_event ?hg (N:=1) ?hd (cs:=#[.string a0_0,.slice A0_1 l0_1.length c0_1,.slice A0_2 l0_2.length c0_2]) (t:=50) ?hr ?_;(case hd=>rfl);(case hg=>rfl);(case hr=>exact zo);intro gb101 hg w8 hbox hb;have n0_:=Aside0.mk (below_step za hb);have n1_:=Aside0.mk (hbox);have n2_:=Aside0.mk ((by rw [hg];exact (below_size za):w.heap.size≤gb101));have n3_:=Aside0.mk ((by rw [hg];exact (below_size za):w.heap.size≤gb101));clear HB;have HB:=n0_;have BK101:=n1_;have GW101:=n2_;have GE101:=n3_;clear n0_ n1_ n2_ n3_;clear hb hbox hg;have hcz9_0:w8.cell? ⟨gb101,0,none⟩=some (.string a0_0):=(blk_cell BK101.out 0).trans rfl;have hcz9_1:w8.cell? ⟨gb101,1,none⟩=some (.slice A0_1 l0_1.length c0_1):=(blk_cell BK101.out 1).trans rfl;have hcz9_2:w8.cell? ⟨gb101,2,none⟩=some (.slice A0_2 l0_2.length c0_2):=(blk_cell BK101.out 2).trans rfl;have hfz9_0:=blk_frozen BK101.out 0;have hfz9_1:=blk_frozen BK101.out 1;have hfz9_2:=blk_frozen BK101.out 2)|((with_reducible refine gate_callee (f:=141) rfl ?_);refine goesL_ (some 5) rfl rfl Tryz.func141 zu rfl #[.string a0_0] rfl zc ?_;(with_reducible refine (impl_IsName.calls k a0_0 true _ A2.out).mono ?_);rintro e w' ⟨rfl,⟨nd,rfl⟩⟩;refine ⟨_,rfl,?_⟩))
    go_ret
    exact ⟨zg,zb⟩
   ·rw [if_neg c7] at H
    have c7b0:decide (8<(l0_1.length:Int))=false:=decide_eq_false c7
    have c7b1:decide (8<l0_1.length)=false:=decide_eq_false zbd
    clear c7
    replace H:=Option.bind_eq_some_iff.mp H
    obtain ⟨t103,A100,H⟩:=H
    replace H:(if t103=true then ((impl_Tala_beats.f k a0_0 l0_1 l0_2).bind fun t104=>(if t104 > 32 then (some false) else (if (l0_2.length:Int)=(l0_1.length:Int) then (if 0<(l0_2.length:Int) then (if (rd l0_2 0)=1 then (if 1≤(l0_2.length:Int) then ((impl_allWithin.f (l0_2.drop 1) 2 3).bind fun t107=>(some t107)) else (none)) else (some false)) else (none)) else (some false)))) else (some false))=some r:=H
    have A10:=Aside0.mk A100
    clear A100
    by_cases c11:t103=true
    ·subst c11
     have H1:((impl_Tala_beats.f k a0_0 l0_1 l0_2).bind fun t104=>(if t104 > 32 then (some false) else (if (l0_2.length:Int)=(l0_1.length:Int) then (if 0<(l0_2.length:Int) then (if (rd l0_2 0)=1 then (if 1≤(l0_2.length:Int) then ((impl_allWithin.f (l0_2.drop 1) 2 3).bind fun t107=>(some t107)) else (none)) else (some false)) else (none)) else (some false))))=some r:=by rw [if_pos rfl] at H;exact H
     clear H
     have H:=H1
     clear H1
     replace H:=Option.bind_eq_some_iff.mp H
     obtain ⟨t104,A120,H⟩:=H
     replace H:(if t104 > 32 then (some false) else (if (l0_2.length:Int)=(l0_1.length:Int) then (if 0<(l0_2.length:Int) then (if (rd l0_2 0)=1 then (if 1≤(l0_2.length:Int) then ((impl_allWithin.f (l0_2.drop 1) 2 3).bind fun t107=>(some t107)) else (none)) else (some false)) else (none)) else (some false)))=some r:=H
     have A12:=Aside0.mk A120
     clear A120
     by_cases c13:t104 > 32
     ·rw [if_pos c13] at H
      have c13b0:decide (32<t104)=true:=decide_eq_true c13
      clear c13
      obtain rfl:=Option.some.inj H
      go_enter Tryz.func110,Tryz.ntmps110
      go_wp2_with (first|((with_reducible refine gate_dst (N:=1) rfl ?_);refine box_event ?hg (N:=1) ?hd (cs:=#[.string a0_0,.slice A0_1 l0_1.length c0_1,.slice A0_2 l0_2.length c0_2]) (t:=50) ?hr ?_;(case hd=>rfl);(case hg=>rfl);(case hr=>exact zo);intro gb101 hg w14 hbox hb;have n0_:=Aside0.mk (below_step za hb);have n1_:=Aside0.mk (hbox);have n2_:=Aside0.mk ((by rw [hg];exact (below_size za):w.heap.size≤gb101));have n3_:=Aside0.mk ((by rw [hg];exact (below_size za):w.heap.size≤gb101));clear HB;have HB:=n0_;have BK101:=n1_;have GW101:=n2_;have GE101:=n3_;clear n0_ n1_ n2_ n3_;clear hb hbox hg;have hcz15_0:w14.cell? ⟨gb101,0,none⟩=some (.string a0_0):=(blk_cell BK101.out 0).trans rfl;have hcz15_1:w14.cell? ⟨gb101,1,none⟩=some (.slice A0_1 l0_1.length c0_1):=(blk_cell BK101.out 1).trans rfl;have hcz15_2:w14.cell? ⟨gb101,2,none⟩=some (.slice A0_2 l0_2.length c0_2):=(blk_cell BK101.out 2).trans rfl;have hfz15_0:=blk_frozen BK101.out 0;have hfz15_1:=blk_frozen BK101.out 1;have hfz15_2:=blk_frozen BK101.out 2)|((with_reducible refine gate_callee (f:=141) rfl ?_);refine goesL_ (some 5) rfl rfl Tryz.func141 zu rfl #[.string a0_0] rfl zc ?_;(with_reducible refine (impl_IsName.calls k a0_0 true _ A2.out).mono ?_);rintro e w' ⟨rfl,⟨nd,rfl⟩⟩;refine ⟨_,rfl,?_⟩)|(go_at_call 142;(with_reducible refine (impl_allWithin.calls _ _ l0_1 1 16 true _ ?side1 ?side2 A10.out).mono ?_);(case side1=>repeat (first|exact (Kd.C_below HR0_1.out zb)|(with_reducible refine Kd.C_alloc ?_ _)|(with_reducible refine Kd.C_drewN ?_ _)|(with_reducible refine Kd.C_drew ?_)));(case side2=>exact HC0_1.out);rintro e w16 ⟨rfl,hb⟩;replace BK101:=Aside0.mk (blk_below (g:=gb101) (o:=.cells #[.string a0_0,.slice A0_1 l0_1.length c0_1,.slice A0_2 l0_2.length c0_2] 50 (0,0)) zd hb);replace HB:=Aside0.mk (below_step zb hb);(try clear hb);(try clear hb2);(try clear hk);(try clear hi);have hcz17_0:w16.cell? ⟨gb101,0,none⟩=some (.string a0_0):=(blk_cell BK101.out 0).trans rfl;have hcz17_1:w16.cell? ⟨gb101,1,none⟩=some (.slice A0_1 l0_1.length c0_1):=(blk_cell BK101.out 1).trans rfl;have hcz17_2:w16.cell? ⟨gb101,2,none⟩=some (.slice A0_2 l0_2.length c0_2):=(blk_cell BK101.out 2).trans rfl;have hfz17_0:=blk_frozen BK101.out 0;have hfz17_1:=blk_frozen BK101.out 1;have hfz17_2:=blk_frozen BK101.out 2)|(go_at_call 143;(with_reducible refine (impl_Tala_beats.calls k a0_0 _ _ l0_1 _ _ l0_2 t104 _ ?side1 ?side2 ?side3 ?side4 A12.out).mono ?_);(case side1=>exact zaf);(case side2=>exact HC0_1.out);(case side3=>exact zcd);(case side4=>exact HC0_2.out);rintro e w18 ⟨rfl,hb⟩;replace BK101:=Aside0.mk (blk_below (g:=gb101) (o:=.cells #[.string a0_0,.slice A0_1 l0_1.length c0_1,.slice A0_2 l0_2.length c0_2] 50 (0,0)) zd hb);replace HB:=Aside0.mk (below_step zb hb);(try clear hb);(try clear hb2);(try clear hk);(try clear hi)))
      go_ret
      exact ⟨zg,zb⟩
     ·rw [if_neg c13] at H
      have c13b0:decide (32<t104)=false:=decide_eq_false c13
      clear c13
      by_cases c19:(l0_2.length:Int)=(l0_1.length:Int)
      ·rw [if_pos c19] at H
       have c19b0:((l0_2.length:Int) == (l0_1.length:Int))=true:=beq_iff_eq.mpr c19
       have c19b1:((l0_2.length:Int) != (l0_1.length:Int))=false:=bne_eq_false_iff_eq.mpr c19
       have c19b2:(l0_2.length == l0_1.length)=true:=by first|simpa using c19|(simp at c19 ⊢;omega)
       clear c19
       by_cases c20:0<(l0_2.length:Int)
       ·rw [if_pos c20] at H
        have c20b0:decide (0<(l0_2.length:Int))=true:=decide_eq_true c20
        have c20b1:decide (0<l0_2.length)=true:=decide_eq_true zbd
        clear c20
        by_cases c21:(rd l0_2 0)=1
        ·rw [if_pos c21] at H
         have c21b0:((rd l0_2 0) == 1)=true:=beq_iff_eq.mpr c21
         have c21b1:((rd l0_2 0) != 1)=false:=bne_eq_false_iff_eq.mpr c21
         clear c21
         by_cases c22:1≤(l0_2.length:Int)
         ·rw [if_pos c22] at H
          have c22b0:=eq_true c22
          have c22b1:decide (1≤(l0_2.length:Int))=true:=decide_eq_true c22
          clear c22
          replace H:=Option.bind_eq_some_iff.mp H
          obtain ⟨t107,A230,H⟩:=H
          replace H:(some t107)=some r:=H
          have A23:=Aside0.mk A230
          clear A230
          obtain rfl:=Option.some.inj H
          go_enter Tryz.func110,Tryz.ntmps110
          go_wp2_with (first|((with_reducible refine gate_dst (N:=1) rfl ?_);refine box_event ?hg (N:=1) ?hd (cs:=#[.string a0_0,.slice A0_1 l0_1.length c0_1,.slice A0_2 l0_2.length c0_2]) (t:=50) ?hr ?_;(case hd=>rfl);(case hg=>rfl);(case hr=>exact zo);intro gb101 hg w24 hbox hb;have n0_:=Aside0.mk (below_step za hb);have n1_:=Aside0.mk (hbox);have n2_:=Aside0.mk ((by rw [hg];exact (below_size za):w.heap.size≤gb101));have n3_:=Aside0.mk ((by rw [hg];exact (below_size za):w.heap.size≤gb101));clear HB;have HB:=n0_;have BK101:=n1_;have GW101:=n2_;have GE101:=n3_;clear n0_ n1_ n2_ n3_;clear hb hbox hg;have hcz25_0:w24.cell? ⟨gb101,0,none⟩=some (.string a0_0):=(blk_cell BK101.out 0).trans rfl;have hcz25_1:w24.cell? ⟨gb101,1,none⟩=some (.slice A0_1 l0_1.length c0_1):=(blk_cell BK101.out 1).trans rfl;have hcz25_2:w24.cell? ⟨gb101,2,none⟩=some (.slice A0_2 l0_2.length c0_2):=(blk_cell BK101.out 2).trans rfl;have hfz25_0:=blk_frozen BK101.out 0;have hfz25_1:=blk_frozen BK101.out 1;have hfz25_2:=blk_frozen BK101.out 2)|((with_reducible refine gate_callee (f:=141) rfl ?_);refine goesL_ (some 5) rfl rfl Tryz.func141 zu rfl #[.string a0_0] rfl zc ?_;(with_reducible refine (impl_IsName.calls k a0_0 true _ A2.out).mono ?_);rintro e w' ⟨rfl,⟨nd,rfl⟩⟩;refine ⟨_,rfl,?_⟩)|(go_at_call 142;(with_reducible refine (impl_allWithin.calls _ _ l0_1 1 16 true _ ?side1 ?side2 A10.out).mono ?_);(case side1=>repeat (first|exact (Kd.C_below HR0_1.out zb)|(with_reducible refine Kd.C_alloc ?_ _)|(with_reducible refine Kd.C_drewN ?_ _)|(with_reducible refine Kd.C_drew ?_)));(case side2=>exact HC0_1.out);rintro e w26 ⟨rfl,hb⟩;replace BK101:=Aside0.mk (blk_below (g:=gb101) (o:=.cells #[.string a0_0,.slice A0_1 l0_1.length c0_1,.slice A0_2 l0_2.length c0_2] 50 (0,0)) zd hb);replace HB:=Aside0.mk (below_step zb hb);(try clear hb);(try clear hb2);(try clear hk);(try clear hi);have hcz27_0:w26.cell? ⟨gb101,0,none⟩=some (.string a0_0):=(blk_cell BK101.out 0).trans rfl;have hcz27_1:w26.cell? ⟨gb101,1,none⟩=some (.slice A0_1 l0_1.length c0_1):=(blk_cell BK101.out 1).trans rfl;have hcz27_2:w26.cell? ⟨gb101,2,none⟩=some (.slice A0_2 l0_2.length c0_2):=(blk_cell BK101.out 2).trans rfl;have hfz27_0:=blk_frozen BK101.out 0;have hfz27_1:=blk_frozen BK101.out 1;have hfz27_2:=blk_frozen BK101.out 2)|(go_at_call 143;(with_reducible refine (impl_Tala_beats.calls k a0_0 _ _ l0_1 _ _ l0_2 t104 _ ?side1 ?side2 ?side3 ?side4 A12.out).mono ?_);(case side1=>exact zaf);(case side2=>exact HC0_1.out);(case side3=>exact zcd);(case side4=>exact HC0_2.out);rintro e w28 ⟨rfl,hb⟩;replace BK101:=Aside0.mk (blk_below (g:=gb101) (o:=.cells #[.string a0_0,.slice A0_1 l0_1.length c0_1,.slice A0_2 l0_2.length c0_2] 50 (0,0)) zd hb);replace HB:=Aside0.mk (below_step zb hb);(try clear hb);(try clear hb2);(try clear hk);(try clear hi);have hcz29_0:w28.cell? ⟨gb101,0,none⟩=some (.string a0_0):=(blk_cell BK101.out 0).trans rfl;have hcz29_1:w28.cell? ⟨gb101,1,none⟩=some (.slice A0_1 l0_1.length c0_1):=(blk_cell BK101.out 1).trans rfl;have hcz29_2:w28.cell? ⟨gb101,2,none⟩=some (.slice A0_2 l0_2.length c0_2):=(blk_cell BK101.out 2).trans rfl;have hfz29_0:=blk_frozen BK101.out 0;have hfz29_1:=blk_frozen BK101.out 1;have hfz29_2:=blk_frozen BK101.out 2;have p105:0≤(0:Int):=zbd;have q105:0<(l0_2.length:Int):=of_decide_eq_true ze;obtain ⟨ad105,e105,hx105_0⟩:=Kd.at_int HR0_2.out 0 p105 q105;cases e105;have qi105:(0<l0_2.length)=True:=eq_true zbd;(try rw [show ((0:Int)).toNat=0 from rfl] at hx105_0);(try rw [Addr.add_zero'] at hx105_0);replace hx105_0:=(HB.out.cell (World.block_lt_of_cell? w _ hx105_0)).trans hx105_0;replace p105:=eq_true p105;replace q105:=eq_true q105;obtain ⟨i030,hi030,_,hsz30,_⟩:=info_parts info2;obtain ⟨A30,hcut30,hA30,hC30⟩:=print_drop_of (P:=Tryz.prog) (Value.int .i64) 0 37 2 .i64 Tryz.underlying37 hi030 hsz30 (some ad105) c0_2 l0_2 1 zbd (of_decide_eq_true ze) HC0_2.out;have HR106:=Aside0.mk (Kd.C_of_reads (h1:=fun _=>rfl) (hA30 _ (Kd.reads_of_C HR0_2.out)));have HC106:=Aside0.mk hC30;clear hA30 hC30 hi030 hsz30)|(go_at_call 142;refine calls_of_args (args':=#[.slice A30 (l0_2.drop 1).length (c0_2 - 1),.int .i64 2,.int .i64 3]) (by first|(rw [show (l0_2.drop 1).length=(l0_2.length - 1) from List.length_drop]<;>rfl)|rfl) ?_;(with_reducible refine (impl_allWithin.calls _ _ (l0_2.drop 1) 2 3 t107 _ ?side1 ?side2 A23.out).mono ?_);(case side1=>repeat (first|exact (Kd.C_below HR106.out HB.out)|(with_reducible refine Kd.C_alloc ?_ _)|(with_reducible refine Kd.C_drewN ?_ _)|(with_reducible refine Kd.C_drew ?_)));(case side2=>exact HC106.out);rintro e w31 ⟨rfl,hb⟩;replace BK101:=Aside0.mk (blk_below (g:=gb101) (o:=.cells #[.string a0_0,.slice A0_1 l0_1.length c0_1,.slice (some ad105) l0_2.length c0_2] 50 (0,0)) zd hb);replace HB:=Aside0.mk (below_step zb hb);(try clear hb);(try clear hb2);(try clear hk);(try clear hi)))
          go_ret
          exact ⟨zg,zb⟩
         ·rw [if_neg c22] at H
          exact absurd H zbr
        ·rw [if_neg c21] at H
         have c21b0:((rd l0_2 0) == 1)=false:=beq_eq_false_iff_ne.mpr c21
         have c21b1:((rd l0_2 0) != 1)=true:=bne_iff_ne.mpr c21
         obtain rfl:=Option.some.inj H
         go_enter Tryz.func110,Tryz.ntmps110
         go_wp2_with (first|((with_reducible refine gate_dst (N:=1) rfl ?_);refine box_event ?hg (N:=1) ?hd (cs:=#[.string a0_0,.slice A0_1 l0_1.length c0_1,.slice A0_2 l0_2.length c0_2]) (t:=50) ?hr ?_;(case hd=>rfl);(case hg=>rfl);(case hr=>exact zo);intro gb101 hg w32 hbox hb;have n0_:=Aside0.mk (below_step za hb);have n1_:=Aside0.mk (hbox);have n2_:=Aside0.mk ((by rw [hg];exact (below_size za):w.heap.size≤gb101));have n3_:=Aside0.mk ((by rw [hg];exact (below_size za):w.heap.size≤gb101));clear HB;have HB:=n0_;have BK101:=n1_;have GW101:=n2_;have GE101:=n3_;clear n0_ n1_ n2_ n3_;clear hb hbox hg;have hcz33_0:w32.cell? ⟨gb101,0,none⟩=some (.string a0_0):=(blk_cell BK101.out 0).trans rfl;have hcz33_1:w32.cell? ⟨gb101,1,none⟩=some (.slice A0_1 l0_1.length c0_1):=(blk_cell BK101.out 1).trans rfl;have hcz33_2:w32.cell? ⟨gb101,2,none⟩=some (.slice A0_2 l0_2.length c0_2):=(blk_cell BK101.out 2).trans rfl;have hfz33_0:=blk_frozen BK101.out 0;have hfz33_1:=blk_frozen BK101.out 1;have hfz33_2:=blk_frozen BK101.out 2)|((with_reducible refine gate_callee (f:=141) rfl ?_);refine goesL_ (some 5) rfl rfl Tryz.func141 zu rfl #[.string a0_0] rfl zc ?_;(with_reducible refine (impl_IsName.calls k a0_0 true _ A2.out).mono ?_);rintro e w' ⟨rfl,⟨nd,rfl⟩⟩;refine ⟨_,rfl,?_⟩)|(go_at_call 142;(with_reducible refine (impl_allWithin.calls _ _ l0_1 1 16 true _ ?side1 ?side2 A10.out).mono ?_);(case side1=>repeat (first|exact (Kd.C_below HR0_1.out zb)|(with_reducible refine Kd.C_alloc ?_ _)|(with_reducible refine Kd.C_drewN ?_ _)|(with_reducible refine Kd.C_drew ?_)));(case side2=>exact HC0_1.out);rintro e w34 ⟨rfl,hb⟩;replace BK101:=Aside0.mk (blk_below (g:=gb101) (o:=.cells #[.string a0_0,.slice A0_1 l0_1.length c0_1,.slice A0_2 l0_2.length c0_2] 50 (0,0)) zd hb);replace HB:=Aside0.mk (below_step zb hb);(try clear hb);(try clear hb2);(try clear hk);(try clear hi);have hcz35_0:w34.cell? ⟨gb101,0,none⟩=some (.string a0_0):=(blk_cell BK101.out 0).trans rfl;have hcz35_1:w34.cell? ⟨gb101,1,none⟩=some (.slice A0_1 l0_1.length c0_1):=(blk_cell BK101.out 1).trans rfl;have hcz35_2:w34.cell? ⟨gb101,2,none⟩=some (.slice A0_2 l0_2.length c0_2):=(blk_cell BK101.out 2).trans rfl;have hfz35_0:=blk_frozen BK101.out 0;have hfz35_1:=blk_frozen BK101.out 1;have hfz35_2:=blk_frozen BK101.out 2)|(go_at_call 143;(with_reducible refine (impl_Tala_beats.calls k a0_0 _ _ l0_1 _ _ l0_2 t104 _ ?side1 ?side2 ?side3 ?side4 A12.out).mono ?_);(case side1=>exact zaf);(case side2=>exact HC0_1.out);(case side3=>exact zcd);(case side4=>exact HC0_2.out);rintro e w36 ⟨rfl,hb⟩;replace BK101:=Aside0.mk (blk_below (g:=gb101) (o:=.cells #[.string a0_0,.slice A0_1 l0_1.length c0_1,.slice A0_2 l0_2.length c0_2] 50 (0,0)) zd hb);replace HB:=Aside0.mk (below_step zb hb);(try clear hb);(try clear hb2);(try clear hk);(try clear hi);have hcz37_0:w36.cell? ⟨gb101,0,none⟩=some (.string a0_0):=(blk_cell BK101.out 0).trans rfl;have hcz37_1:w36.cell? ⟨gb101,1,none⟩=some (.slice A0_1 l0_1.length c0_1):=(blk_cell BK101.out 1).trans rfl;have hcz37_2:w36.cell? ⟨gb101,2,none⟩=some (.slice A0_2 l0_2.length c0_2):=(blk_cell BK101.out 2).trans rfl;have hfz37_0:=blk_frozen BK101.out 0;have hfz37_1:=blk_frozen BK101.out 1;have hfz37_2:=blk_frozen BK101.out 2;have p105:0≤(0:Int):=zbd;have q105:0<(l0_2.length:Int):=of_decide_eq_true ze;obtain ⟨ad105,e105,hx105_0⟩:=Kd.at_int HR0_2.out 0 p105 q105;cases e105;have qi105:(0<l0_2.length)=True:=eq_true zbd;(try rw [show ((0:Int)).toNat=0 from rfl] at hx105_0);(try rw [Addr.add_zero'] at hx105_0);replace hx105_0:=(HB.out.cell (World.block_lt_of_cell? w _ hx105_0)).trans hx105_0;replace p105:=eq_true p105;replace q105:=eq_true q105))
         go_ret
         exact ⟨zg,zb⟩
       ·rw [if_neg c20] at H
        exact absurd H zbr
      ·rw [if_neg c19] at H
       have c19b0:((l0_2.length:Int) == (l0_1.length:Int))=false:=beq_eq_false_iff_ne.mpr c19
       have c19b1:((l0_2.length:Int) != (l0_1.length:Int))=true:=bne_iff_ne.mpr c19
       have c19b2:(l0_2.length == l0_1.length)=false:=by first|simpa using c19|(simp at c19 ⊢;omega)
       obtain rfl:=Option.some.inj H
       go_enter Tryz.func110,Tryz.ntmps110
       go_wp2_with (first|((with_reducible refine gate_dst (N:=1) rfl ?_);refine box_event ?hg (N:=1) ?hd (cs:=#[.string a0_0,.slice A0_1 l0_1.length c0_1,.slice A0_2 l0_2.length c0_2]) (t:=50) ?hr ?_;(case hd=>rfl);(case hg=>rfl);(case hr=>exact zo);intro gb101 hg w38 hbox hb;have n0_:=Aside0.mk (below_step za hb);have n1_:=Aside0.mk (hbox);have n2_:=Aside0.mk ((by rw [hg];exact (below_size za):w.heap.size≤gb101));have n3_:=Aside0.mk ((by rw [hg];exact (below_size za):w.heap.size≤gb101));clear HB;have HB:=n0_;have BK101:=n1_;have GW101:=n2_;have GE101:=n3_;clear n0_ n1_ n2_ n3_;clear hb hbox hg;have hcz39_0:w38.cell? ⟨gb101,0,none⟩=some (.string a0_0):=(blk_cell BK101.out 0).trans rfl;have hcz39_1:w38.cell? ⟨gb101,1,none⟩=some (.slice A0_1 l0_1.length c0_1):=(blk_cell BK101.out 1).trans rfl;have hcz39_2:w38.cell? ⟨gb101,2,none⟩=some (.slice A0_2 l0_2.length c0_2):=(blk_cell BK101.out 2).trans rfl;have hfz39_0:=blk_frozen BK101.out 0;have hfz39_1:=blk_frozen BK101.out 1;have hfz39_2:=blk_frozen BK101.out 2)|((with_reducible refine gate_callee (f:=141) rfl ?_);refine goesL_ (some 5) rfl rfl Tryz.func141 zu rfl #[.string a0_0] rfl zc ?_;(with_reducible refine (impl_IsName.calls k a0_0 true _ A2.out).mono ?_);rintro e w' ⟨rfl,⟨nd,rfl⟩⟩;refine ⟨_,rfl,?_⟩)|(go_at_call 142;(with_reducible refine (impl_allWithin.calls _ _ l0_1 1 16 true _ ?side1 ?side2 A10.out).mono ?_);(case side1=>repeat (first|exact (Kd.C_below HR0_1.out zb)|(with_reducible refine Kd.C_alloc ?_ _)|(with_reducible refine Kd.C_drewN ?_ _)|(with_reducible refine Kd.C_drew ?_)));(case side2=>exact HC0_1.out);rintro e w40 ⟨rfl,hb⟩;replace BK101:=Aside0.mk (blk_below (g:=gb101) (o:=.cells #[.string a0_0,.slice A0_1 l0_1.length c0_1,.slice A0_2 l0_2.length c0_2] 50 (0,0)) zd hb);replace HB:=Aside0.mk (below_step zb hb);(try clear hb);(try clear hb2);(try clear hk);(try clear hi);have hcz41_0:w40.cell? ⟨gb101,0,none⟩=some (.string a0_0):=(blk_cell BK101.out 0).trans rfl;have hcz41_1:w40.cell? ⟨gb101,1,none⟩=some (.slice A0_1 l0_1.length c0_1):=(blk_cell BK101.out 1).trans rfl;have hcz41_2:w40.cell? ⟨gb101,2,none⟩=some (.slice A0_2 l0_2.length c0_2):=(blk_cell BK101.out 2).trans rfl;have hfz41_0:=blk_frozen BK101.out 0;have hfz41_1:=blk_frozen BK101.out 1;have hfz41_2:=blk_frozen BK101.out 2)|(go_at_call 143;(with_reducible refine (impl_Tala_beats.calls k a0_0 _ _ l0_1 _ _ l0_2 t104 _ ?side1 ?side2 ?side3 ?side4 A12.out).mono ?_);(case side1=>exact zaf);(case side2=>exact HC0_1.out);(case side3=>exact zcd);(case side4=>exact HC0_2.out);rintro e w42 ⟨rfl,hb⟩;replace BK101:=Aside0.mk (blk_below (g:=gb101) (o:=.cells #[.string a0_0,.slice A0_1 l0_1.length c0_1,.slice A0_2 l0_2.length c0_2] 50 (0,0)) zd hb);replace HB:=Aside0.mk (below_step zb hb);(try clear hb);(try clear hb2);(try clear hk);(try clear hi);have hcz43_0:w42.cell? ⟨gb101,0,none⟩=some (.string a0_0):=(blk_cell BK101.out 0).trans rfl;have hcz43_1:w42.cell? ⟨gb101,1,none⟩=some (.slice A0_1 l0_1.length c0_1):=(blk_cell BK101.out 1).trans rfl;have hcz43_2:w42.cell? ⟨gb101,2,none⟩=some (.slice A0_2 l0_2.length c0_2):=(blk_cell BK101.out 2).trans rfl;have hfz43_0:=blk_frozen BK101.out 0;have hfz43_1:=blk_frozen BK101.out 1;have hfz43_2:=blk_frozen BK101.out 2))
       go_ret
       exact ⟨zg,zb⟩
    ·replace c11:=Bool.eq_false_iff.mpr c11
     subst c11
     have H1:(some false)=some r:=by rw [if_neg (show ¬ (false=true) by decide)] at H;exact H
     clear H
     have H:=H1
     clear H1
     obtain rfl:=Option.some.inj H
     go_enter Tryz.func110,Tryz.ntmps110
     go_wp2_with (first|((with_reducible refine gate_dst (N:=1) rfl ?_);refine box_event ?hg (N:=1) ?hd (cs:=#[.string a0_0,.slice A0_1 l0_1.length c0_1,.slice A0_2 l0_2.length c0_2]) (t:=50) ?hr ?_;(case hd=>rfl);(case hg=>rfl);(case hr=>exact zo);intro gb101 hg w44 hbox hb;have n0_:=Aside0.mk (below_step za hb);have n1_:=Aside0.mk (hbox);have n2_:=Aside0.mk ((by rw [hg];exact (below_size za):w.heap.size≤gb101));have n3_:=Aside0.mk ((by rw [hg];exact (below_size za):w.heap.size≤gb101));clear HB;have HB:=n0_;have BK101:=n1_;have GW101:=n2_;have GE101:=n3_;clear n0_ n1_ n2_ n3_;clear hb hbox hg;have hcz45_0:w44.cell? ⟨gb101,0,none⟩=some (.string a0_0):=(blk_cell BK101.out 0).trans rfl;have hcz45_1:w44.cell? ⟨gb101,1,none⟩=some (.slice A0_1 l0_1.length c0_1):=(blk_cell BK101.out 1).trans rfl;have hcz45_2:w44.cell? ⟨gb101,2,none⟩=some (.slice A0_2 l0_2.length c0_2):=(blk_cell BK101.out 2).trans rfl;have hfz45_0:=blk_frozen BK101.out 0;have hfz45_1:=blk_frozen BK101.out 1;have hfz45_2:=blk_frozen BK101.out 2)|((with_reducible refine gate_callee (f:=141) rfl ?_);refine goesL_ (some 5) rfl rfl Tryz.func141 zu rfl #[.string a0_0] rfl zc ?_;(with_reducible refine (impl_IsName.calls k a0_0 true _ A2.out).mono ?_);rintro e w' ⟨rfl,⟨nd,rfl⟩⟩;refine ⟨_,rfl,?_⟩)|(go_at_call 142;(with_reducible refine (impl_allWithin.calls _ _ l0_1 1 16 false _ ?side1 ?side2 A10.out).mono ?_);(case side1=>repeat (first|exact (Kd.C_below HR0_1.out zb)|(with_reducible refine Kd.C_alloc ?_ _)|(with_reducible refine Kd.C_drewN ?_ _)|(with_reducible refine Kd.C_drew ?_)));(case side2=>exact HC0_1.out);rintro e w46 ⟨rfl,hb⟩;replace BK101:=Aside0.mk (blk_below (g:=gb101) (o:=.cells #[.string a0_0,.slice A0_1 l0_1.length c0_1,.slice A0_2 l0_2.length c0_2] 50 (0,0)) zd hb);replace HB:=Aside0.mk (below_step zb hb);(try clear hb);(try clear hb2);(try clear hk);(try clear hi)))
     go_ret
     exact ⟨zg,zb⟩
 ·replace c3:=Bool.eq_false_iff.mpr c3
  subst c3
  have H1:(some false)=some r:=by rw [if_neg (show ¬ (false=true) by decide)] at H;exact H
  clear H
  have H:=H1
  clear H1
  obtain rfl:=Option.some.inj H
  go_enter Tryz.func110,Tryz.ntmps110
  go_wp2_with (first|((with_reducible refine gate_dst (N:=1) rfl ?_);refine box_event ?hg (N:=1) ?hd (cs:=#[.string a0_0,.slice A0_1 l0_1.length c0_1,.slice A0_2 l0_2.length c0_2]) (t:=50) ?hr ?_;(case hd=>rfl);(case hg=>rfl);(case hr=>exact zo);intro gb101 hg w47 hbox hb;have n0_:=Aside0.mk (below_step za hb);have n1_:=Aside0.mk (hbox);have n2_:=Aside0.mk ((by rw [hg];exact (below_size za):w.heap.size≤gb101));have n3_:=Aside0.mk ((by rw [hg];exact (below_size za):w.heap.size≤gb101));clear HB;have HB:=n0_;have BK101:=n1_;have GW101:=n2_;have GE101:=n3_;clear n0_ n1_ n2_ n3_;clear hb hbox hg;have hcz48_0:w47.cell? ⟨gb101,0,none⟩=some (.string a0_0):=(blk_cell BK101.out 0).trans rfl;have hcz48_1:w47.cell? ⟨gb101,1,none⟩=some (.slice A0_1 l0_1.length c0_1):=(blk_cell BK101.out 1).trans rfl;have hcz48_2:w47.cell? ⟨gb101,2,none⟩=some (.slice A0_2 l0_2.length c0_2):=(blk_cell BK101.out 2).trans rfl;have hfz48_0:=blk_frozen BK101.out 0;have hfz48_1:=blk_frozen BK101.out 1;have hfz48_2:=blk_frozen BK101.out 2)|((with_reducible refine gate_callee (f:=141) rfl ?_);refine goesL_ (some 5) rfl rfl Tryz.func141 zu rfl #[.string a0_0] rfl zc ?_;(with_reducible refine (impl_IsName.calls k a0_0 false _ A2.out).mono ?_);rintro e w' ⟨rfl,⟨nd,rfl⟩⟩;refine ⟨_,rfl,?_⟩))
  go_ret
  exact ⟨zg,zb⟩

def impl_notationCode.j0:Nat→Int→Bool→Option (Int)
 | 0,_,_=>none
 | k+1,x2,x7=>if x7=true then (some 1) else ((impl_within.f x2 1 8).bind fun t104=>(if t104=true then (some 0) else (some 2)))
def impl_notationCode.f (k:Nat) (l0:List (S67)) (a1_0:ByteArray) (l1_1:List Int) (l1_2:List Int) (a2:Int):Option (Int):=(impl_ValidMelody.f k l0).bind fun t102=>(if t102=true then ((impl_ValidTala.f k a1_0 l1_1 l1_2).bind fun t103=>(impl_notationCode.j0 k a2 (!t103))) else (impl_notationCode.j0 k a2 true))
set_option maxHeartbeats 8000000 in
set_option maxRecDepth 100000 in
theorem impl_notationCode.calls (k:Nat) (A0:Option Addr) (c0:Nat) (l0:List (S67)) (a1_0:ByteArray) (A1_1:Option Addr) (c1_1:Nat) (l1_1:List Int) (A1_2:Option Addr) (c1_2:Nat) (l1_2:List Int) (a2:Int) (r:Int) (w:World) (hr0:Kd.C k67 w A0 l0.length l0) (hc0:l0.length≤c0) (hr1_1:Kd.C (Kd.int .i64) w A1_1 l1_1.length l1_1) (hc1_1:l1_1.length≤c1_1) (hr1_2:Kd.C (Kd.int .i64) w A1_2 l1_2.length l1_2) (hc1_2:l1_2.length≤c1_2) (h:impl_notationCode.f k l0 a1_0 l1_1 l1_2 a2=some r) :
 Calls Tryz.prog 74 #[.slice A0 l0.length c0,.agg #[.string a1_0,.slice A1_1 l1_1.length c1_1,.slice A1_2 l1_2.length c1_2],.int .i64 a2] w fun e w'=>e = .returned (.int .i64 r)∧Below w.heap.size w w':=by
 have hu50:=Tryz.underlying50
 have HR0:=Aside0.mk hr0
 have HC0:=Aside0.mk hc0
 clear hr0 hc0
 have HR1_1:=Aside0.mk hr1_1
 have HC1_1:=Aside0.mk hc1_1
 clear hr1_1 hc1_1
 have HR1_2:=Aside0.mk hr1_2
 have HC1_2:=Aside0.mk hc1_2
 clear hr1_2 hc1_2
 have HB:=Aside0.mk (Below.refl w.heap.size w)
 have H:((impl_ValidMelody.f k l0).bind fun t102=>(if t102=true then ((impl_ValidTala.f k a1_0 l1_1 l1_2).bind fun t103=>(impl_notationCode.j0 k a2 (!t103))) else (impl_notationCode.j0 k a2 true)))=some r:=h
 clear h
 have HC4:=Aside0.mk H
 clear H
 go_enter Tryz.func74,Tryz.ntmps74
 go_upto_region 1 with (first|((with_reducible refine gate_dst (N:=4) rfl ?_);refine box_event ?hg (N:=4) ?hd (cs:=#[.string a1_0,.slice A1_1 l1_1.length c1_1,.slice A1_2 l1_2.length c1_2]) (t:=50) ?hr ?_;(case hd=>rfl);(case hg=>rfl);(case hr=>exact zo);intro gb101 hg w5 hbox hb;have n0_:=Aside0.mk (below_step za hb);have n1_:=Aside0.mk (hbox);have n2_:=Aside0.mk ((by rw [hg];exact (below_size za):w.heap.size≤gb101));have n3_:=Aside0.mk ((by rw [hg];exact (below_size za):w.heap.size≤gb101));clear HB;have HB:=n0_;have BK101:=n1_;have GW101:=n2_;have GE101:=n3_;clear n0_ n1_ n2_ n3_;clear hb hbox hg))
 (try simp only [Act.put,List.setIfInBounds_toArray,List.set_cons_zero,List.set_cons_succ])
 go_cut [7] (fun v7 wc=>∃(kq:Nat) (x7_3:Bool),v7 = .bool x7_3∧Aside0 (impl_notationCode.j0 kq a2 x7_3=some r)∧Aside0 (kq≤k)∧Aside0 (wc.heap[gb101]?=some (.cells #[.string a1_0,(.slice A1_1 l1_1.length c1_1),(.slice A1_2 l1_2.length c1_2)] 50 (0,0)))∧Aside0 (Below w.heap.size w wc))
 case first=>
  have H:=HC4.out
  clear HC4
  replace H:=Option.bind_eq_some_iff.mp H
  obtain ⟨t102,A60,H⟩:=H
  replace H:(if t102=true then ((impl_ValidTala.f k a1_0 l1_1 l1_2).bind fun t103=>(impl_notationCode.j0 k a2 (!t103))) else (impl_notationCode.j0 k a2 true))=some r:=H
  have A6:=Aside0.mk A60
  clear A60
  by_cases c7:t102=true
  ·subst c7
   have H1:((impl_ValidTala.f k a1_0 l1_1 l1_2).bind fun t103=>(impl_notationCode.j0 k a2 (!t103)))=some r:=by rw [if_pos rfl] at H;exact H
   clear H
   have H:=H1
   clear H1
   replace H:=Option.bind_eq_some_iff.mp H
   obtain ⟨t103,A80,H⟩:=H
   replace H:(impl_notationCode.j0 k a2 (!t103))=some r:=H
   have A8:=Aside0.mk A80
   clear A80
   have H':=Aside0.mk H
   clear H
   go_wp2_with (first|((with_reducible refine gate_callee (f:=70) rfl ?_);refine goesL_ (some 9) rfl rfl Tryz.func70 zu rfl #[.slice A0 l0.length c0] rfl zc ?_;(with_reducible refine (impl_ValidMelody.calls k _ _ l0 true _ ?side1 ?side2 A6.out).mono ?_);(case side1=>exact zce);(case side2=>exact HC0.out);rintro e w9 ⟨rfl,hb⟩;refine ⟨_,rfl,?_⟩;replace BK101:=Aside0.mk (blk_below (g:=gb101) (o:=.cells #[.string a1_0,.slice A1_1 l1_1.length c1_1,.slice A1_2 l1_2.length c1_2] 50 (0,0)) zd hb);replace HB:=Aside0.mk (below_step zb hb);(try clear hb);(try clear hb2);(try clear hk);(try clear hi);have hcz10_0:w9.cell? ⟨gb101,0,none⟩=some (.string a1_0):=(blk_cell BK101.out 0).trans rfl;have hcz10_1:w9.cell? ⟨gb101,1,none⟩=some (.slice A1_1 l1_1.length c1_1):=(blk_cell BK101.out 1).trans rfl;have hcz10_2:w9.cell? ⟨gb101,2,none⟩=some (.slice A1_2 l1_2.length c1_2):=(blk_cell BK101.out 2).trans rfl;have hfz10_0:=blk_frozen BK101.out 0;have hfz10_1:=blk_frozen BK101.out 1;have hfz10_2:=blk_frozen BK101.out 2)|(go_at_call 110;(with_reducible refine (impl_ValidTala.calls k a1_0 _ _ l1_1 _ _ l1_2 t103 _ ?side1 ?side2 ?side3 ?side4 A8.out).mono ?_);(case side1=>exact zm);(case side2=>exact HC1_1.out);(case side3=>exact zn);(case side4=>exact HC1_2.out);rintro e w11 ⟨rfl,hb⟩;replace BK101:=Aside0.mk (blk_below (g:=gb101) (o:=.cells #[.string a1_0,.slice A1_1 l1_1.length c1_1,.slice A1_2 l1_2.length c1_2] 50 (0,0)) zd hb);replace HB:=Aside0.mk (below_step zb hb);(try clear hb);(try clear hb2);(try clear hk);(try clear hi)))
   go_meet
   case rel=>exact ⟨_,(!t103),zf,H',⟨zcr⟩,⟨zd⟩,⟨zb⟩⟩
  ·replace c7:=Bool.eq_false_iff.mpr c7
   subst c7
   have H1:(impl_notationCode.j0 k a2 true)=some r:=by rw [if_neg (show ¬ (false=true) by decide)] at H;exact H
   clear H
   have H:=H1
   clear H1
   have H':=Aside0.mk H
   clear H
   go_wp2_with (first|((with_reducible refine gate_callee (f:=70) rfl ?_);refine goesL_ (some 9) rfl rfl Tryz.func70 zu rfl #[.slice A0 l0.length c0] rfl zc ?_;(with_reducible refine (impl_ValidMelody.calls k _ _ l0 false _ ?side1 ?side2 A6.out).mono ?_);(case side1=>exact zce);(case side2=>exact HC0.out);rintro e w12 ⟨rfl,hb⟩;refine ⟨_,rfl,?_⟩;replace BK101:=Aside0.mk (blk_below (g:=gb101) (o:=.cells #[.string a1_0,.slice A1_1 l1_1.length c1_1,.slice A1_2 l1_2.length c1_2] 50 (0,0)) zd hb);replace HB:=Aside0.mk (below_step zb hb);(try clear hb);(try clear hb2);(try clear hk);(try clear hi)))
   go_meet
   case rel=>exact ⟨_,(true),zf,H',⟨zcr⟩,⟨zd⟩,⟨zb⟩⟩
 case rest=>
  clear HC4
  try clear c1
  try clear p2
  try clear c7
  try clear hcz10_0
  try clear hcz10_1
  try clear hcz10_2
  try clear hfz10_0
  try clear hfz10_1
  try clear hfz10_2
  obtain ⟨kq,x7_3,rfl,HA,HJ3,BK101,HB⟩:=hcut
  cases kq with
  | zero=>exact absurd HA.out (by simp [impl_notationCode.j0])
  | succ kj3=>
   have H:=HA.out
   clear HA
   simp only [impl_notationCode.j0] at H
   by_cases c13:x7_3=true
   ·subst c13
    have H1:(some 1)=some r:=by rw [if_pos rfl] at H;exact H
    clear H
    have H:=H1
    clear H1
    obtain rfl:=Option.some.inj H
    go_wp2
    go_ret
    exact ⟨zg,zb⟩
   ·replace c13:=Bool.eq_false_iff.mpr c13
    subst c13
    have H1:((impl_within.f a2 1 8).bind fun t104=>(if t104=true then (some 0) else (some 2)))=some r:=by rw [if_neg (show ¬ (false=true) by decide)] at H;exact H
    clear H
    have H:=H1
    clear H1
    replace H:=Option.bind_eq_some_iff.mp H
    obtain ⟨t104,A140,H⟩:=H
    replace H:(if t104=true then (some 0) else (some 2))=some r:=H
    have A14:=Aside0.mk A140
    clear A140
    by_cases c15:t104=true
    ·subst c15
     have H1:(some 0)=some r:=by rw [if_pos rfl] at H;exact H
     clear H
     have H:=H1
     clear H1
     obtain rfl:=Option.some.inj H
     go_wp2_with (first|((with_reducible refine gate_callee (f:=83) rfl ?_);refine goesL_ (some 18) rfl rfl Tryz.func83 zu rfl #[.int .i64 a2,.int .i64 1,.int .i64 8] rfl zc ?_;(with_reducible refine (impl_within.calls a2 1 8 true _ A14.out).mono ?_);rintro e w' ⟨rfl,⟨nd,rfl⟩⟩;refine ⟨_,rfl,?_⟩))
     go_ret
     exact ⟨zg,zb⟩
    ·replace c15:=Bool.eq_false_iff.mpr c15
     subst c15
     have H1:(some 2)=some r:=by rw [if_neg (show ¬ (false=true) by decide)] at H;exact H
     clear H
     have H:=H1
     clear H1
     obtain rfl:=Option.some.inj H
     go_wp2_with (first|((with_reducible refine gate_callee (f:=83) rfl ?_);refine goesL_ (some 18) rfl rfl Tryz.func83 zu rfl #[.int .i64 a2,.int .i64 1,.int .i64 8] rfl zc ?_;(with_reducible refine (impl_within.calls a2 1 8 false _ A14.out).mono ?_);rintro e w' ⟨rfl,⟨nd,rfl⟩⟩;refine ⟨_,rfl,?_⟩))
     go_ret
     exact ⟨zg,zb⟩

def impl_readWords.f (k:Nat) (a0:ByteArray) (a1_0:ByteArray) (l1_1:List Int) (l1_2:List Int) (a2:Int):Option ((List (S95)) × Int):=(impl_notationCode.f k ([]:List (S67)) a1_0 l1_1 l1_2 a2).bind fun t102=>(if t102=0 then (if (a0.size:Int) > 2000 then (some (([]:List (S95)),5)) else ((impl_barWords.f k a0).bind fun bt103=>(if bt103.2=true then (some (bt103.1,0)) else (some (([]:List (S95)),8))))) else (some (([]:List (S95)),t102)))
set_option maxHeartbeats 8000000 in
set_option maxRecDepth 100000 in
theorem impl_readWords.calls (k:Nat) (a0:ByteArray) (a1_0:ByteArray) (A1_1:Option Addr) (c1_1:Nat) (l1_1:List Int) (A1_2:Option Addr) (c1_2:Nat) (l1_2:List Int) (a2:Int) (r1:List (S95)) (r2:Int) (w:World) (hD:Door2 w) (hr1_1:Kd.C (Kd.int .i64) w A1_1 l1_1.length l1_1) (hc1_1:l1_1.length≤c1_1) (hr1_2:Kd.C (Kd.int .i64) w A1_2 l1_2.length l1_2) (hc1_2:l1_2.length≤c1_2) (h:impl_readWords.f k a0 a1_0 l1_1 l1_2 a2=some (r1,r2)) :
 Calls Tryz.prog 68 #[.string a0,.agg #[.string a1_0,.slice A1_1 l1_1.length c1_1,.slice A1_2 l1_2.length c1_2],.int .i64 a2] w fun e w'=>∃v0_:Value,e = .returned (.tuple #[v0_,.int .i64 r2])∧Kd.R k95 95 w' w.heap.size (fun _=>True) v0_ r1∧Below w.heap.size w w':=by
 have hu50:=Tryz.underlying50
 have HD:=Aside0.mk hD
 clear hD
 have HR1_1:=Aside0.mk hr1_1
 have HC1_1:=Aside0.mk hc1_1
 clear hr1_1 hc1_1
 have HR1_2:=Aside0.mk hr1_2
 have HC1_2:=Aside0.mk hc1_2
 clear hr1_2 hc1_2
 have HB:=Aside0.mk (Below.refl w.heap.size w)
 have H:((impl_notationCode.f k ([]:List (S67)) a1_0 l1_1 l1_2 a2).bind fun t102=>(if t102=0 then (if (a0.size:Int) > 2000 then (some (([]:List (S95)),5)) else ((impl_barWords.f k a0).bind fun bt103=>(if bt103.2=true then (some (bt103.1,0)) else (some (([]:List (S95)),8))))) else (some (([]:List (S95)),t102))))=some (r1,r2):=h
 clear h
 replace H:=Option.bind_eq_some_iff.mp H
 obtain ⟨t102,A40,H⟩:=H
 replace H:(if t102=0 then (if (a0.size:Int) > 2000 then (some (([]:List (S95)),5)) else ((impl_barWords.f k a0).bind fun bt103=>(if bt103.2=true then (some (bt103.1,0)) else (some (([]:List (S95)),8))))) else (some (([]:List (S95)),t102)))=some (r1,r2):=H
 have A4:=Aside0.mk A40
 clear A40
 by_cases c5:t102=0
 ·rw [if_pos c5] at H
  have c5b0:(t102 == 0)=true:=beq_iff_eq.mpr c5
  have c5b1:(t102 != 0)=false:=bne_eq_false_iff_eq.mpr c5
  clear c5
  by_cases c6:(a0.size:Int) > 2000
  ·rw [if_pos c6] at H
   have c6b0:decide (2000<(a0.size:Int))=true:=decide_eq_true c6
   have c6b1:decide (2000<a0.size)=true:=decide_eq_true zbd
   clear c6
   simp only [Option.some.injEq,Prod.mk.injEq] at H
   obtain ⟨rfl,rfl⟩:=H
   go_enter Tryz.func68,Tryz.ntmps68
   go_wp2_with (first|((with_reducible refine gate_dst (N:=4) rfl ?_);refine box_event ?hg (N:=4) ?hd (cs:=#[.string a1_0,.slice A1_1 l1_1.length c1_1,.slice A1_2 l1_2.length c1_2]) (t:=50) ?hr ?_;(case hd=>rfl);(case hg=>rfl);(case hr=>exact zo);intro gb101 hg w7 hbox hb;have n0_:=Aside0.mk (below_step za hb);have n1_:=Aside0.mk (hbox);have n2_:=Aside0.mk ((by rw [hg];exact (below_size za):w.heap.size≤gb101));have n3_:=Aside0.mk ((by rw [hg];exact (below_size za):w.heap.size≤gb101));clear HB;have HB:=n0_;have BK101:=n1_;have GW101:=n2_;have GE101:=n3_;clear n0_ n1_ n2_ n3_;clear hb hbox hg;have hcz8_0:w7.cell? ⟨gb101,0,none⟩=some (.string a1_0):=(blk_cell BK101.out 0).trans rfl;have hcz8_1:w7.cell? ⟨gb101,1,none⟩=some (.slice A1_1 l1_1.length c1_1):=(blk_cell BK101.out 1).trans rfl;have hcz8_2:w7.cell? ⟨gb101,2,none⟩=some (.slice A1_2 l1_2.length c1_2):=(blk_cell BK101.out 2).trans rfl;have hfz8_0:=blk_frozen BK101.out 0;have hfz8_1:=blk_frozen BK101.out 1;have hfz8_2:=blk_frozen BK101.out 2)|((with_reducible refine gate_callee (f:=74) rfl ?_);refine goesL_ (some 13) rfl rfl Tryz.func74 zu rfl #[.slice none 0 0,.agg #[.string a1_0,.slice A1_1 l1_1.length c1_1,.slice A1_2 l1_2.length c1_2],.int .i64 a2] rfl zc ?_;(refine (impl_notationCode.calls k _ _ ([]:List (S67)) a1_0 _ _ l1_1 _ _ l1_2 a2 t102 _ ?side1 ?side2 ?side3 ?side4 ?side5 ?side6 A4.out).mono ?_);(case side1=>exact Kd.C_nil _ _);(case side2=>exact Nat.le_refl _);(case side3=>exact zm);(case side4=>exact HC1_1.out);(case side5=>exact zn);(case side6=>exact HC1_2.out);rintro e w9 ⟨rfl,hb⟩;refine ⟨_,rfl,?_⟩;replace BK101:=Aside0.mk (blk_below (g:=gb101) (o:=.cells #[.string a1_0,.slice A1_1 l1_1.length c1_1,.slice A1_2 l1_2.length c1_2] 50 (0,0)) zd hb);replace HB:=Aside0.mk (below_step zb hb);(try clear hb);(try clear hb2);(try clear hk);(try clear hi)))
   go_ret2
   exact ⟨_,zg,zl,zb⟩
  ·rw [if_neg c6] at H
   have c6b0:decide (2000<(a0.size:Int))=false:=decide_eq_false c6
   have c6b1:decide (2000<a0.size)=false:=decide_eq_false zbd
   clear c6
   replace H:=Option.bind_eq_some_iff.mp H
   obtain ⟨⟨t103,t104⟩,A100,H⟩:=H
   replace H:(if t104=true then (some (t103,0)) else (some (([]:List (S95)),8)))=some (r1,r2):=H
   have A10:=Aside0.mk A100
   clear A100
   by_cases c11:t104=true
   ·subst c11
    have H1:(some (t103,0))=some (r1,r2):=by rw [if_pos rfl] at H;exact H
    clear H
    have H:=H1
    clear H1
    simp only [Option.some.injEq,Prod.mk.injEq] at H
    obtain ⟨rfl,rfl⟩:=H
    go_enter Tryz.func68,Tryz.ntmps68
    go_wp2_with (first|((with_reducible refine gate_dst (N:=4) rfl ?_);refine box_event ?hg (N:=4) ?hd (cs:=#[.string a1_0,.slice A1_1 l1_1.length c1_1,.slice A1_2 l1_2.length c1_2]) (t:=50) ?hr ?_;(case hd=>rfl);(case hg=>rfl);(case hr=>exact zo);intro gb101 hg w12 hbox hb;have n0_:=Aside0.mk (below_step za hb);have n1_:=Aside0.mk (hbox);have n2_:=Aside0.mk ((by rw [hg];exact (below_size za):w.heap.size≤gb101));have n3_:=Aside0.mk ((by rw [hg];exact (below_size za):w.heap.size≤gb101));clear HB;have HB:=n0_;have BK101:=n1_;have GW101:=n2_;have GE101:=n3_;clear n0_ n1_ n2_ n3_;clear hb hbox hg;have hcz13_0:w12.cell? ⟨gb101,0,none⟩=some (.string a1_0):=(blk_cell BK101.out 0).trans rfl;have hcz13_1:w12.cell? ⟨gb101,1,none⟩=some (.slice A1_1 l1_1.length c1_1):=(blk_cell BK101.out 1).trans rfl;have hcz13_2:w12.cell? ⟨gb101,2,none⟩=some (.slice A1_2 l1_2.length c1_2):=(blk_cell BK101.out 2).trans rfl;have hfz13_0:=blk_frozen BK101.out 0;have hfz13_1:=blk_frozen BK101.out 1;have hfz13_2:=blk_frozen BK101.out 2)|((with_reducible refine gate_callee (f:=74) rfl ?_);refine goesL_ (some 13) rfl rfl Tryz.func74 zu rfl #[.slice none 0 0,.agg #[.string a1_0,.slice A1_1 l1_1.length c1_1,.slice A1_2 l1_2.length c1_2],.int .i64 a2] rfl zc ?_;(refine (impl_notationCode.calls k _ _ ([]:List (S67)) a1_0 _ _ l1_1 _ _ l1_2 a2 t102 _ ?side1 ?side2 ?side3 ?side4 ?side5 ?side6 A4.out).mono ?_);(case side1=>exact Kd.C_nil _ _);(case side2=>exact Nat.le_refl _);(case side3=>exact zm);(case side4=>exact HC1_1.out);(case side5=>exact zn);(case side6=>exact HC1_2.out);rintro e w14 ⟨rfl,hb⟩;refine ⟨_,rfl,?_⟩;replace BK101:=Aside0.mk (blk_below (g:=gb101) (o:=.cells #[.string a1_0,.slice A1_1 l1_1.length c1_1,.slice A1_2 l1_2.length c1_2] 50 (0,0)) zd hb);replace HB:=Aside0.mk (below_step zb hb);(try clear hb);(try clear hb2);(try clear hk);(try clear hi))|((with_reducible refine gate_callee (f:=63) rfl ?_);refine goesL_ (some 22) rfl rfl Tryz.func63 zu rfl #[.string a0] rfl zc ?_;(with_reducible refine (impl_barWords.calls k a0 t103 true _ ?side1 A10.out).mono ?_);(case side1=>exact Door2.at HD.out zb);rintro e w15 ⟨v105,rfl,ho0,hb⟩;refine ⟨_,rfl,?_⟩;have HO106:=Aside0.mk (Kd.R_lower ho0 (below_size zb));replace BK101:=Aside0.mk (blk_below (g:=gb101) (o:=.cells #[.string a1_0,.slice A1_1 l1_1.length c1_1,.slice A1_2 l1_2.length c1_2] 50 (0,0)) zd hb);replace HB:=Aside0.mk (below_step zb hb);(try clear hb);(try clear hb2);(try clear hk);(try clear hi);(try clear ho0)))
    go_ret2
    exact ⟨_,zg,zab,zb⟩
   ·replace c11:=Bool.eq_false_iff.mpr c11
    subst c11
    have H1:(some (([]:List (S95)),8))=some (r1,r2):=by rw [if_neg (show ¬ (false=true) by decide)] at H;exact H
    clear H
    have H:=H1
    clear H1
    simp only [Option.some.injEq,Prod.mk.injEq] at H
    obtain ⟨rfl,rfl⟩:=H
    go_enter Tryz.func68,Tryz.ntmps68
    go_wp2_with (first|((with_reducible refine gate_dst (N:=4) rfl ?_);refine box_event ?hg (N:=4) ?hd (cs:=#[.string a1_0,.slice A1_1 l1_1.length c1_1,.slice A1_2 l1_2.length c1_2]) (t:=50) ?hr ?_;(case hd=>rfl);(case hg=>rfl);(case hr=>exact zo);intro gb101 hg w16 hbox hb;have n0_:=Aside0.mk (below_step za hb);have n1_:=Aside0.mk (hbox);have n2_:=Aside0.mk ((by rw [hg];exact (below_size za):w.heap.size≤gb101));have n3_:=Aside0.mk ((by rw [hg];exact (below_size za):w.heap.size≤gb101));clear HB;have HB:=n0_;have BK101:=n1_;have GW101:=n2_;have GE101:=n3_;clear n0_ n1_ n2_ n3_;clear hb hbox hg;have hcz17_0:w16.cell? ⟨gb101,0,none⟩=some (.string a1_0):=(blk_cell BK101.out 0).trans rfl;have hcz17_1:w16.cell? ⟨gb101,1,none⟩=some (.slice A1_1 l1_1.length c1_1):=(blk_cell BK101.out 1).trans rfl;have hcz17_2:w16.cell? ⟨gb101,2,none⟩=some (.slice A1_2 l1_2.length c1_2):=(blk_cell BK101.out 2).trans rfl;have hfz17_0:=blk_frozen BK101.out 0;have hfz17_1:=blk_frozen BK101.out 1;have hfz17_2:=blk_frozen BK101.out 2)|((with_reducible refine gate_callee (f:=74) rfl ?_);refine goesL_ (some 13) rfl rfl Tryz.func74 zu rfl #[.slice none 0 0,.agg #[.string a1_0,.slice A1_1 l1_1.length c1_1,.slice A1_2 l1_2.length c1_2],.int .i64 a2] rfl zc ?_;(refine (impl_notationCode.calls k _ _ ([]:List (S67)) a1_0 _ _ l1_1 _ _ l1_2 a2 t102 _ ?side1 ?side2 ?side3 ?side4 ?side5 ?side6 A4.out).mono ?_);(case side1=>exact Kd.C_nil _ _);(case side2=>exact Nat.le_refl _);(case side3=>exact zm);(case side4=>exact HC1_1.out);(case side5=>exact zn);(case side6=>exact HC1_2.out);rintro e w18 ⟨rfl,hb⟩;refine ⟨_,rfl,?_⟩;replace BK101:=Aside0.mk (blk_below (g:=gb101) (o:=.cells #[.string a1_0,.slice A1_1 l1_1.length c1_1,.slice A1_2 l1_2.length c1_2] 50 (0,0)) zd hb);replace HB:=Aside0.mk (below_step zb hb);(try clear hb);(try clear hb2);(try clear hk);(try clear hi))|((with_reducible refine gate_callee (f:=63) rfl ?_);refine goesL_ (some 22) rfl rfl Tryz.func63 zu rfl #[.string a0] rfl zc ?_;(with_reducible refine (impl_barWords.calls k a0 t103 false _ ?side1 A10.out).mono ?_);(case side1=>exact Door2.at HD.out zb);rintro e w19 ⟨v105,rfl,ho0,hb⟩;refine ⟨_,rfl,?_⟩;have HO106:=Aside0.mk (Kd.R_lower ho0 (below_size zb));replace BK101:=Aside0.mk (blk_below (g:=gb101) (o:=.cells #[.string a1_0,.slice A1_1 l1_1.length c1_1,.slice A1_2 l1_2.length c1_2] 50 (0,0)) zd hb);replace HB:=Aside0.mk (below_step zb hb);(try clear hb);(try clear hb2);(try clear hk);(try clear hi);(try clear ho0)))
    go_ret2
    exact ⟨_,zg,zl,zb⟩
 ·rw [if_neg c5] at H
  have c5b0:(t102 == 0)=false:=beq_eq_false_iff_ne.mpr c5
  have c5b1:(t102 != 0)=true:=bne_iff_ne.mpr c5
  simp only [Option.some.injEq,Prod.mk.injEq] at H
  obtain ⟨rfl,rfl⟩:=H
  go_enter Tryz.func68,Tryz.ntmps68
  go_wp2_with (first|((with_reducible refine gate_dst (N:=4) rfl ?_);refine box_event ?hg (N:=4) ?hd (cs:=#[.string a1_0,.slice A1_1 l1_1.length c1_1,.slice A1_2 l1_2.length c1_2]) (t:=50) ?hr ?_;(case hd=>rfl);(case hg=>rfl);(case hr=>exact zo);intro gb101 hg w20 hbox hb;have n0_:=Aside0.mk (below_step za hb);have n1_:=Aside0.mk (hbox);have n2_:=Aside0.mk ((by rw [hg];exact (below_size za):w.heap.size≤gb101));have n3_:=Aside0.mk ((by rw [hg];exact (below_size za):w.heap.size≤gb101));clear HB;have HB:=n0_;have BK101:=n1_;have GW101:=n2_;have GE101:=n3_;clear n0_ n1_ n2_ n3_;clear hb hbox hg;have hcz21_0:w20.cell? ⟨gb101,0,none⟩=some (.string a1_0):=(blk_cell BK101.out 0).trans rfl;have hcz21_1:w20.cell? ⟨gb101,1,none⟩=some (.slice A1_1 l1_1.length c1_1):=(blk_cell BK101.out 1).trans rfl;have hcz21_2:w20.cell? ⟨gb101,2,none⟩=some (.slice A1_2 l1_2.length c1_2):=(blk_cell BK101.out 2).trans rfl;have hfz21_0:=blk_frozen BK101.out 0;have hfz21_1:=blk_frozen BK101.out 1;have hfz21_2:=blk_frozen BK101.out 2)|((with_reducible refine gate_callee (f:=74) rfl ?_);refine goesL_ (some 13) rfl rfl Tryz.func74 zu rfl #[.slice none 0 0,.agg #[.string a1_0,.slice A1_1 l1_1.length c1_1,.slice A1_2 l1_2.length c1_2],.int .i64 a2] rfl zc ?_;(refine (impl_notationCode.calls k _ _ ([]:List (S67)) a1_0 _ _ l1_1 _ _ l1_2 a2 t102 _ ?side1 ?side2 ?side3 ?side4 ?side5 ?side6 A4.out).mono ?_);(case side1=>exact Kd.C_nil _ _);(case side2=>exact Nat.le_refl _);(case side3=>exact zm);(case side4=>exact HC1_1.out);(case side5=>exact zn);(case side6=>exact HC1_2.out);rintro e w22 ⟨rfl,hb⟩;refine ⟨_,rfl,?_⟩;replace BK101:=Aside0.mk (blk_below (g:=gb101) (o:=.cells #[.string a1_0,.slice A1_1 l1_1.length c1_1,.slice A1_2 l1_2.length c1_2] 50 (0,0)) zd hb);replace HB:=Aside0.mk (below_step zb hb);(try clear hb);(try clear hb2);(try clear hk);(try clear hi)))
  go_ret2
  exact ⟨_,zg,zl,zb⟩
end Go.Proofs.YtmoamoopoifnlaaGreatDoor.P
