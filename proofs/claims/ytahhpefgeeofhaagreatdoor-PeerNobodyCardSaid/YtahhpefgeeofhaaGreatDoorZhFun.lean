/-
  The table of the program's functions: what it names is there, and its code is of the kind that the run can take.
-/
import Derived.Test.YtahhpefgeeofhaaGreatDoorZhLex
import Derived.Test.YtahhpefgeeofhaaGreatDoorProg
import Derived.KernelRfl
set_option linter.unusedVariables false
set_option maxRecDepth 100000
namespace Go.Ab
open Go.Proofs

noncomputable def ft (f : Nat) : Option Func := bif Nat.blt f 306 then (bif Nat.blt f 153 then (bif Nat.blt f 76 then (bif Nat.blt f 38 then (bif Nat.blt f 19 then (bif Nat.blt f 9 then (bif Nat.blt f 4 then (bif Nat.blt f 2 then (bif Nat.blt f 1 then (some Tryz.f0) else (some Tryz.f1)) else (bif Nat.blt f 3 then (some Tryz.f2) else (some Tryz.f3))) else (bif Nat.blt f 6 then (bif Nat.blt f 5 then (some Tryz.f4) else (some Tryz.f5)) else (bif Nat.blt f 7 then (some Tryz.f6) else (bif Nat.blt f 8 then (some Tryz.f7) else (some Tryz.f8))))) else (bif Nat.blt f 14 then (bif Nat.blt f 11 then (bif Nat.blt f 10 then (some Tryz.f9) else (some Tryz.f10)) else (bif Nat.blt f 12 then (some Tryz.f11) else (bif Nat.blt f 13 then (some Tryz.f12) else (some Tryz.f13)))) else (bif Nat.blt f 16 then (bif Nat.blt f 15 then (some Tryz.f14) else (some Tryz.f15)) else (bif Nat.blt f 17 then (some Tryz.f16) else (bif Nat.blt f 18 then (some Tryz.f17) else (some Tryz.f18)))))) else (bif Nat.blt f 28 then (bif Nat.blt f 23 then (bif Nat.blt f 21 then (bif Nat.blt f 20 then (some Tryz.f19) else (some Tryz.f20)) else (bif Nat.blt f 22 then (some Tryz.f21) else (some Tryz.f22))) else (bif Nat.blt f 25 then (bif Nat.blt f 24 then (some Tryz.f23) else (some Tryz.f24)) else (bif Nat.blt f 26 then (some Tryz.f25) else (bif Nat.blt f 27 then (some Tryz.f26) else (some Tryz.f27))))) else (bif Nat.blt f 33 then (bif Nat.blt f 30 then (bif Nat.blt f 29 then (some Tryz.f28) else (some Tryz.f29)) else (bif Nat.blt f 31 then (some Tryz.f30) else (bif Nat.blt f 32 then (some Tryz.f31) else (some Tryz.f32)))) else (bif Nat.blt f 35 then (bif Nat.blt f 34 then (some Tryz.f33) else (some Tryz.f34)) else (bif Nat.blt f 36 then (some Tryz.f35) else (bif Nat.blt f 37 then (some Tryz.f36) else (some Tryz.f37))))))) else (bif Nat.blt f 57 then (bif Nat.blt f 47 then (bif Nat.blt f 42 then (bif Nat.blt f 40 then (bif Nat.blt f 39 then (some Tryz.f38) else (some Tryz.f39)) else (bif Nat.blt f 41 then (some Tryz.f40) else (some Tryz.f41))) else (bif Nat.blt f 44 then (bif Nat.blt f 43 then (some Tryz.f42) else (some Tryz.f43)) else (bif Nat.blt f 45 then (some Tryz.f44) else (bif Nat.blt f 46 then (some Tryz.f45) else (some Tryz.f46))))) else (bif Nat.blt f 52 then (bif Nat.blt f 49 then (bif Nat.blt f 48 then (some Tryz.f47) else (some Tryz.f48)) else (bif Nat.blt f 50 then (some Tryz.f49) else (bif Nat.blt f 51 then (some Tryz.f50) else (some Tryz.f51)))) else (bif Nat.blt f 54 then (bif Nat.blt f 53 then (some Tryz.f52) else (some Tryz.f53)) else (bif Nat.blt f 55 then (some Tryz.f54) else (bif Nat.blt f 56 then (some Tryz.f55) else (some Tryz.f56)))))) else (bif Nat.blt f 66 then (bif Nat.blt f 61 then (bif Nat.blt f 59 then (bif Nat.blt f 58 then (some Tryz.f57) else (some Tryz.f58)) else (bif Nat.blt f 60 then (some Tryz.f59) else (some Tryz.f60))) else (bif Nat.blt f 63 then (bif Nat.blt f 62 then (some Tryz.f61) else (some Tryz.f62)) else (bif Nat.blt f 64 then (some Tryz.f63) else (bif Nat.blt f 65 then (some Tryz.f64) else (some Tryz.f65))))) else (bif Nat.blt f 71 then (bif Nat.blt f 68 then (bif Nat.blt f 67 then (some Tryz.f66) else (some Tryz.f67)) else (bif Nat.blt f 69 then (some Tryz.f68) else (bif Nat.blt f 70 then (some Tryz.f69) else (some Tryz.f70)))) else (bif Nat.blt f 73 then (bif Nat.blt f 72 then (some Tryz.f71) else (some Tryz.f72)) else (bif Nat.blt f 74 then (some Tryz.f73) else (bif Nat.blt f 75 then (some Tryz.f74) else (some Tryz.f75)))))))) else (bif Nat.blt f 114 then (bif Nat.blt f 95 then (bif Nat.blt f 85 then (bif Nat.blt f 80 then (bif Nat.blt f 78 then (bif Nat.blt f 77 then (some Tryz.f76) else (some Tryz.f77)) else (bif Nat.blt f 79 then (some Tryz.f78) else (some Tryz.f79))) else (bif Nat.blt f 82 then (bif Nat.blt f 81 then (some Tryz.f80) else (some Tryz.f81)) else (bif Nat.blt f 83 then (some Tryz.f82) else (bif Nat.blt f 84 then (some Tryz.f83) else (some Tryz.f84))))) else (bif Nat.blt f 90 then (bif Nat.blt f 87 then (bif Nat.blt f 86 then (some Tryz.f85) else (some Tryz.f86)) else (bif Nat.blt f 88 then (some Tryz.f87) else (bif Nat.blt f 89 then (some Tryz.f88) else (some Tryz.f89)))) else (bif Nat.blt f 92 then (bif Nat.blt f 91 then (some Tryz.f90) else (some Tryz.f91)) else (bif Nat.blt f 93 then (some Tryz.f92) else (bif Nat.blt f 94 then (some Tryz.f93) else (some Tryz.f94)))))) else (bif Nat.blt f 104 then (bif Nat.blt f 99 then (bif Nat.blt f 97 then (bif Nat.blt f 96 then (some Tryz.f95) else (some Tryz.f96)) else (bif Nat.blt f 98 then (some Tryz.f97) else (some Tryz.f98))) else (bif Nat.blt f 101 then (bif Nat.blt f 100 then (some Tryz.f99) else (some Tryz.f100)) else (bif Nat.blt f 102 then (some Tryz.f101) else (bif Nat.blt f 103 then (some Tryz.f102) else (some Tryz.f103))))) else (bif Nat.blt f 109 then (bif Nat.blt f 106 then (bif Nat.blt f 105 then (some Tryz.f104) else (some Tryz.f105)) else (bif Nat.blt f 107 then (some Tryz.f106) else (bif Nat.blt f 108 then (some Tryz.f107) else (some Tryz.f108)))) else (bif Nat.blt f 111 then (bif Nat.blt f 110 then (some Tryz.f109) else (some Tryz.f110)) else (bif Nat.blt f 112 then (some Tryz.f111) else (bif Nat.blt f 113 then (some Tryz.f112) else (some Tryz.f113))))))) else (bif Nat.blt f 133 then (bif Nat.blt f 123 then (bif Nat.blt f 118 then (bif Nat.blt f 116 then (bif Nat.blt f 115 then (some Tryz.f114) else (some Tryz.f115)) else (bif Nat.blt f 117 then (some Tryz.f116) else (some Tryz.f117))) else (bif Nat.blt f 120 then (bif Nat.blt f 119 then (some Tryz.f118) else (some Tryz.f119)) else (bif Nat.blt f 121 then (some Tryz.f120) else (bif Nat.blt f 122 then (some Tryz.f121) else (some Tryz.f122))))) else (bif Nat.blt f 128 then (bif Nat.blt f 125 then (bif Nat.blt f 124 then (some Tryz.f123) else (some Tryz.f124)) else (bif Nat.blt f 126 then (some Tryz.f125) else (bif Nat.blt f 127 then (some Tryz.f126) else (some Tryz.f127)))) else (bif Nat.blt f 130 then (bif Nat.blt f 129 then (some Tryz.f128) else (some Tryz.f129)) else (bif Nat.blt f 131 then (some Tryz.f130) else (bif Nat.blt f 132 then (some Tryz.f131) else (some Tryz.f132)))))) else (bif Nat.blt f 143 then (bif Nat.blt f 138 then (bif Nat.blt f 135 then (bif Nat.blt f 134 then (some Tryz.f133) else (some Tryz.f134)) else (bif Nat.blt f 136 then (some Tryz.f135) else (bif Nat.blt f 137 then (some Tryz.f136) else (some Tryz.f137)))) else (bif Nat.blt f 140 then (bif Nat.blt f 139 then (some Tryz.f138) else (some Tryz.f139)) else (bif Nat.blt f 141 then (some Tryz.f140) else (bif Nat.blt f 142 then (some Tryz.f141) else (some Tryz.f142))))) else (bif Nat.blt f 148 then (bif Nat.blt f 145 then (bif Nat.blt f 144 then (some Tryz.f143) else (some Tryz.f144)) else (bif Nat.blt f 146 then (some Tryz.f145) else (bif Nat.blt f 147 then (some Tryz.f146) else (some Tryz.f147)))) else (bif Nat.blt f 150 then (bif Nat.blt f 149 then (some Tryz.f148) else (some Tryz.f149)) else (bif Nat.blt f 151 then (some Tryz.f150) else (bif Nat.blt f 152 then (some Tryz.f151) else (some Tryz.f152))))))))) else (bif Nat.blt f 229 then (bif Nat.blt f 191 then (bif Nat.blt f 172 then (bif Nat.blt f 162 then (bif Nat.blt f 157 then (bif Nat.blt f 155 then (bif Nat.blt f 154 then (some Tryz.f153) else (some Tryz.f154)) else (bif Nat.blt f 156 then (some Tryz.f155) else (some Tryz.f156))) else (bif Nat.blt f 159 then (bif Nat.blt f 158 then (some Tryz.f157) else (some Tryz.f158)) else (bif Nat.blt f 160 then (some Tryz.f159) else (bif Nat.blt f 161 then (some Tryz.f160) else (some Tryz.f161))))) else (bif Nat.blt f 167 then (bif Nat.blt f 164 then (bif Nat.blt f 163 then (some Tryz.f162) else (some Tryz.f163)) else (bif Nat.blt f 165 then (some Tryz.f164) else (bif Nat.blt f 166 then (some Tryz.f165) else (some Tryz.f166)))) else (bif Nat.blt f 169 then (bif Nat.blt f 168 then (some Tryz.f167) else (some Tryz.f168)) else (bif Nat.blt f 170 then (some Tryz.f169) else (bif Nat.blt f 171 then (some Tryz.f170) else (some Tryz.f171)))))) else (bif Nat.blt f 181 then (bif Nat.blt f 176 then (bif Nat.blt f 174 then (bif Nat.blt f 173 then (some Tryz.f172) else (some Tryz.f173)) else (bif Nat.blt f 175 then (some Tryz.f174) else (some Tryz.f175))) else (bif Nat.blt f 178 then (bif Nat.blt f 177 then (some Tryz.f176) else (some Tryz.f177)) else (bif Nat.blt f 179 then (some Tryz.f178) else (bif Nat.blt f 180 then (some Tryz.f179) else (some Tryz.f180))))) else (bif Nat.blt f 186 then (bif Nat.blt f 183 then (bif Nat.blt f 182 then (some Tryz.f181) else (some Tryz.f182)) else (bif Nat.blt f 184 then (some Tryz.f183) else (bif Nat.blt f 185 then (some Tryz.f184) else (some Tryz.f185)))) else (bif Nat.blt f 188 then (bif Nat.blt f 187 then (some Tryz.f186) else (some Tryz.f187)) else (bif Nat.blt f 189 then (some Tryz.f188) else (bif Nat.blt f 190 then (some Tryz.f189) else (some Tryz.f190))))))) else (bif Nat.blt f 210 then (bif Nat.blt f 200 then (bif Nat.blt f 195 then (bif Nat.blt f 193 then (bif Nat.blt f 192 then (some Tryz.f191) else (some Tryz.f192)) else (bif Nat.blt f 194 then (some Tryz.f193) else (some Tryz.f194))) else (bif Nat.blt f 197 then (bif Nat.blt f 196 then (some Tryz.f195) else (some Tryz.f196)) else (bif Nat.blt f 198 then (some Tryz.f197) else (bif Nat.blt f 199 then (some Tryz.f198) else (some Tryz.f199))))) else (bif Nat.blt f 205 then (bif Nat.blt f 202 then (bif Nat.blt f 201 then (some Tryz.f200) else (some Tryz.f201)) else (bif Nat.blt f 203 then (some Tryz.f202) else (bif Nat.blt f 204 then (some Tryz.f203) else (some Tryz.f204)))) else (bif Nat.blt f 207 then (bif Nat.blt f 206 then (some Tryz.f205) else (some Tryz.f206)) else (bif Nat.blt f 208 then (some Tryz.f207) else (bif Nat.blt f 209 then (some Tryz.f208) else (some Tryz.f209)))))) else (bif Nat.blt f 219 then (bif Nat.blt f 214 then (bif Nat.blt f 212 then (bif Nat.blt f 211 then (some Tryz.f210) else (some Tryz.f211)) else (bif Nat.blt f 213 then (some Tryz.f212) else (some Tryz.f213))) else (bif Nat.blt f 216 then (bif Nat.blt f 215 then (some Tryz.f214) else (some Tryz.f215)) else (bif Nat.blt f 217 then (some Tryz.f216) else (bif Nat.blt f 218 then (some Tryz.f217) else (some Tryz.f218))))) else (bif Nat.blt f 224 then (bif Nat.blt f 221 then (bif Nat.blt f 220 then (some Tryz.f219) else (some Tryz.f220)) else (bif Nat.blt f 222 then (some Tryz.f221) else (bif Nat.blt f 223 then (some Tryz.f222) else (some Tryz.f223)))) else (bif Nat.blt f 226 then (bif Nat.blt f 225 then (some Tryz.f224) else (some Tryz.f225)) else (bif Nat.blt f 227 then (some Tryz.f226) else (bif Nat.blt f 228 then (some Tryz.f227) else (some Tryz.f228)))))))) else (bif Nat.blt f 267 then (bif Nat.blt f 248 then (bif Nat.blt f 238 then (bif Nat.blt f 233 then (bif Nat.blt f 231 then (bif Nat.blt f 230 then (some Tryz.f229) else (some Tryz.f230)) else (bif Nat.blt f 232 then (some Tryz.f231) else (some Tryz.f232))) else (bif Nat.blt f 235 then (bif Nat.blt f 234 then (some Tryz.f233) else (some Tryz.f234)) else (bif Nat.blt f 236 then (some Tryz.f235) else (bif Nat.blt f 237 then (some Tryz.f236) else (some Tryz.f237))))) else (bif Nat.blt f 243 then (bif Nat.blt f 240 then (bif Nat.blt f 239 then (some Tryz.f238) else (some Tryz.f239)) else (bif Nat.blt f 241 then (some Tryz.f240) else (bif Nat.blt f 242 then (some Tryz.f241) else (some Tryz.f242)))) else (bif Nat.blt f 245 then (bif Nat.blt f 244 then (some Tryz.f243) else (some Tryz.f244)) else (bif Nat.blt f 246 then (some Tryz.f245) else (bif Nat.blt f 247 then (some Tryz.f246) else (some Tryz.f247)))))) else (bif Nat.blt f 257 then (bif Nat.blt f 252 then (bif Nat.blt f 250 then (bif Nat.blt f 249 then (some Tryz.f248) else (some Tryz.f249)) else (bif Nat.blt f 251 then (some Tryz.f250) else (some Tryz.f251))) else (bif Nat.blt f 254 then (bif Nat.blt f 253 then (some Tryz.f252) else (some Tryz.f253)) else (bif Nat.blt f 255 then (some Tryz.f254) else (bif Nat.blt f 256 then (some Tryz.f255) else (some Tryz.f256))))) else (bif Nat.blt f 262 then (bif Nat.blt f 259 then (bif Nat.blt f 258 then (some Tryz.f257) else (some Tryz.f258)) else (bif Nat.blt f 260 then (some Tryz.f259) else (bif Nat.blt f 261 then (some Tryz.f260) else (some Tryz.f261)))) else (bif Nat.blt f 264 then (bif Nat.blt f 263 then (some Tryz.f262) else (some Tryz.f263)) else (bif Nat.blt f 265 then (some Tryz.f264) else (bif Nat.blt f 266 then (some Tryz.f265) else (some Tryz.f266))))))) else (bif Nat.blt f 286 then (bif Nat.blt f 276 then (bif Nat.blt f 271 then (bif Nat.blt f 269 then (bif Nat.blt f 268 then (some Tryz.f267) else (some Tryz.f268)) else (bif Nat.blt f 270 then (some Tryz.f269) else (some Tryz.f270))) else (bif Nat.blt f 273 then (bif Nat.blt f 272 then (some Tryz.f271) else (some Tryz.f272)) else (bif Nat.blt f 274 then (some Tryz.f273) else (bif Nat.blt f 275 then (some Tryz.f274) else (some Tryz.f275))))) else (bif Nat.blt f 281 then (bif Nat.blt f 278 then (bif Nat.blt f 277 then (some Tryz.f276) else (some Tryz.f277)) else (bif Nat.blt f 279 then (some Tryz.f278) else (bif Nat.blt f 280 then (some Tryz.f279) else (some Tryz.f280)))) else (bif Nat.blt f 283 then (bif Nat.blt f 282 then (some Tryz.f281) else (some Tryz.f282)) else (bif Nat.blt f 284 then (some Tryz.f283) else (bif Nat.blt f 285 then (some Tryz.f284) else (some Tryz.f285)))))) else (bif Nat.blt f 296 then (bif Nat.blt f 291 then (bif Nat.blt f 288 then (bif Nat.blt f 287 then (some Tryz.f286) else (some Tryz.f287)) else (bif Nat.blt f 289 then (some Tryz.f288) else (bif Nat.blt f 290 then (some Tryz.f289) else (some Tryz.f290)))) else (bif Nat.blt f 293 then (bif Nat.blt f 292 then (some Tryz.f291) else (some Tryz.f292)) else (bif Nat.blt f 294 then (some Tryz.f293) else (bif Nat.blt f 295 then (some Tryz.f294) else (some Tryz.f295))))) else (bif Nat.blt f 301 then (bif Nat.blt f 298 then (bif Nat.blt f 297 then (some Tryz.f296) else (some Tryz.f297)) else (bif Nat.blt f 299 then (some Tryz.f298) else (bif Nat.blt f 300 then (some Tryz.f299) else (some Tryz.f300)))) else (bif Nat.blt f 303 then (bif Nat.blt f 302 then (some Tryz.f301) else (some Tryz.f302)) else (bif Nat.blt f 304 then (some Tryz.f303) else (bif Nat.blt f 305 then (some Tryz.f304) else (some Tryz.f305)))))))))) else none

theorem ftNode {f m : Nat} {x y : Option Func} {fn : Func} {Q : Prop} (h : (bif Nat.blt f m then x else y) = some fn) (hx : f < m → x = some fn → Q) (hy : m ≤ f → y = some fn → Q) : Q := by
  cases hb : Nat.blt f m with
  | true => rw [hb] at h; exact hx (by simpa using hb) h
  | false =>
    rw [hb] at h
    refine hy (Nat.le_of_not_lt fun hlt => ?_) h
    have : Nat.blt f m = true := by simpa using hlt
    rw [this] at hb
    cases hb
theorem good0 : fnGood Tryz.f0 = true := by kernel_rfl
theorem good1 : fnGood Tryz.f1 = true := by kernel_rfl
theorem good2 : fnGood Tryz.f2 = true := by kernel_rfl
theorem good3 : fnGood Tryz.f3 = true := by kernel_rfl
theorem good4 : fnGood Tryz.f4 = true := by kernel_rfl
theorem good5 : fnGood Tryz.f5 = true := by kernel_rfl
theorem good6 : fnGood Tryz.f6 = true := by kernel_rfl
theorem good7 : fnGood Tryz.f7 = true := by kernel_rfl
theorem good8 : fnGood Tryz.f8 = true := by kernel_rfl
theorem good9 : fnGood Tryz.f9 = true := by kernel_rfl
theorem good10 : fnGood Tryz.f10 = true := by kernel_rfl
theorem good11 : fnGood Tryz.f11 = true := by kernel_rfl
theorem good12 : fnGood Tryz.f12 = true := by kernel_rfl
theorem good13 : fnGood Tryz.f13 = true := by kernel_rfl
theorem good14 : fnGood Tryz.f14 = true := by kernel_rfl
theorem good15 : fnGood Tryz.f15 = true := by kernel_rfl
theorem good16 : fnGood Tryz.f16 = true := by kernel_rfl
theorem good17 : fnGood Tryz.f17 = true := by kernel_rfl
theorem good18 : fnGood Tryz.f18 = true := by kernel_rfl
theorem good19 : fnGood Tryz.f19 = true := by kernel_rfl
theorem good20 : fnGood Tryz.f20 = true := by kernel_rfl
theorem good21 : fnGood Tryz.f21 = true := by kernel_rfl
theorem good22 : fnGood Tryz.f22 = true := by kernel_rfl
theorem good23 : fnGood Tryz.f23 = true := by kernel_rfl
theorem good24 : fnGood Tryz.f24 = true := by kernel_rfl
theorem good25 : fnGood Tryz.f25 = true := by kernel_rfl
theorem good26 : fnGood Tryz.f26 = true := by kernel_rfl
theorem good27 : fnGood Tryz.f27 = true := by kernel_rfl
theorem good28 : fnGood Tryz.f28 = true := by kernel_rfl
theorem good29 : fnGood Tryz.f29 = true := by kernel_rfl
theorem good30 : fnGood Tryz.f30 = true := by kernel_rfl
theorem good31 : fnGood Tryz.f31 = true := by kernel_rfl
theorem good32 : fnGood Tryz.f32 = true := by kernel_rfl
theorem good33 : fnGood Tryz.f33 = true := by kernel_rfl
theorem good34 : fnGood Tryz.f34 = true := by kernel_rfl
theorem good35 : fnGood Tryz.f35 = true := by kernel_rfl
theorem good36 : fnGood Tryz.f36 = true := by kernel_rfl
theorem good37 : fnGood Tryz.f37 = true := by kernel_rfl
theorem good38 : fnGood Tryz.f38 = true := by kernel_rfl
theorem good39 : fnGood Tryz.f39 = true := by kernel_rfl
theorem good40 : fnGood Tryz.f40 = true := by kernel_rfl
theorem good41 : fnGood Tryz.f41 = true := by kernel_rfl
theorem good42 : fnGood Tryz.f42 = true := by kernel_rfl
theorem good43 : fnGood Tryz.f43 = true := by kernel_rfl
theorem good44 : fnGood Tryz.f44 = true := by kernel_rfl
theorem good45 : fnGood Tryz.f45 = true := by kernel_rfl
theorem good46 : fnGood Tryz.f46 = true := by kernel_rfl
theorem good47 : fnGood Tryz.f47 = true := by kernel_rfl
theorem good48 : fnGood Tryz.f48 = true := by kernel_rfl
theorem good49 : fnGood Tryz.f49 = true := by kernel_rfl
theorem good50 : fnGood Tryz.f50 = true := by kernel_rfl
theorem good51 : fnGood Tryz.f51 = true := by kernel_rfl
theorem good52 : fnGood Tryz.f52 = true := by kernel_rfl
theorem good53 : fnGood Tryz.f53 = true := by kernel_rfl
theorem good54 : fnGood Tryz.f54 = true := by kernel_rfl
theorem good55 : fnGood Tryz.f55 = true := by kernel_rfl
theorem good56 : fnGood Tryz.f56 = true := by kernel_rfl
theorem good57 : fnGood Tryz.f57 = true := by kernel_rfl
theorem good58 : fnGood Tryz.f58 = true := by kernel_rfl
theorem good59 : fnGood Tryz.f59 = true := by kernel_rfl
theorem good60 : fnGood Tryz.f60 = true := by kernel_rfl
theorem good61 : fnGood Tryz.f61 = true := by kernel_rfl
theorem good62 : fnGood Tryz.f62 = true := by kernel_rfl
theorem good63 : fnGood Tryz.f63 = true := by kernel_rfl
theorem good64 : fnGood Tryz.f64 = true := by kernel_rfl
theorem good65 : fnGood Tryz.f65 = true := by kernel_rfl
theorem good66 : fnGood Tryz.f66 = true := by kernel_rfl
theorem good67 : fnGood Tryz.f67 = true := by kernel_rfl
theorem good68 : fnGood Tryz.f68 = true := by kernel_rfl
theorem good69 : fnGood Tryz.f69 = true := by kernel_rfl
theorem good70 : fnGood Tryz.f70 = true := by kernel_rfl
theorem good71 : fnGood Tryz.f71 = true := by kernel_rfl
theorem good72 : fnGood Tryz.f72 = true := by kernel_rfl
theorem good73 : fnGood Tryz.f73 = true := by kernel_rfl
theorem good74 : fnGood Tryz.f74 = true := by kernel_rfl
theorem good75 : fnGood Tryz.f75 = true := by kernel_rfl
theorem good76 : fnGood Tryz.f76 = true := by kernel_rfl
theorem good77 : fnGood Tryz.f77 = true := by kernel_rfl
theorem good78 : fnGood Tryz.f78 = true := by kernel_rfl
theorem good79 : fnGood Tryz.f79 = true := by kernel_rfl
theorem good80 : fnGood Tryz.f80 = true := by kernel_rfl
theorem good81 : fnGood Tryz.f81 = true := by kernel_rfl
theorem good82 : fnGood Tryz.f82 = true := by kernel_rfl
theorem good83 : fnGood Tryz.f83 = true := by kernel_rfl
theorem good84 : fnGood Tryz.f84 = true := by kernel_rfl
theorem good85 : fnGood Tryz.f85 = true := by kernel_rfl
theorem good86 : fnGood Tryz.f86 = true := by kernel_rfl
theorem good87 : fnGood Tryz.f87 = true := by kernel_rfl
theorem good88 : fnGood Tryz.f88 = true := by kernel_rfl
theorem good89 : fnGood Tryz.f89 = true := by kernel_rfl
theorem good90 : fnGood Tryz.f90 = true := by kernel_rfl
theorem good91 : fnGood Tryz.f91 = true := by kernel_rfl
theorem good92 : fnGood Tryz.f92 = true := by kernel_rfl
theorem good93 : fnGood Tryz.f93 = true := by kernel_rfl
theorem good94 : fnGood Tryz.f94 = true := by kernel_rfl
theorem good95 : fnGood Tryz.f95 = true := by kernel_rfl
theorem good96 : fnGood Tryz.f96 = true := by kernel_rfl
theorem good97 : fnGood Tryz.f97 = true := by kernel_rfl
theorem good98 : fnGood Tryz.f98 = true := by kernel_rfl
theorem good99 : fnGood Tryz.f99 = true := by kernel_rfl
theorem good100 : fnGood Tryz.f100 = true := by kernel_rfl
theorem good101 : fnGood Tryz.f101 = true := by kernel_rfl
theorem good102 : fnGood Tryz.f102 = true := by kernel_rfl
theorem good103 : fnGood Tryz.f103 = true := by kernel_rfl
theorem good104 : fnGood Tryz.f104 = true := by kernel_rfl
theorem good105 : fnGood Tryz.f105 = true := by kernel_rfl
theorem good106 : fnGood Tryz.f106 = true := by kernel_rfl
theorem good107 : fnGood Tryz.f107 = true := by kernel_rfl
theorem good108 : fnGood Tryz.f108 = true := by kernel_rfl
theorem good109 : fnGood Tryz.f109 = true := by kernel_rfl
theorem good110 : fnGood Tryz.f110 = true := by kernel_rfl
theorem good111 : fnGood Tryz.f111 = true := by kernel_rfl
theorem good112 : fnGood Tryz.f112 = true := by kernel_rfl
theorem good113 : fnGood Tryz.f113 = true := by kernel_rfl
theorem good114 : fnGood Tryz.f114 = true := by kernel_rfl
theorem good115 : fnGood Tryz.f115 = true := by kernel_rfl
theorem good116 : fnGood Tryz.f116 = true := by kernel_rfl
theorem good117 : fnGood Tryz.f117 = true := by kernel_rfl
theorem good118 : fnGood Tryz.f118 = true := by kernel_rfl
theorem good119 : fnGood Tryz.f119 = true := by kernel_rfl
theorem good120 : fnGood Tryz.f120 = true := by kernel_rfl
theorem good121 : fnGood Tryz.f121 = true := by kernel_rfl
theorem good122 : fnGood Tryz.f122 = true := by kernel_rfl
theorem good123 : fnGood Tryz.f123 = true := by kernel_rfl
theorem good124 : fnGood Tryz.f124 = true := by kernel_rfl
theorem good125 : fnGood Tryz.f125 = true := by kernel_rfl
theorem good126 : fnGood Tryz.f126 = true := by kernel_rfl
theorem good127 : fnGood Tryz.f127 = true := by kernel_rfl
theorem good128 : fnGood Tryz.f128 = true := by kernel_rfl
theorem good129 : fnGood Tryz.f129 = true := by kernel_rfl
theorem good130 : fnGood Tryz.f130 = true := by kernel_rfl
theorem good131 : fnGood Tryz.f131 = true := by kernel_rfl
theorem good132 : fnGood Tryz.f132 = true := by kernel_rfl
theorem good133 : fnGood Tryz.f133 = true := by kernel_rfl
theorem good134 : fnGood Tryz.f134 = true := by kernel_rfl
theorem good135 : fnGood Tryz.f135 = true := by kernel_rfl
theorem good136 : fnGood Tryz.f136 = true := by kernel_rfl
theorem good137 : fnGood Tryz.f137 = true := by kernel_rfl
theorem good138 : fnGood Tryz.f138 = true := by kernel_rfl
theorem good139 : fnGood Tryz.f139 = true := by kernel_rfl
theorem good140 : fnGood Tryz.f140 = true := by kernel_rfl
theorem good141 : fnGood Tryz.f141 = true := by kernel_rfl
theorem good142 : fnGood Tryz.f142 = true := by kernel_rfl
theorem good143 : fnGood Tryz.f143 = true := by kernel_rfl
theorem good144 : fnGood Tryz.f144 = true := by kernel_rfl
theorem good145 : fnGood Tryz.f145 = true := by kernel_rfl
theorem good146 : fnGood Tryz.f146 = true := by kernel_rfl
theorem good147 : fnGood Tryz.f147 = true := by kernel_rfl
theorem good148 : fnGood Tryz.f148 = true := by kernel_rfl
theorem good149 : fnGood Tryz.f149 = true := by kernel_rfl
theorem good150 : fnGood Tryz.f150 = true := by kernel_rfl
theorem good151 : fnGood Tryz.f151 = true := by kernel_rfl
theorem good152 : fnGood Tryz.f152 = true := by kernel_rfl
theorem good153 : fnGood Tryz.f153 = true := by kernel_rfl
theorem good154 : fnGood Tryz.f154 = true := by kernel_rfl
theorem good155 : fnGood Tryz.f155 = true := by kernel_rfl
theorem good156 : fnGood Tryz.f156 = true := by kernel_rfl
theorem good157 : fnGood Tryz.f157 = true := by kernel_rfl
theorem good158 : fnGood Tryz.f158 = true := by kernel_rfl
theorem good159 : fnGood Tryz.f159 = true := by kernel_rfl
theorem good160 : fnGood Tryz.f160 = true := by kernel_rfl
theorem good161 : fnGood Tryz.f161 = true := by kernel_rfl
theorem good162 : fnGood Tryz.f162 = true := by kernel_rfl
theorem good163 : fnGood Tryz.f163 = true := by kernel_rfl
theorem good164 : fnGood Tryz.f164 = true := by kernel_rfl
theorem good165 : fnGood Tryz.f165 = true := by kernel_rfl
theorem good166 : fnGood Tryz.f166 = true := by kernel_rfl
theorem good167 : fnGood Tryz.f167 = true := by kernel_rfl
theorem good168 : fnGood Tryz.f168 = true := by kernel_rfl
theorem good169 : fnGood Tryz.f169 = true := by kernel_rfl
theorem good170 : fnGood Tryz.f170 = true := by kernel_rfl
theorem good171 : fnGood Tryz.f171 = true := by kernel_rfl
theorem good172 : fnGood Tryz.f172 = true := by kernel_rfl
theorem good173 : fnGood Tryz.f173 = true := by kernel_rfl
theorem good174 : fnGood Tryz.f174 = true := by kernel_rfl
theorem good175 : fnGood Tryz.f175 = true := by kernel_rfl
theorem good176 : fnGood Tryz.f176 = true := by kernel_rfl
theorem good177 : fnGood Tryz.f177 = true := by kernel_rfl
theorem good178 : fnGood Tryz.f178 = true := by kernel_rfl
theorem good179 : fnGood Tryz.f179 = true := by kernel_rfl
theorem good180 : fnGood Tryz.f180 = true := by kernel_rfl
theorem good181 : fnGood Tryz.f181 = true := by kernel_rfl
theorem good182 : fnGood Tryz.f182 = true := by kernel_rfl
theorem good183 : fnGood Tryz.f183 = true := by kernel_rfl
theorem good184 : fnGood Tryz.f184 = true := by kernel_rfl
theorem good185 : fnGood Tryz.f185 = true := by kernel_rfl
theorem good186 : fnGood Tryz.f186 = true := by kernel_rfl
theorem good187 : fnGood Tryz.f187 = true := by kernel_rfl
theorem good188 : fnGood Tryz.f188 = true := by kernel_rfl
theorem good189 : fnGood Tryz.f189 = true := by kernel_rfl
theorem good190 : fnGood Tryz.f190 = true := by kernel_rfl
theorem good191 : fnGood Tryz.f191 = true := by kernel_rfl
theorem good192 : fnGood Tryz.f192 = true := by kernel_rfl
theorem good193 : fnGood Tryz.f193 = true := by kernel_rfl
theorem good194 : fnGood Tryz.f194 = true := by kernel_rfl
theorem good195 : fnGood Tryz.f195 = true := by kernel_rfl
theorem good196 : fnGood Tryz.f196 = true := by kernel_rfl
theorem good197 : fnGood Tryz.f197 = true := by kernel_rfl
theorem good198 : fnGood Tryz.f198 = true := by kernel_rfl
theorem good199 : fnGood Tryz.f199 = true := by kernel_rfl
theorem good200 : fnGood Tryz.f200 = true := by kernel_rfl
theorem good201 : fnGood Tryz.f201 = true := by kernel_rfl
theorem good202 : fnGood Tryz.f202 = true := by kernel_rfl
theorem good203 : fnGood Tryz.f203 = true := by kernel_rfl
theorem good204 : fnGood Tryz.f204 = true := by kernel_rfl
theorem good205 : fnGood Tryz.f205 = true := by kernel_rfl
theorem good206 : fnGood Tryz.f206 = true := by kernel_rfl
theorem good207 : fnGood Tryz.f207 = true := by kernel_rfl
theorem good208 : fnGood Tryz.f208 = true := by kernel_rfl
theorem good209 : fnGood Tryz.f209 = true := by kernel_rfl
theorem good210 : fnGood Tryz.f210 = true := by kernel_rfl
theorem good211 : fnGood Tryz.f211 = true := by kernel_rfl
theorem good212 : fnGood Tryz.f212 = true := by kernel_rfl
theorem good213 : fnGood Tryz.f213 = true := by kernel_rfl
theorem good214 : fnGood Tryz.f214 = true := by kernel_rfl
theorem good215 : fnGood Tryz.f215 = true := by kernel_rfl
theorem good216 : fnGood Tryz.f216 = true := by kernel_rfl
theorem good217 : fnGood Tryz.f217 = true := by kernel_rfl
theorem good218 : fnGood Tryz.f218 = true := by kernel_rfl
theorem good219 : fnGood Tryz.f219 = true := by kernel_rfl
theorem good220 : fnGood Tryz.f220 = true := by kernel_rfl
theorem good221 : fnGood Tryz.f221 = true := by kernel_rfl
theorem good222 : fnGood Tryz.f222 = true := by kernel_rfl
theorem good223 : fnGood Tryz.f223 = true := by kernel_rfl
theorem good224 : fnGood Tryz.f224 = true := by kernel_rfl
theorem good225 : fnGood Tryz.f225 = true := by kernel_rfl
theorem good226 : fnGood Tryz.f226 = true := by kernel_rfl
theorem good227 : fnGood Tryz.f227 = true := by kernel_rfl
theorem good228 : fnGood Tryz.f228 = true := by kernel_rfl
theorem good229 : fnGood Tryz.f229 = true := by kernel_rfl
theorem good230 : fnGood Tryz.f230 = true := by kernel_rfl
theorem good231 : fnGood Tryz.f231 = true := by kernel_rfl
theorem good232 : fnGood Tryz.f232 = true := by kernel_rfl
theorem good233 : fnGood Tryz.f233 = true := by kernel_rfl
theorem good234 : fnGood Tryz.f234 = true := by kernel_rfl
theorem good235 : fnGood Tryz.f235 = true := by kernel_rfl
theorem good236 : fnGood Tryz.f236 = true := by kernel_rfl
theorem good237 : fnGood Tryz.f237 = true := by kernel_rfl
theorem good238 : fnGood Tryz.f238 = true := by kernel_rfl
theorem good239 : fnGood Tryz.f239 = true := by kernel_rfl
theorem good240 : fnGood Tryz.f240 = true := by kernel_rfl
theorem good241 : fnGood Tryz.f241 = true := by kernel_rfl
theorem good242 : fnGood Tryz.f242 = true := by kernel_rfl
theorem good243 : fnGood Tryz.f243 = true := by kernel_rfl
theorem good244 : fnGood Tryz.f244 = true := by kernel_rfl
theorem good245 : fnGood Tryz.f245 = true := by kernel_rfl
theorem good246 : fnGood Tryz.f246 = true := by kernel_rfl
theorem good247 : fnGood Tryz.f247 = true := by kernel_rfl
theorem good248 : fnGood Tryz.f248 = true := by kernel_rfl
theorem good249 : fnGood Tryz.f249 = true := by kernel_rfl
theorem good250 : fnGood Tryz.f250 = true := by kernel_rfl
theorem good251 : fnGood Tryz.f251 = true := by kernel_rfl
theorem good252 : fnGood Tryz.f252 = true := by kernel_rfl
theorem good253 : fnGood Tryz.f253 = true := by kernel_rfl
theorem good254 : fnGood Tryz.f254 = true := by kernel_rfl
theorem good255 : fnGood Tryz.f255 = true := by kernel_rfl
theorem good256 : fnGood Tryz.f256 = true := by kernel_rfl
theorem good257 : fnGood Tryz.f257 = true := by kernel_rfl
theorem good258 : fnGood Tryz.f258 = true := by kernel_rfl
theorem good259 : fnGood Tryz.f259 = true := by kernel_rfl
theorem good260 : fnGood Tryz.f260 = true := by kernel_rfl
theorem good261 : fnGood Tryz.f261 = true := by kernel_rfl
theorem good262 : fnGood Tryz.f262 = true := by kernel_rfl
theorem good263 : fnGood Tryz.f263 = true := by kernel_rfl
theorem good264 : fnGood Tryz.f264 = true := by kernel_rfl
theorem good265 : fnGood Tryz.f265 = true := by kernel_rfl
theorem good266 : fnGood Tryz.f266 = true := by kernel_rfl
theorem good267 : fnGood Tryz.f267 = true := by kernel_rfl
theorem good268 : fnGood Tryz.f268 = true := by kernel_rfl
theorem good269 : fnGood Tryz.f269 = true := by kernel_rfl
theorem good270 : fnGood Tryz.f270 = true := by kernel_rfl
theorem good271 : fnGood Tryz.f271 = true := by kernel_rfl
theorem good272 : fnGood Tryz.f272 = true := by kernel_rfl
theorem good273 : fnGood Tryz.f273 = true := by kernel_rfl
theorem good274 : fnGood Tryz.f274 = true := by kernel_rfl
theorem good275 : fnGood Tryz.f275 = true := by kernel_rfl
theorem good276 : fnGood Tryz.f276 = true := by kernel_rfl
theorem good277 : fnGood Tryz.f277 = true := by kernel_rfl
theorem good278 : fnGood Tryz.f278 = true := by kernel_rfl
theorem good279 : fnGood Tryz.f279 = true := by kernel_rfl
theorem good280 : fnGood Tryz.f280 = true := by kernel_rfl
theorem good281 : fnGood Tryz.f281 = true := by kernel_rfl
theorem good282 : fnGood Tryz.f282 = true := by kernel_rfl
theorem good283 : fnGood Tryz.f283 = true := by kernel_rfl
theorem good284 : fnGood Tryz.f284 = true := by kernel_rfl
theorem good285 : fnGood Tryz.f285 = true := by kernel_rfl
theorem good286 : fnGood Tryz.f286 = true := by kernel_rfl
theorem good287 : fnGood Tryz.f287 = true := by kernel_rfl
theorem good288 : fnGood Tryz.f288 = true := by kernel_rfl
theorem good289 : fnGood Tryz.f289 = true := by kernel_rfl
theorem good290 : fnGood Tryz.f290 = true := by kernel_rfl
theorem good291 : fnGood Tryz.f291 = true := by kernel_rfl
theorem good292 : fnGood Tryz.f292 = true := by kernel_rfl
theorem good293 : fnGood Tryz.f293 = true := by kernel_rfl
theorem good294 : fnGood Tryz.f294 = true := by kernel_rfl
theorem good295 : fnGood Tryz.f295 = true := by kernel_rfl
theorem good296 : fnGood Tryz.f296 = true := by kernel_rfl
theorem good297 : fnGood Tryz.f297 = true := by kernel_rfl
theorem good298 : fnGood Tryz.f298 = true := by kernel_rfl
theorem good299 : fnGood Tryz.f299 = true := by kernel_rfl
theorem good300 : fnGood Tryz.f300 = true := by kernel_rfl
theorem good301 : fnGood Tryz.f301 = true := by kernel_rfl
theorem good302 : fnGood Tryz.f302 = true := by kernel_rfl
theorem good303 : fnGood Tryz.f303 = true := by kernel_rfl
theorem good304 : fnGood Tryz.f304 = true := by kernel_rfl
theorem good305 : fnGood Tryz.f305 = true := by kernel_rfl

theorem ftLeaf {f a : Nat} {g fn : Func} (he : f = a) (hg : Tryz.prog.funcs[a]? = some g) (hok : fnGood g = true) (h : some g = some fn) : Tryz.prog.funcs[f]? = some fn ∧ fnGood fn = true := by
  cases h
  rw [he]
  exact ⟨hg, hok⟩
theorem ftEq {f a : Nat} (h1 : a ≤ f) (h2 : f < a + 1) : f = a := Nat.le_antisymm (Nat.le_of_lt_succ h2) h1

theorem ft_get {f : Nat} {fn : Func} (h : ft f = some fn) : Tryz.prog.funcs[f]? = some fn ∧ fnGood fn = true := by
  unfold ft at h
  exact ftNode h (fun b0 h => ftNode h (fun b1 h => ftNode h (fun b2 h => ftNode h (fun b3 h => ftNode h (fun b4 h => ftNode h (fun b5 h => ftNode h (fun b6 h => ftNode h (fun b7 h => ftNode h (fun b8 h => ftLeaf (ftEq (Nat.zero_le _) b8) Tryz.func0 good0 h) (fun b8 h => ftLeaf (ftEq b8 b7) Tryz.func1 good1 h)) (fun b7 h => ftNode h (fun b9 h => ftLeaf (ftEq b7 b9) Tryz.func2 good2 h) (fun b9 h => ftLeaf (ftEq b9 b6) Tryz.func3 good3 h))) (fun b6 h => ftNode h (fun b10 h => ftNode h (fun b11 h => ftLeaf (ftEq b6 b11) Tryz.func4 good4 h) (fun b11 h => ftLeaf (ftEq b11 b10) Tryz.func5 good5 h)) (fun b10 h => ftNode h (fun b12 h => ftLeaf (ftEq b10 b12) Tryz.func6 good6 h) (fun b12 h => ftNode h (fun b13 h => ftLeaf (ftEq b12 b13) Tryz.func7 good7 h) (fun b13 h => ftLeaf (ftEq b13 b5) Tryz.func8 good8 h))))) (fun b5 h => ftNode h (fun b14 h => ftNode h (fun b15 h => ftNode h (fun b16 h => ftLeaf (ftEq b5 b16) Tryz.func9 good9 h) (fun b16 h => ftLeaf (ftEq b16 b15) Tryz.func10 good10 h)) (fun b15 h => ftNode h (fun b17 h => ftLeaf (ftEq b15 b17) Tryz.func11 good11 h) (fun b17 h => ftNode h (fun b18 h => ftLeaf (ftEq b17 b18) Tryz.func12 good12 h) (fun b18 h => ftLeaf (ftEq b18 b14) Tryz.func13 good13 h)))) (fun b14 h => ftNode h (fun b19 h => ftNode h (fun b20 h => ftLeaf (ftEq b14 b20) Tryz.func14 good14 h) (fun b20 h => ftLeaf (ftEq b20 b19) Tryz.func15 good15 h)) (fun b19 h => ftNode h (fun b21 h => ftLeaf (ftEq b19 b21) Tryz.func16 good16 h) (fun b21 h => ftNode h (fun b22 h => ftLeaf (ftEq b21 b22) Tryz.func17 good17 h) (fun b22 h => ftLeaf (ftEq b22 b4) Tryz.func18 good18 h)))))) (fun b4 h => ftNode h (fun b23 h => ftNode h (fun b24 h => ftNode h (fun b25 h => ftNode h (fun b26 h => ftLeaf (ftEq b4 b26) Tryz.func19 good19 h) (fun b26 h => ftLeaf (ftEq b26 b25) Tryz.func20 good20 h)) (fun b25 h => ftNode h (fun b27 h => ftLeaf (ftEq b25 b27) Tryz.func21 good21 h) (fun b27 h => ftLeaf (ftEq b27 b24) Tryz.func22 good22 h))) (fun b24 h => ftNode h (fun b28 h => ftNode h (fun b29 h => ftLeaf (ftEq b24 b29) Tryz.func23 good23 h) (fun b29 h => ftLeaf (ftEq b29 b28) Tryz.func24 good24 h)) (fun b28 h => ftNode h (fun b30 h => ftLeaf (ftEq b28 b30) Tryz.func25 good25 h) (fun b30 h => ftNode h (fun b31 h => ftLeaf (ftEq b30 b31) Tryz.func26 good26 h) (fun b31 h => ftLeaf (ftEq b31 b23) Tryz.func27 good27 h))))) (fun b23 h => ftNode h (fun b32 h => ftNode h (fun b33 h => ftNode h (fun b34 h => ftLeaf (ftEq b23 b34) Tryz.func28 good28 h) (fun b34 h => ftLeaf (ftEq b34 b33) Tryz.func29 good29 h)) (fun b33 h => ftNode h (fun b35 h => ftLeaf (ftEq b33 b35) Tryz.func30 good30 h) (fun b35 h => ftNode h (fun b36 h => ftLeaf (ftEq b35 b36) Tryz.func31 good31 h) (fun b36 h => ftLeaf (ftEq b36 b32) Tryz.func32 good32 h)))) (fun b32 h => ftNode h (fun b37 h => ftNode h (fun b38 h => ftLeaf (ftEq b32 b38) Tryz.func33 good33 h) (fun b38 h => ftLeaf (ftEq b38 b37) Tryz.func34 good34 h)) (fun b37 h => ftNode h (fun b39 h => ftLeaf (ftEq b37 b39) Tryz.func35 good35 h) (fun b39 h => ftNode h (fun b40 h => ftLeaf (ftEq b39 b40) Tryz.func36 good36 h) (fun b40 h => ftLeaf (ftEq b40 b3) Tryz.func37 good37 h))))))) (fun b3 h => ftNode h (fun b41 h => ftNode h (fun b42 h => ftNode h (fun b43 h => ftNode h (fun b44 h => ftNode h (fun b45 h => ftLeaf (ftEq b3 b45) Tryz.func38 good38 h) (fun b45 h => ftLeaf (ftEq b45 b44) Tryz.func39 good39 h)) (fun b44 h => ftNode h (fun b46 h => ftLeaf (ftEq b44 b46) Tryz.func40 good40 h) (fun b46 h => ftLeaf (ftEq b46 b43) Tryz.func41 good41 h))) (fun b43 h => ftNode h (fun b47 h => ftNode h (fun b48 h => ftLeaf (ftEq b43 b48) Tryz.func42 good42 h) (fun b48 h => ftLeaf (ftEq b48 b47) Tryz.func43 good43 h)) (fun b47 h => ftNode h (fun b49 h => ftLeaf (ftEq b47 b49) Tryz.func44 good44 h) (fun b49 h => ftNode h (fun b50 h => ftLeaf (ftEq b49 b50) Tryz.func45 good45 h) (fun b50 h => ftLeaf (ftEq b50 b42) Tryz.func46 good46 h))))) (fun b42 h => ftNode h (fun b51 h => ftNode h (fun b52 h => ftNode h (fun b53 h => ftLeaf (ftEq b42 b53) Tryz.func47 good47 h) (fun b53 h => ftLeaf (ftEq b53 b52) Tryz.func48 good48 h)) (fun b52 h => ftNode h (fun b54 h => ftLeaf (ftEq b52 b54) Tryz.func49 good49 h) (fun b54 h => ftNode h (fun b55 h => ftLeaf (ftEq b54 b55) Tryz.func50 good50 h) (fun b55 h => ftLeaf (ftEq b55 b51) Tryz.func51 good51 h)))) (fun b51 h => ftNode h (fun b56 h => ftNode h (fun b57 h => ftLeaf (ftEq b51 b57) Tryz.func52 good52 h) (fun b57 h => ftLeaf (ftEq b57 b56) Tryz.func53 good53 h)) (fun b56 h => ftNode h (fun b58 h => ftLeaf (ftEq b56 b58) Tryz.func54 good54 h) (fun b58 h => ftNode h (fun b59 h => ftLeaf (ftEq b58 b59) Tryz.func55 good55 h) (fun b59 h => ftLeaf (ftEq b59 b41) Tryz.func56 good56 h)))))) (fun b41 h => ftNode h (fun b60 h => ftNode h (fun b61 h => ftNode h (fun b62 h => ftNode h (fun b63 h => ftLeaf (ftEq b41 b63) Tryz.func57 good57 h) (fun b63 h => ftLeaf (ftEq b63 b62) Tryz.func58 good58 h)) (fun b62 h => ftNode h (fun b64 h => ftLeaf (ftEq b62 b64) Tryz.func59 good59 h) (fun b64 h => ftLeaf (ftEq b64 b61) Tryz.func60 good60 h))) (fun b61 h => ftNode h (fun b65 h => ftNode h (fun b66 h => ftLeaf (ftEq b61 b66) Tryz.func61 good61 h) (fun b66 h => ftLeaf (ftEq b66 b65) Tryz.func62 good62 h)) (fun b65 h => ftNode h (fun b67 h => ftLeaf (ftEq b65 b67) Tryz.func63 good63 h) (fun b67 h => ftNode h (fun b68 h => ftLeaf (ftEq b67 b68) Tryz.func64 good64 h) (fun b68 h => ftLeaf (ftEq b68 b60) Tryz.func65 good65 h))))) (fun b60 h => ftNode h (fun b69 h => ftNode h (fun b70 h => ftNode h (fun b71 h => ftLeaf (ftEq b60 b71) Tryz.func66 good66 h) (fun b71 h => ftLeaf (ftEq b71 b70) Tryz.func67 good67 h)) (fun b70 h => ftNode h (fun b72 h => ftLeaf (ftEq b70 b72) Tryz.func68 good68 h) (fun b72 h => ftNode h (fun b73 h => ftLeaf (ftEq b72 b73) Tryz.func69 good69 h) (fun b73 h => ftLeaf (ftEq b73 b69) Tryz.func70 good70 h)))) (fun b69 h => ftNode h (fun b74 h => ftNode h (fun b75 h => ftLeaf (ftEq b69 b75) Tryz.func71 good71 h) (fun b75 h => ftLeaf (ftEq b75 b74) Tryz.func72 good72 h)) (fun b74 h => ftNode h (fun b76 h => ftLeaf (ftEq b74 b76) Tryz.func73 good73 h) (fun b76 h => ftNode h (fun b77 h => ftLeaf (ftEq b76 b77) Tryz.func74 good74 h) (fun b77 h => ftLeaf (ftEq b77 b2) Tryz.func75 good75 h)))))))) (fun b2 h => ftNode h (fun b78 h => ftNode h (fun b79 h => ftNode h (fun b80 h => ftNode h (fun b81 h => ftNode h (fun b82 h => ftNode h (fun b83 h => ftLeaf (ftEq b2 b83) Tryz.func76 good76 h) (fun b83 h => ftLeaf (ftEq b83 b82) Tryz.func77 good77 h)) (fun b82 h => ftNode h (fun b84 h => ftLeaf (ftEq b82 b84) Tryz.func78 good78 h) (fun b84 h => ftLeaf (ftEq b84 b81) Tryz.func79 good79 h))) (fun b81 h => ftNode h (fun b85 h => ftNode h (fun b86 h => ftLeaf (ftEq b81 b86) Tryz.func80 good80 h) (fun b86 h => ftLeaf (ftEq b86 b85) Tryz.func81 good81 h)) (fun b85 h => ftNode h (fun b87 h => ftLeaf (ftEq b85 b87) Tryz.func82 good82 h) (fun b87 h => ftNode h (fun b88 h => ftLeaf (ftEq b87 b88) Tryz.func83 good83 h) (fun b88 h => ftLeaf (ftEq b88 b80) Tryz.func84 good84 h))))) (fun b80 h => ftNode h (fun b89 h => ftNode h (fun b90 h => ftNode h (fun b91 h => ftLeaf (ftEq b80 b91) Tryz.func85 good85 h) (fun b91 h => ftLeaf (ftEq b91 b90) Tryz.func86 good86 h)) (fun b90 h => ftNode h (fun b92 h => ftLeaf (ftEq b90 b92) Tryz.func87 good87 h) (fun b92 h => ftNode h (fun b93 h => ftLeaf (ftEq b92 b93) Tryz.func88 good88 h) (fun b93 h => ftLeaf (ftEq b93 b89) Tryz.func89 good89 h)))) (fun b89 h => ftNode h (fun b94 h => ftNode h (fun b95 h => ftLeaf (ftEq b89 b95) Tryz.func90 good90 h) (fun b95 h => ftLeaf (ftEq b95 b94) Tryz.func91 good91 h)) (fun b94 h => ftNode h (fun b96 h => ftLeaf (ftEq b94 b96) Tryz.func92 good92 h) (fun b96 h => ftNode h (fun b97 h => ftLeaf (ftEq b96 b97) Tryz.func93 good93 h) (fun b97 h => ftLeaf (ftEq b97 b79) Tryz.func94 good94 h)))))) (fun b79 h => ftNode h (fun b98 h => ftNode h (fun b99 h => ftNode h (fun b100 h => ftNode h (fun b101 h => ftLeaf (ftEq b79 b101) Tryz.func95 good95 h) (fun b101 h => ftLeaf (ftEq b101 b100) Tryz.func96 good96 h)) (fun b100 h => ftNode h (fun b102 h => ftLeaf (ftEq b100 b102) Tryz.func97 good97 h) (fun b102 h => ftLeaf (ftEq b102 b99) Tryz.func98 good98 h))) (fun b99 h => ftNode h (fun b103 h => ftNode h (fun b104 h => ftLeaf (ftEq b99 b104) Tryz.func99 good99 h) (fun b104 h => ftLeaf (ftEq b104 b103) Tryz.func100 good100 h)) (fun b103 h => ftNode h (fun b105 h => ftLeaf (ftEq b103 b105) Tryz.func101 good101 h) (fun b105 h => ftNode h (fun b106 h => ftLeaf (ftEq b105 b106) Tryz.func102 good102 h) (fun b106 h => ftLeaf (ftEq b106 b98) Tryz.func103 good103 h))))) (fun b98 h => ftNode h (fun b107 h => ftNode h (fun b108 h => ftNode h (fun b109 h => ftLeaf (ftEq b98 b109) Tryz.func104 good104 h) (fun b109 h => ftLeaf (ftEq b109 b108) Tryz.func105 good105 h)) (fun b108 h => ftNode h (fun b110 h => ftLeaf (ftEq b108 b110) Tryz.func106 good106 h) (fun b110 h => ftNode h (fun b111 h => ftLeaf (ftEq b110 b111) Tryz.func107 good107 h) (fun b111 h => ftLeaf (ftEq b111 b107) Tryz.func108 good108 h)))) (fun b107 h => ftNode h (fun b112 h => ftNode h (fun b113 h => ftLeaf (ftEq b107 b113) Tryz.func109 good109 h) (fun b113 h => ftLeaf (ftEq b113 b112) Tryz.func110 good110 h)) (fun b112 h => ftNode h (fun b114 h => ftLeaf (ftEq b112 b114) Tryz.func111 good111 h) (fun b114 h => ftNode h (fun b115 h => ftLeaf (ftEq b114 b115) Tryz.func112 good112 h) (fun b115 h => ftLeaf (ftEq b115 b78) Tryz.func113 good113 h))))))) (fun b78 h => ftNode h (fun b116 h => ftNode h (fun b117 h => ftNode h (fun b118 h => ftNode h (fun b119 h => ftNode h (fun b120 h => ftLeaf (ftEq b78 b120) Tryz.func114 good114 h) (fun b120 h => ftLeaf (ftEq b120 b119) Tryz.func115 good115 h)) (fun b119 h => ftNode h (fun b121 h => ftLeaf (ftEq b119 b121) Tryz.func116 good116 h) (fun b121 h => ftLeaf (ftEq b121 b118) Tryz.func117 good117 h))) (fun b118 h => ftNode h (fun b122 h => ftNode h (fun b123 h => ftLeaf (ftEq b118 b123) Tryz.func118 good118 h) (fun b123 h => ftLeaf (ftEq b123 b122) Tryz.func119 good119 h)) (fun b122 h => ftNode h (fun b124 h => ftLeaf (ftEq b122 b124) Tryz.func120 good120 h) (fun b124 h => ftNode h (fun b125 h => ftLeaf (ftEq b124 b125) Tryz.func121 good121 h) (fun b125 h => ftLeaf (ftEq b125 b117) Tryz.func122 good122 h))))) (fun b117 h => ftNode h (fun b126 h => ftNode h (fun b127 h => ftNode h (fun b128 h => ftLeaf (ftEq b117 b128) Tryz.func123 good123 h) (fun b128 h => ftLeaf (ftEq b128 b127) Tryz.func124 good124 h)) (fun b127 h => ftNode h (fun b129 h => ftLeaf (ftEq b127 b129) Tryz.func125 good125 h) (fun b129 h => ftNode h (fun b130 h => ftLeaf (ftEq b129 b130) Tryz.func126 good126 h) (fun b130 h => ftLeaf (ftEq b130 b126) Tryz.func127 good127 h)))) (fun b126 h => ftNode h (fun b131 h => ftNode h (fun b132 h => ftLeaf (ftEq b126 b132) Tryz.func128 good128 h) (fun b132 h => ftLeaf (ftEq b132 b131) Tryz.func129 good129 h)) (fun b131 h => ftNode h (fun b133 h => ftLeaf (ftEq b131 b133) Tryz.func130 good130 h) (fun b133 h => ftNode h (fun b134 h => ftLeaf (ftEq b133 b134) Tryz.func131 good131 h) (fun b134 h => ftLeaf (ftEq b134 b116) Tryz.func132 good132 h)))))) (fun b116 h => ftNode h (fun b135 h => ftNode h (fun b136 h => ftNode h (fun b137 h => ftNode h (fun b138 h => ftLeaf (ftEq b116 b138) Tryz.func133 good133 h) (fun b138 h => ftLeaf (ftEq b138 b137) Tryz.func134 good134 h)) (fun b137 h => ftNode h (fun b139 h => ftLeaf (ftEq b137 b139) Tryz.func135 good135 h) (fun b139 h => ftNode h (fun b140 h => ftLeaf (ftEq b139 b140) Tryz.func136 good136 h) (fun b140 h => ftLeaf (ftEq b140 b136) Tryz.func137 good137 h)))) (fun b136 h => ftNode h (fun b141 h => ftNode h (fun b142 h => ftLeaf (ftEq b136 b142) Tryz.func138 good138 h) (fun b142 h => ftLeaf (ftEq b142 b141) Tryz.func139 good139 h)) (fun b141 h => ftNode h (fun b143 h => ftLeaf (ftEq b141 b143) Tryz.func140 good140 h) (fun b143 h => ftNode h (fun b144 h => ftLeaf (ftEq b143 b144) Tryz.func141 good141 h) (fun b144 h => ftLeaf (ftEq b144 b135) Tryz.func142 good142 h))))) (fun b135 h => ftNode h (fun b145 h => ftNode h (fun b146 h => ftNode h (fun b147 h => ftLeaf (ftEq b135 b147) Tryz.func143 good143 h) (fun b147 h => ftLeaf (ftEq b147 b146) Tryz.func144 good144 h)) (fun b146 h => ftNode h (fun b148 h => ftLeaf (ftEq b146 b148) Tryz.func145 good145 h) (fun b148 h => ftNode h (fun b149 h => ftLeaf (ftEq b148 b149) Tryz.func146 good146 h) (fun b149 h => ftLeaf (ftEq b149 b145) Tryz.func147 good147 h)))) (fun b145 h => ftNode h (fun b150 h => ftNode h (fun b151 h => ftLeaf (ftEq b145 b151) Tryz.func148 good148 h) (fun b151 h => ftLeaf (ftEq b151 b150) Tryz.func149 good149 h)) (fun b150 h => ftNode h (fun b152 h => ftLeaf (ftEq b150 b152) Tryz.func150 good150 h) (fun b152 h => ftNode h (fun b153 h => ftLeaf (ftEq b152 b153) Tryz.func151 good151 h) (fun b153 h => ftLeaf (ftEq b153 b1) Tryz.func152 good152 h))))))))) (fun b1 h => ftNode h (fun b154 h => ftNode h (fun b155 h => ftNode h (fun b156 h => ftNode h (fun b157 h => ftNode h (fun b158 h => ftNode h (fun b159 h => ftNode h (fun b160 h => ftLeaf (ftEq b1 b160) Tryz.func153 good153 h) (fun b160 h => ftLeaf (ftEq b160 b159) Tryz.func154 good154 h)) (fun b159 h => ftNode h (fun b161 h => ftLeaf (ftEq b159 b161) Tryz.func155 good155 h) (fun b161 h => ftLeaf (ftEq b161 b158) Tryz.func156 good156 h))) (fun b158 h => ftNode h (fun b162 h => ftNode h (fun b163 h => ftLeaf (ftEq b158 b163) Tryz.func157 good157 h) (fun b163 h => ftLeaf (ftEq b163 b162) Tryz.func158 good158 h)) (fun b162 h => ftNode h (fun b164 h => ftLeaf (ftEq b162 b164) Tryz.func159 good159 h) (fun b164 h => ftNode h (fun b165 h => ftLeaf (ftEq b164 b165) Tryz.func160 good160 h) (fun b165 h => ftLeaf (ftEq b165 b157) Tryz.func161 good161 h))))) (fun b157 h => ftNode h (fun b166 h => ftNode h (fun b167 h => ftNode h (fun b168 h => ftLeaf (ftEq b157 b168) Tryz.func162 good162 h) (fun b168 h => ftLeaf (ftEq b168 b167) Tryz.func163 good163 h)) (fun b167 h => ftNode h (fun b169 h => ftLeaf (ftEq b167 b169) Tryz.func164 good164 h) (fun b169 h => ftNode h (fun b170 h => ftLeaf (ftEq b169 b170) Tryz.func165 good165 h) (fun b170 h => ftLeaf (ftEq b170 b166) Tryz.func166 good166 h)))) (fun b166 h => ftNode h (fun b171 h => ftNode h (fun b172 h => ftLeaf (ftEq b166 b172) Tryz.func167 good167 h) (fun b172 h => ftLeaf (ftEq b172 b171) Tryz.func168 good168 h)) (fun b171 h => ftNode h (fun b173 h => ftLeaf (ftEq b171 b173) Tryz.func169 good169 h) (fun b173 h => ftNode h (fun b174 h => ftLeaf (ftEq b173 b174) Tryz.func170 good170 h) (fun b174 h => ftLeaf (ftEq b174 b156) Tryz.func171 good171 h)))))) (fun b156 h => ftNode h (fun b175 h => ftNode h (fun b176 h => ftNode h (fun b177 h => ftNode h (fun b178 h => ftLeaf (ftEq b156 b178) Tryz.func172 good172 h) (fun b178 h => ftLeaf (ftEq b178 b177) Tryz.func173 good173 h)) (fun b177 h => ftNode h (fun b179 h => ftLeaf (ftEq b177 b179) Tryz.func174 good174 h) (fun b179 h => ftLeaf (ftEq b179 b176) Tryz.func175 good175 h))) (fun b176 h => ftNode h (fun b180 h => ftNode h (fun b181 h => ftLeaf (ftEq b176 b181) Tryz.func176 good176 h) (fun b181 h => ftLeaf (ftEq b181 b180) Tryz.func177 good177 h)) (fun b180 h => ftNode h (fun b182 h => ftLeaf (ftEq b180 b182) Tryz.func178 good178 h) (fun b182 h => ftNode h (fun b183 h => ftLeaf (ftEq b182 b183) Tryz.func179 good179 h) (fun b183 h => ftLeaf (ftEq b183 b175) Tryz.func180 good180 h))))) (fun b175 h => ftNode h (fun b184 h => ftNode h (fun b185 h => ftNode h (fun b186 h => ftLeaf (ftEq b175 b186) Tryz.func181 good181 h) (fun b186 h => ftLeaf (ftEq b186 b185) Tryz.func182 good182 h)) (fun b185 h => ftNode h (fun b187 h => ftLeaf (ftEq b185 b187) Tryz.func183 good183 h) (fun b187 h => ftNode h (fun b188 h => ftLeaf (ftEq b187 b188) Tryz.func184 good184 h) (fun b188 h => ftLeaf (ftEq b188 b184) Tryz.func185 good185 h)))) (fun b184 h => ftNode h (fun b189 h => ftNode h (fun b190 h => ftLeaf (ftEq b184 b190) Tryz.func186 good186 h) (fun b190 h => ftLeaf (ftEq b190 b189) Tryz.func187 good187 h)) (fun b189 h => ftNode h (fun b191 h => ftLeaf (ftEq b189 b191) Tryz.func188 good188 h) (fun b191 h => ftNode h (fun b192 h => ftLeaf (ftEq b191 b192) Tryz.func189 good189 h) (fun b192 h => ftLeaf (ftEq b192 b155) Tryz.func190 good190 h))))))) (fun b155 h => ftNode h (fun b193 h => ftNode h (fun b194 h => ftNode h (fun b195 h => ftNode h (fun b196 h => ftNode h (fun b197 h => ftLeaf (ftEq b155 b197) Tryz.func191 good191 h) (fun b197 h => ftLeaf (ftEq b197 b196) Tryz.func192 good192 h)) (fun b196 h => ftNode h (fun b198 h => ftLeaf (ftEq b196 b198) Tryz.func193 good193 h) (fun b198 h => ftLeaf (ftEq b198 b195) Tryz.func194 good194 h))) (fun b195 h => ftNode h (fun b199 h => ftNode h (fun b200 h => ftLeaf (ftEq b195 b200) Tryz.func195 good195 h) (fun b200 h => ftLeaf (ftEq b200 b199) Tryz.func196 good196 h)) (fun b199 h => ftNode h (fun b201 h => ftLeaf (ftEq b199 b201) Tryz.func197 good197 h) (fun b201 h => ftNode h (fun b202 h => ftLeaf (ftEq b201 b202) Tryz.func198 good198 h) (fun b202 h => ftLeaf (ftEq b202 b194) Tryz.func199 good199 h))))) (fun b194 h => ftNode h (fun b203 h => ftNode h (fun b204 h => ftNode h (fun b205 h => ftLeaf (ftEq b194 b205) Tryz.func200 good200 h) (fun b205 h => ftLeaf (ftEq b205 b204) Tryz.func201 good201 h)) (fun b204 h => ftNode h (fun b206 h => ftLeaf (ftEq b204 b206) Tryz.func202 good202 h) (fun b206 h => ftNode h (fun b207 h => ftLeaf (ftEq b206 b207) Tryz.func203 good203 h) (fun b207 h => ftLeaf (ftEq b207 b203) Tryz.func204 good204 h)))) (fun b203 h => ftNode h (fun b208 h => ftNode h (fun b209 h => ftLeaf (ftEq b203 b209) Tryz.func205 good205 h) (fun b209 h => ftLeaf (ftEq b209 b208) Tryz.func206 good206 h)) (fun b208 h => ftNode h (fun b210 h => ftLeaf (ftEq b208 b210) Tryz.func207 good207 h) (fun b210 h => ftNode h (fun b211 h => ftLeaf (ftEq b210 b211) Tryz.func208 good208 h) (fun b211 h => ftLeaf (ftEq b211 b193) Tryz.func209 good209 h)))))) (fun b193 h => ftNode h (fun b212 h => ftNode h (fun b213 h => ftNode h (fun b214 h => ftNode h (fun b215 h => ftLeaf (ftEq b193 b215) Tryz.func210 good210 h) (fun b215 h => ftLeaf (ftEq b215 b214) Tryz.func211 good211 h)) (fun b214 h => ftNode h (fun b216 h => ftLeaf (ftEq b214 b216) Tryz.func212 good212 h) (fun b216 h => ftLeaf (ftEq b216 b213) Tryz.func213 good213 h))) (fun b213 h => ftNode h (fun b217 h => ftNode h (fun b218 h => ftLeaf (ftEq b213 b218) Tryz.func214 good214 h) (fun b218 h => ftLeaf (ftEq b218 b217) Tryz.func215 good215 h)) (fun b217 h => ftNode h (fun b219 h => ftLeaf (ftEq b217 b219) Tryz.func216 good216 h) (fun b219 h => ftNode h (fun b220 h => ftLeaf (ftEq b219 b220) Tryz.func217 good217 h) (fun b220 h => ftLeaf (ftEq b220 b212) Tryz.func218 good218 h))))) (fun b212 h => ftNode h (fun b221 h => ftNode h (fun b222 h => ftNode h (fun b223 h => ftLeaf (ftEq b212 b223) Tryz.func219 good219 h) (fun b223 h => ftLeaf (ftEq b223 b222) Tryz.func220 good220 h)) (fun b222 h => ftNode h (fun b224 h => ftLeaf (ftEq b222 b224) Tryz.func221 good221 h) (fun b224 h => ftNode h (fun b225 h => ftLeaf (ftEq b224 b225) Tryz.func222 good222 h) (fun b225 h => ftLeaf (ftEq b225 b221) Tryz.func223 good223 h)))) (fun b221 h => ftNode h (fun b226 h => ftNode h (fun b227 h => ftLeaf (ftEq b221 b227) Tryz.func224 good224 h) (fun b227 h => ftLeaf (ftEq b227 b226) Tryz.func225 good225 h)) (fun b226 h => ftNode h (fun b228 h => ftLeaf (ftEq b226 b228) Tryz.func226 good226 h) (fun b228 h => ftNode h (fun b229 h => ftLeaf (ftEq b228 b229) Tryz.func227 good227 h) (fun b229 h => ftLeaf (ftEq b229 b154) Tryz.func228 good228 h)))))))) (fun b154 h => ftNode h (fun b230 h => ftNode h (fun b231 h => ftNode h (fun b232 h => ftNode h (fun b233 h => ftNode h (fun b234 h => ftNode h (fun b235 h => ftLeaf (ftEq b154 b235) Tryz.func229 good229 h) (fun b235 h => ftLeaf (ftEq b235 b234) Tryz.func230 good230 h)) (fun b234 h => ftNode h (fun b236 h => ftLeaf (ftEq b234 b236) Tryz.func231 good231 h) (fun b236 h => ftLeaf (ftEq b236 b233) Tryz.func232 good232 h))) (fun b233 h => ftNode h (fun b237 h => ftNode h (fun b238 h => ftLeaf (ftEq b233 b238) Tryz.func233 good233 h) (fun b238 h => ftLeaf (ftEq b238 b237) Tryz.func234 good234 h)) (fun b237 h => ftNode h (fun b239 h => ftLeaf (ftEq b237 b239) Tryz.func235 good235 h) (fun b239 h => ftNode h (fun b240 h => ftLeaf (ftEq b239 b240) Tryz.func236 good236 h) (fun b240 h => ftLeaf (ftEq b240 b232) Tryz.func237 good237 h))))) (fun b232 h => ftNode h (fun b241 h => ftNode h (fun b242 h => ftNode h (fun b243 h => ftLeaf (ftEq b232 b243) Tryz.func238 good238 h) (fun b243 h => ftLeaf (ftEq b243 b242) Tryz.func239 good239 h)) (fun b242 h => ftNode h (fun b244 h => ftLeaf (ftEq b242 b244) Tryz.func240 good240 h) (fun b244 h => ftNode h (fun b245 h => ftLeaf (ftEq b244 b245) Tryz.func241 good241 h) (fun b245 h => ftLeaf (ftEq b245 b241) Tryz.func242 good242 h)))) (fun b241 h => ftNode h (fun b246 h => ftNode h (fun b247 h => ftLeaf (ftEq b241 b247) Tryz.func243 good243 h) (fun b247 h => ftLeaf (ftEq b247 b246) Tryz.func244 good244 h)) (fun b246 h => ftNode h (fun b248 h => ftLeaf (ftEq b246 b248) Tryz.func245 good245 h) (fun b248 h => ftNode h (fun b249 h => ftLeaf (ftEq b248 b249) Tryz.func246 good246 h) (fun b249 h => ftLeaf (ftEq b249 b231) Tryz.func247 good247 h)))))) (fun b231 h => ftNode h (fun b250 h => ftNode h (fun b251 h => ftNode h (fun b252 h => ftNode h (fun b253 h => ftLeaf (ftEq b231 b253) Tryz.func248 good248 h) (fun b253 h => ftLeaf (ftEq b253 b252) Tryz.func249 good249 h)) (fun b252 h => ftNode h (fun b254 h => ftLeaf (ftEq b252 b254) Tryz.func250 good250 h) (fun b254 h => ftLeaf (ftEq b254 b251) Tryz.func251 good251 h))) (fun b251 h => ftNode h (fun b255 h => ftNode h (fun b256 h => ftLeaf (ftEq b251 b256) Tryz.func252 good252 h) (fun b256 h => ftLeaf (ftEq b256 b255) Tryz.func253 good253 h)) (fun b255 h => ftNode h (fun b257 h => ftLeaf (ftEq b255 b257) Tryz.func254 good254 h) (fun b257 h => ftNode h (fun b258 h => ftLeaf (ftEq b257 b258) Tryz.func255 good255 h) (fun b258 h => ftLeaf (ftEq b258 b250) Tryz.func256 good256 h))))) (fun b250 h => ftNode h (fun b259 h => ftNode h (fun b260 h => ftNode h (fun b261 h => ftLeaf (ftEq b250 b261) Tryz.func257 good257 h) (fun b261 h => ftLeaf (ftEq b261 b260) Tryz.func258 good258 h)) (fun b260 h => ftNode h (fun b262 h => ftLeaf (ftEq b260 b262) Tryz.func259 good259 h) (fun b262 h => ftNode h (fun b263 h => ftLeaf (ftEq b262 b263) Tryz.func260 good260 h) (fun b263 h => ftLeaf (ftEq b263 b259) Tryz.func261 good261 h)))) (fun b259 h => ftNode h (fun b264 h => ftNode h (fun b265 h => ftLeaf (ftEq b259 b265) Tryz.func262 good262 h) (fun b265 h => ftLeaf (ftEq b265 b264) Tryz.func263 good263 h)) (fun b264 h => ftNode h (fun b266 h => ftLeaf (ftEq b264 b266) Tryz.func264 good264 h) (fun b266 h => ftNode h (fun b267 h => ftLeaf (ftEq b266 b267) Tryz.func265 good265 h) (fun b267 h => ftLeaf (ftEq b267 b230) Tryz.func266 good266 h))))))) (fun b230 h => ftNode h (fun b268 h => ftNode h (fun b269 h => ftNode h (fun b270 h => ftNode h (fun b271 h => ftNode h (fun b272 h => ftLeaf (ftEq b230 b272) Tryz.func267 good267 h) (fun b272 h => ftLeaf (ftEq b272 b271) Tryz.func268 good268 h)) (fun b271 h => ftNode h (fun b273 h => ftLeaf (ftEq b271 b273) Tryz.func269 good269 h) (fun b273 h => ftLeaf (ftEq b273 b270) Tryz.func270 good270 h))) (fun b270 h => ftNode h (fun b274 h => ftNode h (fun b275 h => ftLeaf (ftEq b270 b275) Tryz.func271 good271 h) (fun b275 h => ftLeaf (ftEq b275 b274) Tryz.func272 good272 h)) (fun b274 h => ftNode h (fun b276 h => ftLeaf (ftEq b274 b276) Tryz.func273 good273 h) (fun b276 h => ftNode h (fun b277 h => ftLeaf (ftEq b276 b277) Tryz.func274 good274 h) (fun b277 h => ftLeaf (ftEq b277 b269) Tryz.func275 good275 h))))) (fun b269 h => ftNode h (fun b278 h => ftNode h (fun b279 h => ftNode h (fun b280 h => ftLeaf (ftEq b269 b280) Tryz.func276 good276 h) (fun b280 h => ftLeaf (ftEq b280 b279) Tryz.func277 good277 h)) (fun b279 h => ftNode h (fun b281 h => ftLeaf (ftEq b279 b281) Tryz.func278 good278 h) (fun b281 h => ftNode h (fun b282 h => ftLeaf (ftEq b281 b282) Tryz.func279 good279 h) (fun b282 h => ftLeaf (ftEq b282 b278) Tryz.func280 good280 h)))) (fun b278 h => ftNode h (fun b283 h => ftNode h (fun b284 h => ftLeaf (ftEq b278 b284) Tryz.func281 good281 h) (fun b284 h => ftLeaf (ftEq b284 b283) Tryz.func282 good282 h)) (fun b283 h => ftNode h (fun b285 h => ftLeaf (ftEq b283 b285) Tryz.func283 good283 h) (fun b285 h => ftNode h (fun b286 h => ftLeaf (ftEq b285 b286) Tryz.func284 good284 h) (fun b286 h => ftLeaf (ftEq b286 b268) Tryz.func285 good285 h)))))) (fun b268 h => ftNode h (fun b287 h => ftNode h (fun b288 h => ftNode h (fun b289 h => ftNode h (fun b290 h => ftLeaf (ftEq b268 b290) Tryz.func286 good286 h) (fun b290 h => ftLeaf (ftEq b290 b289) Tryz.func287 good287 h)) (fun b289 h => ftNode h (fun b291 h => ftLeaf (ftEq b289 b291) Tryz.func288 good288 h) (fun b291 h => ftNode h (fun b292 h => ftLeaf (ftEq b291 b292) Tryz.func289 good289 h) (fun b292 h => ftLeaf (ftEq b292 b288) Tryz.func290 good290 h)))) (fun b288 h => ftNode h (fun b293 h => ftNode h (fun b294 h => ftLeaf (ftEq b288 b294) Tryz.func291 good291 h) (fun b294 h => ftLeaf (ftEq b294 b293) Tryz.func292 good292 h)) (fun b293 h => ftNode h (fun b295 h => ftLeaf (ftEq b293 b295) Tryz.func293 good293 h) (fun b295 h => ftNode h (fun b296 h => ftLeaf (ftEq b295 b296) Tryz.func294 good294 h) (fun b296 h => ftLeaf (ftEq b296 b287) Tryz.func295 good295 h))))) (fun b287 h => ftNode h (fun b297 h => ftNode h (fun b298 h => ftNode h (fun b299 h => ftLeaf (ftEq b287 b299) Tryz.func296 good296 h) (fun b299 h => ftLeaf (ftEq b299 b298) Tryz.func297 good297 h)) (fun b298 h => ftNode h (fun b300 h => ftLeaf (ftEq b298 b300) Tryz.func298 good298 h) (fun b300 h => ftNode h (fun b301 h => ftLeaf (ftEq b300 b301) Tryz.func299 good299 h) (fun b301 h => ftLeaf (ftEq b301 b297) Tryz.func300 good300 h)))) (fun b297 h => ftNode h (fun b302 h => ftNode h (fun b303 h => ftLeaf (ftEq b297 b303) Tryz.func301 good301 h) (fun b303 h => ftLeaf (ftEq b303 b302) Tryz.func302 good302 h)) (fun b302 h => ftNode h (fun b304 h => ftLeaf (ftEq b302 b304) Tryz.func303 good303 h) (fun b304 h => ftNode h (fun b305 h => ftLeaf (ftEq b304 b305) Tryz.func304 good304 h) (fun b305 h => ftLeaf (ftEq b305 b0) Tryz.func305 good305 h)))))))))) (fun _ h => by cases h)

theorem ftok : FTOK Tryz.prog ft := fun f fn h => ⟨(ft_get h).1, fnGood_spec (ft_get h).2⟩

end Go.Ab
