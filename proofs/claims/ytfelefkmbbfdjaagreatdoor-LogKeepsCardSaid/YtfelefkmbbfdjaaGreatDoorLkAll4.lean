/- LogKeeps: a round, as a theorem of its own. LogKeeps: the rounds, as a theorem of its own. LogKeeps: the walk. -/
import Derived.Test.YtfelefkmbbfdjaaGreatDoorLkAll2
import Derived.Test.YtfelefkmbbfdjaaGreatDoorLkAll3
import Derived.WalkKit
import Derived.WalkLawsBesides
import Derived.WalkSpells
import Derived.RegionTactic
import Derived.Deep.RegionHeld3
import Derived.Deep.QuietTactic
import Derived.BigQuiet
import Derived.BigRegion
import Derived.Deep.CutBlock
import Derived.Deep.DeepCutAuto
import Derived.Outline
namespace Go.Proofs.YtfelefkmbbfdjaaGreatDoor.logKeeps
open Go.ChangeShapes Go.WideShapes Go.ChangeAt Go.RowKit Go.Joins Go.Deep
set_option linter.unusedVariables false
theorem kk_fail {w0 w : World} {P n : Nat} {R : List Ru} {dA mA : Option Addr} {dc mc : Nat} (h : KK w0 P R n dA dc mA mc w) (v : Int) (hv : I64 v) :
    Calls Tryz.prog 14 #[.pointer (some ⟨P, 0, none⟩), .int .i64 v] w fun e w' => (∃ v, e = .returned v) ∧ KK w0 P R n dA dc mA mc w' := by
  obtain ⟨f, C, D, jk, sf, lf, st, rfl, rfl, hL, hC⟩ := h
  refine (kl_fail hL v hv).mono ?_
  rintro e w' ⟨he, ⟨lf', hL'⟩, hM⟩
  exact ⟨he, f, C, D, jk, sf, lf', st, rfl, rfl, hL', hC.moved hL hM⟩
set_option maxHeartbeats 6400000 in
set_option maxRecDepth 1000000 in
theorem round (Q : Exit → Act → World → Prop) (w0 W : World) (P : Nat) (R : List Ru) (LA : Option Addr) (lc : Nat) (l : List Ak) (SA : Option Addr) (sc : Nat) (sy : List Int) (FA : Option Addr) (fc : Nat) (fl : List Int) (KA : Option Addr) (kc : Nat) (ks : List Int) (n : Nat) (dA : Option Addr) (dc : Nat) (mA : Option Addr) (mc : Nat) (k r : Nat)
    (x0 x5 x6 x7 x8 x9 x10 x11 x12 x13 x14 x15 x16 x17 x18 x19 x20 x22 x23 x28 x29 x30 x31 x32 x33 x34 x35 x36 x37 x38 x39 x40 x41 x42 x43 x44 x45 x46 x47 x48 x49 x50 x51 x52 x53 x54 x55 x56 x57 x58 x59 x60 x61 x62 x63 x64 x65 x66 x67 x68 x69 x70 x71 x72 x73 x74 x75 x76 x77 x78 x79 x80 x81 x82 x83 x84 x85 x86 x87 x88 x89 x90 x91 x92 x93 x94 x95 x96 x97 x98 x99 x100 x101 x102 x103 x104 x105 x106 x107 x108 x109 x110 x111 x112 x113 x114 x115 x116 x117 x118 x119 x120 x121 x122 x123 x124 x125 x126 x127 x128 x129 x130 x131 x132 x133 x134 x135 x136 x137 x138 x139 x140 x141 x142 x143 x144 x145 x146 x147 x148 x149 x150 x151 x152 x153 x154 x155 x156 x157 x158 x159 x160 x161 x162 x163 x164 x165 x166 x167 x168 x169 x170 x171 x172 x173 x174 x175 x176 x177 x178 x179 x180 x181 x182 x183 x184 x185 x186 x187 x188 x189 x190 x191 x192 x193 x194 x195 x196 x197 x198 x199 x200 x201 x202 x203 x204 x205 x206 x207 x208 x209 x210 x211 x212 x213 x214 x215 x216 x217 x218 x219 x220 x221 x222 x223 x224 x225 x226 x227 x228 x229 x230 x231 x232 x233 x234 x235 x236 x237 x238 x239 x240 x241 x242 x243 x244 x245 x246 x247 x248 x249 x250 x251 x252 x253 x254 x255 x256 x257 x258 x259 x260 x261 x262 x263 x264 x265 x266 x267 x268 x269 x270 x271 x272 x273 x274 x275 x276 x277 x278 x279 x280 x281 x282 x283 x284 x285 x286 x287 x288 x289 x290 x291 x292 x293 x294 x295 x296 x297 x298 x299 x300 x301 x302 x303 x304 x305 x306 x307 x308 x309 x310 x311 x312 x313 x314 x315 x316 x317 x318 x319 x320 x321 x322 x323 x324 x325 x326 x327 x328 x329 x330 x331 x332 x333 x334 x335 x336 x337 x338 x339 x340 x341 x342 x343 x344 x345 x346 x347 x348 x349 x350 x351 x352 x353 x354 x355 x356 x357 x358 x359 x360 x361 x362 x363 x364 x365 x366 x367 x368 x369 x370 x371 x372 x373 x374 x375 x376 x377 x378 x379 x380 x381 x382 x383 x384 x385 x386 x387 x388 x389 x390 x391 x392 x393 x394 x395 x396 x397 x398 x399 x400 : Value)
    (hl9 : l.length ≤ 9223372036854775807) (hs9 : sy.length ≤ 9223372036854775807) (HT : Hid (∀ W, Below w0.heap.size w0 W → LT W)) (HGG : Hid (∀ W, Below w0.heap.size w0 W → HG W)) (HA : Hid (Aks w0 LA l)) (HOK : Hid (okA l)) (HS : Hid (Ints w0 SA sy)) (hf9 : fl.length ≤ 9223372036854775807) (hk9 : ks.length ≤ 9223372036854775807) (HF : Hid (Ints w0 FA fl)) (HWF : Hid (∀ i, i < fl.length → I64 (gi fl i))) (HKI : Hid (Ints w0 KA ks)) (HKS : Hid (∀ i, i < ks.length → I64 (gi ks i)))
    (hk : k ≤ l.length) (hr : r ≤ 1000) (HK : Hid (KK w0 P R n dA dc mA mc W))
    (HX : Hid (∀ (n' : Nat) (dA' : Option Addr) (dc' : Nat) (mA' : Option Addr) (mc' : Nat) (k' : Nat) (W' : World) (u10 u23 u28 u29 u30 u31 u32 u33 u34 u35 u36 u37 u38 u39 u40 u41 u42 u43 u44 u45 u46 u47 u48 u49 u50 u51 u129 u130 u131 u132 u133 u134 u135 u136 u137 u138 u139 u140 u141 u142 u143 u144 u145 u146 u147 u148 u149 u150 u151 u152 u153 u154 u155 u156 u157 u158 u159 u160 u161 u162 u163 u164 u165 u166 u167 u168 u169 u170 u171 u172 u173 u174 u175 u176 u177 u178 u179 u180 u181 u182 u183 u184 u185 u186 u187 u188 u189 u190 u191 u192 u193 u194 u195 u196 u197 u198 u199 u200 u201 u202 u203 u204 u205 u206 u207 u208 u209 u210 u211 u212 u213 u214 u215 u216 u217 u218 u219 u220 u221 u222 u223 u224 u225 u226 u227 u228 u229 u230 u231 u232 u233 u234 u235 u236 u237 u238 u239 u240 u241 u242 u243 u244 u245 u246 u247 u248 u249 u250 u251 u252 u253 u254 u255 u256 u257 u258 u259 u260 u261 u262 u263 u264 u265 u266 u267 u268 u269 u270 u271 u272 u273 u274 u275 u276 u277 u278 u279 u280 u281 u282 u283 u284 u285 u286 u287 u288 u289 u290 u291 u292 u293 u294 u295 u296 u297 u298 u299 u300 u301 u302 u303 u304 u305 u306 u307 u308 u309 u310 u311 u312 u313 u314 u315 u316 u317 u318 u319 u320 u321 u322 u323 u324 u325 u326 u327 u328 u329 u330 u331 u332 u333 u334 u335 u336 u337 u338 u339 u340 u341 u342 u343 u344 u345 u346 u347 u348 u349 u350 u351 u352 u353 u354 u355 u356 u357 u358 u359 u360 u361 u362 u363 u364 u365 u366 u367 u368 u369 u370 u371 u372 u373 u374 u375 u376 u377 u378 u379 u380 u381 u382 u383 u384 u385 u386 u387 u388 u389 u390 u391 u392 u393 u394 u395 u396 u397 u398 u399 u400 : Value), k' ≤ l.length → KK w0 P R n' dA' dc' mA' mc' W' → Q .normal ⟨#[x0, .slice LA l.length lc, .slice SA sy.length sc, .slice FA fl.length fc, .slice KA ks.length kc, x5, x6, x7, x8, x9, u10, x11, x12, x13, x14, x15, x16, x17, x18, x19, x20, .pointer (some ⟨P, 0, none⟩), x22, u23, .slice dA' (n' + 1) dc', .slice mA' (n' + 1) mc', .int .i64 (k' : Nat), .int .i64 (r : Nat), u28, u29, u30, u31, u32, u33, u34, u35, u36, u37, u38, u39, u40, u41, u42, u43, u44, u45, u46, u47, u48, u49, u50, u51, x52, x53, x54, x55, x56, x57, x58, x59, x60, x61, x62, x63, x64, x65, x66, x67, x68, x69, x70, x71, x72, x73, x74, x75, x76, x77, x78, x79, x80, x81, x82, x83, x84, x85, x86, x87, x88, x89, x90, x91, x92, x93, x94, x95, x96, x97, x98, x99, x100, x101, x102, x103, x104, x105, x106, x107, x108, x109, x110, x111, x112, x113, x114, x115, x116, x117, x118, x119, x120, x121, x122, x123, x124, x125, x126, x127, x128, u129, u130, u131, u132, u133, u134, u135, u136, u137, u138, u139, u140, u141, u142, u143, u144, u145, u146, u147, u148, u149, u150, u151, u152, u153, u154, u155, u156, u157, u158, u159, u160, u161, u162, u163, u164, u165, u166, u167, u168, u169, u170, u171, u172, u173, u174, u175, u176, u177, u178, u179, u180, u181, u182, u183, u184, u185, u186, u187, u188, u189, u190, u191, u192, u193, u194, u195, u196, u197, u198, u199, u200, u201, u202, u203, u204, u205, u206, u207, u208, u209, u210, u211, u212, u213, u214, u215, u216, u217, u218, u219, u220, u221, u222, u223, u224, u225, u226, u227, u228, u229, u230, u231, u232, u233, u234, u235, u236, u237, u238, u239, u240, u241, u242, u243, u244, u245, u246, u247, u248, u249, u250, u251, u252, u253, u254, u255, u256, u257, u258, u259, u260, u261, u262, u263, u264, u265, u266, u267, u268, u269, u270, u271, u272, u273, u274, u275, u276, u277, u278, u279, u280, u281, u282, u283, u284, u285, u286, u287, u288, u289, u290, u291, u292, u293, u294, u295, u296, u297, u298, u299, u300, u301, u302, u303, u304, u305, u306, u307, u308, u309, u310, u311, u312, u313, u314, u315, u316, u317, u318, u319, u320, u321, u322, u323, u324, u325, u326, u327, u328, u329, u330, u331, u332, u333, u334, u335, u336, u337, u338, u339, u340, u341, u342, u343, u344, u345, u346, u347, u348, u349, u350, u351, u352, u353, u354, u355, u356, u357, u358, u359, u360, u361, u362, u363, u364, u365, u366, u367, u368, u369, u370, u371, u372, u373, u374, u375, u376, u377, u378, u379, u380, u381, u382, u383, u384, u385, u386, u387, u388, u389, u390, u391, u392, u393, u394, u395, u396, u397, u398, u399, u400], []⟩ W')) :
    Code.wp Tryz.prog (blk 1) Q ⟨#[x0, .slice LA l.length lc, .slice SA sy.length sc, .slice FA fl.length fc, .slice KA ks.length kc, x5, x6, x7, x8, x9, x10, x11, x12, x13, x14, x15, x16, x17, x18, x19, x20, .pointer (some ⟨P, 0, none⟩), x22, x23, .slice dA (n + 1) dc, .slice mA (n + 1) mc, .int .i64 (k : Nat), .int .i64 (r : Nat), x28, x29, x30, x31, x32, x33, x34, x35, x36, x37, x38, x39, x40, x41, x42, x43, x44, x45, x46, x47, x48, x49, x50, x51, x52, x53, x54, x55, x56, x57, x58, x59, x60, x61, x62, x63, x64, x65, x66, x67, x68, x69, x70, x71, x72, x73, x74, x75, x76, x77, x78, x79, x80, x81, x82, x83, x84, x85, x86, x87, x88, x89, x90, x91, x92, x93, x94, x95, x96, x97, x98, x99, x100, x101, x102, x103, x104, x105, x106, x107, x108, x109, x110, x111, x112, x113, x114, x115, x116, x117, x118, x119, x120, x121, x122, x123, x124, x125, x126, x127, x128, x129, x130, x131, x132, x133, x134, x135, x136, x137, x138, x139, x140, x141, x142, x143, x144, x145, x146, x147, x148, x149, x150, x151, x152, x153, x154, x155, x156, x157, x158, x159, x160, x161, x162, x163, x164, x165, x166, x167, x168, x169, x170, x171, x172, x173, x174, x175, x176, x177, x178, x179, x180, x181, x182, x183, x184, x185, x186, x187, x188, x189, x190, x191, x192, x193, x194, x195, x196, x197, x198, x199, x200, x201, x202, x203, x204, x205, x206, x207, x208, x209, x210, x211, x212, x213, x214, x215, x216, x217, x218, x219, x220, x221, x222, x223, x224, x225, x226, x227, x228, x229, x230, x231, x232, x233, x234, x235, x236, x237, x238, x239, x240, x241, x242, x243, x244, x245, x246, x247, x248, x249, x250, x251, x252, x253, x254, x255, x256, x257, x258, x259, x260, x261, x262, x263, x264, x265, x266, x267, x268, x269, x270, x271, x272, x273, x274, x275, x276, x277, x278, x279, x280, x281, x282, x283, x284, x285, x286, x287, x288, x289, x290, x291, x292, x293, x294, x295, x296, x297, x298, x299, x300, x301, x302, x303, x304, x305, x306, x307, x308, x309, x310, x311, x312, x313, x314, x315, x316, x317, x318, x319, x320, x321, x322, x323, x324, x325, x326, x327, x328, x329, x330, x331, x332, x333, x334, x335, x336, x337, x338, x339, x340, x341, x342, x343, x344, x345, x346, x347, x348, x349, x350, x351, x352, x353, x354, x355, x356, x357, x358, x359, x360, x361, x362, x363, x364, x365, x366, x367, x368, x369, x370, x371, x372, x373, x374, x375, x376, x377, x378, x379, x380, x381, x382, x383, x384, x385, x386, x387, x388, x389, x390, x391, x392, x393, x394, x395, x396, x397, x398, x399, x400], []⟩ W := by
  let fpost := bodyPost Tryz.prog Tryz.f3 (fun _ _ => True)
  conv => arg 2; whnf
  dsimp only
  have r0 : (0 : Int) ≤ (r : Int) := by omega
  go_upto_if 142 with fail
  go_cut [26] (fun s26 wx => s26 = .int .i64 (k : Nat) ∧ Hid (KK w0 P R n dA dc mA mc wx))
  case first =>
    as_aux_lemma =>
      by_cases t1 : r < fl.length
      · have i1 : (r : Int) < (fl.length : Nat) := by omega
        obtain ⟨b, off, rfl, hb, hc⟩ := Sl.at1 HF.out t1
        obtain ⟨f, C, D, jk, sf, lf, st, _, _, hL, _⟩ := HK.out
        have hc' := (hL.b0.cell (p := ⟨b, off + r, none⟩) hb).trans hc
        have CF := Lib.hid (kk_fail HK.out _ (HWF.out r t1))
        clear hc hL
        generalize gi fl r = v at *
        go_wp2_with fail
        refine CF.out.mono ?_
        rintro e w1 ⟨⟨ve, rfl⟩, hK1⟩
        have HK1 := Lib.hid hK1
        clear hK1
        dsimp only
        go_wp2_with fail
        go_meet
        case rel => exact ⟨rfl, HK1⟩
      · have i1 : decide ((r : Int) < (fl.length : Nat)) = false := by simp; omega
        go_wp2_with fail
        go_meet
        case rel => exact ⟨rfl, HK⟩
  case rest =>
    clear HK
    obtain ⟨rfl, HK⟩ := hcut
    obtain ⟨W1, hw⟩ : ∃ v : World, v = wc := ⟨_, rfl⟩
    subst hw
    go_upto_block 2 with fail
    refine deeds _ w0 W1 P R LA lc l SA sc sy n dA dc mA mc k _ _ _ _ _ _ _ _ _ _ _ _ _ _ _ _ _ _ _ _ _ _ _ _ _ _ _ _ _ _ _ _ _ _ _ _ _ _ _ _ _ _ _ _ _ _ _ _ _ _ _ _ _ _ _ _ _ _ _ _ _ _ _ _ _ _ _ _ _ _ _ _ _ _ _ _ _ _ _ _ _ _ _ _ _ _ _ _ _ _ _ _ _ _ _ _ _ _ _ _ _ _ _ _ _ _ _ _ _ _ _ _ _ _ _ _ _ _ _ _ _ _ _ _ _ _ _ _ _ _ _ _ _ _ _ _ _ _ _ _ _ _ _ _ _ _ _ _ _ _ _ _ _ _ _ _ _ _ _ _ _ _ _ _ _ _ _ _ _ _ _ _ _ _ _ _ _ _ _ _ _ _ _ _ _ _ _ _ _ _ _ _ _ _ _ _ _ _ _ _ _ _ _ _ _ _ _ _ _ _ _ _ _ _ _ _ _ _ _ _ _ _ _ _ _ _ _ _ _ _ _ _ _ _ _ _ _ _ _ _ _ _ _ _ _ _ _ _ _ _ _ _ _ _ _ _ _ _ _ _ _ _ _ _ _ _ _ _ _ _ _ _ _ _ _ _ _ _ _ _ _ _ _ _ _ _ _ _ _ _ _ _ _ _ _ _ _ _ _ _ _ _ _ _ _ _ _ _ _ _ _ _ _ _ _ _ _ _ _ _ _ _ _ _ _ _ _ _ _ _ _ _ _ _ _ _ _ _ _ _ _ _ _ _ _ _ _ _ _ _ _ _ _ _ _ _ _ _ _ _ _ _ _ _ _ _ _ _ _ _ _ _ _ _ _ _ _ _ _ _ _ _ _ _ _ _ _ _ _ _ _ _ _ _ hl9 hs9 HT HGG HA HOK HS hk HK (Lib.hid ?_)
    intro n' dA' dc' mA' mc' k' W' _ _ _ _ _ _ _ _ _ _ _ _ _ _ _ _ _ _ _ _ _ _ _ _ _ _ _ _ _ _ _ _ _ _ _ _ _ _ _ _ _ _ _ _ _ _ _ _ _ _ _ _ _ _ _ _ _ _ _ _ _ _ _ _ _ _ _ _ _ _ _ _ _ _ _ _ _ _ _ _ _ _ _ _ _ _ _ _ _ _ _ _ _ _ _ _ _ _ _ _ _ _ _ _ _ _ _ _ _ _ _ _ _ _ _ _ _ _ _ _ _ _ _ _ _ _ _ _ _ _ _ _ _ _ _ _ _ _ _ _ _ _ _ _ _ _ _ _ _ _ _ _ _ _ _ _ _ _ _ _ _ _ _ _ _ _ _ _ _ _ _ _ _ _ _ _ _ hk' hKK
    obtain ⟨f, C, D, jk, sf, lf, st, rfl, rfl, hL, hC⟩ := hKK
    have HL := Lib.hid hL; have HC := Lib.hid hC
    clear hL hC HK
    dsimp only
    apply_assumption
    refine tail _ w0 W' R KA kc ks f C D jk sf lf st dA' dc' mA' mc' r _ _ _ _ _ _ _ _ _ _ _ _ _ _ _ _ _ _ _ _ _ _ _ _ _ _ _ _ _ _ _ _ _ _ _ _ _ _ _ _ _ _ _ _ _ _ _ _ _ _ _ _ _ _ _ _ _ _ _ _ _ _ _ _ _ _ _ _ _ _ _ _ _ _ _ _ _ _ _ _ _ _ _ _ _ _ _ _ _ _ _ _ _ _ _ _ _ _ _ _ _ _ _ _ _ _ _ _ _ _ _ _ _ _ _ _ _ _ _ _ _ _ _ _ _ _ _ _ _ _ _ _ _ _ _ _ _ _ _ _ _ _ _ _ _ _ _ _ _ _ _ _ _ _ _ _ _ _ _ _ _ _ _ _ _ _ _ _ _ _ _ _ _ _ _ _ _ _ _ _ _ _ _ _ _ _ _ _ _ _ _ _ _ _ _ _ _ _ _ _ _ _ _ _ _ _ _ _ _ _ _ _ _ _ _ _ _ _ _ _ _ _ _ _ _ _ _ _ _ _ _ _ _ _ _ _ _ _ _ _ _ _ _ _ _ _ _ _ _ _ _ _ _ _ _ _ _ _ _ _ _ _ _ _ _ _ _ _ _ _ _ _ _ _ _ _ _ _ _ _ _ _ _ _ _ _ _ _ _ _ _ _ _ _ _ _ _ _ _ _ _ _ _ _ _ _ _ _ _ _ _ _ _ _ _ _ _ _ _ _ _ _ _ _ _ _ _ _ _ _ _ _ _ _ _ _ _ _ _ _ _ _ _ _ _ _ _ _ _ _ _ _ _ _ _ _ _ _ _ _ _ _ _ _ _ _ _ _ _ _ _ _ _ _ _ _ _ _ _ _ _ _ _ _ _ _ _ _ _ _ _ _ _ _ _ _ hk9 HT HKI HKS hr HL HC (Lib.hid ?_)
    intro n2 W2 _ _ _ _ _ _ _ _ _ _ _ _ _ _ _ _ _ _ _ _ _ _ _ _ _ _ _ _ _ _ _ _ _ _ _ _ _ _ _ _ _ _ _ _ _ _ _ _ _ _ _ _ _ _ _ _ _ _ _ _ _ _ _ _ _ _ _ _ _ _ _ _ _ _ _ _ _ _ _ _ _ _ _ _ _ _ _ _ _ _ _ _ _ _ _ _ _ _ _ _ _ _ _ _ _ _ _ _ _ _ _ _ _ _ _ _ _ _ _ _ _ _ _ _ _ _ _ _ _ _ _ _ _ _ _ _ _ _ _ _ _ _ _ _ _ _ _ _ _ _ _ _ _ _ _ _ _ _ _ _ _ _ _ _ _ _ _ _ _ _ _ _ _ _ _ _ _ _ _ _ _ _ _ _ _ _ _ _ _ _ _ _ _ _ _ _ _ _ _ _ _ _ _ _ _ _ _ _ _ _ _ _ _ _ _ _ _ _ _ _ _ _ _ _ _ _ _ _ _ _ _ _ _ _ _ _ _ _ _ _ _ _ _ _ _ _ _ _ _ _ _ _ _ _ _ _ _ _ _ _ _ _ _ _ _ _ _ _ _ _ _ _ _ _ _ _ _ _ _ _ _ _ hKK
    dsimp only
    go_wp2_with fail
    exact HX.out n2 dA' dc' mA' mc' k' W2 _ _ _ _ _ _ _ _ _ _ _ _ _ _ _ _ _ _ _ _ _ _ _ _ _ _ _ _ _ _ _ _ _ _ _ _ _ _ _ _ _ _ _ _ _ _ _ _ _ _ _ _ _ _ _ _ _ _ _ _ _ _ _ _ _ _ _ _ _ _ _ _ _ _ _ _ _ _ _ _ _ _ _ _ _ _ _ _ _ _ _ _ _ _ _ _ _ _ _ _ _ _ _ _ _ _ _ _ _ _ _ _ _ _ _ _ _ _ _ _ _ _ _ _ _ _ _ _ _ _ _ _ _ _ _ _ _ _ _ _ _ _ _ _ _ _ _ _ _ _ _ _ _ _ _ _ _ _ _ _ _ _ _ _ _ _ _ _ _ _ _ _ _ _ _ _ _ _ _ _ _ _ _ _ _ _ _ _ _ _ _ _ _ _ _ _ _ _ _ _ _ _ _ _ _ _ _ _ _ _ _ _ _ _ _ _ _ _ _ _ _ _ _ _ _ _ _ _ _ _ _ _ _ _ _ _ _ _ _ _ _ _ _ _ _ _ _ _ _ _ _ _ _ _ _ _ _ _ _ _ _ _ _ _ _ _ _ _ _ _ _ _ _ _ _ _ _ _ _ _ _ _ _ _ _ _ _ _ _ _ _ _ _ _ _ _ _ _ hk' hKK

end Go.Proofs.YtfelefkmbbfdjaaGreatDoor.logKeeps
namespace Go.Proofs.YtfelefkmbbfdjaaGreatDoor.logKeeps
open Go.ChangeShapes Go.WideShapes Go.ChangeAt Go.RowKit Go.Joins Go.Deep
set_option linter.unusedVariables false
set_option maxHeartbeats 6400000 in
set_option maxRecDepth 1000000 in
theorem rounds (Q : Exit → Act → World → Prop) (w0 W : World) (P : Nat) (R : List Ru) (LA : Option Addr) (lc : Nat) (l : List Ak) (SA : Option Addr) (sc : Nat) (sy : List Int) (FA : Option Addr) (fc : Nat) (fl : List Int) (KA : Option Addr) (kc : Nat) (ks : List Int) (n : Nat) (dA : Option Addr) (dc : Nat) (mA : Option Addr) (mc : Nat)
    (x0 x5 x6 x7 x8 x9 x10 x11 x12 x13 x14 x15 x16 x17 x18 x19 x20 x22 x23 x28 x29 x30 x31 x32 x33 x34 x35 x36 x37 x38 x39 x40 x41 x42 x43 x44 x45 x46 x47 x48 x49 x50 x51 x52 x53 x54 x55 x56 x57 x58 x59 x60 x61 x62 x63 x64 x65 x66 x67 x68 x69 x70 x71 x72 x73 x74 x75 x76 x77 x78 x79 x80 x81 x82 x83 x84 x85 x86 x87 x88 x89 x90 x91 x92 x93 x94 x95 x96 x97 x98 x99 x100 x101 x102 x103 x104 x105 x106 x107 x108 x109 x110 x111 x112 x113 x114 x115 x116 x117 x118 x119 x120 x121 x122 x123 x124 x125 x126 x127 x128 x129 x130 x131 x132 x133 x134 x135 x136 x137 x138 x139 x140 x141 x142 x143 x144 x145 x146 x147 x148 x149 x150 x151 x152 x153 x154 x155 x156 x157 x158 x159 x160 x161 x162 x163 x164 x165 x166 x167 x168 x169 x170 x171 x172 x173 x174 x175 x176 x177 x178 x179 x180 x181 x182 x183 x184 x185 x186 x187 x188 x189 x190 x191 x192 x193 x194 x195 x196 x197 x198 x199 x200 x201 x202 x203 x204 x205 x206 x207 x208 x209 x210 x211 x212 x213 x214 x215 x216 x217 x218 x219 x220 x221 x222 x223 x224 x225 x226 x227 x228 x229 x230 x231 x232 x233 x234 x235 x236 x237 x238 x239 x240 x241 x242 x243 x244 x245 x246 x247 x248 x249 x250 x251 x252 x253 x254 x255 x256 x257 x258 x259 x260 x261 x262 x263 x264 x265 x266 x267 x268 x269 x270 x271 x272 x273 x274 x275 x276 x277 x278 x279 x280 x281 x282 x283 x284 x285 x286 x287 x288 x289 x290 x291 x292 x293 x294 x295 x296 x297 x298 x299 x300 x301 x302 x303 x304 x305 x306 x307 x308 x309 x310 x311 x312 x313 x314 x315 x316 x317 x318 x319 x320 x321 x322 x323 x324 x325 x326 x327 x328 x329 x330 x331 x332 x333 x334 x335 x336 x337 x338 x339 x340 x341 x342 x343 x344 x345 x346 x347 x348 x349 x350 x351 x352 x353 x354 x355 x356 x357 x358 x359 x360 x361 x362 x363 x364 x365 x366 x367 x368 x369 x370 x371 x372 x373 x374 x375 x376 x377 x378 x379 x380 x381 x382 x383 x384 x385 x386 x387 x388 x389 x390 x391 x392 x393 x394 x395 x396 x397 x398 x399 x400 : Value)
    (hl9 : l.length ≤ 9223372036854775807) (hs9 : sy.length ≤ 9223372036854775807) (HT : Hid (∀ W, Below w0.heap.size w0 W → LT W)) (HGG : Hid (∀ W, Below w0.heap.size w0 W → HG W)) (HA : Hid (Aks w0 LA l)) (HOK : Hid (okA l)) (HS : Hid (Ints w0 SA sy)) (hf9 : fl.length ≤ 9223372036854775807) (hk9 : ks.length ≤ 9223372036854775807) (HF : Hid (Ints w0 FA fl)) (HWF : Hid (∀ i, i < fl.length → I64 (gi fl i))) (HKI : Hid (Ints w0 KA ks)) (HKS : Hid (∀ i, i < ks.length → I64 (gi ks i)))
    (HK : Hid (KK w0 P R n dA dc mA mc W))
    (HX : Hid (∀ (n' : Nat) (dA' : Option Addr) (dc' : Nat) (mA' : Option Addr) (mc' : Nat) (W' : World) (u10 u23 u26 u27 u28 u29 u30 u31 u32 u33 u34 u35 u36 u37 u38 u39 u40 u41 u42 u43 u44 u45 u46 u47 u48 u49 u50 u51 u129 u130 u131 u132 u133 u134 u135 u136 u137 u138 u139 u140 u141 u142 u143 u144 u145 u146 u147 u148 u149 u150 u151 u152 u153 u154 u155 u156 u157 u158 u159 u160 u161 u162 u163 u164 u165 u166 u167 u168 u169 u170 u171 u172 u173 u174 u175 u176 u177 u178 u179 u180 u181 u182 u183 u184 u185 u186 u187 u188 u189 u190 u191 u192 u193 u194 u195 u196 u197 u198 u199 u200 u201 u202 u203 u204 u205 u206 u207 u208 u209 u210 u211 u212 u213 u214 u215 u216 u217 u218 u219 u220 u221 u222 u223 u224 u225 u226 u227 u228 u229 u230 u231 u232 u233 u234 u235 u236 u237 u238 u239 u240 u241 u242 u243 u244 u245 u246 u247 u248 u249 u250 u251 u252 u253 u254 u255 u256 u257 u258 u259 u260 u261 u262 u263 u264 u265 u266 u267 u268 u269 u270 u271 u272 u273 u274 u275 u276 u277 u278 u279 u280 u281 u282 u283 u284 u285 u286 u287 u288 u289 u290 u291 u292 u293 u294 u295 u296 u297 u298 u299 u300 u301 u302 u303 u304 u305 u306 u307 u308 u309 u310 u311 u312 u313 u314 u315 u316 u317 u318 u319 u320 u321 u322 u323 u324 u325 u326 u327 u328 u329 u330 u331 u332 u333 u334 u335 u336 u337 u338 u339 u340 u341 u342 u343 u344 u345 u346 u347 u348 u349 u350 u351 u352 u353 u354 u355 u356 u357 u358 u359 u360 u361 u362 u363 u364 u365 u366 u367 u368 u369 u370 u371 u372 u373 u374 u375 u376 u377 u378 u379 u380 u381 u382 u383 u384 u385 u386 u387 u388 u389 u390 u391 u392 u393 u394 u395 u396 u397 u398 u399 u400 : Value), KK w0 P R n' dA' dc' mA' mc' W' → Q .normal ⟨#[x0, .slice LA l.length lc, .slice SA sy.length sc, .slice FA fl.length fc, .slice KA ks.length kc, x5, x6, x7, x8, x9, u10, x11, x12, x13, x14, x15, x16, x17, x18, x19, x20, .pointer (some ⟨P, 0, none⟩), x22, u23, .slice dA' (n' + 1) dc', .slice mA' (n' + 1) mc', u26, u27, u28, u29, u30, u31, u32, u33, u34, u35, u36, u37, u38, u39, u40, u41, u42, u43, u44, u45, u46, u47, u48, u49, u50, u51, x52, x53, x54, x55, x56, x57, x58, x59, x60, x61, x62, x63, x64, x65, x66, x67, x68, x69, x70, x71, x72, x73, x74, x75, x76, x77, x78, x79, x80, x81, x82, x83, x84, x85, x86, x87, x88, x89, x90, x91, x92, x93, x94, x95, x96, x97, x98, x99, x100, x101, x102, x103, x104, x105, x106, x107, x108, x109, x110, x111, x112, x113, x114, x115, x116, x117, x118, x119, x120, x121, x122, x123, x124, x125, x126, x127, x128, u129, u130, u131, u132, u133, u134, u135, u136, u137, u138, u139, u140, u141, u142, u143, u144, u145, u146, u147, u148, u149, u150, u151, u152, u153, u154, u155, u156, u157, u158, u159, u160, u161, u162, u163, u164, u165, u166, u167, u168, u169, u170, u171, u172, u173, u174, u175, u176, u177, u178, u179, u180, u181, u182, u183, u184, u185, u186, u187, u188, u189, u190, u191, u192, u193, u194, u195, u196, u197, u198, u199, u200, u201, u202, u203, u204, u205, u206, u207, u208, u209, u210, u211, u212, u213, u214, u215, u216, u217, u218, u219, u220, u221, u222, u223, u224, u225, u226, u227, u228, u229, u230, u231, u232, u233, u234, u235, u236, u237, u238, u239, u240, u241, u242, u243, u244, u245, u246, u247, u248, u249, u250, u251, u252, u253, u254, u255, u256, u257, u258, u259, u260, u261, u262, u263, u264, u265, u266, u267, u268, u269, u270, u271, u272, u273, u274, u275, u276, u277, u278, u279, u280, u281, u282, u283, u284, u285, u286, u287, u288, u289, u290, u291, u292, u293, u294, u295, u296, u297, u298, u299, u300, u301, u302, u303, u304, u305, u306, u307, u308, u309, u310, u311, u312, u313, u314, u315, u316, u317, u318, u319, u320, u321, u322, u323, u324, u325, u326, u327, u328, u329, u330, u331, u332, u333, u334, u335, u336, u337, u338, u339, u340, u341, u342, u343, u344, u345, u346, u347, u348, u349, u350, u351, u352, u353, u354, u355, u356, u357, u358, u359, u360, u361, u362, u363, u364, u365, u366, u367, u368, u369, u370, u371, u372, u373, u374, u375, u376, u377, u378, u379, u380, u381, u382, u383, u384, u385, u386, u387, u388, u389, u390, u391, u392, u393, u394, u395, u396, u397, u398, u399, u400], []⟩ W')) :
    Code.wp Tryz.prog (blk 0) Q ⟨#[x0, .slice LA l.length lc, .slice SA sy.length sc, .slice FA fl.length fc, .slice KA ks.length kc, x5, x6, x7, x8, x9, x10, x11, x12, x13, x14, x15, x16, x17, x18, x19, x20, .pointer (some ⟨P, 0, none⟩), x22, x23, .slice dA (n + 1) dc, .slice mA (n + 1) mc, .int .i64 0, .int .i64 0, x28, x29, x30, x31, x32, x33, x34, x35, x36, x37, x38, x39, x40, x41, x42, x43, x44, x45, x46, x47, x48, x49, x50, x51, x52, x53, x54, x55, x56, x57, x58, x59, x60, x61, x62, x63, x64, x65, x66, x67, x68, x69, x70, x71, x72, x73, x74, x75, x76, x77, x78, x79, x80, x81, x82, x83, x84, x85, x86, x87, x88, x89, x90, x91, x92, x93, x94, x95, x96, x97, x98, x99, x100, x101, x102, x103, x104, x105, x106, x107, x108, x109, x110, x111, x112, x113, x114, x115, x116, x117, x118, x119, x120, x121, x122, x123, x124, x125, x126, x127, x128, x129, x130, x131, x132, x133, x134, x135, x136, x137, x138, x139, x140, x141, x142, x143, x144, x145, x146, x147, x148, x149, x150, x151, x152, x153, x154, x155, x156, x157, x158, x159, x160, x161, x162, x163, x164, x165, x166, x167, x168, x169, x170, x171, x172, x173, x174, x175, x176, x177, x178, x179, x180, x181, x182, x183, x184, x185, x186, x187, x188, x189, x190, x191, x192, x193, x194, x195, x196, x197, x198, x199, x200, x201, x202, x203, x204, x205, x206, x207, x208, x209, x210, x211, x212, x213, x214, x215, x216, x217, x218, x219, x220, x221, x222, x223, x224, x225, x226, x227, x228, x229, x230, x231, x232, x233, x234, x235, x236, x237, x238, x239, x240, x241, x242, x243, x244, x245, x246, x247, x248, x249, x250, x251, x252, x253, x254, x255, x256, x257, x258, x259, x260, x261, x262, x263, x264, x265, x266, x267, x268, x269, x270, x271, x272, x273, x274, x275, x276, x277, x278, x279, x280, x281, x282, x283, x284, x285, x286, x287, x288, x289, x290, x291, x292, x293, x294, x295, x296, x297, x298, x299, x300, x301, x302, x303, x304, x305, x306, x307, x308, x309, x310, x311, x312, x313, x314, x315, x316, x317, x318, x319, x320, x321, x322, x323, x324, x325, x326, x327, x328, x329, x330, x331, x332, x333, x334, x335, x336, x337, x338, x339, x340, x341, x342, x343, x344, x345, x346, x347, x348, x349, x350, x351, x352, x353, x354, x355, x356, x357, x358, x359, x360, x361, x362, x363, x364, x365, x366, x367, x368, x369, x370, x371, x372, x373, x374, x375, x376, x377, x378, x379, x380, x381, x382, x383, x384, x385, x386, x387, x388, x389, x390, x391, x392, x393, x394, x395, x396, x397, x398, x399, x400], []⟩ W := by
  let fpost := bodyPost Tryz.prog Tryz.f3 (fun _ _ => True)
  conv => arg 2; whnf
  dsimp only
  go_wp2_with fail
  go_loopw [23, 24, 25, 26, 27, 28, 29, 30, 31, 32, 33, 34, 35, 36, 37, 38, 39, 40, 41, 42, 43, 44, 45, 46, 47, 48, 49, 50, 51] (fun _ s24 s25 s26 s27 _ _ _ _ _ _ _ _ _ _ _ _ _ _ _ _ _ _ _ _ _ _ _ _ wr => ∃ (n dc mc k r : Nat) (dA mA : Option Addr), r ≤ 4 ∧ r ≤ fl.length + 1 ∧ k ≤ l.length ∧ s24 = .slice dA (n + 1) dc ∧ s25 = .slice mA (n + 1) mc ∧ s26 = .int .i64 k ∧ s27 = .int .i64 r ∧ Hid (KK w0 P R n dA dc mA mc wr)) (fun _ _ _ _ s27 _ _ _ _ _ _ _ _ _ _ _ _ _ _ _ _ _ _ _ _ _ _ _ _ _ => 4 - (intOf s27).toNat)
  case atStart => exact ⟨n, dc, mc, 0, 0, dA, mA, by omega, by omega, Nat.zero_le _, rfl, rfl, rfl, rfl, HK⟩
  case round =>
    clear HK
    obtain ⟨n1, dc1, mc1, k1, r, dA1, mA1, hr4, hrf, hk1, rfl, rfl, rfl, rfl, HK⟩ := hrel
    by_cases t1 : r ≤ fl.length
    · have i1 : (r : Int) ≤ (fl.length : Nat) := by omega
      by_cases t2 : r < 4
      · have i2 : (r : Int) < 4 := by omega
        go_upto_block 1 with fail
        refine round _ w0 wr P R LA lc l SA sc sy FA fc fl KA kc ks n1 dA1 dc1 mA1 mc1 k1 r _ _ _ _ _ _ _ _ _ _ _ _ _ _ _ _ _ _ _ _ _ _ _ _ _ _ _ _ _ _ _ _ _ _ _ _ _ _ _ _ _ _ _ _ _ _ _ _ _ _ _ _ _ _ _ _ _ _ _ _ _ _ _ _ _ _ _ _ _ _ _ _ _ _ _ _ _ _ _ _ _ _ _ _ _ _ _ _ _ _ _ _ _ _ _ _ _ _ _ _ _ _ _ _ _ _ _ _ _ _ _ _ _ _ _ _ _ _ _ _ _ _ _ _ _ _ _ _ _ _ _ _ _ _ _ _ _ _ _ _ _ _ _ _ _ _ _ _ _ _ _ _ _ _ _ _ _ _ _ _ _ _ _ _ _ _ _ _ _ _ _ _ _ _ _ _ _ _ _ _ _ _ _ _ _ _ _ _ _ _ _ _ _ _ _ _ _ _ _ _ _ _ _ _ _ _ _ _ _ _ _ _ _ _ _ _ _ _ _ _ _ _ _ _ _ _ _ _ _ _ _ _ _ _ _ _ _ _ _ _ _ _ _ _ _ _ _ _ _ _ _ _ _ _ _ _ _ _ _ _ _ _ _ _ _ _ _ _ _ _ _ _ _ _ _ _ _ _ _ _ _ _ _ _ _ _ _ _ _ _ _ _ _ _ _ _ _ _ _ _ _ _ _ _ _ _ _ _ _ _ _ _ _ _ _ _ _ _ _ _ _ _ _ _ _ _ _ _ _ _ _ _ _ _ _ _ _ _ _ _ _ _ _ _ _ _ _ _ _ _ _ _ _ _ _ _ _ _ _ _ _ _ _ _ _ _ _ _ _ _ _ _ _ _ _ _ _ _ _ _ _ _ _ _ _ _ _ _ _ _ _ _ hl9 hs9 HT HGG HA HOK HS hf9 hk9 HF HWF HKI HKS hk1 (by omega) HK (Lib.hid ?_)
        intro n' dA' dc' mA' mc' k' W' _ _ _ _ _ _ _ _ _ _ _ _ _ _ _ _ _ _ _ _ _ _ _ _ _ _ _ _ _ _ _ _ _ _ _ _ _ _ _ _ _ _ _ _ _ _ _ _ _ _ _ _ _ _ _ _ _ _ _ _ _ _ _ _ _ _ _ _ _ _ _ _ _ _ _ _ _ _ _ _ _ _ _ _ _ _ _ _ _ _ _ _ _ _ _ _ _ _ _ _ _ _ _ _ _ _ _ _ _ _ _ _ _ _ _ _ _ _ _ _ _ _ _ _ _ _ _ _ _ _ _ _ _ _ _ _ _ _ _ _ _ _ _ _ _ _ _ _ _ _ _ _ _ _ _ _ _ _ _ _ _ _ _ _ _ _ _ _ _ _ _ _ _ _ _ _ _ _ _ _ _ _ _ _ _ _ _ _ _ _ _ _ _ _ _ _ _ _ _ _ _ _ _ _ _ _ _ _ _ _ _ _ _ _ _ _ _ _ _ _ _ _ _ _ _ _ _ _ _ _ _ _ _ _ _ _ _ _ _ _ _ _ _ _ _ _ _ _ _ _ _ _ _ _ _ _ _ _ _ _ _ _ _ _ _ _ _ _ _ _ _ _ _ _ _ _ _ _ _ _ _ _ _ _ _ _ _ _ _ _ _ _ _ _ _ _ _ _ hk' hKK
        have HKK := Lib.hid hKK
        clear hKK HK
        dsimp only
        go_wp2_with fail
        go_roundw
        case rel => exact ⟨n', dc', mc', k', r + 1, dA', mA', by omega, by omega, hk', rfl, rfl, rfl, by go_num, HKK⟩
        case measure => simp [intOf]; omega
      · have i2 : decide ((r : Int) < 4) = false := by simp; omega
        go_wp2_with fail
        exact HX.out n1 dA1 dc1 mA1 mc1 _ _ _ _ _ _ _ _ _ _ _ _ _ _ _ _ _ _ _ _ _ _ _ _ _ _ _ _ _ _ _ _ _ _ _ _ _ _ _ _ _ _ _ _ _ _ _ _ _ _ _ _ _ _ _ _ _ _ _ _ _ _ _ _ _ _ _ _ _ _ _ _ _ _ _ _ _ _ _ _ _ _ _ _ _ _ _ _ _ _ _ _ _ _ _ _ _ _ _ _ _ _ _ _ _ _ _ _ _ _ _ _ _ _ _ _ _ _ _ _ _ _ _ _ _ _ _ _ _ _ _ _ _ _ _ _ _ _ _ _ _ _ _ _ _ _ _ _ _ _ _ _ _ _ _ _ _ _ _ _ _ _ _ _ _ _ _ _ _ _ _ _ _ _ _ _ _ _ _ _ _ _ _ _ _ _ _ _ _ _ _ _ _ _ _ _ _ _ _ _ _ _ _ _ _ _ _ _ _ _ _ _ _ _ _ _ _ _ _ _ _ _ _ _ _ _ _ _ _ _ _ _ _ _ _ _ _ _ _ _ _ _ _ _ _ _ _ _ _ _ _ _ _ _ _ _ _ _ _ _ _ _ _ _ _ _ _ _ _ _ _ _ _ _ _ _ _ _ _ _ _ _ _ _ _ _ _ _ _ _ _ _ _ _ _ _ _ _ _ _ _ HK.out
    · have i1 : decide ((r : Int) ≤ (fl.length : Nat)) = false := by simp; omega
      go_wp2_with fail
      exact HX.out n1 dA1 dc1 mA1 mc1 _ _ _ _ _ _ _ _ _ _ _ _ _ _ _ _ _ _ _ _ _ _ _ _ _ _ _ _ _ _ _ _ _ _ _ _ _ _ _ _ _ _ _ _ _ _ _ _ _ _ _ _ _ _ _ _ _ _ _ _ _ _ _ _ _ _ _ _ _ _ _ _ _ _ _ _ _ _ _ _ _ _ _ _ _ _ _ _ _ _ _ _ _ _ _ _ _ _ _ _ _ _ _ _ _ _ _ _ _ _ _ _ _ _ _ _ _ _ _ _ _ _ _ _ _ _ _ _ _ _ _ _ _ _ _ _ _ _ _ _ _ _ _ _ _ _ _ _ _ _ _ _ _ _ _ _ _ _ _ _ _ _ _ _ _ _ _ _ _ _ _ _ _ _ _ _ _ _ _ _ _ _ _ _ _ _ _ _ _ _ _ _ _ _ _ _ _ _ _ _ _ _ _ _ _ _ _ _ _ _ _ _ _ _ _ _ _ _ _ _ _ _ _ _ _ _ _ _ _ _ _ _ _ _ _ _ _ _ _ _ _ _ _ _ _ _ _ _ _ _ _ _ _ _ _ _ _ _ _ _ _ _ _ _ _ _ _ _ _ _ _ _ _ _ _ _ _ _ _ _ _ _ _ _ _ _ _ _ _ _ _ _ _ _ _ _ _ _ _ _ _ HK.out

end Go.Proofs.YtfelefkmbbfdjaaGreatDoor.logKeeps
namespace Go.Proofs.YtfelefkmbbfdjaaGreatDoor.logKeeps
open Go.ChangeShapes Go.WideShapes Go.ChangeAt Go.RowKit Go.Joins Go.Deep
set_option linter.unusedVariables false

theorem rx_one (W : World) {base b : Nat} (h : Vin W base (some ⟨b, 0, none⟩) logStops.star) (hb : base ≤ W.heap.size) :
    RX (W.alloc (.cells #[.int .i64 0, .int .i64 (-1), .slice (some ⟨b, 0, none⟩) 1 1, .bool true] 34)) base (some ⟨W.heap.size, 0, none⟩) [(⟨0, -1, logStops.star, true⟩, some ⟨b, 0, none⟩, 1)] := by
  have hv := h.chsV hb (Chs.of_below (fun _ => False) (bal1 W (.cells #[.int .i64 0, .int .i64 (-1), .slice (some ⟨b, 0, none⟩) 1 1, .bool true] 34))) (fun _ h => h.elim)
  refine ⟨fun _ => ⟨W.heap.size, 0, rfl, by simp, fun j u hj => ?_⟩, fun x hx => ?_⟩
  · have := (AtB.new W #[.int .i64 0, .int .i64 (-1), .slice (some ⟨b, 0, none⟩) 1 1, .bool true] 34).cell (i := j) (v := u) (by simpa [rxCells, rxv, logStops.star] using hj)
    simpa using this
  · simp at hx
    subst hx
    exact ⟨hv, by simp [logStops.star], (show (1 : Nat) ≤ maxLen by decide)⟩
theorem vin_lit (W : World) {base : Nat} (v : Va) : Vin (W.alloc (.cells #[.int .i64 v.k, .int .i64 v.n, .string v.s] 31)) base (some ⟨W.heap.size, 0, none⟩) [v] := ⟨lit_vals W [v] 31 rfl, fun _ a ha => .inr (by injection ha with ha; subst ha; exact (AtB.new _ _ _).kin)⟩
theorem new_live {w W : World} (hW : Below w.heap.size w W) {A : Option Addr} (hX : RX W w.heap.size A [(⟨0, -1, logStops.star, true⟩, some ⟨w.heap.size, 0, none⟩, 1)]) :
    Calls Tryz.prog 4 #[.slice A 1 1] W fun e w' => ∃ P, e = .returned (.tuple #[.pointer (some ⟨P, 0, none⟩), .nilIface]) ∧ Live w P logStops.R1 [] 0 (-1) w' := by
  refine (lgnew_ok hW.size A 1 _ hX logStops.r1 logStops.okR1).mono ?_
  rintro e w' ⟨P, p, q, m, he, hL, hb, _⟩
  exact ⟨P, he, bcl hW hb, p, q, m, none, hL⟩
section
variable {w0 W : World} {P : Nat}
theorem put1 (h : Live w0 P logStops.R1 [] 0 (-1) W) (ht : ∀ W, Below w0.heap.size w0 W → LT W) (A : Option Addr) (hV : Vin W w0.heap.size A [logStops.vn 4]) :
    Calls Tryz.prog 5 #[.pointer (some ⟨P, 0, none⟩), .agg #[.int .i64 1, .int .i64 1, .int .i64 0, .slice A 1 1]] W fun e w' => ∃ s, e = .returned (.tuple #[.string s, .nilIface]) ∧ Live w0 P logStops.R1 [a1] 0 (-1) w' := by
  have c := live_new h ht VdD.nil (by decide) a1 A 1 (show 1 ≤ maxLen by decide) (logStops.okV _) (WalkArith.wf_i64 (show (-9223372036854775808 : Int) ≤ 1 ∧ (1 : Int) ≤ 9223372036854775807 by decide)) (WalkArith.wf_i64 (show (-9223372036854775808 : Int) ≤ 1 ∧ (1 : Int) ≤ 9223372036854775807 by decide)) hV a1_ok.2 a1_ok.1 (by decide) (by decide) (by decide)
  refine c.mono ?_
  rintro e w' ⟨he, hL⟩
  exact ⟨_, he, hL⟩
theorem put2 {sf : Nat} (h : Live w0 P logStops.R1 [a1] sf (-1) W) (ht : ∀ W, Below w0.heap.size w0 W → LT W) (A : Option Addr) (hV : Vin W w0.heap.size A [logStops.vn 5]) :
    Calls Tryz.prog 5 #[.pointer (some ⟨P, 0, none⟩), .agg #[.int .i64 1, .int .i64 2, .int .i64 0, .slice A 1 1]] W fun e w' => ∃ s, e = .returned (.tuple #[.string s, .nilIface]) ∧ Live w0 P logStops.R1 ([a1] ++ [a2]) sf (-1) w' := by
  have c := live_new h ht vd1 (by decide) a2 A 1 (show 1 ≤ maxLen by decide) (logStops.okV _) (WalkArith.wf_i64 (show (-9223372036854775808 : Int) ≤ 1 ∧ (1 : Int) ≤ 9223372036854775807 by decide)) (WalkArith.wf_i64 (show (-9223372036854775808 : Int) ≤ 2 ∧ (2 : Int) ≤ 9223372036854775807 by decide)) hV a2_ok.2 a2_ok.1 (by decide) (by decide) (by decide)
  refine c.mono ?_
  rintro e w' ⟨he, hL⟩
  exact ⟨_, he, hL⟩
theorem sync1 (h : Live w0 P logStops.R1 [a1] 0 (-1) W) : Calls Tryz.prog 6 #[.pointer (some ⟨P, 0, none⟩)] W fun e w' => e = .returned .nilIface ∧ Live w0 P logStops.R1 [a1] (recs [a1]).size (-1) w' :=
  live_sync h (by decide) (by decide) (by decide)
theorem crash1 (h : Live w0 P logStops.R1 ([a1] ++ [a2]) (recs [a1]).size (-1) W) (ht : ∀ W, Below w0.heap.size w0 W → LT W) :
    Calls Tryz.prog 7 #[.pointer (some ⟨P, 0, none⟩), .int .i64 0] W fun e w' => (∃ v, e = .returned v) ∧ Live w0 P logStops.R1 [a1] (recs [a1]).size (-1) w' := by
  refine (live_crash h ht vd2 (by decide) (by rw [recs_snoc, size_app]; omega) 0).mono ?_
  rintro e w' ⟨he, k, hk, hL⟩
  obtain rfl := fact_cut hk
  exact ⟨he, hL⟩
theorem mark1 {sf : Nat} (h : Live w0 P logStops.R1 [a1] sf (-1) W) (ht : ∀ W, Below w0.heap.size w0 W → LT W) :
    Calls Tryz.prog 8 #[.pointer (some ⟨P, 0, none⟩)] W fun e w' => ∃ V : Int, e = .returned (.tuple #[.int .i64 1, .int .i64 V]) ∧ Live w0 P logStops.R1 [a1] sf (-1) w' := by
  refine (live_mark h ht vd1).mono ?_
  rintro e w' ⟨he, hL⟩
  exact ⟨_, he, hL⟩
/-- one pointer, one number in an array that is new -/
theorem win_lit (w : World) {base : Nat} (hb : base ≤ w.heap.size) (v : Value) (t : TypeId) : Win (w.alloc (.cells #[v] t)) base t 1 (.slice (some ⟨w.heap.size, 0, none⟩) 1 1) 1 [v] := by
  have h := AtB.new w #[v] t
  refine ⟨rfl, .inr ⟨w.heap.size, 0, 1, rfl, hb, h.kin, Nat.le_refl _, by decide, fun j u hj => ?_, fun j hj => ?_⟩⟩
  · rw [Nat.zero_add]
    exact h.cell (i := j) (by simpa using hj)
  · obtain rfl : j = 0 := by omega
    rw [h.cell (i := 0) (v := v) rfl]; rfl
/-- ahead of the first round -/
theorem kk_start {w W1 W2 : World} {P p q m : Nat} {R : List Ru} {p2 q2 : Nat} (h0 : Below w.heap.size w W1) (hL : Lg W1 w.heap.size P p q none m R Cs.zero ⟨#[]⟩ 0 0 (-1) false)
    (hC : RCp W2 w.heap.size p2 q2 none none R Cs.zero) (hb : Below W1.heap.size W1 W2) (z1 : W1.heap.size ≤ p2) (z2 : W1.heap.size ≤ q2) :
    KK w P R 0 (some ⟨W2.heap.size, 0, none⟩) 1 (some ⟨W2.heap.size + 1, 0, none⟩) 1 ((W2.alloc (.cells #[.pointer (some ⟨p2, 0, none⟩)] 46)).alloc (.cells #[.int .i64 0] 3)) := by
  have hz := hb.size
  have e0 : w.heap.size ≤ W2.heap.size := Nat.le_trans h0.size hz
  have w1 := win_lit W2 e0 (.pointer (some ⟨p2, 0, none⟩)) 46
  have hb1 := bal1 W2 (.cells #[.pointer (some ⟨p2, 0, none⟩)] 46)
  have hs1 : (W2.alloc (.cells #[.pointer (some ⟨p2, 0, none⟩)] 46)).heap.size = W2.heap.size + 1 := by simp
  generalize W2.alloc (.cells #[.pointer (some ⟨p2, 0, none⟩)] 46) = W3 at *
  have w2 := win_lit W3 (base := w.heap.size) (by omega) (.int .i64 0) 3
  have hb2 := bal1 W3 (.cells #[.int .i64 0] 3)
  rw [hs1] at w2
  generalize W3.alloc (.cells #[.int .i64 0] 3) = W4 at *
  have hb24 := bcl hb1 hb2
  refine ⟨⟨P, p, q, m, none⟩, fun _ => ⟨p2, q2, none, none⟩, [], ⟨#[]⟩, 0, -1, false, rfl, rfl, ⟨bcl h0 (bcl hb hb24), ?_, VdD.nil, by decide, fun _ => rfl, fun x hx => by simp at hx, by decide, by decide, by decide, by decide⟩, fun i hi => ?_, fun i hi x hx hx2 => ?_, w1.keep hb2, w2⟩
  · exact (hL.keep hb).keep hb24
  · obtain rfl : i = 0 := by simpa using hi
    exact hC.keep hb24
  · have h1 := lg_lts hL x hx
    rcases hx2 with rfl | rfl | h2 | h2
    · omega
    · omega
    · cases h2
    · cases h2
end
set_option maxHeartbeats 6400000 in
set_option maxRecDepth 1000000 in
theorem walk (w : World) (hgt : HG w ∧ LT w) (RA : Option Addr) (rc : Nat) (R : List Ru) (hn1 : R.length ≤ rc) (hm1 : rc ≤ maxLen) (hR : Rls w RA R) (hokr : okR R)
    (LA : Option Addr) (lc : Nat) (l : List Ak) (hn2 : l.length ≤ lc) (hm2 : lc ≤ maxLen) (hA : Aks w LA l) (hok : okA l)
    (SA : Option Addr) (sc : Nat) (sy : List Int) (hn3 : sy.length ≤ sc) (hm3 : sc ≤ maxLen) (hS : Ints w SA sy) (hws : ∀ i, i < sy.length → I64 (gi sy i))
    (FA : Option Addr) (fc : Nat) (fl : List Int) (hn4 : fl.length ≤ fc) (hm4 : fc ≤ maxLen) (hF : Ints w FA fl) (hwf : ∀ i, i < fl.length → I64 (gi fl i))
    (KA : Option Addr) (kc : Nat) (ks : List Int) (hn5 : ks.length ≤ kc) (hm5 : kc ≤ maxLen) (hKi : Ints w KA ks) (hks : ∀ i, i < ks.length → I64 (gi ks i)) :
    Calls Tryz.prog 3 #[.slice RA R.length rc, .slice LA l.length lc, .slice SA sy.length sc, .slice FA fl.length fc, .slice KA ks.length kc] w fun e w' => e = .returned (.bool true) ∧ Below w.heap.size w w' := by
  obtain ⟨hg, hlt⟩ := hgt
  have htt : ∀ W, Below w.heap.size w W → LT W := fun W h => ⟨tab_stays (g := 4) (by kernel_rfl) hlt.1 h (Nat.le_refl _), hlt.2.1.below h (Nat.le_refl _), tab_stays (g := 2) (by kernel_rfl) hlt.2.2 h (Nat.le_refl _)⟩
  have hgg : ∀ W, Below w.heap.size w W → HG W := fun W h => hg.below h
  have hx := rx_one _ (vin_lit w (base := w.heap.size) ⟨2, 0, ⟨#[]⟩⟩) (bal1 w _).size
  rw [World.size_alloc] at hx
  have hl9 : l.length ≤ 9223372036854775807 := by unfold maxLen at hm2; omega
  have hs9 : sy.length ≤ 9223372036854775807 := by unfold maxLen at hm3; omega
  have hf9 : fl.length ≤ 9223372036854775807 := by unfold maxLen at hm4; omega
  have hk9 : ks.length ≤ 9223372036854775807 := by unfold maxLen at hm5; omega
  have hrin := RIn.of_arg hR
  have hmR := Nat.le_trans hn1 hm1
  obtain ⟨X, rfl, hX⟩ := RX.of_arg hR (Nat.le_refl w.heap.size)
  have csr := fun (W : World) (hW : Below w.heap.size w W) => srules_any RA rc (X.map (·.1)) hmR hokr W (hR.below hW (Nat.le_refl _))
  have cl := fun (er : rulE (X.map (·.1)) = 0) (W : World) (hW : Below w.heap.size w W) => lgnew_ok (w := W) (base := w.heap.size) hW.size RA rc X (hX.below (Nat.le_refl _) hW) er hokr
  have cr := fun (er : rulE (X.map (·.1)) = 0) (W : World) (hW : Below w.heap.size w W) => rcnew_any (w := W) (base := w.heap.size) hW.size RA rc (X.map (·.1)) (hrin.later hW) er hokr
  have cn := fun (er : rulE (X.map (·.1)) ≠ 0) (W : World) (hW : Below w.heap.size w W) => lgnew_no (w := W) RA rc (X.map (·.1)) hmR (hR.below hW (Nat.le_refl _)) er hokr
  rw [List.length_map]
  simp only [List.length_map] at csr cr cn
  have HT := Lib.hid htt; have HGG := Lib.hid hgg; have HX1 := Lib.hid hx; have HA := Lib.hid hA; have HOK := Lib.hid hok; have HS := Lib.hid hS; have HF := Lib.hid hF; have HWF := Lib.hid hwf; have HKI := Lib.hid hKi; have HKS := Lib.hid hks
  have CSR := Lib.hid csr; have CL := Lib.hid cl; have CR := Lib.hid cr; have CN := Lib.hid cn
  clear htt hgg hlt hg hx hA hok hS hF hwf hKi hks csr cl cr cn hn1 hm1 hn2 hm2 hn3 hm3 hn4 hm4 hn5 hm5 hws hR hokr hX hrin hmR
  generalize X.map (·.1) = R at *
  go_enter Tryz.func3, Tryz.ntmps3
  go_wp2_with fail
  refine (new_live (bal (bal1 _ _) _) HX1.out).mono ?_
  rintro e w2 ⟨P1, rfl, hL2⟩
  have L2 := Lib.hid hL2
  clear hL2
  go_wp2_with fail
  refine (put1 (L2.out.below (bal1 _ _)) HT.out _ (vin_lit w2 (logStops.vn 4))).mono ?_
  rintro e w3 ⟨s3, rfl, hL3⟩
  have L3 := Lib.hid hL3
  clear hL3 L2
  go_wp2_with fail
  refine (sync1 L3.out).mono ?_
  rintro e w4 ⟨rfl, hL4⟩
  have L4 := Lib.hid hL4
  clear hL4 L3
  go_wp2_with fail
  refine (put2 (L4.out.below (bal1 _ _)) HT.out _ (vin_lit w4 (logStops.vn 5))).mono ?_
  rintro e w5 ⟨s5, rfl, hL5⟩
  have L5 := Lib.hid hL5
  clear hL5 L4
  go_wp2_with fail
  refine (crash1 L5.out HT.out).mono ?_
  rintro e w6 ⟨⟨v6, rfl⟩, hL6⟩
  have L6 := Lib.hid hL6
  clear hL6 L5
  go_wp2_with fail
  refine (mark1 L6.out HT.out).mono ?_
  rintro e w7 ⟨V7, rfl, hL7⟩
  obtain ⟨M1, hM1⟩ : ∃ M1 : Nat, (recs [a1]).size = M1 := ⟨_, rfl⟩
  have cb := live_bytes hL7
  have cs := live_safe hL7
  rw [hM1] at cb cs
  have CB := Lib.hid cb; have CS := Lib.hid cs
  have HB7 := Lib.hid hL7.1
  have q1 : ((M1 : Int) != (M1 : Int)) = false := by simp
  clear hL7 L6 cb cs hM1 HX1
  go_wp2_with (first
    | (go_at_call 9; refine CB.out.mono ?_; rintro e w' ⟨rfl, rfl⟩)
    | (go_at_call 10; refine CS.out.mono ?_; rintro e w' ⟨rfl, rfl⟩))
  refine (CSR.out w7 HB7.out).mono ?_
  rintro e w8 ⟨rfl, hb8⟩
  have HB8 := Lib.hid (bcl HB7.out hb8)
  clear hb8 CSR HB7 CB CS
  by_cases er : rulE R = 0
  · have CL0 := Lib.hid (CL.out er); have CR0 := Lib.hid (CR.out er)
    rw [er]
    have q2 : ((0 : Int) == 0) = true := rfl
    clear CL CR CN er
    go_wp2_with fail
    refine (CL0.out w8 HB8.out).mono ?_
    rintro e w9 ⟨P, p, q, m, rfl, hL, hb9, _, _, _, _⟩
    have HB9 := Lib.hid (bcl HB8.out hb9); have HL := Lib.hid hL
    clear hb9 hL
    go_wp2_with fail
    refine (same_nE 0 _).mono ?_
    rintro e w10 ⟨rfl, hb10⟩
    have HB10 := Lib.hid (bcl HB9.out hb10); have HL10 := Lib.hid (HL.out.keep hb10)
    clear hb10 HL
    go_wp2_with fail
    refine (CR0.out w10 HB10.out).mono ?_
    rintro e w11 ⟨p2, q2', rfl, hC, hb11, z1, z2⟩
    have HK0 := Lib.hid (kk_start HB10.out HL10.out hC hb11 z1 z2)
    clear hC hb11 z1 z2 HL10
    go_upto_block 0 with fail
    refine rounds _ w _ P R LA lc l SA sc sy FA fc fl KA kc ks 0 _ 1 _ 1 _ _ _ _ _ _ _ _ _ _ _ _ _ _ _ _ _ _ _ _ _ _ _ _ _ _ _ _ _ _ _ _ _ _ _ _ _ _ _ _ _ _ _ _ _ _ _ _ _ _ _ _ _ _ _ _ _ _ _ _ _ _ _ _ _ _ _ _ _ _ _ _ _ _ _ _ _ _ _ _ _ _ _ _ _ _ _ _ _ _ _ _ _ _ _ _ _ _ _ _ _ _ _ _ _ _ _ _ _ _ _ _ _ _ _ _ _ _ _ _ _ _ _ _ _ _ _ _ _ _ _ _ _ _ _ _ _ _ _ _ _ _ _ _ _ _ _ _ _ _ _ _ _ _ _ _ _ _ _ _ _ _ _ _ _ _ _ _ _ _ _ _ _ _ _ _ _ _ _ _ _ _ _ _ _ _ _ _ _ _ _ _ _ _ _ _ _ _ _ _ _ _ _ _ _ _ _ _ _ _ _ _ _ _ _ _ _ _ _ _ _ _ _ _ _ _ _ _ _ _ _ _ _ _ _ _ _ _ _ _ _ _ _ _ _ _ _ _ _ _ _ _ _ _ _ _ _ _ _ _ _ _ _ _ _ _ _ _ _ _ _ _ _ _ _ _ _ _ _ _ _ _ _ _ _ _ _ _ _ _ _ _ _ _ _ _ _ _ _ _ _ _ _ _ _ _ _ _ _ _ _ _ _ _ _ _ _ _ _ _ _ _ _ _ _ _ _ _ _ _ _ _ _ _ _ _ _ _ _ _ _ _ _ _ _ _ _ _ _ _ _ _ _ _ _ _ _ _ _ _ _ _ _ _ _ _ _ _ _ _ _ _ _ _ _ _ _ _ _ _ _ _ _ _ _ _ _ _ _ _ _ _ hl9 hs9 HT HGG HA HOK HS hf9 hk9 HF HWF HKI HKS HK0 (Lib.hid ?_)
    intro n' dA' dc' mA' mc' W' _ _ _ _ _ _ _ _ _ _ _ _ _ _ _ _ _ _ _ _ _ _ _ _ _ _ _ _ _ _ _ _ _ _ _ _ _ _ _ _ _ _ _ _ _ _ _ _ _ _ _ _ _ _ _ _ _ _ _ _ _ _ _ _ _ _ _ _ _ _ _ _ _ _ _ _ _ _ _ _ _ _ _ _ _ _ _ _ _ _ _ _ _ _ _ _ _ _ _ _ _ _ _ _ _ _ _ _ _ _ _ _ _ _ _ _ _ _ _ _ _ _ _ _ _ _ _ _ _ _ _ _ _ _ _ _ _ _ _ _ _ _ _ _ _ _ _ _ _ _ _ _ _ _ _ _ _ _ _ _ _ _ _ _ _ _ _ _ _ _ _ _ _ _ _ _ _ _ _ _ _ _ _ _ _ _ _ _ _ _ _ _ _ _ _ _ _ _ _ _ _ _ _ _ _ _ _ _ _ _ _ _ _ _ _ _ _ _ _ _ _ _ _ _ _ _ _ _ _ _ _ _ _ _ _ _ _ _ _ _ _ _ _ _ _ _ _ _ _ _ _ _ _ _ _ _ _ _ _ _ _ _ _ _ _ _ _ _ _ _ _ _ _ _ _ _ _ _ _ _ _ _ _ _ _ _ _ _ _ _ _ _ _ _ _ _ _ _ _ _ hKK
    obtain ⟨f, C, D, jk, sf, lf, st, _, _, hLL, _⟩ := hKK
    have HBW := Lib.hid hLL.b0
    clear hLL
    dsimp only
    go_wp2_with fail
    go_ret
    exact ⟨ret_true (by first | rfl | (simp; done) | (simp; omega)), HBW.out⟩
  · have CN0 := Lib.hid (CN.out er)
    have q2 : (rulE R != 0) = true := bne_iff_ne.2 er
    clear CL CR CN er
    generalize rulE R = E at *
    have q3 : (E == E) = true := beq_self_eq_true _
    go_wp2_with fail
    refine (CN0.out w8 HB8.out).mono ?_
    rintro e w9 ⟨rfl, hb9⟩
    have HB9 := Lib.hid (bcl HB8.out hb9)
    clear hb9
    go_wp2_with fail
    refine (same_eE E E _ (HGG.out _ HB9.out)).mono ?_
    rintro e w10 ⟨rfl, hb10⟩
    have HB10 := Lib.hid (bcl HB9.out hb10)
    clear hb10
    go_wp2_with fail
    go_ret
    exact ⟨ret_true (by first | rfl | (simp; done) | (simp; omega)), HB10.out⟩
end Go.Proofs.YtfelefkmbbfdjaaGreatDoor.logKeeps
