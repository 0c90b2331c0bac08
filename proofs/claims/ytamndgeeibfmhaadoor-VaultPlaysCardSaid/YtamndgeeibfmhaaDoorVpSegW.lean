/- VaultPlays: what is wanted of Get, as a theorem of its own. -/
import Derived.Test.YtamndgeeibfmhaaDoorVpSeg4
namespace Go.Proofs.YtamndgeeibfmhaaDoor.vaultPlays
open Go.ChangeShapes Go.WideShapes Go.ChangeAt Go.RowKit Go.Deep
set_option linter.unusedVariables false

def isTmp (t : Nat) : Operand → Bool
  | .tmp m => m == t
  | _ => false
/-- the choice on a slot in a text -/
def findIf (t : Nat) : Code → Option Code
  | .cond x a b => if isTmp t x then some (.cond x a b) else match findIf t a with
    | some c => some c
    | none => findIf t b
  | .loop c => findIf t c
  | .scope c => findIf t c
  | .block _ c => findIf t c
  | .seq a b => match findIf t a with
    | some c => some c
    | none => findIf t b
  | _ => none
noncomputable def if274 : Code := ((Tryd.f6.body.bind (findIf 274)).getD .skip)
set_option maxHeartbeats 6400000 in
set_option maxRecDepth 1000000 in
theorem segW (Q : Exit → Act → World → Prop) (W : World) (mm nn n k base : Nat) (e1 e z : Int) (P : List (List Int)) (S G : List Sh) (q : List Int) (o : Option (List Int)) (Ag : Option Addr) (cg : Nat) (tb : Bool)
    (x2 x3 x4 x5 x6 x7 x8 x9 x10 x11 x12 x14 x15 x16 x17 x18 x19 x20 x21 x22 x23 x24 x25 x26 x29 x30 x31 x32 x33 x34 x35 x36 x37 x38 x39 x40 x41 x42 x43 x44 x45 x46 x47 x48 x49 x50 x51 x52 x53 x54 x55 x56 x57 x58 x59 x60 x61 x62 x63 x64 x65 x66 x67 x68 x69 x70 x71 x72 x73 x74 x75 x76 x77 x78 x79 x80 x81 x82 x83 x84 x85 x86 x87 x88 x89 x90 x91 x92 x93 x94 x95 x96 x97 x98 x99 x100 x101 x102 x103 x104 x105 x106 x107 x108 x109 x110 x111 x112 x113 x114 x115 x116 x117 x118 x119 x120 x121 x122 x123 x124 x125 x126 x127 x128 x129 x130 x131 x132 x133 x134 x135 x136 x137 x138 x139 x140 x141 x142 x143 x144 x145 x146 x147 x148 x149 x150 x151 x152 x153 x154 x155 x156 x157 x158 x159 x160 x161 x162 x163 x164 x165 x166 x167 x168 x169 x170 x171 x172 x173 x174 x175 x176 x177 x178 x179 x180 x181 x182 x183 x184 x185 x186 x187 x188 x189 x190 x191 x192 x193 x194 x195 x196 x197 x198 x199 x200 x201 x202 x203 x204 x205 x206 x207 x208 x209 x210 x211 x212 x213 x214 x215 x216 x217 x218 x219 x220 x221 x222 x223 x224 x225 x226 x227 x228 x229 x230 x231 x232 x233 x234 x235 x236 x237 x238 x239 x240 x241 x242 x243 x244 x245 x246 x247 x248 x249 x250 x251 x252 x253 x254 x255 x256 x257 x258 x259 x260 x261 x262 x263 x264 x265 x266 x267 x268 x269 x270 x271 x272 x273 x275 x276 x277 x278 x279 x280 x281 x282 x283 x284 x285 x286 x287 x288 x289 x290 x291 x292 x293 x294 x295 x296 x297 x298 x299 x300 x301 x302 x303 x304 x305 x306 x307 x308 x309 x310 x311 x312 x313 x314 x315 x316 x317 x318 x319 x320 x321 x322 x323 x324 x325 x326 x327 x328 x329 x330 x331 x332 x333 x334 x335 x336 x337 x338 x339 x340 x341 x342 x343 x344 x345 x346 x347 x348 x349 x350 x351 x352 x353 x354 x355 x356 x357 x358 x359 x360 x361 x362 x363 x364 x365 x366 x367 x368 x369 x370 x371 x372 x373 x374 x375 x376 x377 x378 x379 x380 x381 x382 x383 x384 : Value) (HT : Hid (tb = ((e == 0) && decide (G.length < nn)))) (h7 : mm ≤ 7) (hn1 : 1 ≤ nn) (hnm : nn ≤ mm)
    (HQ : Hid (Qq o z P n S q e1)) (HR : Hid (R3 e1 mm q S k e G ∧ (e = 0 → k = S.length))) (HO : Hid (OShares W base Ag cg G ∧ G.length ≤ cg ∧ cg ≤ maxLen))
    (HX : Hid (∀ (W' : World) (u275 u276 u277 u278 u279 u280 : Value), Below W.heap.size W W' → Q .normal ⟨#[.int .i64 mm, .int .i64 nn, x2, x3, x4, x5, x6, x7, x8, x9, x10, x11, x12, .int .i64 (ggE mm nn o S), x14, x15, x16, x17, x18, x19, x20, x21, x22, x23, x24, x25, x26, .int .i64 (ggV mm nn o S), .slice Ag G.length cg, x29, x30, x31, x32, x33, x34, x35, x36, x37, x38, x39, x40, x41, x42, x43, x44, x45, x46, x47, x48, x49, x50, x51, x52, x53, x54, x55, x56, x57, x58, x59, x60, x61, x62, x63, x64, x65, x66, x67, x68, x69, x70, x71, x72, x73, x74, x75, x76, x77, x78, x79, x80, x81, x82, x83, x84, x85, x86, x87, x88, x89, x90, x91, x92, x93, x94, x95, x96, x97, x98, x99, x100, x101, x102, x103, x104, x105, x106, x107, x108, x109, x110, x111, x112, x113, x114, x115, x116, x117, x118, x119, x120, x121, x122, x123, x124, x125, x126, x127, x128, x129, x130, x131, x132, x133, x134, x135, x136, x137, x138, x139, x140, x141, x142, x143, x144, x145, x146, x147, x148, x149, x150, x151, x152, x153, x154, x155, x156, x157, x158, x159, x160, x161, x162, x163, x164, x165, x166, x167, x168, x169, x170, x171, x172, x173, x174, x175, x176, x177, x178, x179, x180, x181, x182, x183, x184, x185, x186, x187, x188, x189, x190, x191, x192, x193, x194, x195, x196, x197, x198, x199, x200, x201, x202, x203, x204, x205, x206, x207, x208, x209, x210, x211, x212, x213, x214, x215, x216, x217, x218, x219, x220, x221, x222, x223, x224, x225, x226, x227, x228, x229, x230, x231, x232, x233, x234, x235, x236, x237, x238, x239, x240, x241, x242, x243, x244, x245, x246, x247, x248, x249, x250, x251, x252, x253, x254, x255, x256, x257, x258, x259, x260, x261, x262, x263, x264, x265, x266, x267, x268, x269, x270, x271, x272, x273, .bool tb, u275, u276, u277, u278, u279, u280, x281, x282, x283, x284, x285, x286, x287, x288, x289, x290, x291, x292, x293, x294, x295, x296, x297, x298, x299, x300, x301, x302, x303, x304, x305, x306, x307, x308, x309, x310, x311, x312, x313, x314, x315, x316, x317, x318, x319, x320, x321, x322, x323, x324, x325, x326, x327, x328, x329, x330, x331, x332, x333, x334, x335, x336, x337, x338, x339, x340, x341, x342, x343, x344, x345, x346, x347, x348, x349, x350, x351, x352, x353, x354, x355, x356, x357, x358, x359, x360, x361, x362, x363, x364, x365, x366, x367, x368, x369, x370, x371, x372, x373, x374, x375, x376, x377, x378, x379, x380, x381, x382, x383, x384], []⟩ W')) :
    Code.wp Tryd.prog if274 Q ⟨#[.int .i64 mm, .int .i64 nn, x2, x3, x4, x5, x6, x7, x8, x9, x10, x11, x12, .int .i64 e, x14, x15, x16, x17, x18, x19, x20, x21, x22, x23, x24, x25, x26, .int .i64 0, .slice Ag G.length cg, x29, x30, x31, x32, x33, x34, x35, x36, x37, x38, x39, x40, x41, x42, x43, x44, x45, x46, x47, x48, x49, x50, x51, x52, x53, x54, x55, x56, x57, x58, x59, x60, x61, x62, x63, x64, x65, x66, x67, x68, x69, x70, x71, x72, x73, x74, x75, x76, x77, x78, x79, x80, x81, x82, x83, x84, x85, x86, x87, x88, x89, x90, x91, x92, x93, x94, x95, x96, x97, x98, x99, x100, x101, x102, x103, x104, x105, x106, x107, x108, x109, x110, x111, x112, x113, x114, x115, x116, x117, x118, x119, x120, x121, x122, x123, x124, x125, x126, x127, x128, x129, x130, x131, x132, x133, x134, x135, x136, x137, x138, x139, x140, x141, x142, x143, x144, x145, x146, x147, x148, x149, x150, x151, x152, x153, x154, x155, x156, x157, x158, x159, x160, x161, x162, x163, x164, x165, x166, x167, x168, x169, x170, x171, x172, x173, x174, x175, x176, x177, x178, x179, x180, x181, x182, x183, x184, x185, x186, x187, x188, x189, x190, x191, x192, x193, x194, x195, x196, x197, x198, x199, x200, x201, x202, x203, x204, x205, x206, x207, x208, x209, x210, x211, x212, x213, x214, x215, x216, x217, x218, x219, x220, x221, x222, x223, x224, x225, x226, x227, x228, x229, x230, x231, x232, x233, x234, x235, x236, x237, x238, x239, x240, x241, x242, x243, x244, x245, x246, x247, x248, x249, x250, x251, x252, x253, x254, x255, x256, x257, x258, x259, x260, x261, x262, x263, x264, x265, x266, x267, x268, x269, x270, x271, x272, x273, .bool tb, x275, x276, x277, x278, x279, x280, x281, x282, x283, x284, x285, x286, x287, x288, x289, x290, x291, x292, x293, x294, x295, x296, x297, x298, x299, x300, x301, x302, x303, x304, x305, x306, x307, x308, x309, x310, x311, x312, x313, x314, x315, x316, x317, x318, x319, x320, x321, x322, x323, x324, x325, x326, x327, x328, x329, x330, x331, x332, x333, x334, x335, x336, x337, x338, x339, x340, x341, x342, x343, x344, x345, x346, x347, x348, x349, x350, x351, x352, x353, x354, x355, x356, x357, x358, x359, x360, x361, x362, x363, x364, x365, x366, x367, x368, x369, x370, x371, x372, x373, x374, x375, x376, x377, x378, x379, x380, x381, x382, x383, x384], []⟩ W := by
  let fpost := bodyPost Tryd.prog Tryd.f6 (fun _ _ => True)
  conv => arg 2; whnf
  by_cases he : e = 0
  · subst he
    obtain ⟨hr, hk⟩ := HR.out
    have hk' := hk rfl
    subst hk'
    by_cases hl : G.length < nn
    · obtain ⟨g1, g2⟩ := hr.end_few (need := nn) HQ.out hl
      rw [g1, g2] at HX
      obtain rfl : tb = true := by rw [HT.out, decide_eq_true hl]; rfl
      clear g1 g2 hr hk hl
      go_wp2_with fail
      exact HX.out _ _ _ _ _ _ _ (Below.refl _ _)
    · obtain ⟨g1, g2⟩ := hr.end_ok (need := nn) HQ.out hl
      rw [g1, g2] at HX
      obtain rfl : tb = false := by rw [HT.out, decide_eq_false hl]; rfl
      have hpt := pts_take (hr.pts h7) nn (by omega)
      have hlt : (G.take nn).length = nn := (List.length_take).trans (by omega)
      have hS : Shares W Ag (G.take nn) := HO.out.1.shares.take (by omega)
      have cr := rnext_any Ag cg (G.take nn) 0 (by omega) (by omega) (by omega) (by omega) hpt W hS
      rw [hlt] at cr
      have hcg : nn ≤ cg := by have := HO.out.2.1; omega
      have hcm := HO.out.2.2
      unfold maxLen at hcm
      have htl : thrL (G.take nn) 0 = PM.thr (ga (G.take nn)) (gb (G.take nn)) nn 0 nn := by unfold thrL; rw [hlt]
      rw [htl] at HX
      have CR := Lib.hid cr
      have n1 : (nn : Int) ≤ (cg : Nat) := by omega
      clear g1 g2 hr hk hl cr hpt hlt hS htl
      go_wp2_with (go_at_call 28; refine CR.out.mono ?_; rintro e0 w9 ⟨rfl, hb9⟩; have HB9 := Lib.hid hb9; clear hb9)
      exact HX.out _ _ _ _ _ _ _ HB9.out
  · obtain ⟨g1, g2⟩ := HR.out.1.end_ne (need := nn) he HQ.out
    rw [g1, g2] at HX
    have hd : (e == 0) = false := beq_eq_false_iff_ne.2 he
    have HE := Lib.hid he
    obtain rfl : tb = false := by rw [HT.out, hd]; rfl
    clear g1 g2 he
    go_wp2_with fail
    exact HX.out _ _ _ _ _ _ _ (Below.refl _ _)
end Go.Proofs.YtamndgeeibfmhaaDoor.vaultPlays
