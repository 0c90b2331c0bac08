/- LogKeeps: the end of what one deed does, as a theorem of its own. LogKeeps: what is to be said, as a theorem of its own. LogKeeps: the copy that does it too, as a theorem of its own. LogKeeps: what one deed does, as a theorem of its own. LogKeeps: the loop over the deeds, as a theorem of its own. -/
import Derived.Test.YtfelefkmbbfdjaaGreatDoorLkAll
import Derived.WalkKit
import Derived.WalkLawsBesides
import Derived.WalkSpells
import Derived.RegionTactic
import Derived.Deep.QuietTactic
import Derived.BigQuiet
import Derived.BigRegion
import Derived.Deep.CutBlock
import Derived.Deep.DeepCutAuto
import Derived.Outline
import Derived.Deep.RegionHeld3
namespace Go.Proofs.YtfelefkmbbfdjaaGreatDoor.logKeeps
open Go.ChangeShapes Go.WideShapes Go.ChangeAt Go.RowKit Go.Joins Go.Deep
set_option linter.unusedVariables false
set_option maxHeartbeats 6400000 in
set_option maxRecDepth 1000000 in
theorem deed2 (Q : Exit → Act → World → Prop) (w0 W : World) (R : List Ru) (LA : Option Addr) (lc : Nat) (l : List Ak) (SA : Option Addr) (sc : Nat) (sy : List Int) (f : Kl) (C : Nat → Kc) (D : List Ak) (jk : ByteArray) (sf : Nat) (lf : Int) (st : Bool) (dA : Option Addr) (dc : Nat) (mA : Option Addr) (mc : Nat) (k : Nat) (p' q' : Nat) (g2 h2 : Option Nat)
    (x0 x3 x4 x5 x6 x7 x8 x9 x10 x11 x12 x13 x14 x15 x16 x17 x18 x19 x20 x22 x23 x27 x28 x29 x34 x35 x36 x37 x38 x39 x40 x41 x42 x43 x44 x45 x46 x47 x48 x49 x50 x51 x52 x53 x54 x55 x56 x57 x58 x59 x60 x61 x62 x63 x64 x65 x66 x67 x68 x69 x70 x71 x72 x73 x74 x75 x76 x77 x78 x79 x80 x81 x82 x83 x84 x85 x86 x87 x88 x89 x90 x91 x92 x93 x94 x95 x96 x97 x98 x99 x100 x101 x102 x103 x104 x105 x106 x107 x108 x109 x110 x111 x112 x113 x114 x115 x116 x117 x118 x119 x120 x121 x122 x123 x124 x125 x126 x127 x128 x129 x130 x131 x132 x133 x134 x135 x136 x137 x138 x139 x140 x141 x142 x143 x144 x145 x146 x147 x148 x149 x150 x151 x152 x153 x154 x155 x156 x157 x158 x159 x160 x161 x162 x163 x164 x165 x166 x167 x168 x169 x170 x171 x172 x173 x174 x175 x176 x177 x178 x179 x180 x181 x182 x183 x184 x185 x186 x187 x188 x189 x190 x191 x192 x193 x194 x195 x196 x197 x198 x199 x200 x201 x202 x203 x204 x205 x206 x207 x208 x209 x210 x211 x212 x213 x214 x215 x216 x217 x218 x219 x220 x221 x222 x223 x224 x225 x226 x227 x228 x229 x230 x231 x232 x233 x234 x235 x236 x237 x238 x239 x240 x241 x242 x243 x244 x245 x246 x247 x248 x249 x250 x251 x252 x253 x254 x255 x256 x257 x258 x259 x260 x261 x262 x263 x264 x265 x266 x267 x268 x269 x270 x271 x272 x273 x274 x275 x276 x277 x278 x279 x280 x281 x282 x283 x284 x285 x286 x287 x288 x289 x290 x291 x292 x293 x294 x295 x296 x297 x298 x299 x300 x301 x302 x303 x304 x305 x306 x307 x308 x309 x310 x311 x312 x313 x314 x315 x316 x317 x318 x319 x320 x321 x322 x323 x324 x325 x326 x327 x328 x329 x330 x331 x332 x333 x334 x335 x336 x337 x338 x339 x340 x341 x342 x343 x344 x345 x346 x347 x348 x349 x350 x351 x352 x353 x354 x355 x356 x357 x358 x359 x360 x361 x362 x363 x364 x365 x366 x367 x368 x369 x370 x371 x372 x373 x374 x375 x376 x377 x378 x379 x380 x381 x382 x383 x384 x385 x386 x387 x388 x389 x390 x391 x392 x393 x394 x395 x396 x397 x398 x399 x400 : Value)
    (hl9 : l.length ≤ 9223372036854775807) (hs9 : sy.length ≤ 9223372036854775807) (HT : Hid (∀ W, Below w0.heap.size w0 W → LT W)) (HGG : Hid (∀ W, Below w0.heap.size w0 W → HG W)) (HA : Hid (Aks w0 LA l)) (HOK : Hid (okA l)) (HS : Hid (Ints w0 SA sy))
    (hk : k < l.length) (HL : Hid (KL w0 W f R D jk sf lf st)) (HC : Hid (KC w0 W f C R D dA dc mA mc)) (HN : Hid (RCp W w0.heap.size p' q' g2 h2 R (doC R (cpD R D) (ak l k)))) (HDS : Hid (Dsj f.M (RCM p' q' g2 h2)))
    (HX : Hid (∀ (n' : Nat) (dA' : Option Addr) (dc' : Nat) (mA' : Option Addr) (mc' : Nat) (W' : World) (u23 u30 u31 u32 u33 u34 u35 u36 u37 u38 u39 u40 u41 u223 u224 u225 u226 u227 u228 u229 u230 u231 u232 u233 u234 u235 u236 u237 u238 u239 u240 u241 u242 u243 u244 u245 u246 u247 u248 u249 u250 u251 u252 u253 u254 u255 u256 u257 u258 u259 u260 u261 u262 u263 u264 u265 u266 u267 u268 u269 u270 u271 u272 u273 u274 u275 u276 u277 u278 u279 u280 u281 u282 u283 u284 u285 u286 u287 u288 u289 u290 u291 u292 u293 u294 u295 u296 u297 u298 u299 u300 u301 u302 u303 u304 u305 u306 u307 u308 u309 : Value), KK w0 f.P R n' dA' dc' mA' mc' W' → Q .normal ⟨#[x0, .slice LA l.length lc, .slice SA sy.length sc, x3, x4, x5, x6, x7, x8, x9, x10, x11, x12, x13, x14, x15, x16, x17, x18, x19, x20, .pointer (some ⟨f.P, 0, none⟩), x22, u23, .slice dA' (n' + 1) dc', .slice mA' (n' + 1) mc', .int .i64 ((k : Int) + 1), x27, x28, x29, u30, u31, u32, u33, u34, u35, u36, u37, u38, u39, u40, u41, x42, x43, x44, x45, x46, x47, x48, x49, x50, x51, x52, x53, x54, x55, x56, x57, x58, x59, x60, x61, x62, x63, x64, x65, x66, x67, x68, x69, x70, x71, x72, x73, x74, x75, x76, x77, x78, x79, x80, x81, x82, x83, x84, x85, x86, x87, x88, x89, x90, x91, x92, x93, x94, x95, x96, x97, x98, x99, x100, x101, x102, x103, x104, x105, x106, x107, x108, x109, x110, x111, x112, x113, x114, x115, x116, x117, x118, x119, x120, x121, x122, x123, x124, x125, x126, x127, x128, x129, x130, x131, x132, x133, x134, x135, x136, x137, x138, x139, x140, x141, x142, x143, x144, x145, x146, x147, x148, x149, x150, x151, x152, x153, x154, x155, x156, x157, x158, x159, x160, x161, x162, x163, x164, x165, x166, x167, x168, x169, x170, x171, x172, x173, x174, x175, x176, x177, x178, x179, x180, x181, x182, x183, x184, x185, x186, x187, x188, x189, x190, x191, x192, x193, x194, x195, x196, x197, x198, x199, x200, x201, x202, x203, x204, x205, x206, x207, x208, x209, x210, x211, x212, x213, x214, x215, x216, x217, x218, x219, x220, x221, x222, u223, u224, u225, u226, u227, u228, u229, u230, u231, u232, u233, u234, u235, u236, u237, u238, u239, u240, u241, u242, u243, u244, u245, u246, u247, u248, u249, u250, u251, u252, u253, u254, u255, u256, u257, u258, u259, u260, u261, u262, u263, u264, u265, u266, u267, u268, u269, u270, u271, u272, u273, u274, u275, u276, u277, u278, u279, u280, u281, u282, u283, u284, u285, u286, u287, u288, u289, u290, u291, u292, u293, u294, u295, u296, u297, u298, u299, u300, u301, u302, u303, u304, u305, u306, u307, u308, u309, x310, x311, x312, x313, x314, x315, x316, x317, x318, x319, x320, x321, x322, x323, x324, x325, x326, x327, x328, x329, x330, x331, x332, x333, x334, x335, x336, x337, x338, x339, x340, x341, x342, x343, x344, x345, x346, x347, x348, x349, x350, x351, x352, x353, x354, x355, x356, x357, x358, x359, x360, x361, x362, x363, x364, x365, x366, x367, x368, x369, x370, x371, x372, x373, x374, x375, x376, x377, x378, x379, x380, x381, x382, x383, x384, x385, x386, x387, x388, x389, x390, x391, x392, x393, x394, x395, x396, x397, x398, x399, x400], []⟩ W')) :
    Code.wp Tryz.prog (frm 36) Q ⟨#[x0, .slice LA l.length lc, .slice SA sy.length sc, x3, x4, x5, x6, x7, x8, x9, x10, x11, x12, x13, x14, x15, x16, x17, x18, x19, x20, .pointer (some ⟨f.P, 0, none⟩), x22, x23, .slice dA (D.length + 1) dc, .slice mA (D.length + 1) mc, .int .i64 k, x27, x28, x29, (.pointer (some ⟨p', 0, none⟩)), .string (lkS R D (ak l k)), .int .i64 (lkE R D (ak l k)), .bool (agn R D (ak l k)), x34, x35, x36, x37, x38, x39, x40, x41, x42, x43, x44, x45, x46, x47, x48, x49, x50, x51, x52, x53, x54, x55, x56, x57, x58, x59, x60, x61, x62, x63, x64, x65, x66, x67, x68, x69, x70, x71, x72, x73, x74, x75, x76, x77, x78, x79, x80, x81, x82, x83, x84, x85, x86, x87, x88, x89, x90, x91, x92, x93, x94, x95, x96, x97, x98, x99, x100, x101, x102, x103, x104, x105, x106, x107, x108, x109, x110, x111, x112, x113, x114, x115, x116, x117, x118, x119, x120, x121, x122, x123, x124, x125, x126, x127, x128, x129, x130, x131, x132, x133, x134, x135, x136, x137, x138, x139, x140, x141, x142, x143, x144, x145, x146, x147, x148, x149, x150, x151, x152, x153, x154, x155, x156, x157, x158, x159, x160, x161, x162, x163, x164, x165, x166, x167, x168, x169, x170, x171, x172, x173, x174, x175, x176, x177, x178, x179, x180, x181, x182, x183, x184, x185, x186, x187, x188, x189, x190, x191, x192, x193, x194, x195, x196, x197, x198, x199, x200, x201, x202, x203, x204, x205, x206, x207, x208, x209, x210, x211, x212, x213, x214, x215, x216, x217, x218, x219, x220, x221, x222, x223, x224, x225, x226, x227, x228, x229, x230, x231, x232, x233, x234, x235, x236, x237, x238, x239, x240, x241, x242, x243, x244, x245, x246, x247, x248, x249, x250, x251, x252, x253, x254, x255, x256, x257, x258, x259, x260, x261, x262, x263, x264, x265, x266, x267, x268, x269, x270, x271, x272, x273, x274, x275, x276, x277, x278, x279, x280, x281, x282, x283, x284, x285, x286, x287, x288, x289, x290, x291, x292, x293, x294, x295, x296, x297, x298, x299, x300, x301, x302, x303, x304, x305, x306, x307, x308, x309, x310, x311, x312, x313, x314, x315, x316, x317, x318, x319, x320, x321, x322, x323, x324, x325, x326, x327, x328, x329, x330, x331, x332, x333, x334, x335, x336, x337, x338, x339, x340, x341, x342, x343, x344, x345, x346, x347, x348, x349, x350, x351, x352, x353, x354, x355, x356, x357, x358, x359, x360, x361, x362, x363, x364, x365, x366, x367, x368, x369, x370, x371, x372, x373, x374, x375, x376, x377, x378, x379, x380, x381, x382, x383, x384, x385, x386, x387, x388, x389, x390, x391, x392, x393, x394, x395, x396, x397, x398, x399, x400], []⟩ W := by
  let fpost := bodyPost Tryz.prog Tryz.f3 (fun _ _ => True)
  conv => arg 2; whnf
  dsimp only
  have hn30 := HL.out.len
  have i0 : (0 : Int) ≤ (k : Int) := by omega
  have i1 : (k : Int) < (l.length : Nat) := by omega
  obtain ⟨ba, oa, B, Ca, rfl, hbl, c0, c1, c2, c3, hv, hb1, hbm⟩ := HA.out.at_ hk
  obtain ⟨hokt, hw64, hq64, _⟩ := HOK.out k hk
  generalize ak l k = a at *
  have hb0 := HL.out.b0
  have d0 := (hb0.cell (p := ⟨ba, oa + k * 4, none⟩) hbl).trans c0
  have d1 := (hb0.cell (p := ⟨ba, oa + k * 4 + 1, none⟩) hbl).trans c1
  have d2 := (hb0.cell (p := ⟨ba, oa + k * 4 + 2, none⟩) hbl).trans c2
  have d3 := (hb0.cell (p := ⟨ba, oa + k * 4 + 3, none⟩) hbl).trans c3
  have hvin := (Vin.of_arg hv (Nat.le_refl _)).below hb0 (Nat.le_refl _) (Nat.le_refl _)
  obtain ⟨N1, hN1⟩ : ∃ N1 : Nat, (recs D ++ jk).size = N1 := ⟨_, rfl⟩
  have hN1b : N1 ≤ 1000000 := by rw [← hN1]; exact kl_size HL.out
  have HN1 := Lib.hid hN1
  have CD := Lib.hid (kl_do HL.out HT.out a B Ca (Nat.le_trans hb1 hbm) hokt hw64 hq64 hvin)
  have HOKT := Lib.hid hokt
  clear c0 c1 c2 c3 hv hb1 hbm hokt hw64 hq64 hvin hN1 hb0
  go_wp2_with (go_at_call 9; refine (kl_bytes' HL.out HN1.out).mono ?_; rintro e w' ⟨rfl, rfl⟩)
  refine CD.out.mono ?_
  rintro e W7 ⟨E, S, D', jk', lf', st', f', rfl, hout, hL7, hM⟩
  have hC7 := HC.out.moved HL.out hM
  obtain ⟨hN7, hD7⟩ := rcp_moved (c := ⟨p', q', g2, h2⟩) HL.out HN.out HDS.out hM
  have hP : f'.P = f.P := hM.2.2
  rw [← hP]
  have HL7 := Lib.hid hL7; have HC7 := Lib.hid hC7; have HN7 := Lib.hid hN7; have HD7 := Lib.hid hD7; have HP := Lib.hid hP
  clear hL7 hC7 hN7 hD7 hM hP d0 d1 d2 d3 CD HL HC HN HDS
  cases hout with
  | stop h1 h2 h3 =>
    subst h1 h2
    have h3 := h3.symm
    subst h3
    rw [show eV 6 = errV 6 from eV_of (by decide)]
    generalize lkE R D a = e' at *
    generalize lkS R D a = s' at *
    generalize agn R D a = ag at *
    have q1 : ((6 : Int) == 6) = true := rfl
    go_wp2_with fail
    refine (same_eE 6 6 _ (HGG.out _ HL7.out.b0)).mono ?_
    rintro e W8 ⟨rfl, hb8⟩
    have HL8 := Lib.hid (HL7.out.keep hb8); have HC8 := Lib.hid (HC7.out.keep hb8)
    clear HL7 HC7 hb8
    go_wp2_with fail
    refine (same_eE 6 e' _ (HGG.out _ HL8.out.b0)).mono ?_
    rintro e W9 ⟨rfl, hb9⟩
    have HL9 := Lib.hid (HL8.out.keep hb9); have HC9 := Lib.hid (HC8.out.keep hb9)
    clear HL8 HC8 hb9
    go_wp2_with fail
    obtain ⟨gt, ot, pp, V, rfl, hgt, hnc, hdc9, hn31, c29, CM, CMR⟩ := kc_tail HT.out HL9.out HC9.out (n := D.length) rfl
    refine CM.out.mono ?_
    rintro e W10 ⟨rfl, hb10⟩
    have c29' := (hb10.cell (p := ⟨gt, ot + (D.length), none⟩) hgt).trans c29
    have q8 : (((D.length : Nat) : Int) != ((D.length : Nat) : Int)) = false := by simp
    have q9 : (V != V) = false := by simp
    clear c29 hgt
    go_wp2_with (go_at_call 17; refine (CMR.out W10 hb10).mono ?_; rintro e W11 ⟨rfl, hb11⟩)
    rw [HP.out]
    exact HX.out (D.length) _ _ _ _ W11 _ _ _ _ _ _ _ _ _ _ _ _ _ _ _ _ _ _ _ _ _ _ _ _ _ _ _ _ _ _ _ _ _ _ _ _ _ _ _ _ _ _ _ _ _ _ _ _ _ _ _ _ _ _ _ _ _ _ _ _ _ _ _ _ _ _ _ _ _ _ _ _ _ _ _ _ _ _ _ _ _ _ _ _ _ _ _ _ _ _ _ _ _ _ _ _ _ _ _ _ ⟨f', _, D, _, _, _, _, HP.out, rfl, HL9.out.keep (bcl hb10 hb11), HC9.out.keep (bcl hb10 hb11)⟩
  | no h1 h2 h3 h4 h5 =>
    have h5 := h5.symm
    subst h5
    subst h1
    rw [h4] at h2
    subst h4
    rw [← h2]
    rw [eV_of h3]
    have q0 := str_same (⟨#[]⟩ : ByteArray)
    clear h2
    generalize lkE R D a = e' at *
    generalize agn R D a = ag at *
    have q2 : (e' == e') = true := beq_self_eq_true _
    by_cases h6 : e' = 6
    · have q1 : (e' == 6) = true := beq_iff_eq.2 h6
      clear h3 h6
      go_wp2_with fail
      refine (same_eE e' 6 _ (HGG.out _ HL7.out.b0)).mono ?_
      rintro e W8 ⟨rfl, hb8⟩
      have HL8 := Lib.hid (HL7.out.keep hb8); have HC8 := Lib.hid (HC7.out.keep hb8)
      clear HL7 HC7 hb8
      go_wp2_with fail
      refine (same_eE e' e' _ (HGG.out _ HL8.out.b0)).mono ?_
      rintro e W9 ⟨rfl, hb9⟩
      have HL9 := Lib.hid (HL8.out.keep hb9); have HC9 := Lib.hid (HC8.out.keep hb9)
      clear HL8 HC8 hb9
      go_wp2_with fail
      obtain ⟨gt, ot, pp, V, rfl, hgt, hnc, hdc9, hn31, c29, CM, CMR⟩ := kc_tail HT.out HL9.out HC9.out (n := D.length) rfl
      refine CM.out.mono ?_
      rintro e W10 ⟨rfl, hb10⟩
      have c29' := (hb10.cell (p := ⟨gt, ot + (D.length), none⟩) hgt).trans c29
      have q8 : (((D.length : Nat) : Int) != ((D.length : Nat) : Int)) = false := by simp
      have q9 : (V != V) = false := by simp
      clear c29 hgt
      go_wp2_with (go_at_call 17; refine (CMR.out W10 hb10).mono ?_; rintro e W11 ⟨rfl, hb11⟩)
      rw [HP.out]
      exact HX.out (D.length) _ _ _ _ W11 _ _ _ _ _ _ _ _ _ _ _ _ _ _ _ _ _ _ _ _ _ _ _ _ _ _ _ _ _ _ _ _ _ _ _ _ _ _ _ _ _ _ _ _ _ _ _ _ _ _ _ _ _ _ _ _ _ _ _ _ _ _ _ _ _ _ _ _ _ _ _ _ _ _ _ _ _ _ _ _ _ _ _ _ _ _ _ _ _ _ _ _ _ _ _ _ _ _ _ _ ⟨f', _, D, _, _, _, _, HP.out, rfl, HL9.out.keep (bcl hb10 hb11), HC9.out.keep (bcl hb10 hb11)⟩
    · have q1 : (e' == 6) = false := beq_eq_false_iff_ne.2 h6
      clear h3 h6
      go_wp2_with fail
      refine (same_eE e' 6 _ (HGG.out _ HL7.out.b0)).mono ?_
      rintro e W8 ⟨rfl, hb8⟩
      have HL8 := Lib.hid (HL7.out.keep hb8); have HC8 := Lib.hid (HC7.out.keep hb8)
      clear HL7 HC7 hb8
      go_wp2_with fail
      refine (same_eE e' e' _ (HGG.out _ HL8.out.b0)).mono ?_
      rintro e W9 ⟨rfl, hb9⟩
      have HL9 := Lib.hid (HL8.out.keep hb9); have HC9 := Lib.hid (HC8.out.keep hb9)
      clear HL8 HC8 hb9
      go_wp2_with fail
      obtain ⟨gt, ot, pp, V, rfl, hgt, hnc, hdc9, hn31, c29, CM, CMR⟩ := kc_tail HT.out HL9.out HC9.out (n := D.length) rfl
      refine CM.out.mono ?_
      rintro e W10 ⟨rfl, hb10⟩
      have c29' := (hb10.cell (p := ⟨gt, ot + (D.length), none⟩) hgt).trans c29
      have q8 : (((D.length : Nat) : Int) != ((D.length : Nat) : Int)) = false := by simp
      have q9 : (V != V) = false := by simp
      clear c29 hgt
      go_wp2_with (go_at_call 17; refine (CMR.out W10 hb10).mono ?_; rintro e W11 ⟨rfl, hb11⟩)
      rw [HP.out]
      exact HX.out (D.length) _ _ _ _ W11 _ _ _ _ _ _ _ _ _ _ _ _ _ _ _ _ _ _ _ _ _ _ _ _ _ _ _ _ _ _ _ _ _ _ _ _ _ _ _ _ _ _ _ _ _ _ _ _ _ _ _ _ _ _ _ _ _ _ _ _ _ _ _ _ _ _ _ _ _ _ _ _ _ _ _ _ _ _ _ _ _ _ _ _ _ _ _ _ _ _ _ _ _ _ _ _ _ _ _ _ ⟨f', _, D, _, _, _, _, HP.out, rfl, HL9.out.keep (bcl hb10 hb11), HC9.out.keep (bcl hb10 hb11)⟩
  | again h1 h2 h3 h4 h5 h6 h7 =>
    have h6 := h6.symm
    subst h6
    subst h1 h7
    have hag : agn R D a = true := by rw [agn, h5, decide_eq_true h4]; rfl
    rw [eV_zero, h2, h3, hag]
    clear h2 h3 h4 h5 hag
    generalize lkS R D a = s' at *
    have q0 := str_same s'
    have q1 : ((0 : Int) == 6) = false := rfl
    have q2 : ((0 : Int) == 0) = true := rfl
    have q3 : (((N1 : Nat) : Int) != ((N1 : Nat) : Int)) = false := by simp
    go_wp2_with fail
    refine (same_nE 6 _).mono ?_
    rintro e W8 ⟨rfl, hb8⟩
    have HL8 := Lib.hid (HL7.out.keep hb8); have HC8 := Lib.hid (HC7.out.keep hb8)
    clear HL7 HC7 hb8
    go_wp2_with fail
    refine (same_nE 0 _).mono ?_
    rintro e W9 ⟨rfl, hb9⟩
    have HL9 := Lib.hid (HL8.out.keep hb9); have HC9 := Lib.hid (HC8.out.keep hb9)
    clear HL8 HC8 hb9
    go_wp2_with fail
    refine (kl_bytes' HL9.out HN1.out).mono ?_
    rintro e w' ⟨rfl, rfl⟩
    go_wp2_with fail
    obtain ⟨gt, ot, pp, V, rfl, hgt, hnc, hdc9, hn31, c29, CM, CMR⟩ := kc_tail HT.out HL9.out HC9.out (n := D.length) rfl
    refine CM.out.mono ?_
    rintro e W10 ⟨rfl, hb10⟩
    have c29' := (hb10.cell (p := ⟨gt, ot + (D.length), none⟩) hgt).trans c29
    have q8 : (((D.length : Nat) : Int) != ((D.length : Nat) : Int)) = false := by simp
    have q9 : (V != V) = false := by simp
    clear c29 hgt
    go_wp2_with (go_at_call 17; refine (CMR.out W10 hb10).mono ?_; rintro e W11 ⟨rfl, hb11⟩)
    rw [HP.out]
    exact HX.out (D.length) _ _ _ _ W11 _ _ _ _ _ _ _ _ _ _ _ _ _ _ _ _ _ _ _ _ _ _ _ _ _ _ _ _ _ _ _ _ _ _ _ _ _ _ _ _ _ _ _ _ _ _ _ _ _ _ _ _ _ _ _ _ _ _ _ _ _ _ _ _ _ _ _ _ _ _ _ _ _ _ _ _ _ _ _ _ _ _ _ _ _ _ _ _ _ _ _ _ _ _ _ _ _ _ _ _ ⟨f', _, D, _, _, _, _, HP.out, rfl, HL9.out.keep (bcl hb10 hb11), HC9.out.keep (bcl hb10 hb11)⟩
  | did h1 h2 h3 h4 h5 h6 h7 h8 h9 =>
    subst h7
    subst h1 h8 h9
    have hag : agn R D a = false := by rw [agn, h5]; simp
    have hrs := rec_two a
    have hs1 := HN1.out
    rw [recs_nojk] at hs1
    have hs2 : (recs (D ++ [a])).size = N1 + (recB a).size := by rw [recs_snoc, size_app, hs1]
    obtain ⟨N2, hN2⟩ : ∃ N2 : Nat, (recs (D ++ [a])).size = N2 := ⟨_, rfl⟩
    have HN2 := Lib.hid (show (recs (D ++ [a]) ++ (⟨#[]⟩ : ByteArray)).size = N2 by rw [recs_nojk]; exact hN2)
    have hN2b : N2 ≤ 1000000 := by rw [← hN2]; have := kl_size HL7.out; rw [recs_nojk] at this; exact this
    have hN12 : ¬ ((N2 : Nat) : Int) < ((N1 : Nat) : Int) + 2 := by omega
    have hj := HN7.out
    rw [show doC R (cpD R D) a = cpD R (D ++ [a]) from (cpD_snoc a).symm] at hj
    have HJ := Lib.hid hj
    have HLEN := Lib.hid (show (D ++ [a]).length = D.length + 1 by simp)
    have HS2 := Lib.hid hN2
    have hn6 : D.length + 1 ≤ 1000000 := by omega
    rw [eV_zero, h2, h3, hag]
    clear h2 h3 h4 h5 hag hrs hs1 hs2 hN2 hj HN7
    generalize lkS R D a = s' at *
    have q0 := str_same s'
    have q1 : ((0 : Int) == 6) = false := rfl
    have q2 : ((0 : Int) == 0) = true := rfl
    go_wp2_with fail
    refine (same_nE 6 _).mono ?_
    rintro e W8 ⟨rfl, hb8⟩
    have HL8 := Lib.hid (HL7.out.keep hb8); have HC8 := Lib.hid (HC7.out.keep hb8); have HJ8 := Lib.hid (HJ.out.keep hb8)
    clear HL7 HC7 HJ hb8
    go_wp2_with fail
    refine (same_nE 0 _).mono ?_
    rintro e W9 ⟨rfl, hb9⟩
    have HL9 := Lib.hid (HL8.out.keep hb9); have HC9 := Lib.hid (HC8.out.keep hb9); have HJ9 := Lib.hid (HJ8.out.keep hb9)
    clear HL8 HC8 HJ8 hb9
    go_wp2_with fail
    refine (kl_bytes' HL9.out HN2.out).mono ?_
    rintro e w' ⟨rfl, rfl⟩
    go_wp2_with (at_builtin; refine wpList_append_win rfl _ _ 48 rfl w0.heap.size 46 _ 1 8 Tryz.underlying48 infoPRC rfl (by decide) (.slice dA (D.length + 1) dc) (D.length + 1) (kcPs C (D.length + 1)) rfl (HC9.out.dw.keep (bal1 _ _)) W9.heap.size [.pointer (some ⟨p', 0, none⟩)] rfl rfl (news_at _ #[.pointer (some ⟨p', 0, none⟩)] _) (by simp [Value.oneCell']) hn6 (by decide) (le_al HL9.out.hb _) ?_; intro b4 o4 c4 w10 hW10 hg10 hx10; have hkd := kd_of (HC9.out.keep (bal1 _ _)) (a := a) (HL9.out.keep (bal1 _ _)) (c := ⟨p', q', g2, h2⟩) (HJ9.out.keep (bal1 _ _)) HD7.out hg10 hW10; have HL10 := Lib.hid hkd.1; have HK10 := Lib.hid hkd.2; clear hW10 hg10 hx10 hkd)
    refine (kl_bytes' HL10.out HN2.out).mono ?_
    rintro e w' ⟨rfl, rfl⟩
    go_wp2_with (at_builtin; refine wpList_append_win rfl _ _ 24 rfl w0.heap.size 3 _ 1 8 Tryz.underlying24 infoI64 rfl (by decide) (.slice mA (D.length + 1) mc) (D.length + 1) (kcMs D (D.length + 1)) rfl (HK10.out.mw.keep (bal1 _ _)) w10.heap.size [.int .i64 N2] rfl rfl (news_at _ #[.int .i64 N2] _) (by simp [Value.oneCell']) hn6 (by decide) (le_al HL10.out.hb _) ?_; intro b5 o5 c5 w11 hW11 hg11 hx11; have hkc := kc_of (HK10.out.keep (bal1 _ _)) (HL10.out.keep (bal1 _ _)) hg11 (by rw [HS2.out]; exact hW11); have HL12 := Lib.hid hkc.1; have HC12 := Lib.hid hkc.2; clear hW11 hg11 hx11 hkc)
    obtain ⟨gt, ot, pp, V, heq, hgt, hnc, hdc9, hn31, c29, CM, CMR⟩ := kc_tail HT.out HL12.out HC12.out (n := D.length + 1) HLEN.out
    injection heq with heq
    injection heq with heq1 heq2
    subst heq1 heq2
    refine CM.out.mono ?_
    rintro e W10 ⟨rfl, hb10⟩
    have c29' := (hb10.cell (p := ⟨b4, o4 + (D.length + 1), none⟩) hgt).trans c29
    have q8 : (((D.length + 1 : Nat) : Int) != ((D.length + 1 : Nat) : Int)) = false := by simp
    have q9 : (V != V) = false := by simp
    clear c29 hgt
    go_wp2_with (go_at_call 17; refine (CMR.out W10 hb10).mono ?_; rintro e W11 ⟨rfl, hb11⟩)
    rw [HP.out]
    exact HX.out (D.length + 1) _ _ _ _ W11 _ _ _ _ _ _ _ _ _ _ _ _ _ _ _ _ _ _ _ _ _ _ _ _ _ _ _ _ _ _ _ _ _ _ _ _ _ _ _ _ _ _ _ _ _ _ _ _ _ _ _ _ _ _ _ _ _ _ _ _ _ _ _ _ _ _ _ _ _ _ _ _ _ _ _ _ _ _ _ _ _ _ _ _ _ _ _ _ _ _ _ _ _ _ _ _ _ _ _ _ ⟨f', _, (D ++ [a]), _, _, _, _, HP.out, HLEN.out, HL12.out.keep (bcl hb10 hb11), HC12.out.keep (bcl hb10 hb11)⟩

end Go.Proofs.YtfelefkmbbfdjaaGreatDoor.logKeeps
namespace Go.Proofs.YtfelefkmbbfdjaaGreatDoor.logKeeps
open Go.ChangeShapes Go.WideShapes Go.ChangeAt Go.RowKit Go.Joins Go.Deep
set_option linter.unusedVariables false
set_option maxHeartbeats 6400000 in
set_option maxRecDepth 1000000 in
theorem dfull (Q : Exit → Act → World → Prop) (w0 W : World) (R : List Ru) (LA : Option Addr) (lc : Nat) (l : List Ak) (SA : Option Addr) (sc : Nat) (sy : List Int) (f : Kl) (C : Nat → Kc) (D : List Ak) (jk : ByteArray) (sf : Nat) (lf : Int) (st : Bool) (dA : Option Addr) (dc : Nat) (mA : Option Addr) (mc : Nat) (k : Nat) (p' q' : Nat) (g2 h2 : Option Nat)
    (x0 x3 x4 x5 x6 x7 x8 x9 x10 x11 x12 x13 x14 x15 x16 x17 x18 x19 x20 x22 x23 x27 x28 x29 x34 x35 x36 x37 x38 x39 x40 x41 x42 x43 x44 x45 x46 x47 x48 x49 x50 x51 x52 x53 x54 x55 x56 x57 x58 x59 x60 x61 x62 x63 x64 x65 x66 x67 x68 x69 x70 x71 x72 x73 x74 x75 x76 x77 x78 x79 x80 x81 x82 x83 x84 x85 x86 x87 x88 x89 x90 x91 x92 x93 x94 x95 x96 x97 x98 x99 x100 x101 x102 x103 x104 x105 x106 x107 x108 x109 x110 x111 x112 x113 x114 x115 x116 x117 x118 x119 x120 x121 x122 x123 x124 x125 x126 x127 x128 x129 x130 x131 x132 x133 x134 x135 x136 x137 x138 x139 x140 x141 x142 x143 x144 x145 x146 x147 x148 x149 x150 x151 x152 x153 x154 x155 x156 x157 x158 x159 x160 x161 x162 x163 x164 x165 x166 x167 x168 x169 x170 x171 x172 x173 x174 x175 x176 x177 x178 x179 x180 x181 x182 x183 x184 x185 x186 x187 x188 x189 x190 x191 x192 x193 x194 x195 x196 x197 x198 x199 x200 x201 x202 x203 x204 x205 x206 x207 x208 x209 x210 x211 x212 x213 x214 x215 x216 x217 x218 x219 x220 x221 x222 x223 x224 x225 x226 x227 x228 x229 x230 x231 x232 x233 x234 x235 x236 x237 x238 x239 x240 x241 x242 x243 x244 x245 x246 x247 x248 x249 x250 x251 x252 x253 x254 x255 x256 x257 x258 x259 x260 x261 x262 x263 x264 x265 x266 x267 x268 x269 x270 x271 x272 x273 x274 x275 x276 x277 x278 x279 x280 x281 x282 x283 x284 x285 x286 x287 x288 x289 x290 x291 x292 x293 x294 x295 x296 x297 x298 x299 x300 x301 x302 x303 x304 x305 x306 x307 x308 x309 x310 x311 x312 x313 x314 x315 x316 x317 x318 x319 x320 x321 x322 x323 x324 x325 x326 x327 x328 x329 x330 x331 x332 x333 x334 x335 x336 x337 x338 x339 x340 x341 x342 x343 x344 x345 x346 x347 x348 x349 x350 x351 x352 x353 x354 x355 x356 x357 x358 x359 x360 x361 x362 x363 x364 x365 x366 x367 x368 x369 x370 x371 x372 x373 x374 x375 x376 x377 x378 x379 x380 x381 x382 x383 x384 x385 x386 x387 x388 x389 x390 x391 x392 x393 x394 x395 x396 x397 x398 x399 x400 : Value)
    (hl9 : l.length ≤ 9223372036854775807) (hs9 : sy.length ≤ 9223372036854775807) (HT : Hid (∀ W, Below w0.heap.size w0 W → LT W)) (HGG : Hid (∀ W, Below w0.heap.size w0 W → HG W)) (HA : Hid (Aks w0 LA l)) (HOK : Hid (okA l)) (HS : Hid (Ints w0 SA sy))
    (hk : k < l.length) (HL : Hid (KL w0 W f R D jk sf lf st)) (HC : Hid (KC w0 W f C R D dA dc mA mc)) (HN : Hid (RCp W w0.heap.size p' q' g2 h2 R (doC R (cpD R D) (ak l k)))) (HDS : Hid (Dsj f.M (RCM p' q' g2 h2)))
    (HX : Hid (∀ (n' : Nat) (dA' : Option Addr) (dc' : Nat) (mA' : Option Addr) (mc' : Nat) (W' : World) (u23 u30 u31 u32 u33 u34 u35 u36 u37 u38 u39 u40 u41 u149 u150 u151 u152 u153 u154 u155 u156 u157 u158 u159 u160 u161 u162 u163 u164 u165 u166 u167 u168 u169 u170 u171 u172 u173 u174 u175 u176 u177 u178 u179 u180 u181 u182 u183 u184 u185 u186 u187 u188 u189 u190 u191 u192 u193 u194 u195 u196 u197 u198 u199 u200 u201 u202 u203 u204 u205 u206 u207 u208 u209 u210 u211 u212 u213 u214 u215 u216 u217 u218 u219 u220 u221 u222 u223 u224 u225 u226 u227 u228 u229 u230 u231 u232 u233 u234 u235 u236 u237 u238 u239 u240 u241 u242 u243 u244 u245 u246 u247 u248 u249 u250 u251 u252 u253 u254 u255 u256 u257 u258 u259 u260 u261 u262 u263 u264 u265 u266 u267 u268 u269 u270 u271 u272 u273 u274 u275 u276 u277 u278 u279 u280 u281 u282 u283 u284 u285 u286 u287 u288 u289 u290 u291 u292 u293 u294 u295 u296 u297 u298 u299 u300 u301 u302 u303 u304 u305 u306 u307 u308 u309 : Value), KK w0 f.P R n' dA' dc' mA' mc' W' → Q .normal ⟨#[x0, .slice LA l.length lc, .slice SA sy.length sc, x3, x4, x5, x6, x7, x8, x9, x10, x11, x12, x13, x14, x15, x16, x17, x18, x19, x20, .pointer (some ⟨f.P, 0, none⟩), x22, u23, .slice dA' (n' + 1) dc', .slice mA' (n' + 1) mc', .int .i64 ((k : Int) + 1), x27, x28, x29, u30, u31, u32, u33, u34, u35, u36, u37, u38, u39, u40, u41, x42, x43, x44, x45, x46, x47, x48, x49, x50, x51, x52, x53, x54, x55, x56, x57, x58, x59, x60, x61, x62, x63, x64, x65, x66, x67, x68, x69, x70, x71, x72, x73, x74, x75, x76, x77, x78, x79, x80, x81, x82, x83, x84, x85, x86, x87, x88, x89, x90, x91, x92, x93, x94, x95, x96, x97, x98, x99, x100, x101, x102, x103, x104, x105, x106, x107, x108, x109, x110, x111, x112, x113, x114, x115, x116, x117, x118, x119, x120, x121, x122, x123, x124, x125, x126, x127, x128, x129, x130, x131, x132, x133, x134, x135, x136, x137, x138, x139, x140, x141, x142, x143, x144, x145, x146, x147, x148, u149, u150, u151, u152, u153, u154, u155, u156, u157, u158, u159, u160, u161, u162, u163, u164, u165, u166, u167, u168, u169, u170, u171, u172, u173, u174, u175, u176, u177, u178, u179, u180, u181, u182, u183, u184, u185, u186, u187, u188, u189, u190, u191, u192, u193, u194, u195, u196, u197, u198, u199, u200, u201, u202, u203, u204, u205, u206, u207, u208, u209, u210, u211, u212, u213, u214, u215, u216, u217, u218, u219, u220, u221, u222, u223, u224, u225, u226, u227, u228, u229, u230, u231, u232, u233, u234, u235, u236, u237, u238, u239, u240, u241, u242, u243, u244, u245, u246, u247, u248, u249, u250, u251, u252, u253, u254, u255, u256, u257, u258, u259, u260, u261, u262, u263, u264, u265, u266, u267, u268, u269, u270, u271, u272, u273, u274, u275, u276, u277, u278, u279, u280, u281, u282, u283, u284, u285, u286, u287, u288, u289, u290, u291, u292, u293, u294, u295, u296, u297, u298, u299, u300, u301, u302, u303, u304, u305, u306, u307, u308, u309, x310, x311, x312, x313, x314, x315, x316, x317, x318, x319, x320, x321, x322, x323, x324, x325, x326, x327, x328, x329, x330, x331, x332, x333, x334, x335, x336, x337, x338, x339, x340, x341, x342, x343, x344, x345, x346, x347, x348, x349, x350, x351, x352, x353, x354, x355, x356, x357, x358, x359, x360, x361, x362, x363, x364, x365, x366, x367, x368, x369, x370, x371, x372, x373, x374, x375, x376, x377, x378, x379, x380, x381, x382, x383, x384, x385, x386, x387, x388, x389, x390, x391, x392, x393, x394, x395, x396, x397, x398, x399, x400], []⟩ W')) :
    Code.wp Tryz.prog (frm 33) Q ⟨#[x0, .slice LA l.length lc, .slice SA sy.length sc, x3, x4, x5, x6, x7, x8, x9, x10, x11, x12, x13, x14, x15, x16, x17, x18, x19, x20, .pointer (some ⟨f.P, 0, none⟩), x22, x23, .slice dA (D.length + 1) dc, .slice mA (D.length + 1) mc, .int .i64 k, x27, x28, x29, (.pointer (some ⟨p', 0, none⟩)), .string (doS R (cpD R D) (ak l k)), .int .i64 (doE R (cpD R D) (ak l k)), .bool (agn R D (ak l k)), x34, x35, x36, x37, x38, x39, x40, x41, x42, x43, x44, x45, x46, x47, x48, x49, x50, x51, x52, x53, x54, x55, x56, x57, x58, x59, x60, x61, x62, x63, x64, x65, x66, x67, x68, x69, x70, x71, x72, x73, x74, x75, x76, x77, x78, x79, x80, x81, x82, x83, x84, x85, x86, x87, x88, x89, x90, x91, x92, x93, x94, x95, x96, x97, x98, x99, x100, x101, x102, x103, x104, x105, x106, x107, x108, x109, x110, x111, x112, x113, x114, x115, x116, x117, x118, x119, x120, x121, x122, x123, x124, x125, x126, x127, x128, x129, x130, x131, x132, x133, x134, x135, x136, x137, x138, x139, x140, x141, x142, x143, x144, x145, x146, x147, x148, x149, x150, x151, x152, x153, x154, x155, x156, x157, x158, x159, x160, x161, x162, x163, x164, x165, x166, x167, x168, x169, x170, x171, x172, x173, x174, x175, x176, x177, x178, x179, x180, x181, x182, x183, x184, x185, x186, x187, x188, x189, x190, x191, x192, x193, x194, x195, x196, x197, x198, x199, x200, x201, x202, x203, x204, x205, x206, x207, x208, x209, x210, x211, x212, x213, x214, x215, x216, x217, x218, x219, x220, x221, x222, x223, x224, x225, x226, x227, x228, x229, x230, x231, x232, x233, x234, x235, x236, x237, x238, x239, x240, x241, x242, x243, x244, x245, x246, x247, x248, x249, x250, x251, x252, x253, x254, x255, x256, x257, x258, x259, x260, x261, x262, x263, x264, x265, x266, x267, x268, x269, x270, x271, x272, x273, x274, x275, x276, x277, x278, x279, x280, x281, x282, x283, x284, x285, x286, x287, x288, x289, x290, x291, x292, x293, x294, x295, x296, x297, x298, x299, x300, x301, x302, x303, x304, x305, x306, x307, x308, x309, x310, x311, x312, x313, x314, x315, x316, x317, x318, x319, x320, x321, x322, x323, x324, x325, x326, x327, x328, x329, x330, x331, x332, x333, x334, x335, x336, x337, x338, x339, x340, x341, x342, x343, x344, x345, x346, x347, x348, x349, x350, x351, x352, x353, x354, x355, x356, x357, x358, x359, x360, x361, x362, x363, x364, x365, x366, x367, x368, x369, x370, x371, x372, x373, x374, x375, x376, x377, x378, x379, x380, x381, x382, x383, x384, x385, x386, x387, x388, x389, x390, x391, x392, x393, x394, x395, x396, x397, x398, x399, x400], []⟩ W := by
  let fpost := bodyPost Tryz.prog Tryz.f3 (fun _ _ => True)
  conv => arg 2; whnf
  dsimp only
  have hn30 := HL.out.len
  have i0 : (0 : Int) ≤ (k : Int) := by omega
  have i1 : (k : Int) < (l.length : Nat) := by omega
  generalize ha : ak l k = a at *
  have HAK := Lib.hid ha
  clear ha
  go_upto_region 33 with fail
  go_cut [33, 222] (fun s33 s222 wx => s33 = .bool (agn R D a) ∧ s222 = .bool (ful R D a) ∧ wx = W)
  case first =>
    as_aux_lemma =>
      by_cases e0 : doE R (cpD R D) a = 0
      · have q0 : (doE R (cpD R D) a == 0) = true := beq_iff_eq.2 e0
        cases hag : agB (cpD R D) a with
        | true =>
          have hv : ful R D a = false := by rw [ful, hag]; simp
          have hv2 : agn R D a = true := by rw [agn, hag, decide_eq_true e0]; rfl
          have HV := Lib.hid hv; have HV2 := Lib.hid hv2
          clear e0 hag hv
          generalize doE R (cpD R D) a = E0 at *
          generalize doS R (cpD R D) a = S0 at *
          rw [hv2]
          clear hv2
          go_wp2_with fail
          go_meet
          case rel => exact ⟨by rw [HV2.out], by rw [HV.out], by first | rfl | trivial⟩
        | false =>
          have hv2 : agn R D a = false := by rw [agn, hag]; simp
          by_cases hf : D.length = 30
          · have hv : ful R D a = true := decide_eq_true ⟨e0, hag, hf⟩
            have q1 : (30 : Int) < ((D.length : Nat) : Int) + 1 := by omega
            have q2 : (30 : Int) < ((D.length + 1 : Nat) : Int) := by omega
            have q3 : 30 < D.length + 1 := by omega
            have HV := Lib.hid hv; have HV2 := Lib.hid hv2
            clear e0 hag hv
            generalize doE R (cpD R D) a = E0 at *
            generalize doS R (cpD R D) a = S0 at *
            rw [hv2]
            clear hv2 hf
            go_wp2_with fail
            go_meet
            case rel => exact ⟨by rw [HV2.out], by rw [HV.out], by first | rfl | trivial⟩
          · have hv : ful R D a = false := decide_eq_false fun h => hf h.2.2
            have q1 : ¬ (30 : Int) < ((D.length : Nat) : Int) + 1 := by omega
            have q2 : ¬ (30 : Int) < ((D.length + 1 : Nat) : Int) := by omega
            have q3 : ¬ 30 < D.length + 1 := by omega
            have HV := Lib.hid hv; have HV2 := Lib.hid hv2
            clear e0 hag hv
            generalize doE R (cpD R D) a = E0 at *
            generalize doS R (cpD R D) a = S0 at *
            rw [hv2]
            clear hv2 hf
            go_wp2_with fail
            go_meet
            case rel => exact ⟨by rw [HV2.out], by rw [HV.out], by first | rfl | trivial⟩
      · have q0 : (doE R (cpD R D) a == 0) = false := beq_eq_false_iff_ne.2 e0
        have hv : ful R D a = false := decide_eq_false fun h => e0 h.1
        have HV := Lib.hid hv
        clear e0 hv
        generalize doE R (cpD R D) a = E0 at *
        generalize doS R (cpD R D) a = S0 at *
        go_wp2_with fail
        go_meet
        case rel => exact ⟨rfl, by rw [HV.out], by first | rfl | trivial⟩
  case rest =>
    obtain ⟨rfl, rfl, hwc⟩ := hcut
    obtain ⟨W5, hw⟩ : ∃ v : World, v = wc := ⟨_, rfl⟩
    subst hw
    subst hwc
    go_upto_if 222 with fail
    go_cut [31, 32] (fun s31 s32 wx => s31 = .string (lkS R D a) ∧ s32 = .int .i64 (lkE R D a) ∧ wx = W5)
    case first =>
      as_aux_lemma =>
        cases hf : ful R D a with
        | true =>
          obtain ⟨v1, v2⟩ := lk_ful hf
          have V1 := Lib.hid v1; have V2 := Lib.hid v2
          clear v1 v2 hf
          go_wp2_with fail
          go_meet
          case rel => exact ⟨by rw [V2.out], by rw [V1.out], by first | rfl | trivial⟩
        | false =>
          obtain ⟨v1, v2⟩ := lk_not hf
          have V1 := Lib.hid v1; have V2 := Lib.hid v2
          clear v1 v2 hf
          go_wp2_with fail
          go_meet
          case rel => exact ⟨by rw [V2.out], by rw [V1.out], by first | rfl | trivial⟩
    case rest =>
      obtain ⟨rfl, rfl, hwc⟩ := hcut
      obtain ⟨W6, hw⟩ : ∃ v : World, v = wc := ⟨_, rfl⟩
      subst hw
      subst hwc
      have ha := HAK.out
      subst ha
      clear HAK
      apply_assumption
      refine deed2 _ w0 W6 R LA lc l SA sc sy f C D jk sf lf st dA dc mA mc k p' q' g2 h2 _ _ _ _ _ _ _ _ _ _ _ _ _ _ _ _ _ _ _ _ _ _ _ _ _ _ _ _ _ _ _ _ _ _ _ _ _ _ _ _ _ _ _ _ _ _ _ _ _ _ _ _ _ _ _ _ _ _ _ _ _ _ _ _ _ _ _ _ _ _ _ _ _ _ _ _ _ _ _ _ _ _ _ _ _ _ _ _ _ _ _ _ _ _ _ _ _ _ _ _ _ _ _ _ _ _ _ _ _ _ _ _ _ _ _ _ _ _ _ _ _ _ _ _ _ _ _ _ _ _ _ _ _ _ _ _ _ _ _ _ _ _ _ _ _ _ _ _ _ _ _ _ _ _ _ _ _ _ _ _ _ _ _ _ _ _ _ _ _ _ _ _ _ _ _ _ _ _ _ _ _ _ _ _ _ _ _ _ _ _ _ _ _ _ _ _ _ _ _ _ _ _ _ _ _ _ _ _ _ _ _ _ _ _ _ _ _ _ _ _ _ _ _ _ _ _ _ _ _ _ _ _ _ _ _ _ _ _ _ _ _ _ _ _ _ _ _ _ _ _ _ _ _ _ _ _ _ _ _ _ _ _ _ _ _ _ _ _ _ _ _ _ _ _ _ _ _ _ _ _ _ _ _ _ _ _ _ _ _ _ _ _ _ _ _ _ _ _ _ _ _ _ _ _ _ _ _ _ _ _ _ _ _ _ _ _ _ _ _ _ _ _ _ _ _ _ _ _ _ _ _ _ _ _ _ _ _ _ _ _ _ _ _ _ _ _ _ _ _ _ _ _ _ _ _ _ _ _ _ _ _ _ _ _ _ _ _ _ _ _ _ _ _ _ _ _ _ _ _ _ _ _ _ _ _ _ _ _ _ _ _ hl9 hs9 HT HGG HA HOK HS hk HL HC HN HDS (Lib.hid ?_)
      intro n' dA' dc' mA' mc' W' _ _ _ _ _ _ _ _ _ _ _ _ _ _ _ _ _ _ _ _ _ _ _ _ _ _ _ _ _ _ _ _ _ _ _ _ _ _ _ _ _ _ _ _ _ _ _ _ _ _ _ _ _ _ _ _ _ _ _ _ _ _ _ _ _ _ _ _ _ _ _ _ _ _ _ _ _ _ _ _ _ _ _ _ _ _ _ _ _ _ _ _ _ _ _ _ _ _ _ _ hKK
      dsimp only
      go_wp2_with fail
      exact HX.out n' dA' dc' mA' mc' W' _ _ _ _ _ _ _ _ _ _ _ _ _ _ _ _ _ _ _ _ _ _ _ _ _ _ _ _ _ _ _ _ _ _ _ _ _ _ _ _ _ _ _ _ _ _ _ _ _ _ _ _ _ _ _ _ _ _ _ _ _ _ _ _ _ _ _ _ _ _ _ _ _ _ _ _ _ _ _ _ _ _ _ _ _ _ _ _ _ _ _ _ _ _ _ _ _ _ _ _ _ _ _ _ _ _ _ _ _ _ _ _ _ _ _ _ _ _ _ _ _ _ _ _ _ _ _ _ _ _ _ _ _ _ _ _ _ _ _ _ _ _ _ _ _ _ _ _ _ _ _ _ _ _ _ _ _ _ _ _ _ _ _ _ _ _ _ _ _ _ _ _ _ _ hKK

end Go.Proofs.YtfelefkmbbfdjaaGreatDoor.logKeeps
namespace Go.Proofs.YtfelefkmbbfdjaaGreatDoor.logKeeps
open Go.ChangeShapes Go.WideShapes Go.ChangeAt Go.RowKit Go.Joins Go.Deep
set_option linter.unusedVariables false
set_option maxHeartbeats 6400000 in
set_option maxRecDepth 1000000 in
theorem dtwin (Q : Exit → Act → World → Prop) (w0 W : World) (R : List Ru) (LA : Option Addr) (lc : Nat) (l : List Ak) (SA : Option Addr) (sc : Nat) (sy : List Int) (f : Kl) (C : Nat → Kc) (D : List Ak) (jk : ByteArray) (sf : Nat) (lf : Int) (st : Bool) (dA : Option Addr) (dc : Nat) (mA : Option Addr) (mc : Nat) (k : Nat)
    (x0 x3 x4 x5 x6 x7 x8 x9 x10 x11 x12 x13 x14 x15 x16 x17 x18 x19 x20 x22 x23 x27 x28 x29 x30 x31 x32 x33 x34 x35 x36 x37 x38 x39 x40 x41 x42 x43 x44 x45 x46 x47 x48 x49 x50 x51 x52 x53 x54 x55 x56 x57 x58 x59 x60 x61 x62 x63 x64 x65 x66 x67 x68 x69 x70 x71 x72 x73 x74 x75 x76 x77 x78 x79 x80 x81 x82 x83 x84 x85 x86 x87 x88 x89 x90 x91 x92 x93 x94 x95 x96 x97 x98 x99 x100 x101 x102 x103 x104 x105 x106 x107 x108 x109 x110 x111 x112 x113 x114 x115 x116 x117 x118 x119 x120 x121 x122 x123 x124 x125 x126 x127 x128 x129 x130 x131 x132 x133 x134 x135 x136 x137 x138 x139 x140 x141 x142 x143 x144 x145 x146 x147 x148 x149 x150 x151 x152 x153 x154 x155 x156 x157 x158 x159 x160 x161 x162 x163 x164 x165 x166 x167 x168 x169 x170 x171 x172 x173 x174 x175 x176 x177 x178 x179 x180 x181 x182 x183 x184 x185 x186 x187 x188 x189 x190 x191 x192 x193 x194 x195 x196 x197 x198 x199 x200 x201 x202 x203 x204 x205 x206 x207 x208 x209 x210 x211 x212 x213 x214 x215 x216 x217 x218 x219 x220 x221 x222 x223 x224 x225 x226 x227 x228 x229 x230 x231 x232 x233 x234 x235 x236 x237 x238 x239 x240 x241 x242 x243 x244 x245 x246 x247 x248 x249 x250 x251 x252 x253 x254 x255 x256 x257 x258 x259 x260 x261 x262 x263 x264 x265 x266 x267 x268 x269 x270 x271 x272 x273 x274 x275 x276 x277 x278 x279 x280 x281 x282 x283 x284 x285 x286 x287 x288 x289 x290 x291 x292 x293 x294 x295 x296 x297 x298 x299 x300 x301 x302 x303 x304 x305 x306 x307 x308 x309 x310 x311 x312 x313 x314 x315 x316 x317 x318 x319 x320 x321 x322 x323 x324 x325 x326 x327 x328 x329 x330 x331 x332 x333 x334 x335 x336 x337 x338 x339 x340 x341 x342 x343 x344 x345 x346 x347 x348 x349 x350 x351 x352 x353 x354 x355 x356 x357 x358 x359 x360 x361 x362 x363 x364 x365 x366 x367 x368 x369 x370 x371 x372 x373 x374 x375 x376 x377 x378 x379 x380 x381 x382 x383 x384 x385 x386 x387 x388 x389 x390 x391 x392 x393 x394 x395 x396 x397 x398 x399 x400 : Value)
    (hl9 : l.length ≤ 9223372036854775807) (hs9 : sy.length ≤ 9223372036854775807) (HT : Hid (∀ W, Below w0.heap.size w0 W → LT W)) (HGG : Hid (∀ W, Below w0.heap.size w0 W → HG W)) (HA : Hid (Aks w0 LA l)) (HOK : Hid (okA l)) (HS : Hid (Ints w0 SA sy))
    (hk : k < l.length) (HL : Hid (KL w0 W f R D jk sf lf st)) (HC : Hid (KC w0 W f C R D dA dc mA mc))
    (HX : Hid (∀ (n' : Nat) (dA' : Option Addr) (dc' : Nat) (mA' : Option Addr) (mc' : Nat) (W' : World) (u23 u29 u30 u31 u32 u33 u34 u35 u36 u37 u38 u39 u40 u41 u149 u150 u151 u152 u153 u154 u155 u156 u157 u158 u159 u160 u161 u162 u163 u164 u165 u166 u167 u168 u169 u170 u171 u172 u173 u174 u175 u176 u177 u178 u179 u180 u181 u182 u183 u184 u185 u186 u187 u188 u189 u190 u191 u192 u193 u194 u195 u196 u197 u198 u199 u200 u201 u202 u203 u204 u205 u206 u207 u208 u209 u210 u211 u212 u213 u214 u215 u216 u217 u218 u219 u220 u221 u222 u223 u224 u225 u226 u227 u228 u229 u230 u231 u232 u233 u234 u235 u236 u237 u238 u239 u240 u241 u242 u243 u244 u245 u246 u247 u248 u249 u250 u251 u252 u253 u254 u255 u256 u257 u258 u259 u260 u261 u262 u263 u264 u265 u266 u267 u268 u269 u270 u271 u272 u273 u274 u275 u276 u277 u278 u279 u280 u281 u282 u283 u284 u285 u286 u287 u288 u289 u290 u291 u292 u293 u294 u295 u296 u297 u298 u299 u300 u301 u302 u303 u304 u305 u306 u307 u308 u309 : Value), KK w0 f.P R n' dA' dc' mA' mc' W' → Q .normal ⟨#[x0, .slice LA l.length lc, .slice SA sy.length sc, x3, x4, x5, x6, x7, x8, x9, x10, x11, x12, x13, x14, x15, x16, x17, x18, x19, x20, .pointer (some ⟨f.P, 0, none⟩), x22, u23, .slice dA' (n' + 1) dc', .slice mA' (n' + 1) mc', .int .i64 ((k : Int) + 1), x27, x28, u29, u30, u31, u32, u33, u34, u35, u36, u37, u38, u39, u40, u41, x42, x43, x44, x45, x46, x47, x48, x49, x50, x51, x52, x53, x54, x55, x56, x57, x58, x59, x60, x61, x62, x63, x64, x65, x66, x67, x68, x69, x70, x71, x72, x73, x74, x75, x76, x77, x78, x79, x80, x81, x82, x83, x84, x85, x86, x87, x88, x89, x90, x91, x92, x93, x94, x95, x96, x97, x98, x99, x100, x101, x102, x103, x104, x105, x106, x107, x108, x109, x110, x111, x112, x113, x114, x115, x116, x117, x118, x119, x120, x121, x122, x123, x124, x125, x126, x127, x128, x129, x130, x131, x132, x133, x134, x135, x136, x137, x138, x139, x140, x141, x142, x143, x144, x145, x146, x147, x148, u149, u150, u151, u152, u153, u154, u155, u156, u157, u158, u159, u160, u161, u162, u163, u164, u165, u166, u167, u168, u169, u170, u171, u172, u173, u174, u175, u176, u177, u178, u179, u180, u181, u182, u183, u184, u185, u186, u187, u188, u189, u190, u191, u192, u193, u194, u195, u196, u197, u198, u199, u200, u201, u202, u203, u204, u205, u206, u207, u208, u209, u210, u211, u212, u213, u214, u215, u216, u217, u218, u219, u220, u221, u222, u223, u224, u225, u226, u227, u228, u229, u230, u231, u232, u233, u234, u235, u236, u237, u238, u239, u240, u241, u242, u243, u244, u245, u246, u247, u248, u249, u250, u251, u252, u253, u254, u255, u256, u257, u258, u259, u260, u261, u262, u263, u264, u265, u266, u267, u268, u269, u270, u271, u272, u273, u274, u275, u276, u277, u278, u279, u280, u281, u282, u283, u284, u285, u286, u287, u288, u289, u290, u291, u292, u293, u294, u295, u296, u297, u298, u299, u300, u301, u302, u303, u304, u305, u306, u307, u308, u309, x310, x311, x312, x313, x314, x315, x316, x317, x318, x319, x320, x321, x322, x323, x324, x325, x326, x327, x328, x329, x330, x331, x332, x333, x334, x335, x336, x337, x338, x339, x340, x341, x342, x343, x344, x345, x346, x347, x348, x349, x350, x351, x352, x353, x354, x355, x356, x357, x358, x359, x360, x361, x362, x363, x364, x365, x366, x367, x368, x369, x370, x371, x372, x373, x374, x375, x376, x377, x378, x379, x380, x381, x382, x383, x384, x385, x386, x387, x388, x389, x390, x391, x392, x393, x394, x395, x396, x397, x398, x399, x400], []⟩ W')) :
    Code.wp Tryz.prog (frm 29) Q ⟨#[x0, .slice LA l.length lc, .slice SA sy.length sc, x3, x4, x5, x6, x7, x8, x9, x10, x11, x12, x13, x14, x15, x16, x17, x18, x19, x20, .pointer (some ⟨f.P, 0, none⟩), x22, x23, .slice dA (D.length + 1) dc, .slice mA (D.length + 1) mc, .int .i64 k, x27, x28, x29, x30, x31, x32, x33, x34, x35, x36, x37, x38, x39, x40, x41, x42, x43, x44, x45, x46, x47, x48, x49, x50, x51, x52, x53, x54, x55, x56, x57, x58, x59, x60, x61, x62, x63, x64, x65, x66, x67, x68, x69, x70, x71, x72, x73, x74, x75, x76, x77, x78, x79, x80, x81, x82, x83, x84, x85, x86, x87, x88, x89, x90, x91, x92, x93, x94, x95, x96, x97, x98, x99, x100, x101, x102, x103, x104, x105, x106, x107, x108, x109, x110, x111, x112, x113, x114, x115, x116, x117, x118, x119, x120, x121, x122, x123, x124, x125, x126, x127, x128, x129, x130, x131, x132, x133, x134, x135, x136, x137, x138, x139, x140, x141, x142, x143, x144, x145, x146, x147, x148, x149, x150, x151, x152, x153, x154, x155, x156, x157, x158, x159, x160, x161, x162, x163, x164, x165, x166, x167, x168, x169, x170, x171, x172, x173, x174, x175, x176, x177, x178, x179, x180, x181, x182, x183, x184, x185, x186, x187, x188, x189, x190, x191, x192, x193, x194, x195, x196, x197, x198, x199, x200, x201, x202, x203, x204, x205, x206, x207, x208, x209, x210, x211, x212, x213, x214, x215, x216, x217, x218, x219, x220, x221, x222, x223, x224, x225, x226, x227, x228, x229, x230, x231, x232, x233, x234, x235, x236, x237, x238, x239, x240, x241, x242, x243, x244, x245, x246, x247, x248, x249, x250, x251, x252, x253, x254, x255, x256, x257, x258, x259, x260, x261, x262, x263, x264, x265, x266, x267, x268, x269, x270, x271, x272, x273, x274, x275, x276, x277, x278, x279, x280, x281, x282, x283, x284, x285, x286, x287, x288, x289, x290, x291, x292, x293, x294, x295, x296, x297, x298, x299, x300, x301, x302, x303, x304, x305, x306, x307, x308, x309, x310, x311, x312, x313, x314, x315, x316, x317, x318, x319, x320, x321, x322, x323, x324, x325, x326, x327, x328, x329, x330, x331, x332, x333, x334, x335, x336, x337, x338, x339, x340, x341, x342, x343, x344, x345, x346, x347, x348, x349, x350, x351, x352, x353, x354, x355, x356, x357, x358, x359, x360, x361, x362, x363, x364, x365, x366, x367, x368, x369, x370, x371, x372, x373, x374, x375, x376, x377, x378, x379, x380, x381, x382, x383, x384, x385, x386, x387, x388, x389, x390, x391, x392, x393, x394, x395, x396, x397, x398, x399, x400], []⟩ W := by
  let fpost := bodyPost Tryz.prog Tryz.f3 (fun _ _ => True)
  conv => arg 2; whnf
  dsimp only
  have hn30 := HL.out.len
  have i0 : (0 : Int) ≤ (k : Int) := by omega
  have i1 : (k : Int) < (l.length : Nat) := by omega
  obtain ⟨gd, od, rfl, hgd, hdc, hdc2, hdone⟩ := kc_last HC.out
  have c29 := hdone D.length (Nat.le_refl _)
  have hcn := kc_cpn HC.out
  have hn0 : (cpD R D).n = D.length := HL.out.vd.n
  have CT := Lib.hid (rctwin_any hcn (by omega))
  have HCN := Lib.hid hcn; have HDONE := Lib.hid hdone; have HN0 := Lib.hid hn0
  have hdc9 : dc ≤ 9223372036854775807 := by unfold maxLen at hdc2; exact hdc2
  clear hcn hdone hn0 hdc2
  go_wp2_with fail
  refine CT.out.mono ?_
  rintro e W2 ⟨p', q', g', h', rfl, hT, hb2, hnew⟩
  obtain ⟨ba, oa, B, Ca, rfl, hbl, c0, c1, c2, c3, hv, hb1, hbm⟩ := HA.out.at_ hk
  obtain ⟨hokt, hw64, hq64, _⟩ := HOK.out k hk
  have b02 := bcl HL.out.b0 hb2
  have cells := fun (W' : World) (hW : Below w0.heap.size w0 W') => And.intro ((hW.cell (p := ⟨ba, oa + k * 4, none⟩) hbl).trans c0) (And.intro ((hW.cell (p := ⟨ba, oa + k * 4 + 1, none⟩) hbl).trans c1) (And.intro ((hW.cell (p := ⟨ba, oa + k * 4 + 2, none⟩) hbl).trans c2) ((hW.cell (p := ⟨ba, oa + k * 4 + 3, none⟩) hbl).trans c3)))
  generalize ha : ak l k = a at *
  have HAK := Lib.hid ha
  clear ha
  have hvin := fun (W' : World) (hW : Below w0.heap.size w0 W') => (Vin.of_arg hv (Nat.le_refl _)).below hW (Nat.le_refl _) (Nat.le_refl _)
  have hml : a.t.length ≤ maxLen := Nat.le_trans hb1 hbm
  have CR := Lib.hid (rcdo_any hT (by have := HN0.out; omega) a B Ca hb1 hbm hokt hq64 (hvin W2 b02))
  have HCELL := Lib.hid cells; have HVIN := Lib.hid hvin; have HOKT := Lib.hid (And.intro hokt (And.intro hw64 (And.intro hq64 hml)))
  have HB2 := Lib.hid hb2; have HNEW := Lib.hid hnew
  obtain ⟨d0, d1, d2, d3⟩ := cells W2 b02
  clear c0 c1 c2 c3 hv hokt hw64 hq64 cells hvin hb1 hbm hml hT hb2 hnew CT c29 b02
  go_wp2_with fail
  refine CR.out.mono ?_
  rintro e W3 ⟨rfl, g2, h2, hT3, hch, hg2, hh2⟩
  obtain ⟨hb3, hnew3⟩ := next_of (base := 0) (s := Cs.zero) (s' := Cs.zero) HB2.out HNEW.out hch hg2 hh2
  have HT3 := Lib.hid hT3; have HB3 := Lib.hid hb3; have HNEW3 := Lib.hid hnew3
  obtain ⟨n1, hlp⟩ := rcp_many hT3
  obtain ⟨n0, hln⟩ := rcp_many HCN.out
  have n0' := (hb3.cell (p := ⟨(C D.length).p, 3, none⟩) hln).trans n0
  rw [HN0.out] at n0'
  clear d0 d1 d2 d3 hT3 hb3 hnew3 hch hg2 hh2 n0 HB2 HNEW CR
  go_upto_region 32 with fail
  go_cut [33] (fun s33 wx => s33 = .bool (agn R D a) ∧ Hid (Below W3.heap.size W3 wx))
  case first =>
    as_aux_lemma =>
      by_cases e0 : doE R (cpD R D) a = 0
      · have q0 : (doE R (cpD R D) a == 0) = true := beq_iff_eq.2 e0
        cases hag : agB (cpD R D) a with
        | true =>
          have hv : agn R D a = true := by rw [agn, hag, decide_eq_true e0]; rfl
          rw [doC_same (.inr hag), HN0.out] at n1
          have q1 : ((D.length : Int) == (D.length : Int)) = true := beq_self_eq_true _
          have HV := Lib.hid hv
          clear e0 hag hv
          generalize doE R (cpD R D) a = E0 at *
          generalize doS R (cpD R D) a = S0 at *
          go_quiet (fail)
          go_wp2_with fail
          go_meet
          case rel => exact ⟨by rw [HV.out], Lib.hid (by repeat (first | exact Below.refl _ _ | refine bdn ?_ _ | refine bdr ?_))⟩
        | false =>
          have hv : agn R D a = false := by rw [agn, hag]; simp
          rw [doC_n1 e0 hag, HN0.out] at n1
          have q1 : (((D.length + 1 : Nat) : Int) == (D.length : Int)) = false := by rw [beq_eq_false_iff_ne]; omega
          have HV := Lib.hid hv
          clear e0 hag hv
          generalize doE R (cpD R D) a = E0 at *
          generalize doS R (cpD R D) a = S0 at *
          go_quiet (fail)
          go_wp2_with fail
          go_meet
          case rel => exact ⟨by rw [HV.out]; exact congrArg Value.bool (beq_eq_false_iff_ne.2 (by omega)), Lib.hid (by repeat (first | exact Below.refl _ _ | refine bdn ?_ _ | refine bdr ?_))⟩
      · have q0 : (doE R (cpD R D) a == 0) = false := beq_eq_false_iff_ne.2 e0
        have hv : agn R D a = false := by rw [agn, decide_eq_false e0]; rfl
        have HV := Lib.hid hv
        clear e0 hv
        generalize doE R (cpD R D) a = E0 at *
        generalize doS R (cpD R D) a = S0 at *
        go_quiet (fail)
        go_wp2_with fail
        go_meet
        case rel => exact ⟨by rw [HV.out], Lib.hid (by repeat (first | exact Below.refl _ _ | refine bdn ?_ _ | refine bdr ?_))⟩
  case rest =>
    obtain ⟨rfl, HB4⟩ := hcut
    obtain ⟨W4, hw⟩ : ∃ v : World, v = wc := ⟨_, rfl⟩
    subst hw
    clear n1 n0' hlp hln
    have hb6 := bcl HB3.out HB4.out
    have HL6 := Lib.hid (HL.out.keep hb6); have HC6 := Lib.hid (HC.out.keep hb6); have HT6 := Lib.hid (HT3.out.keep HB4.out)
    have HDS := Lib.hid (new_dsj (M := f.M) (c := ⟨p', q', g2, h2⟩) (lg_lts HL.out.lg) HNEW3.out)
    have ha := HAK.out
    subst ha
    clear HL HC HT3 HB3 HB4 HNEW3 hb6 HCN HDONE HCELL HVIN HOKT HAK
    apply_assumption
    refine dfull _ w0 W4 R _ lc l SA sc sy f C D jk sf lf st _ dc mA mc k p' q' g2 h2 _ _ _ _ _ _ _ _ _ _ _ _ _ _ _ _ _ _ _ _ _ _ _ _ _ _ _ _ _ _ _ _ _ _ _ _ _ _ _ _ _ _ _ _ _ _ _ _ _ _ _ _ _ _ _ _ _ _ _ _ _ _ _ _ _ _ _ _ _ _ _ _ _ _ _ _ _ _ _ _ _ _ _ _ _ _ _ _ _ _ _ _ _ _ _ _ _ _ _ _ _ _ _ _ _ _ _ _ _ _ _ _ _ _ _ _ _ _ _ _ _ _ _ _ _ _ _ _ _ _ _ _ _ _ _ _ _ _ _ _ _ _ _ _ _ _ _ _ _ _ _ _ _ _ _ _ _ _ _ _ _ _ _ _ _ _ _ _ _ _ _ _ _ _ _ _ _ _ _ _ _ _ _ _ _ _ _ _ _ _ _ _ _ _ _ _ _ _ _ _ _ _ _ _ _ _ _ _ _ _ _ _ _ _ _ _ _ _ _ _ _ _ _ _ _ _ _ _ _ _ _ _ _ _ _ _ _ _ _ _ _ _ _ _ _ _ _ _ _ _ _ _ _ _ _ _ _ _ _ _ _ _ _ _ _ _ _ _ _ _ _ _ _ _ _ _ _ _ _ _ _ _ _ _ _ _ _ _ _ _ _ _ _ _ _ _ _ _ _ _ _ _ _ _ _ _ _ _ _ _ _ _ _ _ _ _ _ _ _ _ _ _ _ _ _ _ _ _ _ _ _ _ _ _ _ _ _ _ _ _ _ _ _ _ _ _ _ _ _ _ _ _ _ _ _ _ _ _ _ _ _ _ _ _ _ _ _ _ _ _ _ _ _ _ _ _ _ _ _ _ _ _ _ _ _ _ _ _ _ _ _ hl9 hs9 HT HGG HA HOK HS hk HL6 HC6 HT6 HDS (Lib.hid ?_)
    intro n' dA' dc' mA' mc' W' _ _ _ _ _ _ _ _ _ _ _ _ _ _ _ _ _ _ _ _ _ _ _ _ _ _ _ _ _ _ _ _ _ _ _ _ _ _ _ _ _ _ _ _ _ _ _ _ _ _ _ _ _ _ _ _ _ _ _ _ _ _ _ _ _ _ _ _ _ _ _ _ _ _ _ _ _ _ _ _ _ _ _ _ _ _ _ _ _ _ _ _ _ _ _ _ _ _ _ _ _ _ _ _ _ _ _ _ _ _ _ _ _ _ _ _ _ _ _ _ _ _ _ _ _ _ _ _ _ _ _ _ _ _ _ _ _ _ _ _ _ _ _ _ _ _ _ _ _ _ _ _ _ _ _ _ _ _ _ _ _ _ _ _ _ _ _ _ _ _ _ _ _ _ hKK
    dsimp only
    go_wp2_with fail
    exact HX.out n' dA' dc' mA' mc' W' _ _ _ _ _ _ _ _ _ _ _ _ _ _ _ _ _ _ _ _ _ _ _ _ _ _ _ _ _ _ _ _ _ _ _ _ _ _ _ _ _ _ _ _ _ _ _ _ _ _ _ _ _ _ _ _ _ _ _ _ _ _ _ _ _ _ _ _ _ _ _ _ _ _ _ _ _ _ _ _ _ _ _ _ _ _ _ _ _ _ _ _ _ _ _ _ _ _ _ _ _ _ _ _ _ _ _ _ _ _ _ _ _ _ _ _ _ _ _ _ _ _ _ _ _ _ _ _ _ _ _ _ _ _ _ _ _ _ _ _ _ _ _ _ _ _ _ _ _ _ _ _ _ _ _ _ _ _ _ _ _ _ _ _ _ _ _ _ _ _ _ _ _ _ _ hKK

end Go.Proofs.YtfelefkmbbfdjaaGreatDoor.logKeeps
namespace Go.Proofs.YtfelefkmbbfdjaaGreatDoor.logKeeps
open Go.ChangeShapes Go.WideShapes Go.ChangeAt Go.RowKit Go.Joins Go.Deep
set_option linter.unusedVariables false
set_option maxHeartbeats 6400000 in
set_option maxRecDepth 1000000 in
theorem deed (Q : Exit → Act → World → Prop) (w0 W : World) (P : Nat) (R : List Ru) (LA : Option Addr) (lc : Nat) (l : List Ak) (SA : Option Addr) (sc : Nat) (sy : List Int) (n : Nat) (dA : Option Addr) (dc : Nat) (mA : Option Addr) (mc : Nat) (k : Nat)
    (x0 x3 x4 x5 x6 x7 x8 x9 x10 x11 x12 x13 x14 x15 x16 x17 x18 x19 x20 x22 x23 x27 x28 x29 x30 x31 x32 x33 x34 x35 x36 x37 x38 x39 x40 x41 x42 x43 x44 x45 x46 x47 x48 x49 x50 x51 x52 x53 x54 x55 x56 x57 x58 x59 x60 x61 x62 x63 x64 x65 x66 x67 x68 x69 x70 x71 x72 x73 x74 x75 x76 x77 x78 x79 x80 x81 x82 x83 x84 x85 x86 x87 x88 x89 x90 x91 x92 x93 x94 x95 x96 x97 x98 x99 x100 x101 x102 x103 x104 x105 x106 x107 x108 x109 x110 x111 x112 x113 x114 x115 x116 x117 x118 x119 x120 x121 x122 x123 x124 x125 x126 x127 x128 x129 x130 x131 x132 x133 x134 x135 x136 x137 x138 x139 x140 x141 x142 x143 x144 x145 x146 x147 x148 x149 x150 x151 x152 x153 x154 x155 x156 x157 x158 x159 x160 x161 x162 x163 x164 x165 x166 x167 x168 x169 x170 x171 x172 x173 x174 x175 x176 x177 x178 x179 x180 x181 x182 x183 x184 x185 x186 x187 x188 x189 x190 x191 x192 x193 x194 x195 x196 x197 x198 x199 x200 x201 x202 x203 x204 x205 x206 x207 x208 x209 x210 x211 x212 x213 x214 x215 x216 x217 x218 x219 x220 x221 x222 x223 x224 x225 x226 x227 x228 x229 x230 x231 x232 x233 x234 x235 x236 x237 x238 x239 x240 x241 x242 x243 x244 x245 x246 x247 x248 x249 x250 x251 x252 x253 x254 x255 x256 x257 x258 x259 x260 x261 x262 x263 x264 x265 x266 x267 x268 x269 x270 x271 x272 x273 x274 x275 x276 x277 x278 x279 x280 x281 x282 x283 x284 x285 x286 x287 x288 x289 x290 x291 x292 x293 x294 x295 x296 x297 x298 x299 x300 x301 x302 x303 x304 x305 x306 x307 x308 x309 x310 x311 x312 x313 x314 x315 x316 x317 x318 x319 x320 x321 x322 x323 x324 x325 x326 x327 x328 x329 x330 x331 x332 x333 x334 x335 x336 x337 x338 x339 x340 x341 x342 x343 x344 x345 x346 x347 x348 x349 x350 x351 x352 x353 x354 x355 x356 x357 x358 x359 x360 x361 x362 x363 x364 x365 x366 x367 x368 x369 x370 x371 x372 x373 x374 x375 x376 x377 x378 x379 x380 x381 x382 x383 x384 x385 x386 x387 x388 x389 x390 x391 x392 x393 x394 x395 x396 x397 x398 x399 x400 : Value)
    (hl9 : l.length ≤ 9223372036854775807) (hs9 : sy.length ≤ 9223372036854775807) (HT : Hid (∀ W, Below w0.heap.size w0 W → LT W)) (HGG : Hid (∀ W, Below w0.heap.size w0 W → HG W)) (HA : Hid (Aks w0 LA l)) (HOK : Hid (okA l)) (HS : Hid (Ints w0 SA sy))
    (hk : k < l.length) (HK : Hid (KK w0 P R n dA dc mA mc W))
    (HX : Hid (∀ (n' : Nat) (dA' : Option Addr) (dc' : Nat) (mA' : Option Addr) (mc' : Nat) (W' : World) (u23 u29 u30 u31 u32 u33 u34 u35 u36 u37 u38 u39 u40 u41 u149 u150 u151 u152 u153 u154 u155 u156 u157 u158 u159 u160 u161 u162 u163 u164 u165 u166 u167 u168 u169 u170 u171 u172 u173 u174 u175 u176 u177 u178 u179 u180 u181 u182 u183 u184 u185 u186 u187 u188 u189 u190 u191 u192 u193 u194 u195 u196 u197 u198 u199 u200 u201 u202 u203 u204 u205 u206 u207 u208 u209 u210 u211 u212 u213 u214 u215 u216 u217 u218 u219 u220 u221 u222 u223 u224 u225 u226 u227 u228 u229 u230 u231 u232 u233 u234 u235 u236 u237 u238 u239 u240 u241 u242 u243 u244 u245 u246 u247 u248 u249 u250 u251 u252 u253 u254 u255 u256 u257 u258 u259 u260 u261 u262 u263 u264 u265 u266 u267 u268 u269 u270 u271 u272 u273 u274 u275 u276 u277 u278 u279 u280 u281 u282 u283 u284 u285 u286 u287 u288 u289 u290 u291 u292 u293 u294 u295 u296 u297 u298 u299 u300 u301 u302 u303 u304 u305 u306 u307 u308 u309 : Value), KK w0 P R n' dA' dc' mA' mc' W' → Q .normal ⟨#[x0, .slice LA l.length lc, .slice SA sy.length sc, x3, x4, x5, x6, x7, x8, x9, x10, x11, x12, x13, x14, x15, x16, x17, x18, x19, x20, .pointer (some ⟨P, 0, none⟩), x22, u23, .slice dA' (n' + 1) dc', .slice mA' (n' + 1) mc', .int .i64 ((k : Int) + 1), x27, x28, u29, u30, u31, u32, u33, u34, u35, u36, u37, u38, u39, u40, u41, x42, x43, x44, x45, x46, x47, x48, x49, x50, x51, x52, x53, x54, x55, x56, x57, x58, x59, x60, x61, x62, x63, x64, x65, x66, x67, x68, x69, x70, x71, x72, x73, x74, x75, x76, x77, x78, x79, x80, x81, x82, x83, x84, x85, x86, x87, x88, x89, x90, x91, x92, x93, x94, x95, x96, x97, x98, x99, x100, x101, x102, x103, x104, x105, x106, x107, x108, x109, x110, x111, x112, x113, x114, x115, x116, x117, x118, x119, x120, x121, x122, x123, x124, x125, x126, x127, x128, x129, x130, x131, x132, x133, x134, x135, x136, x137, x138, x139, x140, x141, x142, x143, x144, x145, x146, x147, x148, u149, u150, u151, u152, u153, u154, u155, u156, u157, u158, u159, u160, u161, u162, u163, u164, u165, u166, u167, u168, u169, u170, u171, u172, u173, u174, u175, u176, u177, u178, u179, u180, u181, u182, u183, u184, u185, u186, u187, u188, u189, u190, u191, u192, u193, u194, u195, u196, u197, u198, u199, u200, u201, u202, u203, u204, u205, u206, u207, u208, u209, u210, u211, u212, u213, u214, u215, u216, u217, u218, u219, u220, u221, u222, u223, u224, u225, u226, u227, u228, u229, u230, u231, u232, u233, u234, u235, u236, u237, u238, u239, u240, u241, u242, u243, u244, u245, u246, u247, u248, u249, u250, u251, u252, u253, u254, u255, u256, u257, u258, u259, u260, u261, u262, u263, u264, u265, u266, u267, u268, u269, u270, u271, u272, u273, u274, u275, u276, u277, u278, u279, u280, u281, u282, u283, u284, u285, u286, u287, u288, u289, u290, u291, u292, u293, u294, u295, u296, u297, u298, u299, u300, u301, u302, u303, u304, u305, u306, u307, u308, u309, x310, x311, x312, x313, x314, x315, x316, x317, x318, x319, x320, x321, x322, x323, x324, x325, x326, x327, x328, x329, x330, x331, x332, x333, x334, x335, x336, x337, x338, x339, x340, x341, x342, x343, x344, x345, x346, x347, x348, x349, x350, x351, x352, x353, x354, x355, x356, x357, x358, x359, x360, x361, x362, x363, x364, x365, x366, x367, x368, x369, x370, x371, x372, x373, x374, x375, x376, x377, x378, x379, x380, x381, x382, x383, x384, x385, x386, x387, x388, x389, x390, x391, x392, x393, x394, x395, x396, x397, x398, x399, x400], []⟩ W')) :
    Code.wp Tryz.prog (blk 3) Q ⟨#[x0, .slice LA l.length lc, .slice SA sy.length sc, x3, x4, x5, x6, x7, x8, x9, x10, x11, x12, x13, x14, x15, x16, x17, x18, x19, x20, .pointer (some ⟨P, 0, none⟩), x22, x23, .slice dA (n + 1) dc, .slice mA (n + 1) mc, .int .i64 k, x27, x28, x29, x30, x31, x32, x33, x34, x35, x36, x37, x38, x39, x40, x41, x42, x43, x44, x45, x46, x47, x48, x49, x50, x51, x52, x53, x54, x55, x56, x57, x58, x59, x60, x61, x62, x63, x64, x65, x66, x67, x68, x69, x70, x71, x72, x73, x74, x75, x76, x77, x78, x79, x80, x81, x82, x83, x84, x85, x86, x87, x88, x89, x90, x91, x92, x93, x94, x95, x96, x97, x98, x99, x100, x101, x102, x103, x104, x105, x106, x107, x108, x109, x110, x111, x112, x113, x114, x115, x116, x117, x118, x119, x120, x121, x122, x123, x124, x125, x126, x127, x128, x129, x130, x131, x132, x133, x134, x135, x136, x137, x138, x139, x140, x141, x142, x143, x144, x145, x146, x147, x148, x149, x150, x151, x152, x153, x154, x155, x156, x157, x158, x159, x160, x161, x162, x163, x164, x165, x166, x167, x168, x169, x170, x171, x172, x173, x174, x175, x176, x177, x178, x179, x180, x181, x182, x183, x184, x185, x186, x187, x188, x189, x190, x191, x192, x193, x194, x195, x196, x197, x198, x199, x200, x201, x202, x203, x204, x205, x206, x207, x208, x209, x210, x211, x212, x213, x214, x215, x216, x217, x218, x219, x220, x221, x222, x223, x224, x225, x226, x227, x228, x229, x230, x231, x232, x233, x234, x235, x236, x237, x238, x239, x240, x241, x242, x243, x244, x245, x246, x247, x248, x249, x250, x251, x252, x253, x254, x255, x256, x257, x258, x259, x260, x261, x262, x263, x264, x265, x266, x267, x268, x269, x270, x271, x272, x273, x274, x275, x276, x277, x278, x279, x280, x281, x282, x283, x284, x285, x286, x287, x288, x289, x290, x291, x292, x293, x294, x295, x296, x297, x298, x299, x300, x301, x302, x303, x304, x305, x306, x307, x308, x309, x310, x311, x312, x313, x314, x315, x316, x317, x318, x319, x320, x321, x322, x323, x324, x325, x326, x327, x328, x329, x330, x331, x332, x333, x334, x335, x336, x337, x338, x339, x340, x341, x342, x343, x344, x345, x346, x347, x348, x349, x350, x351, x352, x353, x354, x355, x356, x357, x358, x359, x360, x361, x362, x363, x364, x365, x366, x367, x368, x369, x370, x371, x372, x373, x374, x375, x376, x377, x378, x379, x380, x381, x382, x383, x384, x385, x386, x387, x388, x389, x390, x391, x392, x393, x394, x395, x396, x397, x398, x399, x400], []⟩ W := by
  let fpost := bodyPost Tryz.prog Tryz.f3 (fun _ _ => True)
  conv => arg 2; whnf
  dsimp only
  obtain ⟨f, C, D, jk, sf, lf, st, rfl, rfl, hL, hC⟩ := HK.out
  have hn30 := hL.len
  have HL := Lib.hid hL; have HC := Lib.hid hC
  clear hL hC HK
  have i0 : (0 : Int) ≤ (k : Int) := by omega
  have i1 : (k : Int) < (l.length : Nat) := by omega
  go_upto_region 27 with fail
  go_cut [181] (fun s181 wx => s181 = .bool false ∧ ∃ sf' lf' st', Hid (KL w0 wx f R D jk sf' lf' st') ∧ Hid (KC w0 wx f C R D dA dc mA mc))
  case first =>
    as_aux_lemma =>
      by_cases t1 : k < sy.length
      · have i2 : (k : Int) < (sy.length : Nat) := by omega
        obtain ⟨b, off, rfl, hb, hc⟩ := Sl.at1 HS.out t1
        have hc' := (HL.out.b0.cell (p := ⟨b, off + k, none⟩) hb).trans hc
        clear hc
        generalize gi sy k = v at *
        by_cases t2 : v = 1
        · subst t2
          have CS := Lib.hid (kl_sync HL.out)
          go_wp2_with fail
          refine CS.out.mono ?_
          rintro e w1 ⟨E, sf', lf', st', rfl, hE, hL', hM'⟩
          have HC' := Lib.hid (HC.out.moved HL.out hM')
          have HL' := Lib.hid hL'
          clear hL' hM' hc'
          rcases hE with ⟨rfl, hsf⟩ | rfl
          · rw [eV_zero]
            have HSF := Lib.hid hsf.symm
            have q : ((sf' : Int) != (sf' : Int)) = false := by simp
            clear hsf
            go_wp2_with (first
              | (go_at_call 10; refine (kl_safe HL'.out).mono ?_; rintro e w2 ⟨rfl, rfl⟩)
              | (go_at_call 9; refine (kl_bytes' HL'.out HSF.out).mono ?_; rintro e w2 ⟨rfl, rfl⟩))
            go_meet
            case rel => exact ⟨rfl, sf', lf', st', HL', HC'⟩
          · rw [show eV 6 = errV 6 from eV_of (by decide)]
            go_wp2_with fail
            go_meet
            case rel => exact ⟨rfl, sf', lf', st', HL', HC'⟩
        · have q : (v == 1) = false := beq_eq_false_iff_ne.2 t2
          go_wp2_with fail
          go_meet
          case rel => exact ⟨rfl, sf, lf, st, HL, HC⟩
      · have i2 : decide ((k : Int) < (sy.length : Nat)) = false := by simp; omega
        go_wp2_with fail
        go_meet
        case rel => exact ⟨rfl, sf, lf, st, HL, HC⟩
  case rest =>
    clear HL HC
    obtain ⟨rfl, sf1, lf1, st1, HL, HC⟩ := hcut
    obtain ⟨W1, hw⟩ : ∃ v : World, v = wc := ⟨_, rfl⟩
    subst hw
    go_upto_if 181 with fail
    go_cut [10, 181] (fun s10 s181 wx => s10 = x10 ∧ s181 = .bool false ∧ wx = W1)
    case first =>
      as_aux_lemma =>
        go_wp2_with fail
        go_meet
        case rel => exact ⟨rfl, rfl, by first | rfl | trivial⟩
    case rest =>
    obtain ⟨rfl, rfl, hwc⟩ := hcut
    obtain ⟨W2, hw⟩ : ∃ v : World, v = wc := ⟨_, rfl⟩
    subst hw
    subst hwc
    apply_assumption
    refine dtwin _ w0 W2 R LA lc l SA sc sy f C D jk sf1 lf1 st1 dA dc mA mc k _ _ _ _ _ _ _ _ _ _ _ _ _ _ _ _ _ _ _ _ _ _ _ _ _ _ _ _ _ _ _ _ _ _ _ _ _ _ _ _ _ _ _ _ _ _ _ _ _ _ _ _ _ _ _ _ _ _ _ _ _ _ _ _ _ _ _ _ _ _ _ _ _ _ _ _ _ _ _ _ _ _ _ _ _ _ _ _ _ _ _ _ _ _ _ _ _ _ _ _ _ _ _ _ _ _ _ _ _ _ _ _ _ _ _ _ _ _ _ _ _ _ _ _ _ _ _ _ _ _ _ _ _ _ _ _ _ _ _ _ _ _ _ _ _ _ _ _ _ _ _ _ _ _ _ _ _ _ _ _ _ _ _ _ _ _ _ _ _ _ _ _ _ _ _ _ _ _ _ _ _ _ _ _ _ _ _ _ _ _ _ _ _ _ _ _ _ _ _ _ _ _ _ _ _ _ _ _ _ _ _ _ _ _ _ _ _ _ _ _ _ _ _ _ _ _ _ _ _ _ _ _ _ _ _ _ _ _ _ _ _ _ _ _ _ _ _ _ _ _ _ _ _ _ _ _ _ _ _ _ _ _ _ _ _ _ _ _ _ _ _ _ _ _ _ _ _ _ _ _ _ _ _ _ _ _ _ _ _ _ _ _ _ _ _ _ _ _ _ _ _ _ _ _ _ _ _ _ _ _ _ _ _ _ _ _ _ _ _ _ _ _ _ _ _ _ _ _ _ _ _ _ _ _ _ _ _ _ _ _ _ _ _ _ _ _ _ _ _ _ _ _ _ _ _ _ _ _ _ _ _ _ _ _ _ _ _ _ _ _ _ _ _ _ _ _ _ _ _ _ _ _ _ _ _ _ _ _ _ _ _ _ _ _ _ hl9 hs9 HT HGG HA HOK HS hk HL HC (Lib.hid ?_)
    intro n' dA' dc' mA' mc' W' _ _ _ _ _ _ _ _ _ _ _ _ _ _ _ _ _ _ _ _ _ _ _ _ _ _ _ _ _ _ _ _ _ _ _ _ _ _ _ _ _ _ _ _ _ _ _ _ _ _ _ _ _ _ _ _ _ _ _ _ _ _ _ _ _ _ _ _ _ _ _ _ _ _ _ _ _ _ _ _ _ _ _ _ _ _ _ _ _ _ _ _ _ _ _ _ _ _ _ _ _ _ _ _ _ _ _ _ _ _ _ _ _ _ _ _ _ _ _ _ _ _ _ _ _ _ _ _ _ _ _ _ _ _ _ _ _ _ _ _ _ _ _ _ _ _ _ _ _ _ _ _ _ _ _ _ _ _ _ _ _ _ _ _ _ _ _ _ _ _ _ _ _ _ _ hKK
    dsimp only
    go_wp2_with fail
    exact HX.out n' dA' dc' mA' mc' W' _ _ _ _ _ _ _ _ _ _ _ _ _ _ _ _ _ _ _ _ _ _ _ _ _ _ _ _ _ _ _ _ _ _ _ _ _ _ _ _ _ _ _ _ _ _ _ _ _ _ _ _ _ _ _ _ _ _ _ _ _ _ _ _ _ _ _ _ _ _ _ _ _ _ _ _ _ _ _ _ _ _ _ _ _ _ _ _ _ _ _ _ _ _ _ _ _ _ _ _ _ _ _ _ _ _ _ _ _ _ _ _ _ _ _ _ _ _ _ _ _ _ _ _ _ _ _ _ _ _ _ _ _ _ _ _ _ _ _ _ _ _ _ _ _ _ _ _ _ _ _ _ _ _ _ _ _ _ _ _ _ _ _ _ _ _ _ _ _ _ _ _ _ _ _ hKK

end Go.Proofs.YtfelefkmbbfdjaaGreatDoor.logKeeps
namespace Go.Proofs.YtfelefkmbbfdjaaGreatDoor.logKeeps
open Go.ChangeShapes Go.WideShapes Go.ChangeAt Go.RowKit Go.Joins Go.Deep
set_option linter.unusedVariables false
set_option maxHeartbeats 6400000 in
set_option maxRecDepth 1000000 in
theorem deeds (Q : Exit → Act → World → Prop) (w0 W : World) (P : Nat) (R : List Ru) (LA : Option Addr) (lc : Nat) (l : List Ak) (SA : Option Addr) (sc : Nat) (sy : List Int) (n : Nat) (dA : Option Addr) (dc : Nat) (mA : Option Addr) (mc : Nat) (k : Nat)
    (x0 x3 x4 x5 x6 x7 x8 x9 x10 x11 x12 x13 x14 x15 x16 x17 x18 x19 x20 x22 x23 x27 x29 x30 x31 x32 x33 x34 x35 x36 x37 x38 x39 x40 x41 x42 x43 x44 x45 x46 x47 x48 x49 x50 x51 x52 x53 x54 x55 x56 x57 x58 x59 x60 x61 x62 x63 x64 x65 x66 x67 x68 x69 x70 x71 x72 x73 x74 x75 x76 x77 x78 x79 x80 x81 x82 x83 x84 x85 x86 x87 x88 x89 x90 x91 x92 x93 x94 x95 x96 x97 x98 x99 x100 x101 x102 x103 x104 x105 x106 x107 x108 x109 x110 x111 x112 x113 x114 x115 x116 x117 x118 x119 x120 x121 x122 x123 x124 x125 x126 x127 x128 x129 x130 x131 x132 x133 x134 x135 x136 x137 x138 x139 x140 x141 x142 x143 x144 x145 x146 x147 x148 x149 x150 x151 x152 x153 x154 x155 x156 x157 x158 x159 x160 x161 x162 x163 x164 x165 x166 x167 x168 x169 x170 x171 x172 x173 x174 x175 x176 x177 x178 x179 x180 x181 x182 x183 x184 x185 x186 x187 x188 x189 x190 x191 x192 x193 x194 x195 x196 x197 x198 x199 x200 x201 x202 x203 x204 x205 x206 x207 x208 x209 x210 x211 x212 x213 x214 x215 x216 x217 x218 x219 x220 x221 x222 x223 x224 x225 x226 x227 x228 x229 x230 x231 x232 x233 x234 x235 x236 x237 x238 x239 x240 x241 x242 x243 x244 x245 x246 x247 x248 x249 x250 x251 x252 x253 x254 x255 x256 x257 x258 x259 x260 x261 x262 x263 x264 x265 x266 x267 x268 x269 x270 x271 x272 x273 x274 x275 x276 x277 x278 x279 x280 x281 x282 x283 x284 x285 x286 x287 x288 x289 x290 x291 x292 x293 x294 x295 x296 x297 x298 x299 x300 x301 x302 x303 x304 x305 x306 x307 x308 x309 x310 x311 x312 x313 x314 x315 x316 x317 x318 x319 x320 x321 x322 x323 x324 x325 x326 x327 x328 x329 x330 x331 x332 x333 x334 x335 x336 x337 x338 x339 x340 x341 x342 x343 x344 x345 x346 x347 x348 x349 x350 x351 x352 x353 x354 x355 x356 x357 x358 x359 x360 x361 x362 x363 x364 x365 x366 x367 x368 x369 x370 x371 x372 x373 x374 x375 x376 x377 x378 x379 x380 x381 x382 x383 x384 x385 x386 x387 x388 x389 x390 x391 x392 x393 x394 x395 x396 x397 x398 x399 x400 : Value)
    (hl9 : l.length ≤ 9223372036854775807) (hs9 : sy.length ≤ 9223372036854775807) (HT : Hid (∀ W, Below w0.heap.size w0 W → LT W)) (HGG : Hid (∀ W, Below w0.heap.size w0 W → HG W)) (HA : Hid (Aks w0 LA l)) (HOK : Hid (okA l)) (HS : Hid (Ints w0 SA sy))
    (hk : k ≤ l.length) (HK : Hid (KK w0 P R n dA dc mA mc W))
    (HX : Hid (∀ (n' : Nat) (dA' : Option Addr) (dc' : Nat) (mA' : Option Addr) (mc' : Nat) (k' : Nat) (W' : World) (u10 u23 u28 u29 u30 u31 u32 u33 u34 u35 u36 u37 u38 u39 u40 u41 u149 u150 u151 u152 u153 u154 u155 u156 u157 u158 u159 u160 u161 u162 u163 u164 u165 u166 u167 u168 u169 u170 u171 u172 u173 u174 u175 u176 u177 u178 u179 u180 u181 u182 u183 u184 u185 u186 u187 u188 u189 u190 u191 u192 u193 u194 u195 u196 u197 u198 u199 u200 u201 u202 u203 u204 u205 u206 u207 u208 u209 u210 u211 u212 u213 u214 u215 u216 u217 u218 u219 u220 u221 u222 u223 u224 u225 u226 u227 u228 u229 u230 u231 u232 u233 u234 u235 u236 u237 u238 u239 u240 u241 u242 u243 u244 u245 u246 u247 u248 u249 u250 u251 u252 u253 u254 u255 u256 u257 u258 u259 u260 u261 u262 u263 u264 u265 u266 u267 u268 u269 u270 u271 u272 u273 u274 u275 u276 u277 u278 u279 u280 u281 u282 u283 u284 u285 u286 u287 u288 u289 u290 u291 u292 u293 u294 u295 u296 u297 u298 u299 u300 u301 u302 u303 u304 u305 u306 u307 u308 u309 : Value), k' ≤ l.length → KK w0 P R n' dA' dc' mA' mc' W' → Q .normal ⟨#[x0, .slice LA l.length lc, .slice SA sy.length sc, x3, x4, x5, x6, x7, x8, x9, u10, x11, x12, x13, x14, x15, x16, x17, x18, x19, x20, .pointer (some ⟨P, 0, none⟩), x22, u23, .slice dA' (n' + 1) dc', .slice mA' (n' + 1) mc', .int .i64 (k' : Nat), x27, u28, u29, u30, u31, u32, u33, u34, u35, u36, u37, u38, u39, u40, u41, x42, x43, x44, x45, x46, x47, x48, x49, x50, x51, x52, x53, x54, x55, x56, x57, x58, x59, x60, x61, x62, x63, x64, x65, x66, x67, x68, x69, x70, x71, x72, x73, x74, x75, x76, x77, x78, x79, x80, x81, x82, x83, x84, x85, x86, x87, x88, x89, x90, x91, x92, x93, x94, x95, x96, x97, x98, x99, x100, x101, x102, x103, x104, x105, x106, x107, x108, x109, x110, x111, x112, x113, x114, x115, x116, x117, x118, x119, x120, x121, x122, x123, x124, x125, x126, x127, x128, x129, x130, x131, x132, x133, x134, x135, x136, x137, x138, x139, x140, x141, x142, x143, x144, x145, x146, x147, x148, u149, u150, u151, u152, u153, u154, u155, u156, u157, u158, u159, u160, u161, u162, u163, u164, u165, u166, u167, u168, u169, u170, u171, u172, u173, u174, u175, u176, u177, u178, u179, u180, u181, u182, u183, u184, u185, u186, u187, u188, u189, u190, u191, u192, u193, u194, u195, u196, u197, u198, u199, u200, u201, u202, u203, u204, u205, u206, u207, u208, u209, u210, u211, u212, u213, u214, u215, u216, u217, u218, u219, u220, u221, u222, u223, u224, u225, u226, u227, u228, u229, u230, u231, u232, u233, u234, u235, u236, u237, u238, u239, u240, u241, u242, u243, u244, u245, u246, u247, u248, u249, u250, u251, u252, u253, u254, u255, u256, u257, u258, u259, u260, u261, u262, u263, u264, u265, u266, u267, u268, u269, u270, u271, u272, u273, u274, u275, u276, u277, u278, u279, u280, u281, u282, u283, u284, u285, u286, u287, u288, u289, u290, u291, u292, u293, u294, u295, u296, u297, u298, u299, u300, u301, u302, u303, u304, u305, u306, u307, u308, u309, x310, x311, x312, x313, x314, x315, x316, x317, x318, x319, x320, x321, x322, x323, x324, x325, x326, x327, x328, x329, x330, x331, x332, x333, x334, x335, x336, x337, x338, x339, x340, x341, x342, x343, x344, x345, x346, x347, x348, x349, x350, x351, x352, x353, x354, x355, x356, x357, x358, x359, x360, x361, x362, x363, x364, x365, x366, x367, x368, x369, x370, x371, x372, x373, x374, x375, x376, x377, x378, x379, x380, x381, x382, x383, x384, x385, x386, x387, x388, x389, x390, x391, x392, x393, x394, x395, x396, x397, x398, x399, x400], []⟩ W')) :
    Code.wp Tryz.prog (blk 2) Q ⟨#[x0, .slice LA l.length lc, .slice SA sy.length sc, x3, x4, x5, x6, x7, x8, x9, x10, x11, x12, x13, x14, x15, x16, x17, x18, x19, x20, .pointer (some ⟨P, 0, none⟩), x22, x23, .slice dA (n + 1) dc, .slice mA (n + 1) mc, .int .i64 (k : Nat), x27, .int .i64 0, x29, x30, x31, x32, x33, x34, x35, x36, x37, x38, x39, x40, x41, x42, x43, x44, x45, x46, x47, x48, x49, x50, x51, x52, x53, x54, x55, x56, x57, x58, x59, x60, x61, x62, x63, x64, x65, x66, x67, x68, x69, x70, x71, x72, x73, x74, x75, x76, x77, x78, x79, x80, x81, x82, x83, x84, x85, x86, x87, x88, x89, x90, x91, x92, x93, x94, x95, x96, x97, x98, x99, x100, x101, x102, x103, x104, x105, x106, x107, x108, x109, x110, x111, x112, x113, x114, x115, x116, x117, x118, x119, x120, x121, x122, x123, x124, x125, x126, x127, x128, x129, x130, x131, x132, x133, x134, x135, x136, x137, x138, x139, x140, x141, x142, x143, x144, x145, x146, x147, x148, x149, x150, x151, x152, x153, x154, x155, x156, x157, x158, x159, x160, x161, x162, x163, x164, x165, x166, x167, x168, x169, x170, x171, x172, x173, x174, x175, x176, x177, x178, x179, x180, x181, x182, x183, x184, x185, x186, x187, x188, x189, x190, x191, x192, x193, x194, x195, x196, x197, x198, x199, x200, x201, x202, x203, x204, x205, x206, x207, x208, x209, x210, x211, x212, x213, x214, x215, x216, x217, x218, x219, x220, x221, x222, x223, x224, x225, x226, x227, x228, x229, x230, x231, x232, x233, x234, x235, x236, x237, x238, x239, x240, x241, x242, x243, x244, x245, x246, x247, x248, x249, x250, x251, x252, x253, x254, x255, x256, x257, x258, x259, x260, x261, x262, x263, x264, x265, x266, x267, x268, x269, x270, x271, x272, x273, x274, x275, x276, x277, x278, x279, x280, x281, x282, x283, x284, x285, x286, x287, x288, x289, x290, x291, x292, x293, x294, x295, x296, x297, x298, x299, x300, x301, x302, x303, x304, x305, x306, x307, x308, x309, x310, x311, x312, x313, x314, x315, x316, x317, x318, x319, x320, x321, x322, x323, x324, x325, x326, x327, x328, x329, x330, x331, x332, x333, x334, x335, x336, x337, x338, x339, x340, x341, x342, x343, x344, x345, x346, x347, x348, x349, x350, x351, x352, x353, x354, x355, x356, x357, x358, x359, x360, x361, x362, x363, x364, x365, x366, x367, x368, x369, x370, x371, x372, x373, x374, x375, x376, x377, x378, x379, x380, x381, x382, x383, x384, x385, x386, x387, x388, x389, x390, x391, x392, x393, x394, x395, x396, x397, x398, x399, x400], []⟩ W := by
  let fpost := bodyPost Tryz.prog Tryz.f3 (fun _ _ => True)
  conv => arg 2; whnf
  dsimp only
  go_wp2_with fail
  go_loopw [23, 24, 25, 26, 28, 29, 30, 31, 32, 33, 34, 35, 36, 37, 38, 39, 40, 41] (fun _ s24 s25 s26 s28 _ _ _ _ _ _ _ _ _ _ _ _ _ wr => ∃ (n dc mc k j : Nat) (dA mA : Option Addr), j ≤ 12 ∧ k ≤ l.length ∧ s24 = .slice dA (n + 1) dc ∧ s25 = .slice mA (n + 1) mc ∧ s26 = .int .i64 k ∧ s28 = .int .i64 j ∧ Hid (KK w0 P R n dA dc mA mc wr)) (fun _ _ _ _ s28 _ _ _ _ _ _ _ _ _ _ _ _ _ _ => 12 - (intOf s28).toNat)
  case atStart => exact ⟨n, dc, mc, k, 0, dA, mA, by omega, hk, rfl, rfl, rfl, rfl, HK⟩
  case round =>
    clear HK
    obtain ⟨n1, dc1, mc1, k1, j, dA1, mA1, hj, hk1, rfl, rfl, rfl, rfl, HK⟩ := hrel
    by_cases t1 : j < 12
    · by_cases t2 : k1 < l.length
      · have i1 : (k1 : Int) < (l.length : Nat) := by omega
        go_upto_block 3 with fail
        refine deed _ w0 wr P R LA lc l SA sc sy n1 dA1 dc1 mA1 mc1 k1 _ _ _ _ _ _ _ _ _ _ _ _ _ _ _ _ _ _ _ _ _ _ _ _ _ _ _ _ _ _ _ _ _ _ _ _ _ _ _ _ _ _ _ _ _ _ _ _ _ _ _ _ _ _ _ _ _ _ _ _ _ _ _ _ _ _ _ _ _ _ _ _ _ _ _ _ _ _ _ _ _ _ _ _ _ _ _ _ _ _ _ _ _ _ _ _ _ _ _ _ _ _ _ _ _ _ _ _ _ _ _ _ _ _ _ _ _ _ _ _ _ _ _ _ _ _ _ _ _ _ _ _ _ _ _ _ _ _ _ _ _ _ _ _ _ _ _ _ _ _ _ _ _ _ _ _ _ _ _ _ _ _ _ _ _ _ _ _ _ _ _ _ _ _ _ _ _ _ _ _ _ _ _ _ _ _ _ _ _ _ _ _ _ _ _ _ _ _ _ _ _ _ _ _ _ _ _ _ _ _ _ _ _ _ _ _ _ _ _ _ _ _ _ _ _ _ _ _ _ _ _ _ _ _ _ _ _ _ _ _ _ _ _ _ _ _ _ _ _ _ _ _ _ _ _ _ _ _ _ _ _ _ _ _ _ _ _ _ _ _ _ _ _ _ _ _ _ _ _ _ _ _ _ _ _ _ _ _ _ _ _ _ _ _ _ _ _ _ _ _ _ _ _ _ _ _ _ _ _ _ _ _ _ _ _ _ _ _ _ _ _ _ _ _ _ _ _ _ _ _ _ _ _ _ _ _ _ _ _ _ _ _ _ _ _ _ _ _ _ _ _ _ _ _ _ _ _ _ _ _ _ _ _ _ _ _ _ _ _ _ _ _ _ _ _ _ _ _ _ _ _ _ _ _ _ _ _ _ _ _ _ _ _ _ _ hl9 hs9 HT HGG HA HOK HS t2 HK (Lib.hid ?_)
        intro n' dA' dc' mA' mc' W' _ _ _ _ _ _ _ _ _ _ _ _ _ _ _ _ _ _ _ _ _ _ _ _ _ _ _ _ _ _ _ _ _ _ _ _ _ _ _ _ _ _ _ _ _ _ _ _ _ _ _ _ _ _ _ _ _ _ _ _ _ _ _ _ _ _ _ _ _ _ _ _ _ _ _ _ _ _ _ _ _ _ _ _ _ _ _ _ _ _ _ _ _ _ _ _ _ _ _ _ _ _ _ _ _ _ _ _ _ _ _ _ _ _ _ _ _ _ _ _ _ _ _ _ _ _ _ _ _ _ _ _ _ _ _ _ _ _ _ _ _ _ _ _ _ _ _ _ _ _ _ _ _ _ _ _ _ _ _ _ _ _ _ _ _ _ _ _ _ _ _ _ _ _ _ hKK
        have HKK := Lib.hid hKK
        clear hKK HK
        dsimp only
        go_wp2_with fail
        go_roundw
        case rel => exact ⟨n', dc', mc', k1 + 1, j + 1, dA', mA', by omega, by omega, rfl, rfl, by go_num, by go_num, HKK⟩
        case measure => simp [intOf]; omega
      · have i1 : decide ((k1 : Int) < (l.length : Nat)) = false := by simp; omega
        go_wp2_with fail
        exact HX.out n1 dA1 dc1 mA1 mc1 k1 _ _ _ _ _ _ _ _ _ _ _ _ _ _ _ _ _ _ _ _ _ _ _ _ _ _ _ _ _ _ _ _ _ _ _ _ _ _ _ _ _ _ _ _ _ _ _ _ _ _ _ _ _ _ _ _ _ _ _ _ _ _ _ _ _ _ _ _ _ _ _ _ _ _ _ _ _ _ _ _ _ _ _ _ _ _ _ _ _ _ _ _ _ _ _ _ _ _ _ _ _ _ _ _ _ _ _ _ _ _ _ _ _ _ _ _ _ _ _ _ _ _ _ _ _ _ _ _ _ _ _ _ _ _ _ _ _ _ _ _ _ _ _ _ _ _ _ _ _ _ _ _ _ _ _ _ _ _ _ _ _ _ _ _ _ _ _ _ _ _ _ _ _ _ _ _ _ _ hk1 HK.out
    · have i1 : decide ((j : Int) < 12) = false := by simp; omega
      go_wp2_with fail
      exact HX.out n1 dA1 dc1 mA1 mc1 k1 _ _ _ _ _ _ _ _ _ _ _ _ _ _ _ _ _ _ _ _ _ _ _ _ _ _ _ _ _ _ _ _ _ _ _ _ _ _ _ _ _ _ _ _ _ _ _ _ _ _ _ _ _ _ _ _ _ _ _ _ _ _ _ _ _ _ _ _ _ _ _ _ _ _ _ _ _ _ _ _ _ _ _ _ _ _ _ _ _ _ _ _ _ _ _ _ _ _ _ _ _ _ _ _ _ _ _ _ _ _ _ _ _ _ _ _ _ _ _ _ _ _ _ _ _ _ _ _ _ _ _ _ _ _ _ _ _ _ _ _ _ _ _ _ _ _ _ _ _ _ _ _ _ _ _ _ _ _ _ _ _ _ _ _ _ _ _ _ _ _ _ _ _ _ _ _ _ _ hk1 HK.out

end Go.Proofs.YtfelefkmbbfdjaaGreatDoor.logKeeps
