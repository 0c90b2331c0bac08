/- VaultPlays: the loop over the parts, as a theorem of its own. -/
import Derived.Test.YtamndgeeibfmhaaDoorVpSeg4
namespace Go.Proofs.YtamndgeeibfmhaaDoor.vaultPlays
open Go.ChangeShapes Go.WideShapes Go.ChangeAt Go.RowKit Go.Deep
set_option linter.unusedVariables false

noncomputable def blk8 : Code := ((Tryd.f6.body.bind (findBlk 8)).getD .skip)
theorem same_eW' (n : Int) (W : World) (h : HG W) : Calls Tryd.prog 11 #[eV n, .int .i64 n] W fun e w' => e = .returned (.bool true) ∧ Below W.heap.size W w' :=
  (same_eV n W W (DG.refl h)).mono fun e w' ⟨h1, h2⟩ => ⟨h1, h2.2⟩
/-- what the part of a number is -/
def Pc (mm : Nat) (z : Int) (P : List (List Int)) (o : Option (List Int)) (j : Nat) (ee sa si : Int) : Prop :=
  (z < 0 ∧ ee = 5 ∧ sa = 0 ∧ si = 0) ∨ (0 ≤ z ∧ ¬ (1 ≤ j ∧ j ≤ mm) ∧ ee = 1 ∧ sa = 0 ∧ si = 0) ∨ ∃ i j' : Nat, z = (i : Int) ∧ i < P.length ∧ j = j' + 1 ∧ j' < mm ∧ o = some (gg P i) ∧ ee = 0 ∧ sa = (j : Int) ∧ si = PM.hor (gg P i) (j : Int)
section
variable {w0 w : World} {p M n many need : Nat} {K : ByteArray → Option (List Int)} {A1 A2 A3 : Option Addr} {c1 c2 c3 : Nat} {N : List ByteArray} {P2 P3 : List (List Int)}
theorem vp_part (h : VP w0 w p M n many need K A1 c1 N A2 c2 P2 A3 c3 P3) {z : Int} {P : List (List Int)} (nm : ByteArray) (hs : nm.size ≤ maxLen) (hz : (z = -1 ∧ K nm = none) ∨ ∃ i : Nat, z = (i : Int) ∧ i < P.length ∧ K nm = some (gg P i)) (j : Nat) :
    ∃ ee sa si : Int, Pc many z P (K nm) j ee sa si ∧ ∀ W, Below w.heap.size w W → Calls Tryd.prog 30 #[.pointer (some ⟨p, 0, none⟩), .string nm, .int .i64 j] W fun e w' => e = .returned (.tuple #[.agg #[.int .i64 sa, .int .i64 si], eV ee]) ∧ Below W.heap.size W w' := by
  rcases hz with ⟨h1, h2⟩ | ⟨i, h1, hi, h2⟩
  · exact ⟨5, 0, 0, .inl ⟨by omega, rfl, rfl, rfl⟩, fun W hb => vtpart_none (h.keep hb).v nm hs j h2⟩
  · by_cases hj : 1 ≤ j ∧ j ≤ many
    · obtain ⟨j', rfl⟩ : ∃ j', j = j' + 1 := ⟨j - 1, by omega⟩
      exact ⟨0, _, _, .inr (.inr ⟨i, j', h1, hi, rfl, by omega, h2, rfl, rfl, rfl⟩), fun W hb => vtpart_ok (h.keep hb).v nm hs j' (by omega) _ h2⟩
    · exact ⟨1, 0, 0, .inr (.inl ⟨by omega, hj, rfl, rfl, rfl⟩), fun W hb => vtpart_range (h.keep hb).v nm hs j _ h2 (by simp only [atB, Bool.and_eq_false_iff, decide_eq_false_iff_not]; omega)⟩
end
set_option maxHeartbeats 6400000 in
set_option maxRecDepth 1000000 in
theorem seg8 (Q : Exit → Act → World → Prop) (w W : World) (p M n mm nn : Nat) (K : ByteArray → Option (List Int)) (A1 : Option Addr) (c1 : Nat) (N : List ByteArray) (A2 : Option Addr) (c2 : Nat) (P : List (List Int)) (A3 : Option Addr) (c3 : Nat) (b1 o1 nl d1 k : Nat) (z : Int) (nm : ByteArray)
    (x1 x3 x4 x5 x6 x7 x8 x9 x10 x11 x12 x13 x15 x16 x17 x21 x22 x24 x25 x26 x27 x28 x29 x30 x31 x32 x33 x34 x35 x36 x38 x39 x40 x41 x42 x43 x44 x45 x46 x47 x48 x49 x50 x51 x52 x53 x54 x55 x56 x57 x58 x59 x60 x61 x62 x63 x64 x65 x66 x67 x68 x69 x70 x71 x72 x73 x74 x75 x76 x77 x78 x79 x80 x81 x82 x83 x84 x85 x86 x87 x88 x89 x90 x91 x92 x93 x94 x95 x96 x97 x98 x99 x100 x101 x102 x103 x104 x105 x106 x107 x108 x109 x110 x111 x112 x113 x114 x115 x116 x117 x118 x119 x120 x121 x122 x123 x124 x125 x126 x127 x128 x129 x130 x131 x132 x133 x134 x135 x136 x137 x138 x139 x140 x141 x142 x143 x144 x145 x146 x147 x148 x149 x150 x151 x152 x153 x154 x155 x156 x157 x158 x159 x160 x161 x162 x163 x164 x165 x166 x167 x168 x169 x170 x171 x172 x173 x174 x175 x176 x177 x178 x179 x180 x181 x182 x183 x184 x185 x186 x187 x188 x189 x190 x191 x192 x193 x194 x195 x196 x197 x198 x199 x200 x201 x202 x203 x204 x205 x206 x207 x208 x209 x210 x211 x212 x213 x214 x215 x216 x217 x218 x219 x220 x221 x222 x223 x224 x225 x226 x227 x228 x229 x230 x231 x232 x233 x234 x235 x236 x237 x238 x239 x240 x241 x242 x243 x244 x245 x246 x247 x248 x249 x250 x251 x252 x253 x254 x255 x256 x257 x258 x259 x260 x261 x262 x263 x264 x265 x266 x267 x268 x269 x270 x271 x272 x273 x274 x275 x276 x277 x278 x279 x280 x281 x282 x283 x284 x285 x286 x287 x288 x289 x290 x291 x292 x293 x294 x295 x296 x297 x298 x299 x300 x301 x302 x303 x304 x305 x306 x307 x308 x309 x310 x311 x312 x313 x314 x315 x316 x317 x318 x319 x320 x321 x322 x323 x324 x325 x326 x327 x328 x329 x330 x331 x332 x333 x334 x335 x336 x337 x338 x339 x340 x341 x342 x343 x344 x345 x346 x347 x348 x349 x350 x351 x352 x353 x354 x355 x356 x357 x358 x359 x360 x361 x362 x363 x364 x365 x366 x367 x368 x369 x370 x371 x372 x373 x374 x375 x376 x377 x378 x379 x380 x381 x382 x383 x384 : Value) (h7 : mm ≤ 7) (hk : k < nl) (hk2 : k < 30) (hb1 : b1 < W.heap.size)
    (HJ : Hid (VP w W p M n mm nn K A1 c1 N A2 c2 P A3 c3 P)) (HNM : Hid (W.cell? ⟨b1, o1 + k, none⟩ = some (.string nm))) (HSZ : Hid (nm.size ≤ maxLen)) (HZ : Hid ((z = -1 ∧ K nm = none) ∨ ∃ i : Nat, z = (i : Int) ∧ i < P.length ∧ K nm = some (gg P i)))
    (HX : Hid (∀ (j : Nat) (W' : World) (u12 u13 u16 u38 u39 u40 u41 u42 u305 u306 u307 u308 u309 u310 u311 u312 u313 u314 u315 u316 u317 u318 u319 u320 u321 u322 u323 u324 u325 u326 u327 u328 u329 u330 u331 u332 u333 u334 u335 u336 u337 u338 u339 u340 u341 u342 u343 u344 u345 u346 u347 u348 u349 u350 u351 u352 u353 u354 u355 u356 u357 u358 u359 u360 u361 u362 u363 u364 u365 u366 u367 u368 u369 u370 u371 u372 u373 u374 u375 u376 u377 u378 u379 u380 u381 u382 u383 u384 : Value), Below W.heap.size W W' → Q .normal ⟨#[.int .i64 mm, x1, .slice (some ⟨b1, o1, none⟩) nl d1, x3, x4, x5, x6, x7, x8, x9, x10, x11, u12, u13, .pointer (some ⟨p, 0, none⟩), x15, u16, x17, .slice A2 P.length c2, .slice A3 P.length c3, .int .i64 k, x21, x22, .int .i64 z, x24, x25, x26, x27, x28, x29, x30, x31, x32, x33, x34, x35, x36, .int .i64 j, u38, u39, u40, u41, u42, x43, x44, x45, x46, x47, x48, x49, x50, x51, x52, x53, x54, x55, x56, x57, x58, x59, x60, x61, x62, x63, x64, x65, x66, x67, x68, x69, x70, x71, x72, x73, x74, x75, x76, x77, x78, x79, x80, x81, x82, x83, x84, x85, x86, x87, x88, x89, x90, x91, x92, x93, x94, x95, x96, x97, x98, x99, x100, x101, x102, x103, x104, x105, x106, x107, x108, x109, x110, x111, x112, x113, x114, x115, x116, x117, x118, x119, x120, x121, x122, x123, x124, x125, x126, x127, x128, x129, x130, x131, x132, x133, x134, x135, x136, x137, x138, x139, x140, x141, x142, x143, x144, x145, x146, x147, x148, x149, x150, x151, x152, x153, x154, x155, x156, x157, x158, x159, x160, x161, x162, x163, x164, x165, x166, x167, x168, x169, x170, x171, x172, x173, x174, x175, x176, x177, x178, x179, x180, x181, x182, x183, x184, x185, x186, x187, x188, x189, x190, x191, x192, x193, x194, x195, x196, x197, x198, x199, x200, x201, x202, x203, x204, x205, x206, x207, x208, x209, x210, x211, x212, x213, x214, x215, x216, x217, x218, x219, x220, x221, x222, x223, x224, x225, x226, x227, x228, x229, x230, x231, x232, x233, x234, x235, x236, x237, x238, x239, x240, x241, x242, x243, x244, x245, x246, x247, x248, x249, x250, x251, x252, x253, x254, x255, x256, x257, x258, x259, x260, x261, x262, x263, x264, x265, x266, x267, x268, x269, x270, x271, x272, x273, x274, x275, x276, x277, x278, x279, x280, x281, x282, x283, x284, x285, x286, x287, x288, x289, x290, x291, x292, x293, x294, x295, x296, x297, x298, x299, x300, x301, x302, x303, x304, u305, u306, u307, u308, u309, u310, u311, u312, u313, u314, u315, u316, u317, u318, u319, u320, u321, u322, u323, u324, u325, u326, u327, u328, u329, u330, u331, u332, u333, u334, u335, u336, u337, u338, u339, u340, u341, u342, u343, u344, u345, u346, u347, u348, u349, u350, u351, u352, u353, u354, u355, u356, u357, u358, u359, u360, u361, u362, u363, u364, u365, u366, u367, u368, u369, u370, u371, u372, u373, u374, u375, u376, u377, u378, u379, u380, u381, u382, u383, u384], []⟩ W')) :
    Code.wp Tryd.prog blk8 Q ⟨#[.int .i64 mm, x1, .slice (some ⟨b1, o1, none⟩) nl d1, x3, x4, x5, x6, x7, x8, x9, x10, x11, x12, x13, .pointer (some ⟨p, 0, none⟩), x15, x16, x17, .slice A2 P.length c2, .slice A3 P.length c3, .int .i64 k, x21, x22, .int .i64 z, x24, x25, x26, x27, x28, x29, x30, x31, x32, x33, x34, x35, x36, .int .i64 0, x38, x39, x40, x41, x42, x43, x44, x45, x46, x47, x48, x49, x50, x51, x52, x53, x54, x55, x56, x57, x58, x59, x60, x61, x62, x63, x64, x65, x66, x67, x68, x69, x70, x71, x72, x73, x74, x75, x76, x77, x78, x79, x80, x81, x82, x83, x84, x85, x86, x87, x88, x89, x90, x91, x92, x93, x94, x95, x96, x97, x98, x99, x100, x101, x102, x103, x104, x105, x106, x107, x108, x109, x110, x111, x112, x113, x114, x115, x116, x117, x118, x119, x120, x121, x122, x123, x124, x125, x126, x127, x128, x129, x130, x131, x132, x133, x134, x135, x136, x137, x138, x139, x140, x141, x142, x143, x144, x145, x146, x147, x148, x149, x150, x151, x152, x153, x154, x155, x156, x157, x158, x159, x160, x161, x162, x163, x164, x165, x166, x167, x168, x169, x170, x171, x172, x173, x174, x175, x176, x177, x178, x179, x180, x181, x182, x183, x184, x185, x186, x187, x188, x189, x190, x191, x192, x193, x194, x195, x196, x197, x198, x199, x200, x201, x202, x203, x204, x205, x206, x207, x208, x209, x210, x211, x212, x213, x214, x215, x216, x217, x218, x219, x220, x221, x222, x223, x224, x225, x226, x227, x228, x229, x230, x231, x232, x233, x234, x235, x236, x237, x238, x239, x240, x241, x242, x243, x244, x245, x246, x247, x248, x249, x250, x251, x252, x253, x254, x255, x256, x257, x258, x259, x260, x261, x262, x263, x264, x265, x266, x267, x268, x269, x270, x271, x272, x273, x274, x275, x276, x277, x278, x279, x280, x281, x282, x283, x284, x285, x286, x287, x288, x289, x290, x291, x292, x293, x294, x295, x296, x297, x298, x299, x300, x301, x302, x303, x304, x305, x306, x307, x308, x309, x310, x311, x312, x313, x314, x315, x316, x317, x318, x319, x320, x321, x322, x323, x324, x325, x326, x327, x328, x329, x330, x331, x332, x333, x334, x335, x336, x337, x338, x339, x340, x341, x342, x343, x344, x345, x346, x347, x348, x349, x350, x351, x352, x353, x354, x355, x356, x357, x358, x359, x360, x361, x362, x363, x364, x365, x366, x367, x368, x369, x370, x371, x372, x373, x374, x375, x376, x377, x378, x379, x380, x381, x382, x383, x384], []⟩ W := by
  let fpost := bodyPost Tryd.prog Tryd.f6 (fun _ _ => True)
  conv => arg 2; whnf
  go_wp2_with fail
  go_loopw [13, 16, 37, 38, 39, 40, 41, 42] (fun _ _ s37 _ _ _ _ _ wr => ∃ (j : Nat), j ≤ mm + 2 ∧ s37 = .int .i64 j ∧ Hid (Below W.heap.size W wr)) (fun _ _ s37 _ _ _ _ _ _ => mm + 2 - (intOf s37).toNat)
  case atStart => exact ⟨0, Nat.zero_le _, rfl, Lib.hid (Below.refl _ _)⟩
  case round =>
    obtain ⟨j, hj, rfl, HB⟩ := hrel
    have j0 : (0 : Int) ≤ (j : Int) := by omega
    by_cases hlt : j ≤ mm + 1
    · have j1 : (j : Int) ≤ (mm : Int) + 1 := by omega
      obtain ⟨ee, sa, si, hcase, hpc⟩ := vp_part HJ.out nm HSZ.out HZ.out j
      have HCASE := Lib.hid hcase; have HPC := Lib.hid hpc
      clear hcase hpc
      obtain ⟨wg, hw⟩ : ∃ v : World, v = wr := ⟨_, rfl⟩
      subst hw
      have hz := HB.out.size
      go_upto_if 312 with fail
      go_cut [13] (fun s13 wx => s13 = .int .i64 ee ∧ Hid (AtB wx wg.heap.size #[.int .i64 sa, .int .i64 si] 64) ∧ Hid (Below wg.heap.size wg wx))
      case first =>
        rcases HCASE.out with ⟨t1, h1, h2, h3⟩ | ⟨t1, t2, h1, h2, h3⟩ | ⟨i, j', t1, hi, t2, hj', hK, h1, h2, h3⟩
        · have HE := Lib.hid h1; have HA := Lib.hid h2; have HI := Lib.hid h3
          clear h1 h2 h3
          go_wp2_with fail
          go_meet
          case rel => exact ⟨by rw [HE.out], Lib.hid (by rw [HA.out, HI.out]; exact AtB.new _ _ _), Lib.hid (bal1 _ _)⟩
        · have HE := Lib.hid h1; have HA := Lib.hid h2; have HI := Lib.hid h3
          have hx : (j : Int) < 1 ∨ (¬ (j : Int) < 1 ∧ (mm : Int) < (j : Int)) := by omega
          clear h1 h2 h3 t2
          rcases hx with x1 | ⟨x1, x2⟩
          all_goals
            go_wp2_with fail
            go_meet
            case rel => exact ⟨by rw [HE.out], Lib.hid (by rw [HA.out, HI.out]; exact AtB.new _ _ _), Lib.hid (bal1 _ _)⟩
        · subst t1
          have HE := Lib.hid h1; have HA := Lib.hid h2; have HI := Lib.hid h3; have HJJ := Lib.hid t2
          have e1 : (j : Int) - 1 = (j' : Int) := by omega
          have x1 : ¬ (j : Int) < 1 := by omega
          have x2 : ¬ (mm : Int) < (j : Int) := by omega
          have i0 : (0 : Int) ≤ (i : Int) := by omega
          have i1 : (i : Int) < (P.length : Nat) := by omega
          have i2 : (0 : Int) ≤ (j' : Int) := by omega
          have i3 : (j' : Int) < (mm : Int) := by omega
          obtain ⟨b2, o2, Ad, cd, rfl, hb2, c0, hS, _, _⟩ := (HJ.out.keep HB.out).sh.many.at_ (i := i) (by rw [List.length_map]; exact hi)
          rw [show gg (P.map fun q => dealL q mm) i = dealL (gg P i) mm by simp [gg, List.getD_eq_getElem?_getD, List.getElem?_map, List.getElem?_eq_getElem hi]] at c0 hS
          obtain ⟨b5, o5, rfl, hb5, d0, d1⟩ := hS.at_ (i := j') (by rw [dealL_length]; exact hj')
          rw [dealL_length] at c0
          rw [deal_ga _ _ _ hj'] at d0
          rw [deal_gb _ _ _ hj'] at d1
          rw [← t2, ← h2] at d0
          rw [← t2, ← h3] at d1
          clear h1 h2 h3 t2 hS
          go_wp2_with fail
          go_meet
          case rel => exact ⟨by rw [HE.out], Lib.hid (AtB.new _ _ _), Lib.hid (bal1 _ _)⟩
      case rest =>
        obtain ⟨rfl, HAT, HBX⟩ := hcut
        obtain ⟨wh, hw⟩ : ∃ v : World, v = wc := ⟨_, rfl⟩
        subst hw
        have k0 : (0 : Int) ≤ (k : Int) := by omega
        have k1 : (k : Int) < (nl : Nat) := by omega
        have nmc := ((bcl HB.out HBX.out).cell (p := ⟨b1, o1 + k, none⟩) hb1).trans HNM.out
        go_upto_region 88 with (first
          | (go_at_call 30; refine (HPC.out _ (bcl HB.out HBX.out)).mono ?_; rintro e0 w9 ⟨rfl, hb9⟩; have HB9 := Lib.hid hb9; have hz9 := hb9.size; clear hb9)
          | (go_at_call 11; refine (same_eW' _ _ (HJ.out.hg.below (bal (bcl (bcl HB.out HBX.out) HB9.out) _))).mono ?_; rintro e0 w10 ⟨rfl, hb10⟩; have hx0 := (AtB.new w9 #[.int .i64 sa, .int .i64 si] 64).below hb10 (by simp); have HBT := Lib.hid (bcl (bal HB9.out (.cells #[.int .i64 sa, .int .i64 si] 64)) hb10); have hs0 := HAT.out.below HBT.out HAT.out.lt; have HAS := Lib.hid hs0; have q0 := hx0.cell (i := 0) rfl; have q1 := hx0.cell (i := 1) rfl; have q2 := hs0.cell (i := 0) rfl; have q3 := hs0.cell (i := 1) rfl; clear hx0 hs0 hb10))
        rcases HCASE.out with ⟨t1, h1, h2, h3⟩ | ⟨t1, t2, h1, h2, h3⟩ | ⟨i, j', t1, hi, t2, hj', hK, h1, h2, h3⟩
        · have t2 : ¬ 0 ≤ z := by omega
          clear h1 h2 h3
          go_wp2_with fail
          go_roundw
          case rel => exact ⟨j + 1, by omega, by go_num, Lib.hid (bcl (bcl HB.out HBX.out) HBT.out)⟩
          case measure => simp [intOf]; omega
        · have he : (ee == 0) = false := beq_eq_false_iff_ne.2 (by omega)
          clear h1 h2 h3 t2
          go_wp2_with fail
          go_roundw
          case rel => exact ⟨j + 1, by omega, by go_num, Lib.hid (bcl (bcl HB.out HBX.out) HBT.out)⟩
          case measure => simp [intOf]; omega
        · subst t1
          have he : (ee == 0) = true := beq_iff_eq.2 h1
          have i0 : (0 : Int) ≤ (i : Int) := by omega
          have i1 : (i : Int) < (P.length : Nat) := by omega
          obtain ⟨r0, r1⟩ := PM.hor_range (gg P i) (j : Int)
          rw [← h3] at r0 r1
          have hj1 : (j : Int) ≤ (mm : Int) := by omega
          obtain ⟨b4, o4, Ac, cc, rfl, hb4, c0, hI, _, _⟩ := (HJ.out.keep HB.out).cm.many.at_ (i := i) (by rw [List.length_map]; exact hi)
          rw [gg_cmt hi] at c0 hI
          have HI := Lib.hid hI; have HE := Lib.hid (And.intro h1 (And.intro h2 (And.intro h3 (And.intro t2 hK))))
          have y0 := HAS.out.frozen 1
          clear h1 h2 h3 t2 hK hI
          go_upto_region 90 with fail
          have hzW : W.heap.size ≤ wg.heap.size := hz
          obtain ⟨y, hy⟩ : ∃ y, y = (si + (k : Int)) % 257 := ⟨_, rfl⟩
          have y1 : 0 ≤ y := by omega
          have y2 : y < 257 := by omega
          rw [← hy]
          obtain ⟨w11, hw11⟩ : ∃ v, v = w10.setCell ⟨wg.heap.size, 1, none⟩ (.int .i64 y) := ⟨_, rfl⟩
          rw [← hw11]
          have hs11 : AtB w11 wg.heap.size #[.int .i64 sa, .int .i64 y] 64 := by rw [hw11]; exact HAS.out.set 1 _
          have HB11 := Lib.hid (show Below W.heap.size W w11 by rw [hw11]; exact bset (bcl (bcl HB.out HBX.out) HBT.out) hzW _)
          have HI11 := Lib.hid (show Ints w11 Ac (cmt (gg P i)) from by rw [hw11]; exact (HI.out.below (bset (bcl HBX.out HBT.out) (Nat.le_refl _) _) (Nat.le_refl _)))
          have c11 : w11.cell? ⟨b4, o4 + i, none⟩ = some (.slice Ac (cmt (gg P i)).length cc) := by rw [hw11]; exact ((bset (bcl HBX.out HBT.out) (Nat.le_refl _) _).cell (p := ⟨b4, o4 + i, none⟩) hb4).trans c0
          have nm11 := (HB11.out.cell (p := ⟨b1, o1 + k, none⟩) hb1).trans HNM.out
          have s0 := hs11.cell (i := 0) rfl
          have s1 := hs11.cell (i := 1) rfl
          have hz1 : b1 < w11.heap.size := lt_of_cell nm11
          have hz2 : wg.heap.size < w11.heap.size := hs11.lt
          have hz4 : b4 < w11.heap.size := lt_of_cell c11
          have hsa0 : 0 ≤ sa := by rw [HE.out.2.1]; omega
          have hsa1 : sa < 257 := by rw [HE.out.2.1]; omega
          have hq := HJ.out.v.ok nm _ HE.out.2.2.2.2
          have hmn := HJ.out.v.mn
          have cvt := fun (W' : World) (hb : Below W.heap.size W W') => vttrue_any (HJ.out.keep hb).v nm HSZ.out sa y _ HE.out.2.2.2.2
          rw [show (inB sa && inB y) = true by simp [inB_true.2 ⟨hsa0, hsa1⟩, inB_true.2 ⟨y1, y2⟩], if_pos rfl] at cvt
          have crt := fun (W' : World) (hI : Ints W' Ac (cmt (gg P i))) => rtrue_any Ac cc (cmt (gg P i)) sa y (by rw [cmt_length]; omega) (cmt_all _) hsa0 hsa1 y1 y2 W' hI
          rw [truB_cmt _ hq.2 sa y y1 y2] at crt
          obtain ⟨tb, htb⟩ : ∃ tb, (y == PM.hor (gg P i) sa) = tb := ⟨_, rfl⟩
          rw [htb] at crt cvt
          have CVT := Lib.hid cvt; have CRT := Lib.hid crt
          clear cvt crt htb hq hmn hsa0 hsa1 hs11 hw11 q0 q1 q2 q3 y0 HI HAS HAT c0 hy y1 y2 r0 r1 nmc
          go_cut [41, 42] (fun s41 s42 wx => s41 = .bool tb ∧ s42 = .nilIface ∧ Hid (Below w11.heap.size w11 wx))
          case first =>
            go_region_held3 (fun w' => w'.cell? ⟨b1, o1 + k, none⟩ = some (.string nm) ∧ w'.cell? ⟨wg.heap.size, 0, none⟩ = some (.int .i64 sa) ∧ w'.cell? ⟨wg.heap.size, 1, none⟩ = some (.int .i64 y)) (first | go_keep | exact ⟨(hb9.cell (p := ⟨b1, o1 + k, none⟩) hz1).trans nm11, (hb9.cell (p := ⟨wg.heap.size, 0, none⟩) hz2).trans s0, (hb9.cell (p := ⟨wg.heap.size, 1, none⟩) hz2).trans s1⟩) ((go_at_call 31; refine (CVT.out _ (bdr HB11.out)).mono ?_; rintro e0 w12 ⟨rfl, hb9⟩))
            have HBF := Lib.hid (bcl (bdr (Below.refl _ _)) hb9)
            clear hb9
            go_wp2_with fail
            go_meet
            case rel => exact ⟨rfl, rfl, HBF⟩
          case rest =>
            obtain ⟨rfl, rfl, HB12⟩ := hcut
            obtain ⟨w12, hw⟩ : ∃ v : World, v = wc := ⟨_, rfl⟩
            subst hw
            have c12 := (HB12.out.cell (p := ⟨b4, o4 + i, none⟩) hz4).trans c11
            have s2 := (HB12.out.cell (p := ⟨wg.heap.size, 0, none⟩) hz2).trans s0
            have s3 := (HB12.out.cell (p := ⟨wg.heap.size, 1, none⟩) hz2).trans s1
            have HI12 := Lib.hid (HI11.out.below HB12.out (Nat.le_refl _))
            have hz5 : b4 < w12.heap.size := lt_of_cell c12
            have hz6 : wg.heap.size < w12.heap.size := lt_of_cell s2
            clear s0 s1 c11 nm11 hz1 hz2 hz4
            go_upto_region 91 with fail
            go_cut [16] (fun s16 wx => s16 = .bool true ∧ Hid (Below w12.heap.size w12 wx))
            case first =>
              go_region_held3 (fun w' => w'.cell? ⟨b4, o4 + i, none⟩ = some (.slice Ac (cmt (gg P i)).length cc) ∧ w'.cell? ⟨wg.heap.size, 0, none⟩ = some (.int .i64 sa) ∧ w'.cell? ⟨wg.heap.size, 1, none⟩ = some (.int .i64 y)) (first | go_keep | exact ⟨(hb9.cell (p := ⟨b4, o4 + i, none⟩) hz5).trans c12, (hb9.cell (p := ⟨wg.heap.size, 0, none⟩) hz6).trans s2, (hb9.cell (p := ⟨wg.heap.size, 1, none⟩) hz6).trans s3⟩) ((go_at_call 27; refine (CRT.out _ (HI12.out.below (bdr (Below.refl _ _)) (Nat.le_refl _))).mono ?_; rintro e0 w13 ⟨rfl, hb9⟩))
              have HBF := Lib.hid (bcl (bdr (Below.refl _ _)) hb9)
              clear hb9
              go_wp2_with fail
              go_meet
              case rel => exact ⟨by first | rfl | simp, HBF⟩
            case rest =>
              obtain ⟨rfl, HB13⟩ := hcut
              obtain ⟨w13, hw⟩ : ∃ v : World, v = wc := ⟨_, rfl⟩
              subst hw
              have HBZ := Lib.hid (bcl (bcl HB11.out HB12.out) HB13.out)
              clear HB11 HB12 HB13 CVT CRT c12 s2 s3 HI11 HI12
              go_wp2_with fail
              go_roundw
              case rel => exact ⟨j + 1, by omega, by go_num, HBZ⟩
              case measure => simp [intOf]; omega
    · have j1 : decide ((j : Int) ≤ (mm : Int) + 1) = false := by simp; omega
      have j2 : (mm : Int) + 1 < (j : Int) := by omega
      go_wp2_with fail
      exact HX.out _ _ _ _ _ _ _ _ _ _ _ _ _ _ _ _ _ _ _ _ _ _ _ _ _ _ _ _ _ _ _ _ _ _ _ _ _ _ _ _ _ _ _ _ _ _ _ _ _ _ _ _ _ _ _ _ _ _ _ _ _ _ _ _ _ _ _ _ _ _ _ _ _ _ _ _ _ _ _ _ _ _ _ _ _ _ _ _ _ _ HB.out
end Go.Proofs.YtamndgeeibfmhaaDoor.vaultPlays
