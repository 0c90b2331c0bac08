/- VaultPlays: the loop over the shares that are asked with, as a theorem of its own. -/
import Derived.Test.YtamndgeeibfmhaaDoorVtLaw4
import Derived.Test.YtamndgeeibfmhaaDoorRefNext
import Derived.Test.YtamndgeeibfmhaaDoorDoor
import Derived.Deep.RegionHeld3
import Derived.WalkKit
import Derived.WalkLawsBesides
import Derived.WalkSpells
import Derived.RegionTactic
import Derived.Deep.QuietTactic
import Derived.BigQuiet
import Derived.Deep.CutBlock
import Derived.Deep.DeepCutAuto
import Derived.Outline
namespace Go.Proofs.YtamndgeeibfmhaaDoor.vaultPlays
open Go.ChangeShapes Go.WideShapes Go.ChangeAt Go.RowKit Go.Deep
set_option linter.unusedVariables false

/-- the block of a number in a text -/
def findBlk (n : Nat) : Code → Option Code
  | .block m c => if m == n then some (.block m c) else findBlk n c
  | .loop c => findBlk n c
  | .scope c => findBlk n c
  | .seq a b => match findBlk n a with
    | some c => some c
    | none => findBlk n b
  | .cond _ a b => match findBlk n a with
    | some c => some c
    | none => findBlk n b
  | _ => none
noncomputable def blk4 : Code := ((Tryd.f6.body.bind (findBlk 4)).getD .skip)
theorem gg_cmt {P : List (List Int)} {i : Nat} (h : i < P.length) : gg (P.map cmt) i = cmt (gg P i) := by simp [gg, List.getD_eq_getElem?_getD, List.getElem?_map, List.getElem?_eq_getElem h]
theorem bad_of (mm : Nat) (S : List Sh) (k : Nat) (a b : Int) (h1 : ga S k = a) (h2 : gb S k = b) : badB mm S k = (!(atB mm a) || !(inB b)) := by rw [badB, h1, h2]
theorem at_no1 {mm : Nat} {a : Int} (h : a < 1) : atB mm a = false := by simp only [atB, Bool.and_eq_false_iff, decide_eq_false_iff_not]; omega
theorem at_no2 {mm : Nat} {a : Int} (h : (mm : Int) < a) : atB mm a = false := by simp only [atB, Bool.and_eq_false_iff, decide_eq_false_iff_not]; omega
theorem at_yes {mm : Nat} {a : Int} (h : ¬ a < 1) (h2 : ¬ (mm : Int) < a) : atB mm a = true := by simp only [atB, Bool.and_eq_true, decide_eq_true_eq]; omega
theorem bnd {x y : Bool} (h : false = (!x || !y)) : x = true ∧ y = true := by cases x <;> cases y <;> simp_all
set_option maxHeartbeats 6400000 in
set_option maxRecDepth 1000000 in
theorem seg4 (Q : Exit → Act → World → Prop) (W : World) (mm nn : Nat) (e1 z : Int) (A3 : Option Addr) (c3 : Nat) (P : List (List Int)) (As : Option Addr) (cs : Nat) (S : List Sh) (q : List Int) (o : Option (List Int))
    (x2 x3 x4 x5 x6 x7 x8 x9 x10 x11 x12 x14 x15 x16 x17 x18 x20 x21 x22 x24 x25 x27 x30 x31 x32 x33 x34 x35 x36 x37 x38 x39 x40 x41 x42 x43 x44 x45 x46 x47 x48 x49 x50 x51 x52 x53 x54 x55 x56 x57 x58 x59 x60 x61 x62 x63 x64 x65 x66 x67 x68 x69 x70 x71 x72 x73 x74 x75 x76 x77 x78 x79 x80 x81 x82 x83 x84 x85 x86 x87 x88 x89 x90 x91 x92 x93 x94 x95 x96 x97 x98 x99 x100 x101 x102 x103 x104 x105 x106 x107 x108 x109 x110 x111 x112 x113 x114 x115 x116 x117 x118 x119 x120 x121 x122 x123 x124 x125 x126 x127 x128 x129 x130 x131 x132 x133 x134 x135 x136 x137 x138 x139 x140 x141 x142 x143 x144 x145 x146 x147 x148 x149 x150 x151 x152 x153 x154 x155 x156 x157 x158 x159 x160 x161 x162 x163 x164 x165 x166 x167 x168 x169 x170 x171 x172 x173 x174 x175 x176 x177 x178 x179 x180 x181 x182 x183 x184 x185 x186 x187 x188 x189 x190 x191 x192 x193 x194 x195 x196 x197 x198 x199 x200 x201 x202 x203 x204 x205 x206 x207 x208 x209 x210 x211 x212 x213 x214 x215 x216 x217 x218 x219 x220 x221 x222 x223 x224 x225 x226 x227 x228 x229 x230 x231 x232 x233 x234 x235 x236 x237 x238 x239 x240 x241 x242 x243 x244 x245 x246 x247 x248 x249 x250 x251 x252 x253 x254 x255 x256 x257 x258 x259 x260 x261 x262 x263 x264 x265 x266 x267 x268 x269 x270 x271 x272 x273 x274 x275 x276 x277 x278 x279 x280 x281 x282 x283 x284 x285 x286 x287 x288 x289 x290 x291 x292 x293 x294 x295 x296 x297 x298 x299 x300 x301 x302 x303 x304 x305 x306 x307 x308 x309 x310 x311 x312 x313 x314 x315 x316 x317 x318 x319 x320 x321 x322 x323 x324 x325 x326 x327 x328 x329 x330 x331 x332 x333 x334 x335 x336 x337 x338 x339 x340 x341 x342 x343 x344 x345 x346 x347 x348 x349 x350 x351 x352 x353 x354 x355 x356 x357 x358 x359 x360 x361 x362 x363 x364 x365 x366 x367 x368 x369 x370 x371 x372 x373 x374 x375 x376 x377 x378 x379 x380 x381 x382 x383 x384 : Value) (h7 : mm ≤ 7) (hm : S.length ≤ maxLen)
    (HQ : Hid (Qq o z P P.length S q e1)) (HVQ : Hid (o = some q → q.length ≤ 7 ∧ allIn q q.length = true)) (HS : Hid (Shares W As S)) (HC : Hid (Many Ints W A3 (P.map cmt)))
    (HX : Hid (∀ (k : Nat) (e : Int) (G : List Sh) (Ag : Option Addr) (cg : Nat) (W' : World) (u30 u31 u32 u33 u191 u192 u193 u194 u195 u196 u197 u198 u199 u200 u201 u202 u203 u204 u205 u206 u207 u208 u209 u210 u211 u212 u213 u214 u215 u216 u217 u218 u219 u220 u221 u222 u223 u224 u225 u226 u227 u228 u229 u230 u231 u232 u233 u234 u235 u236 u237 u238 u239 u240 u241 u242 u243 u244 u245 u246 u247 u248 u249 u250 u251 u252 u253 u254 u255 u256 u257 u258 u259 u260 u261 u262 u263 u264 u265 u266 : Value), R3 e1 mm q S k e G → k ≤ S.length → (e = 0 → k = S.length) → OShares W' W.heap.size Ag cg G → Below W.heap.size W W' → Q .normal ⟨#[.int .i64 mm, .int .i64 nn, x2, x3, x4, x5, x6, x7, x8, x9, x10, x11, x12, .int .i64 e, x14, x15, x16, x17, x18, .slice A3 P.length c3, x20, x21, x22, .int .i64 z, x24, x25, .slice As S.length cs, x27, .slice Ag G.length cg, .int .i64 k, u30, u31, u32, u33, x34, x35, x36, x37, x38, x39, x40, x41, x42, x43, x44, x45, x46, x47, x48, x49, x50, x51, x52, x53, x54, x55, x56, x57, x58, x59, x60, x61, x62, x63, x64, x65, x66, x67, x68, x69, x70, x71, x72, x73, x74, x75, x76, x77, x78, x79, x80, x81, x82, x83, x84, x85, x86, x87, x88, x89, x90, x91, x92, x93, x94, x95, x96, x97, x98, x99, x100, x101, x102, x103, x104, x105, x106, x107, x108, x109, x110, x111, x112, x113, x114, x115, x116, x117, x118, x119, x120, x121, x122, x123, x124, x125, x126, x127, x128, x129, x130, x131, x132, x133, x134, x135, x136, x137, x138, x139, x140, x141, x142, x143, x144, x145, x146, x147, x148, x149, x150, x151, x152, x153, x154, x155, x156, x157, x158, x159, x160, x161, x162, x163, x164, x165, x166, x167, x168, x169, x170, x171, x172, x173, x174, x175, x176, x177, x178, x179, x180, x181, x182, x183, x184, x185, x186, x187, x188, x189, x190, u191, u192, u193, u194, u195, u196, u197, u198, u199, u200, u201, u202, u203, u204, u205, u206, u207, u208, u209, u210, u211, u212, u213, u214, u215, u216, u217, u218, u219, u220, u221, u222, u223, u224, u225, u226, u227, u228, u229, u230, u231, u232, u233, u234, u235, u236, u237, u238, u239, u240, u241, u242, u243, u244, u245, u246, u247, u248, u249, u250, u251, u252, u253, u254, u255, u256, u257, u258, u259, u260, u261, u262, u263, u264, u265, u266, x267, x268, x269, x270, x271, x272, x273, x274, x275, x276, x277, x278, x279, x280, x281, x282, x283, x284, x285, x286, x287, x288, x289, x290, x291, x292, x293, x294, x295, x296, x297, x298, x299, x300, x301, x302, x303, x304, x305, x306, x307, x308, x309, x310, x311, x312, x313, x314, x315, x316, x317, x318, x319, x320, x321, x322, x323, x324, x325, x326, x327, x328, x329, x330, x331, x332, x333, x334, x335, x336, x337, x338, x339, x340, x341, x342, x343, x344, x345, x346, x347, x348, x349, x350, x351, x352, x353, x354, x355, x356, x357, x358, x359, x360, x361, x362, x363, x364, x365, x366, x367, x368, x369, x370, x371, x372, x373, x374, x375, x376, x377, x378, x379, x380, x381, x382, x383, x384], []⟩ W')) :
    Code.wp Tryd.prog blk4 Q ⟨#[.int .i64 mm, .int .i64 nn, x2, x3, x4, x5, x6, x7, x8, x9, x10, x11, x12, .int .i64 e1, x14, x15, x16, x17, x18, .slice A3 P.length c3, x20, x21, x22, .int .i64 z, x24, x25, .slice As S.length cs, x27, .slice none 0 0, .int .i64 0, x30, x31, x32, x33, x34, x35, x36, x37, x38, x39, x40, x41, x42, x43, x44, x45, x46, x47, x48, x49, x50, x51, x52, x53, x54, x55, x56, x57, x58, x59, x60, x61, x62, x63, x64, x65, x66, x67, x68, x69, x70, x71, x72, x73, x74, x75, x76, x77, x78, x79, x80, x81, x82, x83, x84, x85, x86, x87, x88, x89, x90, x91, x92, x93, x94, x95, x96, x97, x98, x99, x100, x101, x102, x103, x104, x105, x106, x107, x108, x109, x110, x111, x112, x113, x114, x115, x116, x117, x118, x119, x120, x121, x122, x123, x124, x125, x126, x127, x128, x129, x130, x131, x132, x133, x134, x135, x136, x137, x138, x139, x140, x141, x142, x143, x144, x145, x146, x147, x148, x149, x150, x151, x152, x153, x154, x155, x156, x157, x158, x159, x160, x161, x162, x163, x164, x165, x166, x167, x168, x169, x170, x171, x172, x173, x174, x175, x176, x177, x178, x179, x180, x181, x182, x183, x184, x185, x186, x187, x188, x189, x190, x191, x192, x193, x194, x195, x196, x197, x198, x199, x200, x201, x202, x203, x204, x205, x206, x207, x208, x209, x210, x211, x212, x213, x214, x215, x216, x217, x218, x219, x220, x221, x222, x223, x224, x225, x226, x227, x228, x229, x230, x231, x232, x233, x234, x235, x236, x237, x238, x239, x240, x241, x242, x243, x244, x245, x246, x247, x248, x249, x250, x251, x252, x253, x254, x255, x256, x257, x258, x259, x260, x261, x262, x263, x264, x265, x266, x267, x268, x269, x270, x271, x272, x273, x274, x275, x276, x277, x278, x279, x280, x281, x282, x283, x284, x285, x286, x287, x288, x289, x290, x291, x292, x293, x294, x295, x296, x297, x298, x299, x300, x301, x302, x303, x304, x305, x306, x307, x308, x309, x310, x311, x312, x313, x314, x315, x316, x317, x318, x319, x320, x321, x322, x323, x324, x325, x326, x327, x328, x329, x330, x331, x332, x333, x334, x335, x336, x337, x338, x339, x340, x341, x342, x343, x344, x345, x346, x347, x348, x349, x350, x351, x352, x353, x354, x355, x356, x357, x358, x359, x360, x361, x362, x363, x364, x365, x366, x367, x368, x369, x370, x371, x372, x373, x374, x375, x376, x377, x378, x379, x380, x381, x382, x383, x384], []⟩ W := by
  let fpost := bodyPost Tryd.prog Tryd.f6 (fun _ _ => True)
  unfold maxLen at hm
  conv => arg 2; whnf
  go_wp2_with fail
  go_loopw [13, 28, 29, 30, 31, 32, 33] (fun s13 s28 s29 _ _ _ _ wr => ∃ (k : Nat) (e : Int) (G : List Sh) (Ag : Option Addr) (cg : Nat), k ≤ S.length ∧ s13 = .int .i64 e ∧ s28 = .slice Ag G.length cg ∧ s29 = .int .i64 k ∧ Hid (R3 e1 mm q S k e G) ∧ Hid (OShares wr W.heap.size Ag cg G) ∧ Hid (Below W.heap.size W wr)) (fun _ _ s29 _ _ _ _ _ => S.length - (intOf s29).toNat)
  case atStart => exact ⟨0, e1, [], none, 0, Nat.zero_le _, rfl, rfl, rfl, Lib.hid R3.start, Lib.hid OShares.nil, Lib.hid (Below.refl _ _)⟩
  case round =>
    obtain ⟨k2, e, G, Ag, cg, hk, rfl, rfl, rfl, HR, HO, HB⟩ := hrel
    have j0 : (0 : Int) ≤ (k2 : Int) := by omega
    by_cases hlt : k2 < S.length
    · have j1 : (k2 : Int) < (S.length : Nat) := by omega
      by_cases he : e = 0
      · subst he
        obtain ⟨b3, o3, rfl, hb3, ca0, cb0⟩ := HS.out.at_ hlt
        obtain ⟨i, rfl, hi, ho, hq, h30⟩ := HQ.out.zero HR.out.zero.1
        obtain ⟨b4, o4, Ac, cc, rfl, hb4, cc0, hI, hIc, hIm⟩ := HC.out.at_ (i := i) (by rw [List.length_map]; exact hi)
        rw [gg_cmt hi, ← hq] at cc0 hI hIc
        obtain ⟨hq7, hall⟩ := HVQ.out ho
        have hgl := HR.out.len
        have hgl2 : G.length ≤ 1000000 := by omega
        have hgl3 : G.length ≤ 9223372036854775807 := by omega
        obtain ⟨a, ha⟩ : ∃ a, ga S k2 = a := ⟨_, rfl⟩
        obtain ⟨b, hb⟩ : ∃ b, gb S k2 = b := ⟨_, rfl⟩
        have hbad := bad_of mm S k2 a b ha hb
        obtain ⟨bd, hbd⟩ : ∃ bd, badB mm S k2 = bd := ⟨_, rfl⟩
        rw [hbd] at hbad
        rw [ha] at ca0
        rw [hb] at cb0
        have ca' := (HB.out.cell (p := ⟨b3, o3 + k2 * 2, none⟩) hb3).trans ca0
        have cb' := (HB.out.cell (p := ⟨b3, o3 + k2 * 2 + 1, none⟩) hb3).trans cb0
        have cc' := (HB.out.cell (p := ⟨b4, o4 + i, none⟩) hb4).trans cc0
        have ci := HB.out.size
        have HCI := Lib.hid ci
        have HCC := Lib.hid cc'; have HII := Lib.hid (hI.below HB.out (Nat.le_refl _)); have HAB := Lib.hid (And.intro ha hb); have HBAD := Lib.hid hbad; have HBD := Lib.hid hbd; have HQ7 := Lib.hid (And.intro hq7 hall); have HGL := Lib.hid hgl2
        have i0 : (0 : Int) ≤ (i : Int) := by omega
        have i1 : (i : Int) < (P.length : Nat) := by omega
        clear ca0 cb0 cc0 hI hIc hIm hq7 hall hgl hgl2 ha hb hbad hbd cc' ci HS HC ho hq
        go_upto_region 58 with (go_at_call 26; refine (rin_any _ _).mono ?_; rintro e w' ⟨rfl, rfl⟩)
        go_cut [30, 225] (fun _ s wx => s = .bool bd ∧ wx = wr)
        case first =>
          by_cases a1 : a < 1
          · have HF := Lib.hid (show bd = true by rw [HBAD.out, at_no1 a1]; rfl)
            go_wp2_with fail
            go_meet
            case rel => exact ⟨by rw [HF.out], by first | rfl | trivial⟩
          · by_cases a2 : (mm : Int) < a
            · have HF := Lib.hid (show bd = true by rw [HBAD.out, at_no2 a2]; rfl)
              go_wp2_with fail
              go_meet
              case rel => exact ⟨by rw [HF.out], by first | rfl | trivial⟩
            · have HF := Lib.hid (show bd = !(inB b) by rw [HBAD.out, at_yes a1 a2]; rfl)
              cases hin : inB b with
              | true =>
                rw [hin] at HF
                go_wp2_with fail
                go_meet
                case rel => exact ⟨by rw [HF.out]; rfl, by first | rfl | trivial⟩
              | false =>
                rw [hin] at HF
                go_wp2_with fail
                go_meet
                case rel => exact ⟨by rw [HF.out]; rfl, by first | rfl | trivial⟩
        case rest =>
          obtain ⟨rfl, rfl⟩ := hcut
          obtain ⟨wg, hw⟩ : ∃ v : World, v = wc := ⟨_, rfl⟩
          subst hw
          cases bd with
          | true =>
            clear HBAD
            go_wp2_with fail
            go_roundw
            case rel => exact ⟨k2 + 1, 1, G, Ag, cg, by omega, rfl, rfl, by go_num, Lib.hid (HR.out.bad hlt HBD.out), HO, HB⟩
            case measure => simp [intOf]; omega
          | false =>
            have hin2 := bnd HBAD.out
            have hat := atB_true.1 hin2.1
            have hnb := inB_true.1 hin2.2
            have ct := fun (w : World) (hw : Ints w Ac (cmt q)) => rtrue_any Ac cc (cmt q) a b (by rw [cmt_length]; exact HQ7.out.1) (cmt_all q) (by omega) (by omega) hnb.1 hnb.2 w hw
            have htr := truB_cmt q HQ7.out.2 a b hnb.1 hnb.2
            obtain ⟨tb, htb⟩ : ∃ tb, truB (cmt q) a b = tb := ⟨_, rfl⟩
            obtain ⟨hd, hhd⟩ : ∃ hd, hadB G a G.length = hd := ⟨_, rfl⟩
            rw [htb] at ct htr
            have CT := Lib.hid ct; have HTR := Lib.hid htr; have HHD := Lib.hid hhd
            have caH := Lib.hid ca'; have cbH := Lib.hid cb'
            have ca := caH
            clear hin2 hat hnb ct htr htb hhd HBAD ca' cb'
            go_upto_block 6 with fail
            go_cut [31, 32] (fun s31 _ wx => s31 = .bool hd ∧ Hid (Below wg.heap.size wg wx))
            case first =>
              go_wp2_with fail
              go_loopw [31, 32] (fun s31 s32 wx => ∃ (j : Nat), j ≤ G.length ∧ s32 = .int .i64 j ∧ s31 = .bool (hadB G a j) ∧ Hid (Below wg.heap.size wg wx)) (fun _ j _ => G.length - (intOf j).toNat)
              case atStart => exact ⟨0, Nat.zero_le _, rfl, rfl, Lib.hid (Below.refl _ _)⟩
              case round =>
                obtain ⟨j, hj, rfl, rfl, HBJ⟩ := hrel
                by_cases hlt : j < G.length
                · obtain ⟨b5, o5, rfl, hl5, g0, _⟩ := (HO.out.shares.below HBJ.out (Nat.le_refl _)).at_ hlt
                  have a0' := (HBJ.out.cell (p := ⟨b3, o3 + k2 * 2, none⟩) (Nat.lt_of_lt_of_le hb3 HCI.out)).trans ca.out
                  have j0 : (0 : Int) ≤ (j : Int) := by omega
                  have j1 : (j : Int) < (G.length : Nat) := by omega
                  have hs : hadB G a (j + 1) = (hadB G a j || (ga G j == a)) := rfl
                  have HHS := Lib.hid hs
                  generalize ga G j = y at *
                  clear hs
                  cases hb : hadB G a j with
                  | true =>
                    rw [hb] at HHS
                    go_wp2_with fail
                    try go_quiet (fail)
                    go_wp2_with fail
                    go_roundw
                    case rel => exact ⟨j + 1, by omega, by go_num, by rw [HHS.out]; rfl, Lib.hid (by first | exact HBJ.out | exact bdn HBJ.out _)⟩
                    case measure => simp [intOf]; omega
                  | false =>
                    rw [hb] at HHS
                    cases hc : (y == a) with
                    | true =>
                      rw [hc] at HHS
                      go_wp2_with fail
                      try go_quiet (fail)
                      go_wp2_with fail
                      go_roundw
                      case rel => exact ⟨j + 1, by omega, by go_num, by rw [HHS.out]; rfl, Lib.hid (by first | exact HBJ.out | exact bdn HBJ.out _)⟩
                      case measure => simp [intOf]; omega
                    | false =>
                      rw [hc] at HHS
                      go_wp2_with fail
                      try go_quiet (fail)
                      go_wp2_with fail
                      go_roundw
                      case rel => exact ⟨j + 1, by omega, by go_num, by rw [HHS.out]; rfl, Lib.hid (by first | exact HBJ.out | exact bdn HBJ.out _)⟩
                      case measure => simp [intOf]; omega
                · obtain rfl : j = G.length := by omega
                  go_wp2_with fail
                  go_meet
                  case rel => exact ⟨by rw [HHD.out], HBJ⟩
            case rest =>
              obtain ⟨rfl, HBH⟩ := hcut
              obtain ⟨wh, hw⟩ : ∃ v : World, v = wc := ⟨_, rfl⟩
              subst hw
              have hb3' : b3 < wg.heap.size := Nat.lt_of_lt_of_le hb3 HCI.out
              have hb4' : b4 < wg.heap.size := Nat.lt_of_lt_of_le hb4 HCI.out
              have ca' := (HBH.out.cell (p := ⟨b3, o3 + k2 * 2, none⟩) hb3').trans caH.out
              have cb' := (HBH.out.cell (p := ⟨b3, o3 + k2 * 2 + 1, none⟩) hb3').trans cbH.out
              have cc' := (HBH.out.cell (p := ⟨b4, o4 + i, none⟩) hb4').trans HCC.out
              have HI2 := Lib.hid (HII.out.below HBH.out (Nat.le_refl _))
              have hz3 := Nat.lt_of_lt_of_le hb3' HBH.out.size
              have hz4 := Nat.lt_of_lt_of_le hb4' HBH.out.size
              go_upto_region 65 with fail
              go_cut [33] (fun s wx => s = .bool tb ∧ Hid (Below wh.heap.size wh wx))
              case first =>
                go_region_held3 (fun w' => w'.cell? ⟨b4, o4 + i, none⟩ = some (.slice Ac (cmt q).length cc) ∧ w'.cell? ⟨b3, o3 + k2 * 2, none⟩ = some (.int .i64 a) ∧ w'.cell? ⟨b3, o3 + k2 * 2 + 1, none⟩ = some (.int .i64 b)) (first | go_keep | exact ⟨(hb9.cell (p := ⟨b4, o4 + i, none⟩) hz4).trans cc', (hb9.cell (p := ⟨b3, o3 + k2 * 2, none⟩) hz3).trans ca', (hb9.cell (p := ⟨b3, o3 + k2 * 2 + 1, none⟩) hz3).trans cb'⟩) ((go_at_call 27; refine (CT.out _ (HI2.out.below (bdr (Below.refl _ _)) (Nat.le_refl _))).mono ?_; rintro e w' ⟨rfl, hb9⟩))
                have HBF := Lib.hid (bcl (bdr (Below.refl _ _)) hb9)
                clear hb9
                go_wp2_with fail
                go_meet
                case rel => exact ⟨rfl, HBF⟩
              case rest =>
                obtain ⟨rfl, HBK⟩ := hcut
                obtain ⟨wk, hw⟩ : ∃ v : World, v = wc := ⟨_, rfl⟩
                subst hw
                have HBW := Lib.hid (bcl HBH.out HBK.out)
                clear HBH HBK HI2 CT ca' cb' cc' HCC HII
                have ca' := (HBW.out.cell (p := ⟨b3, o3 + k2 * 2, none⟩) hb3').trans caH.out
                have cb' := (HBW.out.cell (p := ⟨b3, o3 + k2 * 2 + 1, none⟩) hb3').trans cbH.out
                have HO2 := Lib.hid (HO.out.keep HBW.out)
                have HB2 := Lib.hid (bcl HB.out HBW.out)
                have hz := HB2.out.size
                have HZ := Lib.hid hz
                have hyes : tb = true → hd = false → R3 e1 mm q S (k2 + 1) 0 (G ++ [(a, b)]) := fun h1 h2 => by
                  have := HR.out.yes HBD.out (by rw [HAB.out.1, HAB.out.2, HHD.out, ← HTR.out, h1, h2]; rfl)
                  rw [HAB.out.1, HAB.out.2] at this; exact this
                have hno : (tb && !hd) = false → R3 e1 mm q S (k2 + 1) 0 G := fun h1 => HR.out.no HBD.out (by rw [HAB.out.1, HAB.out.2, HHD.out, ← HTR.out]; exact h1)
                have HY := Lib.hid hyes; have HN := Lib.hid hno; have hl6 := HGL.out
                clear hyes hno hz HBD HAB HHD HTR ca caH cbH
                cases tb with
                | false =>
                  go_wp2_with fail
                  go_roundw
                  case rel => exact ⟨k2 + 1, 0, G, Ag, cg, by omega, rfl, rfl, by go_num, Lib.hid (HN.out rfl), HO2, HB2⟩
                  case measure => simp [intOf]; omega
                | true =>
                  cases hd with
                  | true =>
                    go_wp2_with fail
                    go_roundw
                    case rel => exact ⟨k2 + 1, 0, G, Ag, cg, by omega, rfl, rfl, by go_num, Lib.hid (HN.out rfl), HO2, HB2⟩
                    case measure => simp [intOf]; omega
                  | false =>
                    go_wp2_with (at_builtin; refine wpList_append_share rfl _ _ rfl W.heap.size Ag cg G rfl (HO2.out.keep (bal1 _ _)) wk.heap.size a b rfl (cell_new2a _ _ _ _) (cell_new2b _ _ _ _) hl6 (le_al HZ.out _) ?_; intro A5 c5 w5 ho5 hb5; have HO5 := Lib.hid ho5; have HB5 := Lib.hid ((bal HB2.out _).trans hb5); clear ho5 hb5)
                    go_roundw
                    case rel => exact ⟨k2 + 1, 0, G ++ [(a, b)], A5, c5, by omega, rfl, by simp, by go_num, Lib.hid (HY.out rfl rfl), HO5, HB5⟩
                    case measure => simp [intOf]; omega
      · have hd : (e == 0) = false := beq_eq_false_iff_ne.2 he
        have HE := Lib.hid he
        clear he
        go_wp2_with fail
        exact HX.out _ _ _ _ _ _ _ _ _ _ _ _ _ _ _ _ _ _ _ _ _ _ _ _ _ _ _ _ _ _ _ _ _ _ _ _ _ _ _ _ _ _ _ _ _ _ _ _ _ _ _ _ _ _ _ _ _ _ _ _ _ _ _ _ _ _ _ _ _ _ _ _ _ _ _ _ _ _ _ _ _ _ _ _ _ _ HR.out hk (fun h => absurd h HE.out) HO.out HB.out
    · obtain rfl : k2 = S.length := by omega
      go_wp2_with fail
      exact HX.out _ _ _ _ _ _ _ _ _ _ _ _ _ _ _ _ _ _ _ _ _ _ _ _ _ _ _ _ _ _ _ _ _ _ _ _ _ _ _ _ _ _ _ _ _ _ _ _ _ _ _ _ _ _ _ _ _ _ _ _ _ _ _ _ _ _ _ _ _ _ _ _ _ _ _ _ _ _ _ _ _ _ _ _ _ _ HR.out hk (fun _ => rfl) HO.out HB.out
end Go.Proofs.YtamndgeeibfmhaaDoor.vaultPlays
