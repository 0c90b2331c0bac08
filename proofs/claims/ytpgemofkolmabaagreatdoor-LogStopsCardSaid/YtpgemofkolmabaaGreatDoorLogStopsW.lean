/- LogStops: the walk. -/
import Derived.Test.YtpgemofkolmabaaGreatDoorLsLog
import Derived.Test.YtpgemofkolmabaaGreatDoorLsLaw
import Derived.WalkKit
import Derived.WalkLawsBesides
import Derived.WalkSpells
import Derived.RegionTactic
import Derived.Deep.QuietTactic
import Derived.BigQuiet
import Derived.Outline
namespace Go.Proofs.YtpgemofkolmabaaGreatDoor.logStops
open Go.ChangeShapes Go.WideShapes Go.ChangeAt Go.RowKit Go.Joins Go.Deep
set_option linter.unusedVariables false

theorem same_eE (n m : Int) (W : World) (h : HG W) : Calls Tryz.prog 19 #[errV n, .int .i64 m] W fun e w' => e = .returned (.bool (n == m)) ∧ Below W.heap.size W w' :=
  (same_errE n m W W (DG.refl h)).mono fun e w' ⟨h1, h2⟩ => ⟨h1, h2.2⟩
theorem same_nE (m : Int) (W : World) : Calls Tryz.prog 19 #[.nilIface, .int .i64 m] W fun e w' => e = .returned (.bool (0 == m)) ∧ Below W.heap.size W w' :=
  (same_nilE m W).mono fun e w' ⟨h1, h2⟩ => ⟨h1, h2 ▸ Below.refl _ _⟩
theorem rx_one (W : World) {base b : Nat} (h : Vin W base (some ⟨b, 0, none⟩) star) (hb : base ≤ W.heap.size) :
    RX (W.alloc (.cells #[.int .i64 0, .int .i64 (-1), .slice (some ⟨b, 0, none⟩) 1 1, .bool true] 50)) base (some ⟨W.heap.size, 0, none⟩) [(⟨0, -1, star, true⟩, some ⟨b, 0, none⟩, 1)] := by
  have hv := h.chsV hb (Chs.of_below (fun _ => False) (bal1 W (.cells #[.int .i64 0, .int .i64 (-1), .slice (some ⟨b, 0, none⟩) 1 1, .bool true] 50))) (fun _ h => h.elim)
  refine ⟨fun _ => ⟨W.heap.size, 0, rfl, by simp, fun j u hj => ?_⟩, fun x hx => ?_⟩
  · have := (AtB.new W #[.int .i64 0, .int .i64 (-1), .slice (some ⟨b, 0, none⟩) 1 1, .bool true] 50).cell (i := j) (v := u) (by simpa [rxCells, rxv, star] using hj)
    simpa using this
  · simp at hx
    subst hx
    exact ⟨hv, by simp [star], (show (1 : Nat) ≤ maxLen by decide)⟩
theorem vin_lit (W : World) {base : Nat} (v : Va) : Vin (W.alloc (.cells #[.int .i64 v.k, .int .i64 v.n, .string v.s] 30)) base (some ⟨W.heap.size, 0, none⟩) [v] := ⟨lit_vals W [v] 30 rfl, fun _ a ha => .inr (by injection ha with ha; subst ha; exact (AtB.new _ _ _).kin)⟩
theorem i64_of {n : Int} (h : -1000000 ≤ n ∧ n ≤ 1000000) : I64 n := WalkArith.wf_i64 ⟨by omega, by omega⟩
/-- what holds ahead of a round: so many deeds, or it has stopped -/
def LJ (w0 : World) (P af i : Nat) (W : World) : Prop := (i ≤ af → Live w0 P R1 (Dn i) 0 ((af : Int) - i) W) ∧ (af < i → Dead w0 P R1 (Dn af) (halfB (an 1 ((af : Int) + 1) af)) 0 (-1) W)
section
variable {w0 W : World} {P af i : Nat}
theorem bad_live {D : List Ak} {sf : Nat} {lf : Int} (h : Live w0 P R1 D sf lf W) (ht : ∀ W, Below w0.heap.size w0 W → LT W) (hD : VdD R1 D) (hl : D.length ≤ 30) (q : Int) (hq : -1000000 ≤ q ∧ q ≤ 1000000) :
    Calls Tryz.prog 12 #[.pointer (some ⟨P, 0, none⟩), .agg #[.int .i64 1, .int .i64 q, .int .i64 0, .slice none 0 0]] W fun e w' => e = .returned (.tuple #[.string ⟨#[]⟩, errV 5]) ∧ Live w0 P R1 D sf lf w' := by
  have c := live_no h ht hD hl (bad q) none 0 (Nat.zero_le _) okB (i64_of ⟨by show (-1000000 : Int) ≤ 1; decide, by show (1 : Int) ≤ 1000000; decide⟩) (i64_of hq) Sl.zero (.inl (by rw [bad_do]; decide))
  rw [bad_s, bad_do] at c
  exact c
theorem put_live {sf : Nat} {lf : Int} (h : Live w0 P R1 (Dn i) sf lf W) (ht : ∀ W, Below w0.heap.size w0 W → LT W) (hi : i < 20) (A : Option Addr) (hV : Vin W w0.heap.size A [vn i]) (hl0 : -1 ≤ lf) (hl1 : lf ≤ 1000000) (hlf : lf ≠ 0) :
    Calls Tryz.prog 12 #[.pointer (some ⟨P, 0, none⟩), .agg #[.int .i64 1, .int .i64 ((i : Int) + 1), .int .i64 0, .slice A 1 1]] W fun e w' => e = .returned (.tuple #[.string ⟨#[111, 107]⟩, .nilIface]) ∧ Live w0 P R1 (Dn (i + 1)) sf (lfN lf) w' := by
  have hd := st_deed hi
  have hs := deed_s (s := St i) (w := 1) (q := (i : Int) + 1) (n := i) (.inl rfl) ⟨by omega, by omega⟩ (by rw [st_f1]) (by rw [st_len]; omega)
  rw [← cp_Dn i (by omega)] at hd hs
  have c := live_new h ht (vd_Dn i (by omega)) (by rw [Dn_len]; omega) (an 1 ((i : Int) + 1) i) A 1 (show 1 ≤ maxLen by decide) (okV _) (i64_of ⟨by show (-1000000 : Int) ≤ 1; decide, by show (1 : Int) ≤ 1000000; decide⟩) (i64_of (n := (i : Int) + 1) ⟨by omega, by omega⟩) hV hd.2 hd.1 hl0 (by omega) hlf
  rw [hs, ← Dn_succ] at c
  exact c
theorem put_stop {sf : Nat} (h : Live w0 P R1 (Dn i) sf 0 W) (ht : ∀ W, Below w0.heap.size w0 W → LT W) (hi : i < 20) (A : Option Addr) (hV : Vin W w0.heap.size A [vn i]) :
    Calls Tryz.prog 12 #[.pointer (some ⟨P, 0, none⟩), .agg #[.int .i64 1, .int .i64 ((i : Int) + 1), .int .i64 0, .slice A 1 1]] W fun e w' => e = .returned (.tuple #[.string ⟨#[]⟩, errV 6]) ∧ Dead w0 P R1 (Dn i) (halfB (an 1 ((i : Int) + 1) i)) sf (-1) w' := by
  have hd := st_deed hi
  rw [← cp_Dn i (by omega)] at hd
  exact live_stop h ht (vd_Dn i (by omega)) (by rw [Dn_len]; omega) (an 1 ((i : Int) + 1) i) A 1 (show 1 ≤ maxLen by decide) (okV _) (i64_of ⟨by show (-1000000 : Int) ≤ 1; decide, by show (1 : Int) ≤ 1000000; decide⟩) (i64_of (n := (i : Int) + 1) ⟨by omega, by omega⟩) hV hd.2 hd.1
theorem do_dead {D : List Ak} {jk : ByteArray} {sf : Nat} {lf : Int} (h : Dead w0 P R1 D jk sf lf W) (x q d : Int) (A : Option Addr) (n c : Nat) (t : List Va) (hn : n = t.length) :
    Calls Tryz.prog 12 #[.pointer (some ⟨P, 0, none⟩), .agg #[.int .i64 x, .int .i64 q, .int .i64 d, .slice A n c]] W fun e w' => e = .returned (.tuple #[.string ⟨#[]⟩, errV 6]) ∧ Dead w0 P R1 D jk sf lf w' := by
  subst hn
  exact dead_do h ⟨x, q, d, t⟩ A c
theorem put_last {k : Nat} {sf : Nat} (h : Live w0 P R1 (Dn k) sf (-1) W) (ht : ∀ W, Below w0.heap.size w0 W → LT W) (hk : k < 20) (A : Option Addr) (hV : Vin W w0.heap.size A [vn 3]) :
    Calls Tryz.prog 12 #[.pointer (some ⟨P, 0, none⟩), .agg #[.int .i64 2, .int .i64 1, .int .i64 0, .slice A 1 1]] W fun e w' => e = .returned (.tuple #[.string ⟨#[111, 107]⟩, .nilIface]) ∧ Live w0 P R1 (Dn k ++ [an 2 1 3]) sf (-1) w' := by
  have hd := deed (s := St k) (w := 2) (q := 1) (n := 3) (.inr rfl) (by decide) (by rw [st_f2]; rfl)
  have hs := deed_s (s := St k) (w := 2) (q := 1) (n := 3) (.inr rfl) (by decide) (by rw [st_f2]; rfl) (by rw [st_len]; omega)
  rw [← cp_Dn k (by omega)] at hd hs
  have c := live_new h ht (vd_Dn k (by omega)) (by rw [Dn_len]; omega) (an 2 1 3) A 1 (show 1 ≤ maxLen by decide) (okV _) (i64_of ⟨by show (-1000000 : Int) ≤ 2; decide, by show (2 : Int) ≤ 1000000; decide⟩) (i64_of (n := 1) (by decide)) hV hd.2 hd.1 (by decide) (by decide) (by decide)
  rw [hs] at c
  exact c
theorem vd_last {k : Nat} (hk : k < 20) : VdD R1 (Dn k ++ [an 2 1 3]) := by
  have hd := deed (s := St k) (w := 2) (q := 1) (n := 3) (.inr rfl) (by decide) (by rw [st_f2]; rfl)
  rw [← cp_Dn k (by omega)] at hd
  exact (vd_Dn k (by omega)).snoc (okV _) hd.2 hd.1
end
/-- what holds between two steps of the second loop -/
def LK (w0 : World) (P af k : Nat) (W : World) : Prop := ∃ (N sf : Nat) (jk : ByteArray), N ≤ 15 ∧ sf ≤ (recs (Dn N)).size ∧ (∀ x ∈ jk.data.toList, x ≠ 10) ∧ jk.size ≤ 1000 ∧ (k ≤ af → Live w0 P R1 (Dn N) sf ((af : Int) - k) W) ∧ (af < k → Dead w0 P R1 (Dn N) jk sf (-1) W)
theorem LJ.last {w0 W : World} {P af mn : Nat} (ha : af ≤ 15) (hm : mn ≤ 15) (h : LJ w0 P af mn W) : LK w0 P af mn W := by
  rcases Nat.lt_or_ge af mn with hlt | hge
  · refine ⟨af, 0, halfB (an 1 ((af : Int) + 1) af), ha, Nat.zero_le _, ?_, ?_, fun h => by omega, fun _ => h.2 hlt⟩
    all_goals
      have hd := st_deed (n := af) (by omega)
      have hr : Rcd (an 1 ((af : Int) + 1) af) := by
        rw [← cp_Dn af (by omega)] at hd
        have h2 := (vd_Dn af (by omega)).cok
        have h3 := (vd_Dn af (by omega)).n
        exact rcd_of h2 (by rw [h3, Dn_len]; omega) hd.2 hd.1
    · exact half_no10 hr
    · have := half_size hr; omega
  · exact ⟨mn, 0, ⟨#[]⟩, hm, Nat.zero_le _, fun x hx => by simp at hx, by decide, fun _ => h.1 hge, fun h => by omega⟩
theorem new_live {w W : World} (hW : Below w.heap.size w W) {A : Option Addr} (hX : RX W w.heap.size A [(⟨0, -1, star, true⟩, some ⟨w.heap.size, 0, none⟩, 1)]) :
    Calls Tryz.prog 10 #[.slice A 1 1] W fun e w' => ∃ P, e = .returned (.tuple #[.pointer (some ⟨P, 0, none⟩), .nilIface]) ∧ Live w P R1 (Dn 0) 0 (-1) w' := by
  refine (lgnew_ok hW.size A 1 _ hX r1 okR1).mono ?_
  rintro e w' ⟨P, p, q, m, he, hL, hb, _⟩
  exact ⟨P, he, bcl hW hb, p, q, m, none, hL⟩
set_option maxHeartbeats 3200000 in
set_option maxRecDepth 100000 in
theorem walk (w : World) (hgt : HG w ∧ LT w) (after : Int) (ha64 : I64 after) (many : Int) (hm64 : I64 many) (keep : Int) (hk64 : I64 keep) :
    Calls Tryz.prog 7 #[.int .i64 after, .int .i64 many, .int .i64 keep] w fun e w' => e = .returned (.bool true) ∧ Below w.heap.size w w' := by
  obtain ⟨hg, hlt⟩ := hgt
  have htt : ∀ W, Below w.heap.size w W → LT W := fun W h => ⟨tab_stays (g := 5) (by kernel_rfl) hlt.1 h (Nat.le_refl _), hlt.2.1.below h (Nat.le_refl _), tab_stays (g := 3) (by kernel_rfl) hlt.2.2 h (Nat.le_refl _)⟩
  have hgg : ∀ W, Below w.heap.size w W → HG W := fun W h => hg.below h
  have hx := rx_one _ (vin_lit w (base := w.heap.size) ⟨2, 0, ⟨#[]⟩⟩) (bal1 w _).size
  rw [World.size_alloc] at hx
  have HT := Lib.hid htt; have HGG := Lib.hid hgg; have HX := Lib.hid hx
  clear htt hgg hlt hg hx ha64 hm64 hk64
  by_cases hin : 0 ≤ after ∧ after ≤ 15 ∧ 0 ≤ many ∧ many ≤ 15
  · obtain ⟨af, rfl⟩ : ∃ af : Nat, after = af := ⟨after.toNat, by omega⟩
    obtain ⟨mn, rfl⟩ : ∃ mn : Nat, many = mn := ⟨many.toNat, by omega⟩
    have ha : af ≤ 15 := by omega
    have hm : mn ≤ 15 := by omega
    have x1 : (af : Int) ≤ 15 := by omega
    have x2 : (mn : Int) ≤ 15 := by omega
    clear hin
    go_enter Tryz.func7, Tryz.ntmps7
    go_wp2_with fail
    refine (new_live (bal (bal1 _ _) _) HX.out).mono ?_
    rintro e w2 ⟨P, rfl, hL2⟩
    have L2 := Lib.hid hL2
    clear hL2
    go_wp2_with fail
    refine (live_fail L2.out _).mono ?_
    rintro e w3 ⟨⟨v, rfl⟩, hL3⟩
    rw [show max (-1) (af : Int) = (af : Int) - ((0 : Nat) : Int) by omega] at hL3
    have L3 := Lib.hid hL3
    clear hL3
    go_wp2_with fail
    go_loopw [9, 10, 11, 12, 13, 14, 15, 16, 17] (fun s9 s10 _ _ _ _ _ _ _ wr => ∃ i : Nat, i ≤ mn ∧ s9 = .int .i64 i ∧ s10 = .int .i64 i ∧ Hid (LJ w P af i wr)) (fun _ s10 _ _ _ _ _ _ _ _ => mn - (intOf s10).toNat)
    case atStart => exact ⟨0, Nat.zero_le _, rfl, rfl, Lib.hid ⟨fun _ => L3.out, fun h => absurd h (by omega)⟩⟩
    case round =>
      obtain ⟨i, hi, rfl, rfl, HJ⟩ := hrel
      by_cases hlt : i < mn
      · have d0 : (i : Int) < (mn : Int) := by omega
        rcases Nat.lt_trichotomy i af with h | h | h
        · have L := Lib.hid (HJ.out.1 (by omega))
          have d1 : (i : Int) < (af : Int) := by omega
          have hlf : lfN ((af : Int) - i) = (af : Int) - ((i + 1 : Nat) : Int) := by unfold lfN; omega
          have HLF := Lib.hid hlf
          clear hlf
          go_wp2_with fail
          refine (bad_live L.out HT.out (vd_Dn i (by omega)) (by rw [Dn_len]; omega) ((i : Int) + 1) ⟨by omega, by omega⟩).mono ?_
          rintro e w4 ⟨rfl, hL4⟩
          have L4 := Lib.hid hL4
          clear hL4
          go_wp2_with fail
          refine (put_live (L4.out.below (bal1 _ _)) HT.out (by omega) _ (vin_lit w4 (vn i)) (by omega) (by omega) (by omega)).mono ?_
          rintro e w5 ⟨rfl, hL5⟩
          rw [HLF.out] at hL5
          have L5 := Lib.hid hL5
          clear hL5
          go_wp2_with fail
          refine (same_eE 5 6 _ (HGG.out _ L5.out.1)).mono ?_
          rintro e w6 ⟨rfl, hb6⟩
          have L6 := Lib.hid (L5.out.below hb6)
          clear hb6
          go_wp2_with fail
          refine (same_eE 5 5 _ (HGG.out _ L6.out.1)).mono ?_
          rintro e w7 ⟨rfl, hb7⟩
          have L7 := Lib.hid (L6.out.below hb7)
          clear hb7
          go_wp2_with fail
          refine (same_nE 6 _).mono ?_
          rintro e w8 ⟨rfl, hb8⟩
          have L8 := Lib.hid (L7.out.below hb8)
          clear hb8
          go_wp2_with fail
          go_roundw
          case rel => exact ⟨i + 1, by omega, by go_num, by go_num, Lib.hid ⟨fun _ => L8.out, fun h => by omega⟩⟩
          case measure => first | (simp [intOf]; done) | (simp [intOf]; omega)
        · subst h
          have L := Lib.hid (show Live w P R1 (Dn i) 0 0 wr by have := HJ.out.1 (Nat.le_refl _); rwa [Int.sub_self] at this)
          go_wp2_with fail
          refine (bad_live L.out HT.out (vd_Dn i (by omega)) (by rw [Dn_len]; omega) ((i : Int) + 1) ⟨by omega, by omega⟩).mono ?_
          rintro e w4 ⟨rfl, hL4⟩
          have L4 := Lib.hid hL4
          clear hL4
          go_wp2_with fail
          refine (put_stop (L4.out.below (bal1 _ _)) HT.out (by omega) _ (vin_lit w4 (vn i))).mono ?_
          rintro e w5 ⟨rfl, hL5⟩
          have L5 := Lib.hid hL5
          clear hL5
          go_wp2_with fail
          refine (same_eE 5 6 _ (HGG.out _ L5.out.1)).mono ?_
          rintro e w6 ⟨rfl, hb6⟩
          have L6 := Lib.hid (L5.out.below hb6)
          clear hb6
          go_wp2_with fail
          refine (same_eE 5 5 _ (HGG.out _ L6.out.1)).mono ?_
          rintro e w7 ⟨rfl, hb7⟩
          have L7 := Lib.hid (L6.out.below hb7)
          clear hb7
          go_wp2_with fail
          refine (same_eE 6 6 _ (HGG.out _ L7.out.1)).mono ?_
          rintro e w8 ⟨rfl, hb8⟩
          have L8 := Lib.hid (L7.out.below hb8)
          clear hb8
          go_wp2_with fail
          go_roundw
          case rel => exact ⟨i + 1, by omega, by go_num, by go_num, Lib.hid ⟨fun h => by omega, fun _ => L8.out⟩⟩
          case measure => first | (simp [intOf]; done) | (simp [intOf]; omega)
        · have L := Lib.hid (HJ.out.2 h)
          have d1 : (af : Int) < (i : Int) := by omega
          go_wp2_with fail
          refine (do_dead L.out 1 _ 0 none 0 0 [] rfl).mono ?_
          rintro e w4 ⟨rfl, hL4⟩
          have L4 := Lib.hid hL4
          clear hL4
          go_wp2_with fail
          refine (do_dead (L4.out.below (bal1 _ _)) 1 _ 0 _ 1 1 [vn i] rfl).mono ?_
          rintro e w5 ⟨rfl, hL5⟩
          have L5 := Lib.hid hL5
          clear hL5
          go_wp2_with fail
          refine (same_eE 6 6 _ (HGG.out _ L5.out.1)).mono ?_
          rintro e w6 ⟨rfl, hb6⟩
          have L6 := Lib.hid (L5.out.below hb6)
          clear hb6
          go_wp2_with fail
          refine (same_eE 6 5 _ (HGG.out _ L6.out.1)).mono ?_
          rintro e w7 ⟨rfl, hb7⟩
          have L7 := Lib.hid (L6.out.below hb7)
          clear hb7
          go_wp2_with fail
          refine (same_eE 6 6 _ (HGG.out _ L7.out.1)).mono ?_
          rintro e w8 ⟨rfl, hb8⟩
          have L8 := Lib.hid (L7.out.below hb8)
          clear hb8
          go_wp2_with fail
          go_roundw
          case rel => exact ⟨i + 1, by omega, by go_num, by go_num, Lib.hid ⟨fun h => by omega, fun _ => L8.out⟩⟩
          case measure => first | (simp [intOf]; done) | (simp [intOf]; omega)
      · obtain rfl : i = mn := by omega
        have HK := Lib.hid (LJ.last ha hm HJ.out)
        clear HJ
        have d0 : ¬ ((i : Int) < (i : Int)) := by omega
        go_wp2_with fail
        go_loopw [9, 18] (fun s9 _ wr => ∃ k : Nat, s9 = .int .i64 k ∧ k ≤ 100 ∧ Hid (LK w P af k wr)) (fun s9 _ _ => af + 1 - (intOf s9).toNat)
        case atStart => exact ⟨i, rfl, by omega, HK⟩
        case round =>
          clear HK
          obtain ⟨k, rfl, hk, HK⟩ := hrel
          by_cases hle : k ≤ af
          · have d1 : (k : Int) ≤ (af : Int) := by omega
            obtain ⟨N, sf, jk, hN, hsf, hjk, hjs, hl, hd⟩ := HK.out
            have hL := hl hle
            clear hl hd HK
            by_cases he : k = af
            · subst he
              rw [Int.sub_self] at hL
              have L := Lib.hid hL; have HSF := Lib.hid hsf
              clear hL hsf hjk hjs
              go_wp2_with fail
              refine (live_sync_stop L.out).mono ?_
              rintro e w4 ⟨rfl, hL4⟩
              have L4 := Lib.hid hL4
              clear hL4
              go_wp2_with fail
              go_roundw
              case rel => exact ⟨k + 1, by go_num, by omega, Lib.hid ⟨N, sf, ⟨#[]⟩, hN, HSF.out, fun x hx => by simp at hx, by decide, fun h => by omega, fun _ => L4.out⟩⟩
              case measure => first | (simp [intOf]; done) | (simp [intOf]; omega)
            · have d2 : ((k : Int) == (af : Int)) = false := beq_eq_false_iff_ne.2 (by omega)
              have L := Lib.hid hL
              have hlf : lfN ((af : Int) - k) = (af : Int) - ((k + 1 : Nat) : Int) := by unfold lfN; omega
              have HLF := Lib.hid hlf
              clear hL hsf hjk hjs hlf
              go_wp2_with fail
              refine (live_sync L.out (by omega) (by omega) (by omega)).mono ?_
              rintro e w4 ⟨rfl, hL4⟩
              rw [HLF.out] at hL4
              have L4 := Lib.hid hL4
              clear hL4
              go_wp2_with fail
              go_roundw
              case rel => exact ⟨k + 1, by go_num, by omega, Lib.hid ⟨N, _, ⟨#[]⟩, hN, Nat.le_refl _, fun x hx => by simp at hx, by decide, fun _ => L4.out, fun h => by omega⟩⟩
              case measure => first | (simp [intOf]; done) | (simp [intOf]; omega)
          · have d1 : ¬ ((k : Int) ≤ (af : Int)) := by omega
            obtain ⟨N, sf, jk, hN, hsf, hjk, hjs, hl, hd⟩ := HK.out
            have L := Lib.hid (hd (by omega))
            have HSF := Lib.hid hsf; have HJK := Lib.hid hjk; have HJS := Lib.hid hjs
            clear hl hd HK hsf hjk hjs
            go_wp2_with fail
            refine (dead_sync L.out).mono ?_
            rintro e w4 ⟨rfl, rfl⟩
            go_wp2_with fail
            refine (do_dead (L.out.below (bal1 _ _)) 2 1 0 _ 1 1 [vn 3] rfl).mono ?_
            rintro e w5 ⟨rfl, hL5⟩
            have L5 := Lib.hid hL5
            clear hL5
            go_wp2_with fail
            refine (same_eE 6 6 _ (HGG.out _ L5.out.1)).mono ?_
            rintro e w6 ⟨rfl, hb6⟩
            have L6 := Lib.hid (L5.out.below hb6)
            clear hb6
            go_wp2_with fail
            refine (same_eE 6 6 _ (HGG.out _ L6.out.1)).mono ?_
            rintro e w7 ⟨rfl, hb7⟩
            have L7 := Lib.hid (L6.out.below hb7)
            clear hb7
            go_wp2_with fail
            refine (dead_crash L7.out HT.out (vd_Dn N (by omega)) (by rw [Dn_len]; omega) HJK.out HJS.out (by rw [size_app]; have := HSF.out; omega) keep).mono ?_
            rintro e w8 ⟨⟨v8, rfl⟩, c, hc, hL8⟩
            have hc1 := hc.1
            rw [Dn_len] at hc1
            rw [Dn_take hc1] at hL8
            have L8 := Lib.hid hL8
            clear hL8 hc
            go_wp2_with fail
            refine (live_mark L8.out HT.out (vd_Dn c (by omega))).mono ?_
            rintro e w9 ⟨rfl, hL9⟩
            rw [Dn_len]
            have L9 := Lib.hid hL9
            clear hL9
            go_wp2_with fail
            refine (put_last (L9.out.below (bal1 _ _)) HT.out (by omega) _ (vin_lit w9 (vn 3))).mono ?_
            rintro e w10 ⟨rfl, hL10⟩
            have L10 := Lib.hid hL10
            clear hL10
            go_wp2_with fail
            refine (live_sync L10.out (by decide) (by decide) (by decide)).mono ?_
            rintro e w11 ⟨rfl, hL11⟩
            have L11 := Lib.hid hL11
            clear hL11
            go_wp2_with fail
            refine (live_mark L11.out HT.out (vd_last (by omega))).mono ?_
            rintro e w12 ⟨rfl, hL12⟩
            rw [List.length_append, Dn_len, show [an 2 1 3].length = 1 from rfl]
            have L12 := Lib.hid hL12
            clear hL12
            go_wp2_with (first
              | (go_at_call 23; refine (live_safe L12.out).mono ?_; rintro e w' ⟨rfl, rfl⟩)
              | (go_at_call 13; refine (live_bytes L12.out).mono ?_; rintro e w' ⟨rfl, rfl⟩))
            go_ret
            exact ⟨ret_true (by first | rfl | (simp; done) | (simp; omega)), L12.out.1⟩
  · have hb : ∀ W, Below w.heap.size w W → True := fun _ _ => trivial
    have cases4 : after < 0 ∨ (¬ after < 0 ∧ (15 < after ∨ (¬ 15 < after ∧ (many < 0 ∨ (¬ many < 0 ∧ 15 < many))))) := by omega
    rcases cases4 with y1 | ⟨y1, y2 | ⟨y2, y3 | ⟨y3, y4⟩⟩⟩
    all_goals
      go_enter Tryz.func7, Tryz.ntmps7
      go_wp2_with fail
      refine (new_live (bal (bal1 _ _) _) HX.out).mono ?_
      rintro e w2 ⟨P, rfl, hL2⟩
      have L2 := Lib.hid hL2
      clear hL2
      go_wp2_with fail
      go_ret
      exact ⟨ret_true (by first | rfl | (simp; done) | (simp; omega)), L2.out.1⟩
end Go.Proofs.YtpgemofkolmabaaGreatDoor.logStops
