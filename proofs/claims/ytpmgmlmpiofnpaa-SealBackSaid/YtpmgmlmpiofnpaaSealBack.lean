/- SealBackSaid: WHAT IS SEALED IS OPENED BY AS MANY: for every text, rest, number of shares, and place from which. -/
import Derived.Test.YtpmgmlmpiofnpaaRows
import Derived.Test.YtpmgmlmpiofnpaaSealPlain
import Derived.WalkKit
import Derived.ProofKit
import Derived.OpenShut
import Derived.ShutString
import Derived.ChangeOld
import Derived.WalkLawsBesides
import Derived.WalkSpells
import Derived.RegionTactic
import Derived.ChangeAlike
namespace Go.Proofs.Ytpmgmlmpiofnpaa.sealBack
open Go.ChangeShapes Go.WideShapes Go.ChangeAt Go.RowKit
set_option linter.unusedVariables false

theorem fok : ∀ i, i < (⟨#[65]⟩ : ByteArray).size → shE (gB ⟨#[65]⟩ i) (gg [[1]] i) 2 = 0 := by
  intro i hi
  obtain rfl : i = 0 := by
    have : i < 1 := hi
    omega
  decide
theorem fl : sealL ⟨#[65]⟩ [[1]] (2 : Int).toNat (⟨#[65]⟩ : ByteArray).size = [[(1, 66), (2, 67)]] := by decide
theorem fact (A : Option Addr) (cap : Nat) (w : World) (hA : Many Ints w A [[1]]) :
    Calls Try.prog 31 #[.string ⟨#[65]⟩, .slice A 1 cap, .int .i64 2] w fun e w' => Below w.heap.size w w' ∧ ∃ b off c' b2 o2 C, e = .returned (.tuple #[.slice (some ⟨b, off, none⟩) 1 c', .nilIface]) ∧
      w'.cell? ⟨b, off, none⟩ = some (.slice (some ⟨b2, o2, none⟩) 2 C) ∧ w'.cell? ⟨b2, o2 + 1, none⟩ = some (.int .i64 66) ∧ w'.cell? ⟨b2, o2 + 2 + 1, none⟩ = some (.int .i64 67) := by
  refine (seal_any ⟨#[65]⟩ A cap [[1]] 2 (by decide) rfl 1 (by decide) fok (.inl rfl) w hA).mono ?_
  rintro e w' ⟨hb, ⟨-, A', c', rfl, ho⟩ | ⟨h, -⟩⟩
  · have hM := ho.many
    rw [fl] at hM
    obtain ⟨b, off, B, C, rfl, hl, hc, hq, _⟩ := hM.at_ (i := 0) (by decide)
    obtain ⟨b2, o2, rfl, _, _, k0⟩ := hq.at_ (i := 0) (by decide)
    obtain ⟨b2', o2', e2, _, _, k1⟩ := hq.at_ (i := 1) (by decide)
    simp only [Option.some.injEq, Addr.mk.injEq, and_true] at e2
    obtain ⟨rfl, rfl⟩ := e2
    exact ⟨hb, b, off, c', b2, o2, C, rfl, hc, by have h := k0; rw [Nat.zero_mul, Nat.add_zero] at h; exact h, k1⟩
  · exact absurd h (by decide)

set_option maxHeartbeats 1600000 in
set_option maxRecDepth 100000 in
theorem walk_zero (w : World) (t : ByteArray) (ht : t.size ≤ maxLen) (A : Option Addr) (c : Nat) (rest : List (List Int)) (hrc : rest.length ≤ c) (hcm : c ≤ maxLen) (hA : Many Ints w A rest)
    (m : Int) (hm : I64 m) (fr : Int) (hf : I64 fr) (h12 : t.size ≤ 12) (hrl : rest.length = t.size) (hok : ∀ i, i < t.size → shE (gB t i) (gg rest i) m = 0) (hs : ∀ w, Many Ints w A rest → Calls Try.prog 31 #[.string t, .slice A rest.length c, .int .i64 m] w fun e w' => Below w.heap.size w w' ∧ ∃ A' c', e = .returned (.tuple #[.slice A' t.size c', .nilIface]) ∧ OSharess w' w.heap.size A' c' (sealL t rest m.toNat t.size)) (h0 : t.size = 0) :
    Calls Try.prog 15 #[.string t, .slice A rest.length c, .int .i64 m, .int .i64 fr] w fun e w' => e = .returned (.bool true) ∧ Below w.heap.size w w' := by
  have hbm := fun n f need h hn h1 hr => back_text t rest n f need h hn h1 hr
  have HBM := Lib.hid hbm; clear hbm
  have HOK := Lib.hid hok; clear hok hrc hcm ht
  have HRL := Lib.hid hrl
  have hsl : sealL t rest m.toNat t.size = [] := by rw [h0]; rfl
  have htn : t = ⟨#[]⟩ := ByteArray.ext (Array.eq_empty_of_size_eq_zero h0)
  have HT := Lib.hid htn
  have HSL := Lib.hid hsl
  rw [h0] at hrl
  rw [hrl] at hs
  have HS := Lib.hid hs; clear hs
  have c3 := fun W A c => open_any A c [] 1 (by simp) 0 (by simp) (fun i hi => absurd hi (by omega)) (.inl rfl) W ⟨fun _ => none, fun _ => 0, Sl.zero, fun i hi => absurd hi (by simp)⟩
  simp only [List.length_nil] at c3
  have C3 := Lib.hid c3
  have htt : t.toList = [] := by rw [htn, ByteArray.toList_eq]
  have H0 := Lib.hid h0
  clear htn hsl c3 h12 
  go_enter Try.func15, Try.ntmps15
  go_wp2_with fail
  refine (fact _ _ _ (one_many (Q := Ints) _ _ [1] 1 _ (by simp) (Sl.alloc (one_ints _ _ _ (by simp)) _) (by decide) (by decide))).mono ?_
  rintro e w1 ⟨hb1, b1, o1, c1, b2, o2, C2, rfl, k0, k1, k2⟩
  have hb1' : Below w.heap.size w w1 := bcl (bal (bal1 _ _) _) hb1
  have hA1 := many_ints_below hA hb1'
  clear hb1
  go_wp2_with fail
  refine (HS.out _ hA1).mono ?_
  rintro e w2 ⟨hb2, A2, c2, rfl, ho2⟩
  have hb2' := bcl hb1' hb2
  clear k0 k1 k2 hb2 hb1' ho2 hA1
  rw [H0.out]
  go_wp2_with fail
  go_loopw [13, 14] (fun a i wr => a = .int .i64 1 ∧ i = .int .i64 0 ∧ wr = w2) (fun _ _ _ => 0)
  case atStart => exact ⟨rfl, rfl, rfl⟩
  case round =>
    obtain ⟨rfl, rfl, rfl⟩ := hrel
    obtain ⟨wq, rfl⟩ : ∃ wq : World, wq = wr := ⟨_, rfl⟩
    by_cases hq1 : fr < 0
    all_goals
      go_wp2_with fail
    all_goals
      go_loopw [15, 16] (fun o i wx => o = .slice none 0 0 ∧ i = .int .i64 0 ∧ wx = wq) (fun _ _ _ => 0)
      case atStart => exact ⟨rfl, rfl, rfl⟩
      case round =>
        obtain ⟨rfl, rfl, rfl⟩ := hrel
        go_wp2_with fail
        refine (C3.out _ _ _).mono ?_
        rintro e w3 ⟨hb3, ⟨-, rfl⟩ | ⟨h, -⟩⟩
        · rw [show (openL [] 1 0).toArray = #[] from rfl]
          go_wp2_with fail
          go_ret
          exact ⟨ret_true (by first | rfl | (simp; done) | (simp; omega)), bcl hb2' hb3⟩
        · exact absurd h (by simp)
set_option maxHeartbeats 1600000 in
set_option maxRecDepth 100000 in
theorem walk_pos (w : World) (t : ByteArray) (ht : t.size ≤ maxLen) (A : Option Addr) (c : Nat) (rest : List (List Int)) (hrc : rest.length ≤ c) (hcm : c ≤ maxLen) (hA : Many Ints w A rest)
    (m : Int) (hm : I64 m) (fr : Int) (hf : I64 fr) (h12 : t.size ≤ 12) (hrl : rest.length = t.size) (hok : ∀ i, i < t.size → shE (gB t i) (gg rest i) m = 0) (hs : ∀ w, Many Ints w A rest → Calls Try.prog 31 #[.string t, .slice A rest.length c, .int .i64 m] w fun e w' => Below w.heap.size w w' ∧ ∃ A' c', e = .returned (.tuple #[.slice A' t.size c', .nilIface]) ∧ OSharess w' w.heap.size A' c' (sealL t rest m.toNat t.size)) (h0 : 0 < t.size) :
    Calls Try.prog 15 #[.string t, .slice A rest.length c, .int .i64 m, .int .i64 fr] w fun e w' => e = .returned (.bool true) ∧ Below w.heap.size w w' := by
  have hbm := fun n f need h hn h1 hr => back_text t rest n f need h hn h1 hr
  have HBM := Lib.hid hbm; clear hbm
  have HOK := Lib.hid hok; clear hok hrc hcm ht
  have HRL := Lib.hid hrl
  have hn7 := manB_true.1 (shE_zero (HOK.out 0 h0)).2.2.2.1
  obtain ⟨n, rfl⟩ := Int.eq_ofNat_of_zero_le (show 0 ≤ m by omega)
  have hn : n ≤ 7 := by omega
  have hle : ∀ i, i < t.size → (gg rest i).length + 1 ≤ n := fun i hi => by
    have := (shE_zero (HOK.out i hi)).2.2.2.2; omega
  have hN1 := nd_pos rest t.size
  have hN2 := nd_le rest t.size n (by omega) hle
  have HLE := Lib.hid hle
  have HND := Lib.hid (nd_ge rest t.size)
  have hnd : ∀ k, nd rest (k + 1) = if nd rest k < (gg rest k).length + 1 then (gg rest k).length + 1 else nd rest k := fun k => rfl
  have HNS := Lib.hid hnd
  have HNB := Lib.hid (fun k (hk : k ≤ t.size) => nd_le rest k n (by omega) fun i hi => hle i (by omega))
  rw [show (n : Int).toNat = n from rfl] at hs
  rw [hrl] at hs
  have HS := Lib.hid hs
  have hl12 : rest.length ≤ 12 := by omega
  clear hs hle hnd hn7 hm
  go_enter Try.func15, Try.ntmps15
  go_wp2_with fail
  refine (fact _ _ _ (one_many (Q := Ints) _ _ [1] 1 _ (by simp) (Sl.alloc (one_ints _ _ _ (by simp)) _) (by decide) (by decide))).mono ?_
  rintro e w1 ⟨hb1, b1, o1, c1, b2, o2, C2, rfl, k0, k1, k2⟩
  have hb1' : Below w.heap.size w w1 := bcl (bal (bal1 _ _) _) hb1
  have hA1 := many_ints_below hA hb1'
  clear hb1
  go_wp2_with fail
  refine (HS.out _ hA1).mono ?_
  rintro e w2 ⟨hb2, A2, c2, rfl, ho2⟩
  have hb2' := bcl hb1' hb2
  have hA2 := many_ints_below hA1 hb2
  have hM2 := ho2.many
  have hcp := ho2.cap
  clear k0 k1 k2 hb2 hb1' ho2 hA1
  have HM2 := Lib.hid hM2; have HA2 := Lib.hid hA2
  clear hM2 hA2
  go_wp2_with fail
  go_loopw [13, 14] (fun a i wr => ∃ k : Nat, k ≤ t.size ∧ a = .int .i64 (nd rest k) ∧ i = .int .i64 k ∧ wr = w2) (fun _ i _ => t.size - (intOf i).toNat)
  case atStart => exact ⟨0, Nat.zero_le _, rfl, rfl, rfl⟩
  case round =>
    obtain ⟨k, hk, rfl, rfl, rfl⟩ := hrel
    by_cases hlt : k < t.size
    · obtain ⟨b, off, B, C, rfl, hbl, hcell, hq, hq1, hq2⟩ := HA2.out.at_ (i := k) (by omega)
      have hl1 := HLE.out k hlt
      have hs := HNS.out k
      have hnb := HNB.out k hk
      by_cases hc : nd rest k < (gg rest k).length + 1
      · rw [if_pos hc] at hs
        have HS1 := Lib.hid hs; clear hs hq
        go_wp2_with fail
        go_roundw
        case rel => exact ⟨k + 1, by omega, by rw [HS1.out]; go_num, by go_num, by first | rfl | trivial⟩
        case measure => simp [intOf]; omega
      · rw [if_neg hc] at hs
        have HS1 := Lib.hid hs; clear hs hq
        go_wp2_with fail
        go_roundw
        case rel => exact ⟨k + 1, by omega, by rw [HS1.out], by go_num, by first | rfl | trivial⟩
        case measure => simp [intOf]; omega
    · obtain rfl : k = t.size := by omega
      obtain ⟨wq, rfl⟩ : ∃ wq : World, wq = wr := ⟨_, rfl⟩
      have hlen := HND.out
      obtain ⟨N, hN⟩ : ∃ N, nd rest t.size = N := ⟨_, rfl⟩
      rw [hN] at hlen hN1 hN2 ⊢
      have HLN := Lib.hid hlen
      clear hlen hN HND HNS HNB HLE
      have hgo : ∀ f : Nat, f + N ≤ n → ∀ W A' c', Many Shares W A' (midL t rest n f N t.size) → Calls Try.prog 32 #[.slice A' t.size c', .int .i64 N] W fun e w' => Below W.heap.size W w' ∧ e = .returned (.tuple #[.string t, .nilIface]) := by
        intro f hfN W A' c' hW
        obtain ⟨k1, k2⟩ := HBM.out n f N hfN hn hN1 HLN.out
        have h := open_any A' c' (midL t rest n f N t.size) N (by rw [midL_length]; omega) t.size (by rw [midL_length]; exact Nat.le_refl _) k1 (.inl (by rw [midL_length])) W hW
        rw [midL_length] at h
        refine h.mono ?_
        rintro e w' ⟨hb, ⟨-, rfl⟩ | ⟨h, -⟩⟩
        · exact ⟨hb, by rw [k2]⟩
        · omega
      have HGO := Lib.hid hgo
      clear hgo HBM HOK HLN
      have hwz : ∀ f : Nat, f + N ≤ n → (f : Int) + N ≤ n := fun f h => by omega
      by_cases hq : fr < 0 ∨ (n : Int) - N < fr
      · have hfN : 0 + N ≤ n := by omega
        rcases hq with hq | hq
        all_goals
          go_wp2_with fail
        all_goals
          go_loopw [15, 16] (fun o i wr => ∃ (k : Nat) (A' : Option Addr) (c' : Nat), k ≤ t.size ∧ i = .int .i64 k ∧ o = .slice A' (midL t rest n 0 N k).length c' ∧ OSharess wr wq.heap.size A' c' (midL t rest n 0 N k) ∧ Below wq.heap.size wq wr) (fun _ i _ => t.size - (intOf i).toNat)
          case atStart => exact ⟨0, none, 0, Nat.zero_le _, rfl, rfl, OMany.nil, Below.refl _ _⟩
          case round =>
            obtain ⟨k, A', c', hk, rfl, rfl, ho, hb⟩ := hrel
            have hz := hb.size
            have hml := midL_length t rest n 0 N k
            by_cases hlt : k < t.size
            · obtain ⟨b, off, B, C, rfl, hbl, hcell, hq, hq1, hq2⟩ := HM2.out.at_ (i := k) (by rw [sealL_length]; exact hlt)
              rw [sealL_at _ _ _ _ _ hlt] at hcell hq hq1
              rw [dealL_length] at hcell hq1
              obtain ⟨b2, o2, rfl, hbl2, hSd⟩ := hq.drop (i := 0) (by rw [dealL_length]; omega)
              have hSm := hSd.take (n := N) (by rw [List.length_drop, dealL_length]; omega)
              have hSr := hSm.below hb (Nat.le_refl _)
              have hmd : ((dealL (gB t k :: gg rest k) n).drop 0).take N = mid (gB t k :: gg rest k) n 0 N := rfl
              rw [hmd] at hSr
              rw [Nat.zero_mul, Nat.add_zero] at hSr
              have hmdl := mid_length (p := gB t k :: gg rest k) hfN
              have hs := midL_succ t rest n 0 N k
              have hc2 := (hb.cell (p := ⟨b, off + k, none⟩) hbl).trans hcell
              generalize mid (gB t k :: gg rest k) n 0 N = M at *
              have HS1 := Lib.hid hs; have HML := Lib.hid hml; have HMD := Lib.hid hmdl; have HSR := Lib.hid hSr
              have hl6 : (midL t rest n 0 N k).length ≤ 1000000 := by omega
              unfold maxLen at hq2
              clear hs hml hmdl hSr hSm hSd hmd hcell hq
              go_wp2_with (at_builtin; refine wpList_append_many shares_stay rfl _ _ 55 49 45 rfl Try.underlying55 infoShs (by decide) wq.heap.size A' c' (midL t rest n 0 N k) rfl (ho.keep shares_stay hz (bal1 _ _)) wr.heap.size (some ⟨b2, o2, none⟩) M C rfl (by rw [HMD.out]; exact cell_new1 _ _ _) (Sl.alloc HSR.out _) (by rw [HMD.out]; omega) (by unfold maxLen; omega) (fun a ha => .inl (by cases ha; exact hbl2)) hl6 (le_al hz _) ?_; intro A3 c3 w3 ho3 hb3)
              go_roundw
              case rel => exact ⟨k + 1, A3, c3, by omega, by go_num, by rw [HS1.out]; simp, by rw [HS1.out]; exact ho3, (bal hb _).trans hb3⟩
              case measure => simp [intOf]; omega
            · obtain rfl : k = t.size := by omega
              have hMo := ho.many
              rw [hml]
              clear hml ho
              go_wp2_with fail
              refine (HGO.out 0 hfN _ _ _ hMo).mono ?_
              rintro e w4 ⟨hb4, rfl⟩
              go_wp2_with fail
              go_ret
              exact ⟨ret_true (by first | rfl | (simp; done) | (simp; omega)), hb2'.trans ((bcl hb hb4).mono hb2'.size)⟩
      · obtain ⟨f, rfl⟩ := Int.eq_ofNat_of_zero_le (show 0 ≤ fr by omega)
        have hfN : f + N ≤ n := by omega
        clear hq
        go_wp2_with fail
        go_loopw [15, 16] (fun o i wr => ∃ (k : Nat) (A' : Option Addr) (c' : Nat), k ≤ t.size ∧ i = .int .i64 k ∧ o = .slice A' (midL t rest n f N k).length c' ∧ OSharess wr wq.heap.size A' c' (midL t rest n f N k) ∧ Below wq.heap.size wq wr) (fun _ i _ => t.size - (intOf i).toNat)
        case atStart => exact ⟨0, none, 0, Nat.zero_le _, rfl, rfl, OMany.nil, Below.refl _ _⟩
        case round =>
          obtain ⟨k, A', c', hk, rfl, rfl, ho, hb⟩ := hrel
          have hz := hb.size
          have hml := midL_length t rest n f N k
          by_cases hlt : k < t.size
          · obtain ⟨b, off, B, C, rfl, hbl, hcell, hq, hq1, hq2⟩ := HM2.out.at_ (i := k) (by rw [sealL_length]; exact hlt)
            rw [sealL_at _ _ _ _ _ hlt] at hcell hq hq1
            rw [dealL_length] at hcell hq1
            obtain ⟨b2, o2, rfl, hbl2, hSd⟩ := hq.drop (i := f) (by rw [dealL_length]; omega)
            have hSm := hSd.take (n := N) (by rw [List.length_drop, dealL_length]; omega)
            have hSr := hSm.below hb (Nat.le_refl _)
            have hmd : ((dealL (gB t k :: gg rest k) n).drop f).take N = mid (gB t k :: gg rest k) n f N := rfl
            rw [hmd] at hSr
            have hmdl := mid_length (p := gB t k :: gg rest k) hfN
            have hs := midL_succ t rest n f N k
            have hc2 := (hb.cell (p := ⟨b, off + k, none⟩) hbl).trans hcell
            generalize mid (gB t k :: gg rest k) n f N = M at *
            have HS1 := Lib.hid hs; have HML := Lib.hid hml; have HMD := Lib.hid hmdl; have HSR := Lib.hid hSr
            have hl6 : (midL t rest n f N k).length ≤ 1000000 := by omega
            have hck : (C = f) = False := by simp; omega
            unfold maxLen at hq2
            clear hs hml hmdl hSr hSm hSd hmd hcell hq
            go_wp2_with (at_builtin; refine wpList_append_many shares_stay rfl _ _ 55 49 45 rfl Try.underlying55 infoShs (by decide) wq.heap.size A' c' (midL t rest n f N k) rfl (ho.keep shares_stay hz (bal1 _ _)) wr.heap.size (some ⟨b2, o2 + f * 2, none⟩) M (C - f) rfl (by rw [HMD.out]; exact cell_new1 _ _ _) (Sl.alloc HSR.out _) (by rw [HMD.out]; omega) (by unfold maxLen; omega) (fun a ha => .inl (by cases ha; exact hbl2)) hl6 (le_al hz _) ?_; intro A3 c3 w3 ho3 hb3)
            go_roundw
            case rel => exact ⟨k + 1, A3, c3, by omega, by go_num, by rw [HS1.out]; simp, by rw [HS1.out]; exact ho3, (bal hb _).trans hb3⟩
            case measure => simp [intOf]; omega
          · obtain rfl : k = t.size := by omega
            have hMo := ho.many
            rw [hml]
            clear hml ho
            go_wp2_with fail
            refine (HGO.out f hfN _ _ _ hMo).mono ?_
            rintro e w4 ⟨hb4, rfl⟩
            go_wp2_with fail
            go_ret
            exact ⟨ret_true (by first | rfl | (simp; done) | (simp; omega)), hb2'.trans ((bcl hb hb4).mono hb2'.size)⟩
set_option maxHeartbeats 8000000 in
set_option maxRecDepth 100000 in
theorem walk (w : World) (t : ByteArray) (ht : t.size ≤ maxLen) (A : Option Addr) (c : Nat) (rest : List (List Int)) (hrc : rest.length ≤ c) (hcm : c ≤ maxLen) (hA : Many Ints w A rest) (_ : ∀ i, i < rest.length → ∀ j, j < (gg rest i).length → I64 (gi (gg rest i) j))
    (m : Int) (hm : I64 m) (fr : Int) (hf : I64 fr) :
    Calls Try.prog 15 #[.string t, .slice A rest.length c, .int .i64 m, .int .i64 fr] w fun e w' => e = .returned (.bool true) ∧ Below w.heap.size w w' := by
  rcases seal_split t A c rest m ht (by omega) with hs | ⟨h12, hrl, hok, hs⟩
  · have HS := Lib.hid hs; clear hs hrc hcm ht
    go_enter Try.func15, Try.ntmps15
    go_wp2_with fail
    refine (fact _ _ _ (one_many (Q := Ints) _ _ [1] 1 _ (by simp) (Sl.alloc (one_ints _ _ _ (by simp)) _) (by decide) (by decide))).mono ?_
    rintro e w1 ⟨hb1, b1, o1, c1, b2, o2, C2, rfl, k0, k1, k2⟩
    have hb1' : Below w.heap.size w w1 := bcl (bal (bal1 _ _) _) hb1
    have hA1 := many_ints_below hA hb1'
    clear hb1
    go_wp2_with fail
    refine (HS.out _ hA1).mono ?_
    rintro e w2 ⟨hb2, E, rfl⟩
    go_wp2_with fail
    all_goals go_ret
    all_goals exact ⟨ret_true (by first | rfl | (simp; done) | (simp; omega)), bcl hb1' hb2⟩
  · rcases Nat.eq_zero_or_pos t.size with h0 | h0
    · exact walk_zero w t ht A c rest hrc hcm hA m hm fr hf h12 hrl hok hs h0
    · exact walk_pos w t ht A c rest hrc hcm hA m hm fr hf h12 hrl hok hs h0

/-! ### the row's frame -/
theorem own : ownKnob Try.prog.godebug = none := by kernel_rfl
theorem laidOut : laidOutB Try.prog = true := by kernel_rfl

set_option maxRecDepth 100000 in
theorem lifted (os : Os) (started : os.Started) (H : Type) (enc : TypeId × Value → H) :
    ReturnsInHanded {} Try.checked os 15 .any (Rows.sealBackSpec.pre6 enc Try.prog Try.f15 Rows.sealBackRow.domain false) (Rows.sealBackSpec.post enc Try.prog Try.f15 false true false false) := by
  refine returnsInHanded_of_change (C := Try.checked) own started (by kernel_rfl) Try.func15
    (ChangeSpec.witness6 (enc := enc) (C := Try.checked) false ⟨#[], #[.string ByteArray.empty, .slice none 0 0, .int .i64 0, .int .i64 0], []⟩ 8 (by kernel_rfl) (by kernel_rfl) (by kernel_rfl) (by kernel_rfl)) ?_
  intro W base args ds gs before hval0 hW hcnd _
  have hval : ∀ (j : Nat) t v, Try.f15.params[j]? = some t → args[j]? = some v → Value.okWide Try.prog W .any base t v := hval0
  have hW' := hW
  obtain ⟨p, q, hA0, hV, rfl, hfz, hnd⟩ := hW
  have hA : DataW.TrodAll enc Try.prog W 0 (fun _ => true) true Try.f15.params.toList args.toList ds p := hA0
  rw [Try.params15] at hA hval
  obtain ⟨v0, vs0, d0, ds0, p0, q0, hargs, rfl, rfl, h0, r0⟩ := trodAll_cons hA
  obtain ⟨v1, vs1, d1, ds1, p1, q1, rfl, rfl, rfl, h1, r1⟩ := trodAll_cons r0
  obtain ⟨v2, vs2, d2, ds2, p2, q2, rfl, rfl, rfl, h2, r2⟩ := trodAll_cons r1
  obtain ⟨v3, vs3, d3, ds3, p3, q3, rfl, rfl, rfl, h3, r3⟩ := trodAll_cons r2
  obtain ⟨rfl, rfl, rfl⟩ := trodAll_nil r3
  obtain rfl : args = #[v0, v1, v2, v3] := by cases args; simp_all
  obtain ⟨rfl, rfl⟩ := trodVars_none hV
  have k0 := h0
  have lt0 : ∀ x ∈ p0, x.block < W.heap.size := by obtain ⟨m, hm⟩ := k0; exact DataW.trod_lt m _ _ _ hm
  obtain ⟨x0, rfl, w0⟩ := arg_string Try.underlying9 (hval 0 9 v0 rfl rfl) h0
  have k1 := h1
  have lt1 : ∀ x ∈ p1, x.block < W.heap.size := by obtain ⟨m, hm⟩ := k1; exact DataW.trod_lt m _ _ _ hm
  obtain ⟨A1, c1, x1, rfl, hc1, hm1, hA1, w1⟩ := arg_Many (Q := Ints) (R := fun l => ∀ i, i < l.length → I64 (gi l i)) Try.underlying59 (by kernel_rfl) (fun _ _ _ h => open_Ints Try.underlying36 Try.underlying3 (by kernel_rfl) h) (hval 1 59 v1 rfl rfl) h1
  have k2 := h2
  have lt2 : ∀ x ∈ p2, x.block < W.heap.size := by obtain ⟨m, hm⟩ := k2; exact DataW.trod_lt m _ _ _ hm
  obtain ⟨x2, rfl, w2⟩ := arg_int Try.underlying3 (hval 2 3 v2 rfl rfl) h2
  have k3 := h3
  have lt3 : ∀ x ∈ p3, x.block < W.heap.size := by obtain ⟨m, hm⟩ := k3; exact DataW.trod_lt m _ _ _ hm
  obtain ⟨x3, rfl, w3⟩ := arg_int Try.underlying3 (hval 3 3 v3 rfl rfl) h3
  clear hA0 hval0
  refine (walk W x0 w0 A1 c1 x1 hc1 hm1 hA1 w1 x2 w2 x3 w3).mono fun e W' ⟨he, bel⟩ => ?_
  subst he
  exact ⟨_, rfl, _, _, _, [], _, [], hW', trodAll_mk1 (shut_bool Try.underlying4 _), (trodAll_cons_mk (Below.trod laidOut (by kernel_rfl) (of_decide_eq_true (by kernel_rfl)) k0 bel lt0) (trodAll_cons_mk (Below.trod laidOut (by kernel_rfl) (of_decide_eq_true (by kernel_rfl)) k1 bel lt1) (trodAll_cons_mk (Below.trod laidOut (by kernel_rfl) (of_decide_eq_true (by kernel_rfl)) k2 bel lt2) (trodAll_cons_mk (Below.trod laidOut (by kernel_rfl) (of_decide_eq_true (by kernel_rfl)) k3 bel lt3) trodAll_mk0)))), rfl, bel.frame _, fun h => by cases h⟩

theorem over : Rows.sealBackRow.holds Try.pinned (OpenSpec.ofChange Rows.sealBackSpec) :=
  OpenClaim.holds_of_wide 15 Try.f15 rfl rfl rfl rfl rfl rfl rfl ⟨rfl, rfl, rfl, rfl, rfl⟩ rfl rfl rfl rfl rfl (by kernel_rfl) Try.func15 (by kernel_rfl)
    (of_decide_eq_true (by kernel_rfl)) (by unfold Func.isWrapper; first | (rw [if_pos (by decide +kernel)]; kernel_rfl) | (rw [if_neg (by decide +kernel)]; exact ⟨rfl, rfl⟩))
    (fun os started H enc _ => lifted os started H enc)

theorem proved : Rows.SealBackSaid := over
#print axioms proved


end Go.Proofs.Ytpmgmlmpiofnpaa.sealBack
