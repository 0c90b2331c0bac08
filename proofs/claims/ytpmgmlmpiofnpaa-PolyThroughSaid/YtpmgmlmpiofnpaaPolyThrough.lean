/- PolyThroughSaid: AS MANY POINTS AS FACTORS TELL IT ALL (Lagrange): for every list of factors, places, a place, and points. -/
import Derived.Test.YtpmgmlmpiofnpaaRows
import Derived.Test.YtpmgmlmpiofnpaaShare
import Derived.WalkKit
import Derived.ProofKit
import Derived.OpenShut
import Derived.ShutString
import Derived.ChangeOld
import Derived.WalkLawsBesides
import Derived.WalkSpells
import Derived.RegionTactic
import Derived.ChangeAlike
namespace Go.Proofs.Ytpmgmlmpiofnpaa.polyThrough
open Go.ChangeShapes Go.WideShapes Go.ChangeAt Go.RowKit
set_option linter.unusedVariables false

def pl0 : List Sh := [(1, 5), (2, 7)]
theorem pl0_poi : poiE pl0 = 0 := by decide
theorem pl0_zero : thrL pl0 0 = 3 := by decide +kernel
theorem lit_shares2 (w : World) (t : TypeId) {g : Nat} (hg : g = w.heap.size) : Shares (w.alloc (.cells #[.int .i64 1, .int .i64 5, .int .i64 2, .int .i64 7] t)) (some ⟨g, 0, none⟩) pl0 := fun _ => by
  subst hg
  refine ⟨w.heap.size, 0, rfl, by simp, fun i hi j hj => ?_⟩
  have hi' : i < 2 := hi
  rcases (show i = 0 ∨ i = 1 by omega) with rfl | rfl <;> rcases (show j = 0 ∨ j = 1 by omega) with rfl | rfl <;> simp [shc, ga, gb, pl0]

/-- may At be asked? -/
def aB (p : List Int) (x : Int) : Bool := decide (p.length ≤ 7) && allIn p p.length && inB x
theorem aB_true {p : List Int} {x : Int} : aB p x = true ↔ p.length ≤ 7 ∧ allIn p p.length = true ∧ inB x = true := by simp [aB, and_assoc]
theorem at_bad (A : Option Addr) (cap : Nat) (p : List Int) (x : Int) (h : aB p x = false) : ∃ n, ∀ w, Ints w A p → Calls Try.prog 26 #[.slice A p.length cap, .int .i64 x] w fun e W' => e = .returned (.tuple #[.int .i64 0, errV n]) ∧ w = W' := by
  rcases facV_cases p with ⟨h1, h2⟩ | h1 | h1
  · have h3 : inB x = false := by
      cases hx : inB x with
      | false => rfl
      | true => rw [aB_true.2 ⟨h1, h2, hx⟩] at h; cases h
    exact ⟨1, fun w hI => at_place A cap p x h1 h2 h3 w hI⟩
  · exact ⟨4, fun w hI => at_fac A cap p x 4 h1 w hI⟩
  · exact ⟨1, fun w hI => at_fac A cap p x 1 h1 w hI⟩
/-- the points, behind k rounds -/
def pts (p a : List Int) : Nat → List Sh
  | 0 => []
  | k + 1 => if aB p (gi a k) = true then pts p a k ++ [(gi a k, PM.hor p (gi a k))] else pts p a k
theorem pts_len (p a : List Int) (k : Nat) : (pts p a k).length ≤ k := by
  induction k with
  | zero => exact Nat.le_refl _
  | succ k ih => simp only [pts]; split
                 · simp; omega
                 · omega
theorem pts_at (p a : List Int) (k : Nat) : ∀ s ∈ pts p a k, s.2 = PM.hor p s.1 ∧ aB p s.1 = true := by
  induction k with
  | zero => intro s hs; cases hs
  | succ k ih =>
    intro s hs
    simp only [pts] at hs
    split at hs
    · rename_i h
      rcases List.mem_append.1 hs with h1 | h1
      · exact ih s h1
      · simp only [List.mem_singleton] at h1; subst h1; exact ⟨rfl, h⟩
    · exact ih s hs
theorem mem_ga (l : List Sh) (i : Nat) (h : i < l.length) : (ga l i, gb l i) ∈ l := by
  have : (ga l i, gb l i) = l[i] := by simp [ga, gb, h]
  rw [this]; exact List.getElem_mem h
/-- as many points as factors tell it all -/
theorem tells (p a : List Int) (k : Nat) (h : poiE (pts p a k) = 0) (hl : p.length ≤ (pts p a k).length) (x : Int) : thrL (pts p a k) x = PM.hor p x ∧ p.length ≤ 7 ∧ allIn p p.length = true := by
  obtain ⟨n0, n1, hpt⟩ := poi_pts _ h
  have hm := pts_at p a k
  refine ⟨PM.thr_hor hpt p hl (fun i hi => (hm _ (mem_ga _ i hi)).1) x, ?_⟩
  have := (hm _ (mem_ga _ 0 n0)).2
  exact ⟨(aB_true.1 this).1, (aB_true.1 this).2.1⟩

set_option maxHeartbeats 8000000 in
set_option maxRecDepth 100000 in
theorem walk (w : World) (A : Option Addr) (c : Nat) (p : List Int) (hpc : p.length ≤ c) (hcm : c ≤ maxLen) (hA : Ints w A p) (_ : ∀ i, i < p.length → I64 (gi p i))
    (A' : Option Addr) (c' : Nat) (a : List Int) (hac : a.length ≤ c') (hcm' : c' ≤ maxLen) (hA' : Ints w A' a) (_ : ∀ i, i < a.length → I64 (gi a i)) (x : Int) (_ : I64 x)
    (L : Option Addr) (cl : Nat) (l : List Sh) (hlc : l.length ≤ cl) (hlm : cl ≤ maxLen) (hL : Shares w L l) (_ : ∀ i, i < l.length → I64 (ga l i) ∧ I64 (gb l i)) :
    Calls Try.prog 11 #[.slice A p.length c, .slice A' a.length c', .int .i64 x, .slice L l.length cl] w fun e w' => e = .returned (.bool true) ∧ Below w.heap.size w w' := by
  have cf := fun W A cap (h0 : 2 ≤ cap) (hm : cap ≤ maxLen) (hW : Shares W A pl0) => zero_ok A cap pl0 h0 hm pl0_poi W hW
  have hv : PM.thr (ga pl0) (gb pl0) pl0.length 0 pl0.length = 3 := pl0_zero
  rw [hv, show pl0.length = 2 from rfl] at cf
  have CF := Lib.hid cf; clear cf hv
  have HPC := Lib.hid hcm; have HLM := Lib.hid hlm
  unfold maxLen at hcm hcm' hlm
  go_enter Try.func11, Try.ntmps11
  go_wp2_with fail
  refine (CF.out _ _ _ (by decide) (by decide) (lit_shares2 _ _ (by simp))).mono ?_
  rintro e w1 ⟨rfl, hb1⟩
  have hb1' : Below w.heap.size w w1 := bcl (bal1 _ _) hb1
  clear hb1
  go_wp2_with fail
  go_loopw [11, 12, 13, 14] (fun o i n r wr => ∃ (k : Nat) (Ap : Option Addr) (cp : Nat), k ≤ a.length ∧ k ≤ 7 ∧ i = .int .i64 k ∧ o = .slice Ap (pts p a k).length cp ∧ OShares wr w.heap.size Ap cp (pts p a k) ∧ Below w.heap.size w wr) (fun _ i _ _ _ => a.length - (intOf i).toNat)
  case atStart => exact ⟨0, none, 0, Nat.zero_le _, Nat.zero_le _, rfl, rfl, OShares.nil, hb1'⟩
  case round =>
    obtain ⟨k, Ap, cp, hk, hk7, rfl, rfl, ho, hb⟩ := hrel
    have hpl := pts_len p a k
    have hz := hb.size
    by_cases hlt : k < a.length ∧ k < 7
    · obtain ⟨hlt, h7⟩ := hlt
      obtain ⟨b, off, rfl, hbl, hcell⟩ := (hA'.below hb (Nat.le_refl _)).at_ hlt
      have hl6 : (pts p a k).length ≤ 1000000 := by omega
      cases hab : aB p (gi a k) with
      | true =>
        obtain ⟨q1, q2, q3⟩ := aB_true.1 hab
        have ca := at_ok A c p (gi a k) q1 q2 q3 wr (hA.below hb (Nat.le_refl _))
        have hs : pts p a (k + 1) = pts p a k ++ [(gi a k, PM.hor p (gi a k))] := by simp only [pts]; rw [if_pos hab]
        have CA := Lib.hid ca; have HS := Lib.hid hs; clear ca hs hab q2 q3
        go_wp2_with fail
        refine CA.out.mono ?_
        rintro e w2 ⟨rfl, hb2⟩
        have hcell2 := (hb2.cell (p := ⟨b, off + k, none⟩) hbl).trans hcell
        have ho2 := ho.keep hb2
        have hb2' := bcl hb hb2
        have hz2 := hb2'.size
        clear hcell ho
        go_wp2_with (at_builtin; refine wpList_append_share rfl _ _ rfl w.heap.size Ap cp _ rfl (ho2.keep (bal1 _ _)) w2.heap.size _ _ rfl (cell_new2a _ _ _ _) (cell_new2b _ _ _ _) hl6 (le_al hz2 _) ?_; intro A2 c2 w3 ho3 hb3)
        go_roundw
        case rel => exact ⟨k + 1, A2, c2, by omega, by omega, by go_num, by rw [HS.out]; simp, by rw [HS.out]; exact ho3, (bal hb2' _).trans hb3⟩
        case measure => simp [intOf]; omega
      | false =>
        obtain ⟨n, ca⟩ := at_bad A c p (gi a k) hab
        have ca := ca wr (hA.below hb (Nat.le_refl _))
        have hs : pts p a (k + 1) = pts p a k := by simp only [pts]; rw [if_neg (by rw [hab]; decide)]
        have CA := Lib.hid ca; have HS := Lib.hid hs; clear ca hs hab
        go_wp2_with fail
        refine CA.out.mono ?_
        rintro e w2 ⟨rfl, rfl⟩
        go_wp2_with fail
        go_roundw
        case rel => exact ⟨k + 1, Ap, cp, by omega, by omega, by go_num, by rw [HS.out], by rw [HS.out]; exact ho, hb⟩
        case measure => simp [intOf]; omega
    · have hz0 : (poiE l ≠ 0) ∨ poiE l = 0 := by omega
      have hP := ho.shares
      have hcap := ho.cap
      have HT := Lib.hid (tells p a k)
      have hl7 : k < 7 ∨ k = 7 := by omega
      have hexit : a.length ≤ k ∨ (k < a.length ∧ 7 ≤ k) := by omega
      clear ho hlt hl7
      generalize pts p a k = P at *
      have cases3 : (poiE P ≠ 0 ∨ (poiE P = 0 ∧ inB x = false)) ∨ (poiE P = 0 ∧ inB x = true) := by
        by_cases h1 : poiE P = 0
        · cases h2 : inB x with
          | true => exact .inr ⟨h1, rfl⟩
          | false => exact .inl (.inr ⟨h1, rfl⟩)
        · exact .inl (.inl h1)
      have hnext : ∃ v : Int, ((∃ n, (∀ W, Shares W Ap P → Calls Try.prog 27 #[.slice Ap P.length cp, .int .i64 x] W fun e W' => e = .returned (.tuple #[.int .i64 0, errV n]) ∧ Below W.heap.size W W')) ∨
          ((∀ W, Shares W Ap P → Calls Try.prog 27 #[.slice Ap P.length cp, .int .i64 x] W fun e W' => e = .returned (.tuple #[.int .i64 v, .nilIface]) ∧ Below W.heap.size W W') ∧
            (P.length < p.length ∨ (p.length ≤ P.length ∧ ∀ W, Ints W A p → Calls Try.prog 26 #[.slice A p.length c, .int .i64 x] W fun e W' => e = .returned (.tuple #[.int .i64 v, .nilIface]) ∧ Below W.heap.size W W')))) := by
        rcases cases3 with (h1 | ⟨h1, h2⟩) | ⟨h1, h2⟩
        · exact ⟨0, .inl ⟨_, fun W hW => next_poi Ap cp P x hcap.1 hcap.2 h1 W hW⟩⟩
        · exact ⟨0, .inl ⟨_, fun W hW => next_place Ap cp P x hcap.1 hcap.2 h1 h2 W hW⟩⟩
        · refine ⟨thrL P x, .inr ⟨fun W hW => next_ok Ap cp P x hcap.1 hcap.2 h1 h2 W hW, ?_⟩⟩
          rcases Nat.lt_or_ge P.length p.length with h3 | h3
          · exact .inl h3
          · obtain ⟨t1, t2, t3⟩ := HT.out h1 h3 x
            refine .inr ⟨h3, fun W hW => ?_⟩
            rw [t1]; exact at_ok A c p x t2 t3 h2 W hW
      have hzero : (∃ n, ∀ W, Shares W L l → Calls Try.prog 28 #[.slice L l.length cl] W fun e W' => e = .returned (.tuple #[.int .i64 0, errV n]) ∧ Below W.heap.size W W') ∨
          (∃ v, (∀ W, Shares W L l → Calls Try.prog 28 #[.slice L l.length cl] W fun e W' => e = .returned (.tuple #[.int .i64 v, .nilIface]) ∧ Below W.heap.size W W') ∧
            ∀ (W : World) (k : Nat), k < l.length → Shares W L l → Calls Try.prog 27 #[.slice L l.length cl, .int .i64 (ga l k)] W fun e W' => e = .returned (.tuple #[.int .i64 (gb l k), .nilIface]) ∧ Below W.heap.size W W') := by
        rcases hz0 with h1 | h1
        · exact .inl ⟨_, fun W hW => zero_no L cl l hlc HLM.out h1 W hW⟩
        · obtain ⟨m0, m1, hpt⟩ := poi_pts l h1
          refine .inr ⟨_, fun W hW => zero_ok L cl l hlc HLM.out h1 W hW, fun W k hk hW => ?_⟩
          have := next_ok L cl l (ga l k) hlc HLM.out h1 (inB_true.2 (hpt.xr k hk)) W hW
          rw [PM.thr_each hpt hk] at this
          exact this
      clear cases3 hz0 HT hcap hpl
      obtain ⟨v, hnext⟩ := hnext
      rcases hzero with ⟨nz, cz⟩ | ⟨vz, cz, nx⟩
      · have CZ := Lib.hid cz; clear cz
        rcases hnext with ⟨n, cn⟩ | ⟨cn, hsh⟩
        · have CN := Lib.hid cn; clear cn
          rcases hexit with hx1 | ⟨hx1, hx2⟩
          all_goals
            go_wp2_with fail
            refine (CN.out _ hP).mono ?_
            rintro e w2 ⟨rfl, hb2⟩
            have hbz := bcl hb hb2
            go_wp2_with fail
            refine (CZ.out _ (hL.below hbz (Nat.le_refl _))).mono ?_
            rintro e wy ⟨rfl, hby⟩
            go_wp2_with fail
            all_goals go_ret
            all_goals exact ⟨ret_true (by first | rfl | (simp; done) | (simp; omega)), bcl hbz hby⟩
        · have CN := Lib.hid cn; clear cn
          rcases hsh with hsh | ⟨hsh, ca⟩
          · rcases hexit with hx1 | ⟨hx1, hx2⟩
            all_goals
              go_wp2_with fail
              refine (CN.out _ hP).mono ?_
              rintro e w2 ⟨rfl, hb2⟩
              have hbz := bcl hb hb2
              go_wp2_with fail
              refine (CZ.out _ (hL.below hbz (Nat.le_refl _))).mono ?_
              rintro e wy ⟨rfl, hby⟩
              go_wp2_with fail
              all_goals go_ret
              all_goals exact ⟨ret_true (by first | rfl | (simp; done) | (simp; omega)), bcl hbz hby⟩
          · have CA := Lib.hid ca; clear ca
            rcases hexit with hx1 | ⟨hx1, hx2⟩
            all_goals
              go_wp2_with fail
              refine (CN.out _ hP).mono ?_
              rintro e w2 ⟨rfl, hb2⟩
              have hbz2 := bcl hb hb2
              go_wp2_with fail
              refine (CA.out _ (hA.below hbz2 (Nat.le_refl _))).mono ?_
              rintro e w3 ⟨rfl, hb3⟩
              have hbz := bcl hbz2 hb3
              go_wp2_with fail
              refine (CZ.out _ (hL.below hbz (Nat.le_refl _))).mono ?_
              rintro e wy ⟨rfl, hby⟩
              go_wp2_with fail
              all_goals go_ret
              all_goals exact ⟨ret_true (by first | rfl | (simp; done) | (simp; omega)), bcl hbz hby⟩
      · have CZ := Lib.hid cz; have NX := Lib.hid nx; clear cz nx
        rcases hnext with ⟨n, cn⟩ | ⟨cn, hsh⟩
        · have CN := Lib.hid cn; clear cn
          rcases hexit with hx1 | ⟨hx1, hx2⟩
          all_goals
            go_wp2_with fail
            refine (CN.out _ hP).mono ?_
            rintro e w2 ⟨rfl, hb2⟩
            have hbz := bcl hb hb2
            go_wp2_with fail
            refine (CZ.out _ (hL.below hbz (Nat.le_refl _))).mono ?_
            rintro e wy ⟨rfl, hby⟩
            have hby' := bcl hbz hby
            go_wp2_with fail
            go_loopw [19] (fun i wr => ∃ k : Nat, k ≤ l.length ∧ i = .int .i64 k ∧ Below w.heap.size w wr) (fun i _ => l.length - (intOf i).toNat)
            case atStart => exact ⟨0, Nat.zero_le _, rfl, hby'⟩
            case round =>
              obtain ⟨k, hk, rfl, hb⟩ := hrel
              by_cases hlt : k < l.length
              · have hLr := hL.below hb (Nat.le_refl _)
                obtain ⟨b, off, rfl, hbl, k1, k2⟩ := hLr.at_ hlt
                have hnx := NX.out wr k hlt hLr
                have HNX := Lib.hid hnx; clear hnx hLr
                go_wp2_with fail
                refine HNX.out.mono ?_
                rintro e w9 ⟨rfl, hb9⟩
                have q2 := (hb9.cell (p := ⟨b, off + k * 2 + 1, none⟩) hbl).trans k2
                clear k1 k2
                go_wp2_with fail
                go_roundw
                case rel => exact ⟨k + 1, by omega, by go_num, bcl hb hb9⟩
                case measure => simp [intOf]; omega
              · obtain rfl : k = l.length := by omega
                go_wp2_with fail
                go_ret
                exact ⟨rfl, hb⟩
        · have CN := Lib.hid cn; clear cn
          rcases hsh with hsh | ⟨hsh, ca⟩
          · rcases hexit with hx1 | ⟨hx1, hx2⟩
            all_goals
              go_wp2_with fail
              refine (CN.out _ hP).mono ?_
              rintro e w2 ⟨rfl, hb2⟩
              have hbz := bcl hb hb2
              go_wp2_with fail
              refine (CZ.out _ (hL.below hbz (Nat.le_refl _))).mono ?_
              rintro e wy ⟨rfl, hby⟩
              have hby' := bcl hbz hby
              go_wp2_with fail
              go_loopw [19] (fun i wr => ∃ k : Nat, k ≤ l.length ∧ i = .int .i64 k ∧ Below w.heap.size w wr) (fun i _ => l.length - (intOf i).toNat)
              case atStart => exact ⟨0, Nat.zero_le _, rfl, hby'⟩
              case round =>
                obtain ⟨k, hk, rfl, hb⟩ := hrel
                by_cases hlt : k < l.length
                · have hLr := hL.below hb (Nat.le_refl _)
                  obtain ⟨b, off, rfl, hbl, k1, k2⟩ := hLr.at_ hlt
                  have hnx := NX.out wr k hlt hLr
                  have HNX := Lib.hid hnx; clear hnx hLr
                  go_wp2_with fail
                  refine HNX.out.mono ?_
                  rintro e w9 ⟨rfl, hb9⟩
                  have q2 := (hb9.cell (p := ⟨b, off + k * 2 + 1, none⟩) hbl).trans k2
                  clear k1 k2
                  go_wp2_with fail
                  go_roundw
                  case rel => exact ⟨k + 1, by omega, by go_num, bcl hb hb9⟩
                  case measure => simp [intOf]; omega
                · obtain rfl : k = l.length := by omega
                  go_wp2_with fail
                  go_ret
                  exact ⟨rfl, hb⟩
          · have CA := Lib.hid ca; clear ca
            rcases hexit with hx1 | ⟨hx1, hx2⟩
            all_goals
              go_wp2_with fail
              refine (CN.out _ hP).mono ?_
              rintro e w2 ⟨rfl, hb2⟩
              have hbz2 := bcl hb hb2
              go_wp2_with fail
              refine (CA.out _ (hA.below hbz2 (Nat.le_refl _))).mono ?_
              rintro e w3 ⟨rfl, hb3⟩
              have hbz := bcl hbz2 hb3
              go_wp2_with fail
              refine (CZ.out _ (hL.below hbz (Nat.le_refl _))).mono ?_
              rintro e wy ⟨rfl, hby⟩
              have hby' := bcl hbz hby
              go_wp2_with fail
              go_loopw [19] (fun i wr => ∃ k : Nat, k ≤ l.length ∧ i = .int .i64 k ∧ Below w.heap.size w wr) (fun i _ => l.length - (intOf i).toNat)
              case atStart => exact ⟨0, Nat.zero_le _, rfl, hby'⟩
              case round =>
                obtain ⟨k, hk, rfl, hb⟩ := hrel
                by_cases hlt : k < l.length
                · have hLr := hL.below hb (Nat.le_refl _)
                  obtain ⟨b, off, rfl, hbl, k1, k2⟩ := hLr.at_ hlt
                  have hnx := NX.out wr k hlt hLr
                  have HNX := Lib.hid hnx; clear hnx hLr
                  go_wp2_with fail
                  refine HNX.out.mono ?_
                  rintro e w9 ⟨rfl, hb9⟩
                  have q2 := (hb9.cell (p := ⟨b, off + k * 2 + 1, none⟩) hbl).trans k2
                  clear k1 k2
                  go_wp2_with fail
                  go_roundw
                  case rel => exact ⟨k + 1, by omega, by go_num, bcl hb hb9⟩
                  case measure => simp [intOf]; omega
                · obtain rfl : k = l.length := by omega
                  go_wp2_with fail
                  go_ret
                  exact ⟨rfl, hb⟩

/-! ### the row's frame -/
theorem own : ownKnob Try.prog.godebug = none := by kernel_rfl
theorem laidOut : laidOutB Try.prog = true := by kernel_rfl

set_option maxRecDepth 100000 in
theorem lifted (os : Os) (started : os.Started) (H : Type) (enc : TypeId × Value → H) :
    ReturnsInHanded {} Try.checked os 11 .any (Rows.polyThroughSpec.pre6 enc Try.prog Try.f11 Rows.polyThroughRow.domain false) (Rows.polyThroughSpec.post enc Try.prog Try.f11 false true false false) := by
  refine returnsInHanded_of_change (C := Try.checked) own started (by kernel_rfl) Try.func11
    (ChangeSpec.witness6 (enc := enc) (C := Try.checked) false ⟨#[], #[.slice none 0 0, .slice none 0 0, .int .i64 0, .slice none 0 0], []⟩ 8 (by kernel_rfl) (by kernel_rfl) (by kernel_rfl) (by kernel_rfl)) ?_
  intro W base args ds gs before hval0 hW hcnd _
  have hval : ∀ (j : Nat) t v, Try.f11.params[j]? = some t → args[j]? = some v → Value.okWide Try.prog W .any base t v := hval0
  have hW' := hW
  obtain ⟨p, q, hA0, hV, rfl, hfz, hnd⟩ := hW
  have hA : DataW.TrodAll enc Try.prog W 0 (fun _ => true) true Try.f11.params.toList args.toList ds p := hA0
  rw [Try.params11] at hA hval
  obtain ⟨v0, vs0, d0, ds0, p0, q0, hargs, rfl, rfl, h0, r0⟩ := trodAll_cons hA
  obtain ⟨v1, vs1, d1, ds1, p1, q1, rfl, rfl, rfl, h1, r1⟩ := trodAll_cons r0
  obtain ⟨v2, vs2, d2, ds2, p2, q2, rfl, rfl, rfl, h2, r2⟩ := trodAll_cons r1
  obtain ⟨v3, vs3, d3, ds3, p3, q3, rfl, rfl, rfl, h3, r3⟩ := trodAll_cons r2
  obtain ⟨rfl, rfl, rfl⟩ := trodAll_nil r3
  obtain rfl : args = #[v0, v1, v2, v3] := by cases args; simp_all
  obtain ⟨rfl, rfl⟩ := trodVars_none hV
  have k0 := h0
  have lt0 : ∀ x ∈ p0, x.block < W.heap.size := by obtain ⟨m, hm⟩ := k0; exact DataW.trod_lt m _ _ _ hm
  obtain ⟨A0, c0, x0, rfl, hc0, hm0, hA0, w0⟩ := arg_Ints Try.underlying36 Try.underlying3 (by kernel_rfl) (hval 0 36 v0 rfl rfl) h0
  have k1 := h1
  have lt1 : ∀ x ∈ p1, x.block < W.heap.size := by obtain ⟨m, hm⟩ := k1; exact DataW.trod_lt m _ _ _ hm
  obtain ⟨A1, c1, x1, rfl, hc1, hm1, hA1, w1⟩ := arg_Ints Try.underlying36 Try.underlying3 (by kernel_rfl) (hval 1 36 v1 rfl rfl) h1
  have k2 := h2
  have lt2 : ∀ x ∈ p2, x.block < W.heap.size := by obtain ⟨m, hm⟩ := k2; exact DataW.trod_lt m _ _ _ hm
  obtain ⟨x2, rfl, w2⟩ := arg_int Try.underlying3 (hval 2 3 v2 rfl rfl) h2
  have k3 := h3
  have lt3 : ∀ x ∈ p3, x.block < W.heap.size := by obtain ⟨m, hm⟩ := k3; exact DataW.trod_lt m _ _ _ hm
  obtain ⟨A3, c3, x3, rfl, hc3, hm3, hA3, w3⟩ := arg_Shares Try.underlying49 Try.underlying45 (by kernel_rfl) (by kernel_rfl) Try.underlying3 Try.underlying3 (hval 3 49 v3 rfl rfl) h3
  clear hA0 hval0
  refine (walk W A0 c0 x0 hc0 hm0 hA0 w0 A1 c1 x1 hc1 hm1 hA1 w1 x2 w2 A3 c3 x3 hc3 hm3 hA3 w3).mono fun e W' ⟨he, bel⟩ => ?_
  subst he
  exact ⟨_, rfl, _, _, _, [], _, [], hW', trodAll_mk1 (shut_bool Try.underlying4 _), (trodAll_cons_mk (Below.trod laidOut (by kernel_rfl) (of_decide_eq_true (by kernel_rfl)) k0 bel lt0) (trodAll_cons_mk (Below.trod laidOut (by kernel_rfl) (of_decide_eq_true (by kernel_rfl)) k1 bel lt1) (trodAll_cons_mk (Below.trod laidOut (by kernel_rfl) (of_decide_eq_true (by kernel_rfl)) k2 bel lt2) (trodAll_cons_mk (Below.trod laidOut (by kernel_rfl) (of_decide_eq_true (by kernel_rfl)) k3 bel lt3) trodAll_mk0)))), rfl, bel.frame _, fun h => by cases h⟩

theorem over : Rows.polyThroughRow.holds Try.pinned (OpenSpec.ofChange Rows.polyThroughSpec) :=
  OpenClaim.holds_of_wide 11 Try.f11 rfl rfl rfl rfl rfl rfl rfl ⟨rfl, rfl, rfl, rfl, rfl⟩ rfl rfl rfl rfl rfl (by kernel_rfl) Try.func11 (by kernel_rfl)
    (of_decide_eq_true (by kernel_rfl)) (by unfold Func.isWrapper; first | (rw [if_pos (by decide +kernel)]; kernel_rfl) | (rw [if_neg (by decide +kernel)]; exact ⟨rfl, rfl⟩))
    (fun os started H enc _ => lifted os started H enc)

theorem proved : Rows.PolyThroughSaid := over
#print axioms proved


end Go.Proofs.Ytpmgmlmpiofnpaa.polyThrough
