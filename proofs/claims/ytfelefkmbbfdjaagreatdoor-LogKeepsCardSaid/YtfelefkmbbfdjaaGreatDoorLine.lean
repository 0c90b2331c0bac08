/- Tuples as text: tuple.Word and Print, the reference's Line. -/
import Derived.Test.YtfelefkmbbfdjaaGreatDoorOStr
import Derived.Test.YtfelefkmbbfdjaaGreatDoorWord
import Derived.Test.YtfelefkmbbfdjaaGreatDoorTupleIs
import Derived.WalkKit
import Derived.WalkLawsBesides
import Derived.RegionTactic
import Derived.Deep.QuietTactic
import Derived.Deep.RegionHeld3
namespace Go.Proofs.YtfelefkmbbfdjaaGreatDoor
open Go.RowKit Go.Joins Go.ChangeShapes Go.WideShapes Go.Deep
set_option linter.unusedVariables false

/-- all its values are right -/
def rgt (t : List Va) : Prop := ∀ i, i < t.length → vaE (va t i) = 0
/-- a tuple's text -/
def lin (t : List Va) : ByteArray := jn (t.map wrd) ⟨#[44]⟩
theorem bytes_ext {a b : ByteArray} (h : a.data.toList = b.data.toList) : a = b := bytes_eq h
theorem nil_app (b : ByteArray) : (ByteArray.mk #[]) ++ b = b := bytes_eq (by simp [ByteArray.data_append])
theorem jn_nil (sep : ByteArray) : jn [] sep = ⟨#[]⟩ := rfl
theorem jn_snoc (l : List ByteArray) (x sep : ByteArray) (h : l ≠ []) : jn (l ++ [x]) sep = (jn l sep ++ sep) ++ x := by
  obtain ⟨y, r, rfl⟩ : ∃ y r, l = y :: r := by
    cases l with
    | nil => exact absurd rfl h
    | cons y r => exact ⟨y, r, rfl⟩
  refine bytes_eq ?_
  simp only [jn, List.map_append, List.map_cons, List.map_nil, List.cons_append, Lib.join_cons, ByteArray.data_append, Array.toList_append, Lib.joinTail, List.map_append, List.flatten_append]
  simp [List.append_assoc]
theorem jn_one (x sep : ByteArray) : jn [x] sep = x := bytes_eq (by simp [jn, Lib.join_one])
theorem lens_le {l : List ByteArray} {m : Nat} (h : ∀ x ∈ l, x.size ≤ m) : Lib.lens (l.map (·.data.toList)) ≤ l.length * m := by
  induction l with
  | nil => simp [Lib.lens]
  | cons y r ih =>
    have h1 : y.data.toList.length ≤ m := h y (by simp)
    have h2 := ih fun x hx => h x (List.mem_cons_of_mem _ hx)
    have h3 : Lib.lens ((y :: r).map (·.data.toList)) = y.data.toList.length + Lib.lens (r.map (·.data.toList)) := rfl
    rw [h3, List.length_cons, Nat.succ_mul]
    omega
theorem jn_size (l : List ByteArray) (sep : ByteArray) (m : Nat) (h : ∀ x ∈ l, x.size ≤ m) : (jn l sep).size ≤ l.length * (m + sep.size) := by
  cases l with
  | nil => exact Nat.zero_le _
  | cons y r =>
    have h1 : y.data.toList.length ≤ m := h y (by simp)
    have h2 := lens_le (l := r) fun x hx => h x (List.mem_cons_of_mem _ hx)
    have h3 : (jn (y :: r) sep).size = (Lib.join ((y :: r).map (·.data.toList)) sep.data.toList).length := by simp [jn, ByteArray.size]
    have h4 : sep.data.toList.length = sep.size := rfl
    rw [h3, List.map_cons, Lib.join_cons, List.length_append, Lib.joinTail_length, List.length_map, h4, List.length_cons, Nat.add_mul, Nat.mul_add, Nat.mul_comm sep.size]
    omega
theorem lin_nil : lin [] = ⟨#[]⟩ := rfl
theorem take_va {t : List Va} {k : Nat} (h : k < t.length) : t.take (k + 1) = t.take k ++ [va t k] := by
  rw [List.take_add_one]
  simp [va, List.getD_eq_getElem?_getD, List.getElem?_eq_getElem h]
theorem lin_zero {t : List Va} (h : 0 < t.length) : lin (t.take 1) = wrd (va t 0) := by
  rw [show (1 : Nat) = 0 + 1 from rfl, take_va h]
  exact jn_one _ _
theorem lin_succ {t : List Va} {k : Nat} (h : k < t.length) (h0 : 0 < k) : lin (t.take (k + 1)) = (lin (t.take k) ++ ⟨#[44]⟩) ++ wrd (va t k) := by
  rw [take_va h, lin, List.map_append, List.map_cons, List.map_nil]
  exact jn_snoc _ _ _ fun e => by
    have := congrArg List.length e
    rw [List.length_map, List.length_take, List.length_nil] at this
    omega
theorem rgt_of {t : List Va} (h : liE t = 0) : 0 < t.length ∧ t.length ≤ 5 ∧ rgt t := by
  unfold liE at h
  split at h
  · cases h
  · split at h
    · cases h
    · exact ⟨by omega, by omega, fun i hi => lsE_zero h hi⟩
theorem lin_size {t : List Va} (hr : rgt t) (k : Nat) : (lin (t.take k)).size ≤ t.length * 22 := by
  refine Nat.le_trans (jn_size _ _ 21 fun x hx => ?_) ?_
  · obtain ⟨v, hv, rfl⟩ := List.mem_map.1 hx
    obtain ⟨i, hi, e⟩ := List.mem_iff_getElem.1 (List.mem_of_mem_take hv)
    have := hr i hi
    rw [show va t i = t[i] by simp [va, List.getD_eq_getElem?_getD, List.getElem?_eq_getElem hi], e] at this
    exact wrd_size v this
  · rw [List.length_map, List.length_take]
    show min k t.length * 22 ≤ _
    have := Nat.min_le_right k t.length
    omega
theorem vaE_nb {v : Va} (h : vaE v = 0) : -1000000 ≤ v.n ∧ v.n ≤ 1000000 := by
  obtain ⟨k0, k2, kn, ks⟩ := vaE_kind h
  by_cases e : v.k = 0
  · exact kn e
  · have : v.n = 0 := by
      unfold vaE at h
      split at h
      · cases h
      · split at h
        · cases h
        · split at h
          · cases h
          · rename_i h3
            exact Classical.not_not.1 fun hn => h3 (.inl ⟨e, hn⟩)
    omega
set_option maxHeartbeats 800000 in
set_option maxRecDepth 100000 in
theorem tword_any (A : Option Addr) (c : Nat) (t : List Va) (h5 : t.length ≤ 1000) (hr : rgt t) (w : World) (hA : Vals w A t) (ht : TT w) :
    Calls Tryz.prog 45 #[.slice A t.length c] w fun e w' => e = .returned (.string (lin t)) ∧ Below w.heap.size w w' := by
  have hls := lin_size hr t.length
  rw [List.take_length] at hls
  have HLS := Lib.hid hls; have HA := Lib.hid hA; have HT := Lib.hid ht; have HR := Lib.hid hr
  clear hls hA ht hr
  go_enter Tryz.func45, Tryz.ntmps45
  go_wp2_with fail
  go_loopw [3, 8] (fun sw i wr => ∃ (k : Nat) (A' : Option Addr) (c' : Nat), k ≤ t.length ∧ i = .int .i64 k ∧ sw = .slice A' k c' ∧ Hid (OStrs wr w.heap.size A' c' ((t.take k).map wrd)) ∧ Hid (Below w.heap.size w wr)) (fun _ i _ => t.length - (intOf i).toNat)
  case atStart => exact ⟨0, none, 0, Nat.zero_le _, rfl, rfl, OStrs.nil, (by repeat (first | exact Below.refl _ _ | assumption | refine bal ?_ _ | refine bdn ?_ _ | refine bdr ?_ | refine bcl ?_ (by assumption)))⟩
  case round =>
    obtain ⟨k, A', c', hk, rfl, rfl, HO, HB⟩ := hrel
    have hlk : ((t.take k).map wrd).length = k := by rw [List.length_map, List.length_take]; omega
    by_cases hlt : k < t.length
    · obtain ⟨b1, o1, rfl, hbl, v0, v1, v2⟩ := (HA.out.below HB.out (Nat.le_refl _)).at_ (i := k) hlt
      have hv := HR.out k hlt
      obtain ⟨n0, n1⟩ := vaE_nb hv
      have ks := (vaE_kind hv).2.2.2
      have cw := fun (W : World) (hW : TT W) => vword_any (va t k).k (va t k).n (va t k).s (by omega) (by omega) (by omega) W (fun _ => hW)
      rw [show (Va.mk (va t k).k (va t k).n (va t k).s) = va t k from rfl] at cw
      have hnx : ((t.take (k + 1)).map wrd) = (t.take k).map wrd ++ [wrd (va t k)] := by rw [take_va hlt, List.map_append]; rfl
      have HTK := Lib.hid (fun (W : World) (h : Below w.heap.size w W) => tab_stays (g := 4) (by kernel_rfl) HT.out h (Nat.le_refl _))
      have CW := Lib.hid cw; have HNX := Lib.hid hnx; have HLK := Lib.hid hlk
      have i0 : (0 : Int) ≤ (k : Int) := by omega
      have i1 : (k : Int) < (t.length : Nat) := by omega
      have hba := bal HB.out (.cells #[.int .i64 (va t k).k, .int .i64 (va t k).n, .string (va t k).s] 31)
      have HBA := Lib.hid hba
      have HTW := Lib.hid (HTK.out _ hba)
      have hk1 : ((t.take k).map wrd).length ≤ 1000000 := by rw [HLK.out]; omega
      clear cw hv n0 n1 ks hnx hlk hba
      generalize wrd (va t k) = tx at *
      go_wp2_with (first
        | (go_at_call 69; refine (CW.out _ HTW.out).mono ?_; rintro e w3 ⟨rfl, hb3⟩; have HO3 := Lib.hid (HO.out.keep (bcl (bal1 _ _) hb3)); have HB3 := Lib.hid (bcl HBA.out hb3); clear hb3)
        | (at_builtin; refine wpList_append_strG rfl _ _ rfl w.heap.size A' c' ((t.take k).map wrd) k HLK.out rfl (HO3.out.keep (bal1 _ _)) w3.heap.size tx rfl ((AtB.new _ _ _).cell (i := 0) rfl) hk1 (le_al HB3.out.size _) ?_; intro A2 c2 w4 h41 h42; have HO4 := Lib.hid h41; have HB4 := Lib.hid ((bal HB3.out _).trans ((Chs.grown h42).below (fun b hb => (HO3.out.block hb).1) (le_al HB3.out.size _))); clear h41 h42))
      go_wp2_with fail
      go_roundw
      case rel => exact ⟨k + 1, A2, c2, by omega, by go_num, rfl, Lib.hid (by rw [HNX.out]; exact HO4.out), HB4⟩
      case measure => simp [intOf]; omega
    · obtain rfl : k = t.length := by omega
      rw [List.take_length] at HO
      have cj := join_any A' c' (t.map wrd) ⟨#[44]⟩ wr HO.out.strs HO.out.cap.1 (by rw [List.length_map]; omega) (by show (lin t).size ≤ _; have := HLS.out; omega)
      rw [List.length_map] at cj
      have CJ := Lib.hid cj
      clear cj
      go_wp2_with (go_at_call 46; refine CJ.out.mono ?_; rintro e w5 ⟨rfl, hb5⟩)
      go_ret
      exact ⟨rfl, bcl HB.out hb5⟩
set_option maxHeartbeats 800000 in
set_option maxRecDepth 100000 in
theorem rline_any (A : Option Addr) (c : Nat) (t : List Va) (h5 : t.length ≤ 1000) (hr : rgt t) (w : World) (hA : Vals w A t) :
    Calls Tryz.prog 35 #[.slice A t.length c] w fun e w' => e = .returned (.string (lin t)) ∧ Below w.heap.size w w' := by
  have HA := Lib.hid hA; have HR := Lib.hid hr
  clear hA hr
  go_enter Tryz.func35, Tryz.ntmps35
  go_wp2_with fail
  go_loopw [3, 4, 5] (fun ss i _ wr => ∃ k : Nat, k ≤ t.length ∧ i = .int .i64 k ∧ ss = .string (lin (t.take k)) ∧ Hid (Below w.heap.size w wr)) (fun _ i _ _ => t.length - (intOf i).toNat)
  case atStart => exact ⟨0, Nat.zero_le _, rfl, rfl, (by repeat (first | exact Below.refl _ _ | assumption | refine bal ?_ _ | refine bdn ?_ _ | refine bdr ?_ | refine bcl ?_ (by assumption)))⟩
  case round =>
    obtain ⟨k, hk, rfl, rfl, HB⟩ := hrel
    by_cases hlt : k < t.length
    · obtain ⟨b1, o1, rfl, hbl, v0, v1, v2⟩ := (HA.out.below HB.out (Nat.le_refl _)).at_ (i := k) hlt
      have hv := HR.out k hlt
      obtain ⟨k0, k2, kn, ks⟩ := vaE_kind hv
      have cw := fun (W : World) => rword_any (va t k).k (va t k).n (va t k).s (by omega) ⟨k0, k2⟩ kn W
      rw [show (Va.mk (va t k).k (va t k).n (va t k).s) = va t k from rfl] at cw
      have i0 : (0 : Int) ≤ (k : Int) := by omega
      have i1 : (k : Int) < (t.length : Nat) := by omega
      have hs1 := lin_size HR.out k
      have hs2 := wrd_size _ hv
      have CW := Lib.hid cw
      by_cases e0 : k = 0
      · subst e0
        have hn := lin_zero hlt
        have HN := Lib.hid hn
        have hz : lin (t.take 0) = ⟨#[]⟩ := rfl
        simp only [Nat.zero_mul, Nat.add_zero] at v0 v1 v2
        rw [hz]
        generalize wrd (va t 0) = tx at *
        clear cw hv k0 k2 kn ks hn hs1 hz
        go_wp2_with (go_at_call 58; refine (CW.out _).mono ?_; rintro e w3 ⟨rfl, hb3⟩)
        go_wp2_with fail
        go_roundw
        case rel => exact ⟨1, by omega, by go_num, by rw [HN.out]; exact congrArg Value.string (nil_app tx), Lib.hid (bcl HB.out hb3)⟩
        case measure => simp [intOf]; omega
      · have hn := lin_succ hlt (show 0 < k by omega)
        have HN := Lib.hid hn
        have d1 : decide ((0 : Int) < (k : Int)) = true := by simp; omega
        have hk0 : 0 < k := by omega
        generalize wrd (va t k) = tx at *
        generalize lin (t.take k) = ty at *
        have HS1 := Lib.hid hs1; have HS2 := Lib.hid hs2
        clear cw hv k0 k2 kn ks hn hs1 hs2
        go_wp2_with (go_at_call 58; refine (CW.out _).mono ?_; rintro e w3 ⟨rfl, hb3⟩)
        all_goals first
          | (exfalso; have := HS1.out; have := HS2.out; simp at *; omega)
          | (go_wp2_with fail
             go_roundw
             case rel => exact ⟨k + 1, by omega, by go_num, by rw [HN.out], Lib.hid (bcl HB.out hb3)⟩
             case measure => simp [intOf]; omega)
    · obtain rfl : k = t.length := by omega
      rw [List.take_length]
      go_wp2_with fail
      go_ret
      exact ⟨rfl, HB.out⟩
end Go.Proofs.YtfelefkmbbfdjaaGreatDoor
