/- The functions of package seal: Seal and Open: what each returns. -/
import Derived.Test.YthkaaheeblehhaaDoorShare
import Derived.Test.YthkaaheeblehhaaDoorNest
import Derived.Test.YthkaaheeblehhaaDoorBMem
import Derived.Deep.RegionHeld3
import Derived.Laws.IdiomStrings
import Derived.RegionTactic
namespace Go.Proofs.YthkaaheeblehhaaDoor
open Go.RowKit Go.ChangeShapes Go.WideShapes Go.Deep
set_option linter.unusedVariables false

/-- the shares of each byte -/
def sealL (t : ByteArray) (rest : List (List Int)) (n : Nat) (k : Nat) : List (List Sh) := (List.range k).map fun i => dealL (gB t i :: gg rest i) n
theorem sealL_succ (t : ByteArray) (rest : List (List Int)) (n k : Nat) : sealL t rest n (k + 1) = sealL t rest n k ++ [dealL (gB t k :: gg rest k) n] := by simp [sealL, List.range_succ]
theorem sealL_length (t : ByteArray) (rest : List (List Int)) (n k : Nat) : (sealL t rest n k).length = k := by simp [sealL]

abbrev OSharess (w : World) (base : Nat) (A : Option Addr) (c : Nat) (L : List (List Sh)) : Prop := OMany Shares 70 82 w base A c L
theorem infoShs : (Tryd.prog.info? 70).map (fun i => (i.zero, i.size, i.bytes)) = some (some (.slice none 0 0), 1, 24) := by kernel_rfl
theorem many_ints_below {w w' : World} {A : Option Addr} {l : List (List Int)} (h : Many Ints w A l) (hb : Below w.heap.size w w') : Many Ints w' A l := Many.below (Q := Ints) (fun w w' A l h hb => Ints.below h hb (Nat.le_refl _)) h hb
theorem many_shares_below {w w' : World} {A : Option Addr} {l : List (List Sh)} (h : Many Shares w A l) (hb : Below w.heap.size w w') : Many Shares w' A l := Many.below (Q := Shares) (fun w w' A l h hb => Shares.below h hb (Nat.le_refl _)) h hb
theorem Many.at_ {α : Type} {Q : World → Option Addr → List α → Prop} {w : World} {A : Option Addr} {l : List (List α)} (h : Many Q w A l) {i : Nat} (hi : i < l.length) :
    ∃ b off B C, A = some ⟨b, off, none⟩ ∧ b < w.heap.size ∧ w.cell? ⟨b, off + i, none⟩ = some (.slice B (gg l i).length C) ∧ Q w B (gg l i) ∧ (gg l i).length ≤ C ∧ C ≤ maxLen := by
  obtain ⟨B, C, h1, h2⟩ := h
  obtain ⟨b, off, e, hb, hc⟩ := h1.at1 hi
  exact ⟨b, off, B i, C i, e, hb, hc, h2 i hi⟩

theorem seal_no (t : ByteArray) (A : Option Addr) (cap : Nat) (rest : List (List Int)) (m : Int) (v : Value) (w : World)
    (h : (12 < t.size ∧ v = errV 4) ∨ (t.size ≤ 12 ∧ rest.length ≠ t.size ∧ v = errV 3)) (hm : t.size ≤ maxLen) (hr : rest.length ≤ maxLen) :
    Calls Tryd.prog 26 #[.string t, .slice A rest.length cap, .int .i64 m] w fun e w' => e = .returned (.tuple #[.slice none 0 0, v]) ∧ w = w' := by
  unfold maxLen at hm hr
  rcases h with ⟨h1, rfl⟩ | ⟨h1, h2, rfl⟩
  all_goals
    go_enter Tryd.func26, Tryd.ntmps26
    go_wp2
    go_ret2
    exact ⟨rfl, rfl⟩

set_option maxHeartbeats 3200000 in
theorem seal_any (t : ByteArray) (A : Option Addr) (cap : Nat) (rest : List (List Int)) (m : Int) (ht : t.size ≤ 12) (hr : rest.length = t.size) (K : Nat) (hK : K ≤ t.size) (hok : ∀ i, i < K → shE (gB t i) (gg rest i) m = 0) (hend : K = t.size ∨ shE (gB t K) (gg rest K) m ≠ 0) (w : World) (hA : Many Ints w A rest) :
    Calls Tryd.prog 26 #[.string t, .slice A rest.length cap, .int .i64 m] w fun e w' => Below w.heap.size w w' ∧
      ((K = t.size ∧ ∃ A' c', e = .returned (.tuple #[.slice A' t.size c', .nilIface]) ∧ OSharess w' w.heap.size A' c' (sealL t rest m.toNat t.size)) ∨ (K < t.size ∧ e = .returned (.tuple #[.slice none 0 0, errV (shE (gB t K) (gg rest K) m)]))) := by
  have hl1 : rest.length ≤ 12 := by omega
  have HK := Lib.hid (And.intro hok hend)
  have HR := Lib.hid hr
  have HA := Lib.hid hA
  clear hok hend hA
  have e1 : ((rest.length : Int) != t.size) = false := by rw [hr]; simp
  clear hr
  go_enter Tryd.func26, Tryd.ntmps26
  go_wp2_with fail
  go_loopw [8, 9, 10, 11, 26] (fun o _ _ _ i wr => ∃ (k : Nat) (A' : Option Addr) (c' : Nat), k ≤ K ∧ i = .int .i64 k ∧ o = .slice A' (sealL t rest m.toNat k).length c' ∧ OSharess wr w.heap.size A' c' (sealL t rest m.toNat k) ∧ Below w.heap.size w wr) (fun _ _ _ _ i _ => t.size - (intOf i).toNat)
  case atStart => exact ⟨0, none, 0, Nat.zero_le _, rfl, rfl, OMany.nil, Below.refl _ _⟩
  case round =>
    obtain ⟨k, A', c', hk, rfl, rfl, ho, hb⟩ := hrel
    have hll := sealL_length t rest m.toNat k
    have hz := hb.size
    by_cases hlt : k < t.size
    · have hM := many_ints_below HA.out hb
      obtain ⟨b, off, B, C, rfl, hbl, hcell, hq, hq1, hq2⟩ := hM.at_ (i := k) (by rw [HR.out]; exact hlt)
      have i0 : (0 : Int) ≤ (k : Int) := by omega
      have i1 : (k : Int) < (t.size : Int) := by omega
      have i2 : (k : Int) < (rest.length : Int) := by rw [HR.out]; exact i1
      have hgb := gB_wrap hlt
      by_cases he : shE (gB t k) (gg rest k) m = 0
      · have hkK : k < K := by
          rcases Nat.lt_or_ge k K with h | h
          · exact h
          · obtain rfl : k = K := by omega
            rcases HK.out.2 with h2 | h2
            · omega
            · exact absurd he h2
        obtain ⟨m0, m1⟩ := manB_true.1 (shE_zero he).2.2.2.1
        obtain ⟨n, rfl⟩ := Int.eq_ofNat_of_zero_le (show 0 ≤ m by omega)
        have cd := fun W (hW : Ints W B (gg rest k)) => deal_ok (gB t k) B C (gg rest k) n he W hW
        have hs := sealL_succ t rest n k
        have hdl := dealL_length (gB t k :: gg rest k) n
        rw [show (n : Int).toNat = n from rfl] at *
        generalize dealL (gB t k :: gg rest k) n = D at *
        rw [hgb] at cd
        have CD := Lib.hid cd
        have HL := Lib.hid hll
        have HS := Lib.hid hs
        have HD := Lib.hid hdl
        have HQ := Lib.hid (show Ints wr.drew B (gg rest k) from Sl.drew hq)
        have hn7 : n ≤ 7 := by omega
        have hl6 : (sealL t rest n k).length ≤ 1000000 := by omega
        clear cd hll he hgb hq hM hs hdl
        go_wp2_with fail
        go_region_held3 (fun w' => w'.cell? ⟨b, off + k, none⟩ = some (.slice B (gg rest k).length C)) (first | go_keep | exact (hb2.cell hbl).trans hcell) ((go_at_call 60; refine (CD.out _ HQ.out).mono ?_; rintro e w2 ⟨A2, c2, rfl, ho2, hb2⟩))
        have hbr : Below wr.heap.size wr w2 := bcl (bdr (Below.refl _ _)) hb2
        have hbd : Below w.heap.size w w2 := bcl hb hbr
        have ho3 := ho.keep shares_stay hz hbr
        have hz2 := hbd.size
        have hcp := ho2.cap
        have hin : Inn w2 w.heap.size 82 A2 := Inn.own ho2
        have hsd := ho2.shares
        have HSD := Lib.hid hsd; have HIN := Lib.hid hin; have HO := Lib.hid ho3; have HC := Lib.hid hcp
        clear ho2 ho3 ho hsd hin hcp hb2 hcell
        go_wp2_with (at_builtin; refine wpList_append_many shares_stay rfl _ _ 66 70 82 rfl Tryd.underlying66 infoShs (by decide) w.heap.size A' c' (sealL t rest n k) rfl (HO.out.keep shares_stay hz2 (bal1 _ _)) w2.heap.size A2 D c2 rfl (by rw [HD.out]; exact cell_new1 _ _ _) (Sl.alloc HSD.out _) HC.out.1 HC.out.2 (HIN.out.stay fun a ha => Below.heap_alloc _ _ _ (HIN.out.lt hz2 ha)) hl6 (le_al hz2 _) ?_; intro A3 c3 w3 ho3 hb3)
        go_roundw
        case rel => exact ⟨k + 1, A3, c3, by omega, by go_num, by rw [HS.out]; simp, by rw [HS.out]; exact ho3, (bal hbd _).trans hb3⟩
        case measure => simp [intOf]; omega
      · obtain rfl : k = K := by
          rcases Nat.lt_or_ge k K with h | h
          · exact absurd (HK.out.1 k h) he
          · omega
        have cd := fun W (hW : Ints W B (gg rest k)) => deal_no (gB t k) B C (gg rest k) m he W hW
        obtain ⟨E, hE⟩ : ∃ E, shE (gB t k) (gg rest k) m = E := ⟨_, rfl⟩
        have HE := Lib.hid hE
        rw [hE] at cd
        clear hE
        rw [hgb] at cd
        have CD := Lib.hid cd
        have HL := Lib.hid hll
        have HQ := Lib.hid (show Ints wr.drew B (gg rest k) from Sl.drew hq)
        clear cd hll he hgb hk hq hM
        go_wp2_with fail
        go_region_held3 (fun w' => w'.cell? ⟨b, off + k, none⟩ = some (.slice B (gg rest k).length C)) (go_keep) ((go_at_call 60; refine (CD.out _ HQ.out).mono ?_; rintro e w' ⟨rfl, rfl⟩))
        go_wp2_with fail
        go_ret2
        rw [HE.out]
        exact ⟨bdr hb, .inr ⟨hlt, rfl⟩⟩
    · obtain rfl : k = K := by omega
      obtain rfl : k = t.size := by omega
      rw [hll]
      clear hll
      go_wp2_with fail
      go_ret2
      first | exact ⟨hb, .inl ⟨rfl, A', c', rfl, ho⟩⟩ | exact ⟨hb, A', c', rfl, ho⟩
/-! ### Open -/
def OBytes (w : World) (base : Nat) (A : Option Addr) (c : Nat) (l : List UInt8) : Prop := w.ownsRow base 5 1 (.slice A l.length c) l.length (l.map fun b => .int .u8 (b.toNat : Int))
theorem infoBy : (Tryd.prog.info? 5).map (fun i => (i.zero, i.size, i.bytes)) = some (some (.int .u8 0), 1, 1) := by kernel_rfl
section
variable {w w' : World} {base c : Nat} {A : Option Addr} {l : List UInt8}
theorem OBytes.nil : OBytes w base none 0 [] := ⟨rfl, .inl ⟨rfl, rfl⟩⟩
theorem OBytes.cap (h : OBytes w base A c l) : l.length ≤ c ∧ c ≤ maxLen := own_cap h
theorem OBytes.keep (h : OBytes w base A c l) (hb : Below w.heap.size w w') : OBytes w' base A c l := own_keep h hb
set_option maxRecDepth 100000 in
theorem OBytes.conv (h : OBytes w base A c l) : (convert 115 9 (.slice A l.length c)).run Tryd.prog w = .ok (.string ⟨l.toArray⟩) w := by
  rcases h.2 with ⟨h2, h3⟩ | ⟨g, cap, cur, h3, _, h5, h6, _⟩
  · injection h2 with h2 h4 h5
    subst h2; subst h5
    have : l = [] := List.eq_nil_of_length_eq_zero h3
    subst this
    rw [List.length_nil, run_convert_bytes_string w _ _ 5 none 0 0 Tryd.underlying115 Tryd.underlying5 Tryd.underlying9]
    simp [Conv.bytesToString, Sem.run_pure]
    rfl
  · injection h3 with h3 _ h4
    subst h3
    refine run_convert_bytes_back w _ _ 5 ⟨g, 0, none⟩ c l Tryd.underlying115 Tryd.underlying5 Tryd.underlying9 fun j hj => ?_
    exact h.cells (g := g) rfl j _ (by simp [hj])
end
theorem wpList_append_byte {w : World} {ops : Array Oper} {rest : List Oper} {o : Oper} {a : Act} {Q : Exit → Act → World → Prop} (hgd : o.guard = none) (s x : Operand)
    (ho : o.op = .call { callee := .builtin .append, args := #[s, x], argTypes := #[115, 115] }) (base : Nat) (A : Option Addr) (c : Nat) (l : List UInt8) (hs : a.eval s = .slice A l.length c) (hown : OBytes w base A c l)
    (g : Nat) (p : UInt8) (hx : a.eval x = .slice (some ⟨g, 0, none⟩) 1 1) (h0 : w.cell? ⟨g, 0, none⟩ = some (.int .u8 (p.toNat : Int))) (hn : l.length ≤ 1000000) (hbase : base ≤ w.heap.size)
    (h : ∀ A' c' w', OBytes w' base A' c' (l ++ [p]) → Below base w w' → wpList Tryd.prog ops Q rest (a.put o.dst (.slice A' (l.length + 1) c')) w') : wpList Tryd.prog ops Q (o :: rest) a w := by
  refine wpList_append_one hgd s x _ ho base 5 _ 1 1 Tryd.underlying115 infoBy rfl (by decide) (by decide) A c l.length _ hs hown g [.int .u8 (p.toNat : Int)] hx rfl ?_ (by simp [Value.oneCell']) hn hbase ?_
  · intro j u hj
    match j, hj with
    | 0, hj => simp at hj; subst hj; exact h0
  · intro A' c' w' h2 h3
    refine h A' c' w' ?_ (own_below h3 hown hbase)
    unfold OBytes; rw [List.length_append, List.map_append]; exact h2

def oV (l : List (List Sh)) (need : Int) (i : Nat) : Int := thrL ((gg l i).take need.toNat) 0
def oE (l : List (List Sh)) (need : Int) (i : Nat) : Int := if joE (gg l i) need ≠ 0 then joE (gg l i) need else if 255 < oV l need i then 3 else 0
def oB (l : List (List Sh)) (need : Int) (i : Nat) : UInt8 := UInt8.ofNat (oV l need i).toNat
def openL (l : List (List Sh)) (need : Int) (k : Nat) : List UInt8 := (List.range k).map (oB l need)
theorem openL_succ (l : List (List Sh)) (need : Int) (k : Nat) : openL l need (k + 1) = openL l need k ++ [oB l need k] := by simp [openL, List.range_succ]
theorem openL_length (l : List (List Sh)) (need : Int) (k : Nat) : (openL l need k).length = k := by simp [openL]
theorem oV_range (l : List (List Sh)) (need : Int) (i : Nat) : 0 ≤ oV l need i ∧ oV l need i < 257 := PM.thr_range _ _ _ _ _
theorem oB_wrap {l : List (List Sh)} {need : Int} {i : Nat} (h : oV l need i ≤ 255) : oV l need i = ((oB l need i).toNat : Int) := by
  have h0 := (oV_range l need i).1
  unfold oB
  rw [UInt8.toNat_ofNat', Nat.mod_eq_of_lt (by omega)]
  omega
theorem joE_zero {l : List Sh} {need : Int} (h : joE l need = 0) : manB need = true ∧ poiE l = 0 ∧ need ≤ l.length := by
  unfold joE at h
  split at h
  · cases h
  · split at h
    · exact absurd h ‹_›
    · split at h
      · cases h
      · rename_i h1 h2 h3
        exact ⟨by simpa using h1, by simpa using h2, by omega⟩
theorem open_no (A : Option Addr) (cap : Nat) (l : List (List Sh)) (need : Int) (h : 12 < l.length) (hm : l.length ≤ maxLen) (w : World) :
    Calls Tryd.prog 27 #[.slice A l.length cap, .int .i64 need] w fun e w' => e = .returned (.tuple #[.string ByteArray.empty, errV 4]) ∧ w = w' := by
  unfold maxLen at hm
  go_enter Tryd.func27, Tryd.ntmps27
  go_wp2
  go_ret2
  exact ⟨rfl, rfl⟩

set_option maxHeartbeats 3200000 in
theorem open_any (A : Option Addr) (cap : Nat) (l : List (List Sh)) (need : Int) (hl : l.length ≤ 12) (K : Nat) (hK : K ≤ l.length) (hok : ∀ i, i < K → oE l need i = 0) (hend : K = l.length ∨ oE l need K ≠ 0) (w : World) (hA : Many Shares w A l) :
    Calls Tryd.prog 27 #[.slice A l.length cap, .int .i64 need] w fun e w' => Below w.heap.size w w' ∧
      ((K = l.length ∧ e = .returned (.tuple #[.string ⟨(openL l need l.length).toArray⟩, .nilIface])) ∨ (K < l.length ∧ e = .returned (.tuple #[.string ByteArray.empty, errV (oE l need K)]))) := by
  have HK := Lib.hid (And.intro hok hend)
  have HA := Lib.hid hA
  clear hok hend hA
  go_enter Tryd.func27, Tryd.ntmps27
  go_wp2_with fail
  go_loopw [6, 8, 9, 10, 17] (fun o _ _ _ i wr => ∃ (k : Nat) (A' : Option Addr) (c' : Nat), k ≤ K ∧ i = .int .i64 k ∧ o = .slice A' (openL l need k).length c' ∧ OBytes wr w.heap.size A' c' (openL l need k) ∧ Below w.heap.size w wr) (fun _ _ _ _ i _ => l.length - (intOf i).toNat)
  case atStart => exact ⟨0, none, 0, Nat.zero_le _, rfl, rfl, OBytes.nil, Below.refl _ _⟩
  case round =>
    obtain ⟨k, A', c', hk, rfl, rfl, ho, hb⟩ := hrel
    have hll := openL_length l need k
    have hz := hb.size
    by_cases hlt : k < l.length
    · have hM := many_shares_below HA.out hb
      obtain ⟨b, off, B, C, rfl, hbl, hcell, hq, hq1, hq2⟩ := hM.at_ (i := k) hlt
      by_cases he : joE (gg l k) need = 0
      · obtain ⟨hm, hp, hn⟩ := joE_zero he
        obtain ⟨m0, m1⟩ := manB_true.1 hm
        obtain ⟨n, rfl⟩ := Int.eq_ofNat_of_zero_le (show 0 ≤ need by omega)
        have cj := fun W (hW : Shares W B (gg l k)) => join_ok B C (gg l k) n hq1 hq2 hm hp (by omega) W hW
        have hv : thrL ((gg l k).take n) 0 = oV l n k := rfl
        rw [hv] at cj
        obtain ⟨v0, v1⟩ := oV_range l n k
        by_cases hv5 : oV l n k ≤ 255
        · have hkK : k < K := by
            rcases Nat.lt_or_ge k K with h | h
            · exact h
            · obtain rfl : k = K := by omega
              rcases HK.out.2 with h2 | h2
              · omega
              · exact absurd (by rw [oE, if_neg (by rw [he]; decide), if_neg (by omega)]) h2
          have hbw := oB_wrap hv5
          have hs := openL_succ l n k
          generalize oB l n k = bb at *
          generalize oV l n k = V at *
          have CJ := Lib.hid cj; have HS := Lib.hid hs; have HL := Lib.hid hll; have HB := Lib.hid hbw
          have hl6 : (openL l n k).length ≤ 1000000 := by omega
          clear cj hs hll hbw hp he hv hm hM
          go_wp2_with fail
          refine (CJ.out _ hq).mono ?_
          rintro e w2 ⟨rfl, hb2⟩
          have hb2' := bcl hb hb2
          have hz2 := hb2'.size
          have ho2 := ho.keep hb2
          go_wp2_with (at_builtin; refine wpList_append_byte rfl _ _ rfl w.heap.size A' c' _ rfl (ho2.keep (bal1 _ _)) w2.heap.size bb rfl (by rw [← HB.out]; exact cell_new1 _ _ _) hl6 (le_al hz2 _) ?_; intro A3 c3 w3 ho3 hb3)
          go_roundw
          case rel => exact ⟨k + 1, A3, c3, by omega, by go_num, by rw [HS.out]; simp, by rw [HS.out]; exact ho3, (bal hb2' _).trans hb3⟩
          case measure => simp [intOf]; omega
        · have hE : oE l n k = 3 := by rw [oE, if_neg (by rw [he]; decide), if_pos (by omega)]
          obtain rfl : k = K := by
            rcases Nat.lt_or_ge k K with h | h
            · have := HK.out.1 k h; rw [hE] at this; cases this
            · omega
          generalize oV l n k = V at *
          have CJ := Lib.hid cj; have HL := Lib.hid hll; have HE := Lib.hid hE
          clear cj hll hp he hv hm hM hk hE
          go_wp2_with fail
          refine (CJ.out _ hq).mono ?_
          rintro e w2 ⟨rfl, hb2⟩
          go_wp2_with fail
          go_ret2
          rw [HE.out]
          exact ⟨bcl hb hb2, .inr ⟨hlt, rfl⟩⟩
      · have hE : oE l need k = joE (gg l k) need := by rw [oE, if_pos he]
        obtain rfl : k = K := by
          rcases Nat.lt_or_ge k K with h | h
          · have := HK.out.1 k h; rw [hE] at this; exact absurd this he
          · omega
        have cj := fun W (hW : Shares W B (gg l k)) => join_no B C (gg l k) need hq1 hq2 he W hW
        rw [← hE] at cj
        obtain ⟨E, hE2⟩ : ∃ E, oE l need k = E := ⟨_, rfl⟩
        rw [hE2] at cj
        have HE := Lib.hid hE2; have CJ := Lib.hid cj; have HL := Lib.hid hll
        clear cj hll he hM hk hE hE2
        go_wp2_with fail
        refine (CJ.out _ hq).mono ?_
        rintro e w2 ⟨rfl, hb2⟩
        go_wp2_with fail
        go_ret2
        rw [HE.out]
        exact ⟨bcl hb hb2, .inr ⟨hlt, rfl⟩⟩
    · obtain rfl : k = K := by omega
      obtain rfl : k = l.length := by omega
      have hcv := ho.conv
      rw [hll] at hcv ⊢
      clear hll
      go_wp2_with fail
      go_ret2
      first | exact ⟨hb, .inl ⟨rfl, rfl⟩⟩ | exact ⟨hb, rfl⟩
end Go.Proofs.YthkaaheeblehhaaDoor
