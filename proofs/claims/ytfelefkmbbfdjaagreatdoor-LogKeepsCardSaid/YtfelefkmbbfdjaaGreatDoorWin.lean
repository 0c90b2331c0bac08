/- A slice at whatever place of a block that the program made: what append, and a cut ahead, do to it. -/
import Derived.Test.YtfelefkmbbfdjaaGreatDoorOwnB
import Derived.Test.YtfelefkmbbfdjaaGreatDoorNest
import Derived.ArgAppend
import Derived.Laws.IdiomCopy
import Derived.Deep.Upon
import Derived.Deep.RegionLaw
namespace Go.Proofs.YtfelefkmbbfdjaaGreatDoor
open Go.RowKit
set_option linter.unusedVariables false

/-- slice v has n elements of k cells each, xs, in a block at base or behind, wherever in it -/
def Win (w : World) (base : Nat) (e : TypeId) (k : Nat) (v : Value) (n : Nat) (xs : List Value) : Prop :=
  xs.length = n * k ∧ ((v = .slice none 0 0 ∧ n = 0) ∨ ∃ g off c, v = .slice (some ⟨g, off, none⟩) n c ∧ base ≤ g ∧ kin w g e ∧ n ≤ c ∧ c ≤ maxLen ∧
    (∀ j u, xs[j]? = some u → w.cell? ⟨g, off + j, none⟩ = some u) ∧ ∀ j, j < c * k → (w.cell? ⟨g, off + j, none⟩).isSome = true)
section
variable {w w' : World} {base : Nat} {e : TypeId} {k n : Nat} {v : Value} {xs : List Value}
theorem Win.nil : Win w base e k (.slice none 0 0) 0 [] := ⟨by simp, .inl ⟨rfl, rfl⟩⟩
theorem Win.block (h : Win w base e k v n xs) {g : Nat} (hg : v.ownBlock = some g) : base ≤ g ∧ kin w g e := by
  rcases h.2 with ⟨rfl, _⟩ | ⟨g', off, c, rfl, h1, h2, _⟩
  · simp [Value.ownBlock] at hg
  · simp only [Value.ownBlock, Option.some.injEq] at hg; subst hg; exact ⟨h1, h2⟩
theorem Win.stay (h : Win w base e k v n xs) (hs : ∀ g, v.ownBlock = some g → w'.heap[g]? = w.heap[g]?) : Win w' base e k v n xs := by
  refine ⟨h.1, ?_⟩
  rcases h.2 with h2 | ⟨g, off, c, rfl, h1, ⟨cur, h2⟩, h3, h4, h5, h6⟩
  · exact .inl h2
  · have hh := hs g rfl
    have hc : ∀ j, w'.cell? ⟨g, off + j, none⟩ = w.cell? ⟨g, off + j, none⟩ := fun j => World.cell?_of_block hh
    exact .inr ⟨g, off, c, rfl, h1, ⟨cur, hh.trans h2⟩, h3, h4, fun j u hj => (hc j).trans (h5 j u hj), fun j hj => by rw [hc]; exact h6 j hj⟩
theorem Win.keep (h : Win w base e k v n xs) (hb : Below w.heap.size w w') : Win w' base e k v n xs := h.stay fun g hg => hb.block g (h.block hg).2.lt
theorem Win.form (h : Win w base e k v n xs) : ∃ A c, v = .slice A n c ∧ n ≤ c ∧ c ≤ maxLen := by
  rcases h.2 with ⟨h1, h2⟩ | ⟨g, off, c, h1, _, _, h3, h4, _⟩
  · exact ⟨none, 0, by rw [h1, h2], by omega, by simp⟩
  · exact ⟨_, _, h1, h3, h4⟩
theorem Win.at_ (h : Win w base e k v n xs) (hn : 0 < n) : ∃ g off c, v = .slice (some ⟨g, off, none⟩) n c ∧ n ≤ c ∧ ∀ j u, xs[j]? = some u → w.cell? ⟨g, off + j, none⟩ = some u := by
  rcases h.2 with ⟨h1, h2⟩ | ⟨g, off, c, h1, _, _, h3, h4, h5, _⟩
  · omega
  · exact ⟨g, off, c, h1, h3, h5⟩
theorem Win.own {b2 : Nat} (h : w.ownsRow b2 e k v n xs) (hb : base ≤ b2) : Win w base e k v n xs := by
  refine ⟨h.1, ?_⟩
  rcases h.2 with h2 | ⟨g, c, cur, h1, h2, h3, h4, h5, h6, h7⟩
  · exact .inl h2
  · refine .inr ⟨g, 0, c, h1, by omega, ⟨cur, h3⟩, h4, h5, fun j u hj => ?_, fun j hj => ?_⟩
    · have := h.cells (g := g) (by rw [h1]; rfl) j u hj
      rwa [Addr.add_lit] at this
    · rw [Nat.zero_add, cell_of_row w g j cur e (0, 0) h3, Array.getElem?_eq_getElem (by omega)]; rfl
/-- the first one cut off -/
theorem Win.tail {x ys : List Value} {A : Option Addr} {c : Nat} (h : Win w base e k (.slice A (n + 1) c) (n + 1) (x ++ ys)) (hx : x.length = k) :
    Win w base e k (.slice (if c = 1 then A else A.map (·.add (1 * k))) n (c - 1)) n ys := by
  have hl : ys.length = n * k := by have := h.1; rw [List.length_append, hx, Nat.add_mul, Nat.one_mul] at this; omega
  refine ⟨hl, ?_⟩
  rcases h.2 with ⟨_, h2⟩ | ⟨g, off, c', h1, h2, h3, h4, h5, h6, h7⟩
  · omega
  injection h1 with h1 _ hc
  subst hc
  subst h1
  right
  by_cases e1 : c = 1
  · obtain rfl : n = 0 := by omega
    have : ys = [] := List.eq_nil_of_length_eq_zero (by simpa using hl)
    subst this
    refine ⟨g, off, c - 1, by rw [if_pos e1], h2, h3, by omega, by omega, fun j u hj => by simp at hj, fun j hj => by rw [e1] at hj; simp at hj⟩
  · refine ⟨g, off + k, c - 1, by rw [if_neg e1]; simp [Addr.add_lit], h2, h3, by omega, by omega, fun j u hj => ?_, fun j hj => ?_⟩
    · rw [Nat.add_assoc]
      exact h6 (k + j) u (by rw [List.getElem?_append_right (by omega), hx, Nat.add_sub_cancel_left]; exact hj)
    · rw [Nat.add_assoc]
      refine h7 (k + j) ?_
      have : (c - 1) * k + k = c * k := by rw [← Nat.succ_mul]; congr 1; omega
      omega
end
theorem kin_setCells {w : World} {g b o : Nat} {e : TypeId} (vs : List Value) (h : kin w g e) : kin (w.setCells b o vs) g e := by
  induction vs generalizing w o with
  | nil => exact h
  | cons v vs ih =>
    unfold World.setCells
    refine ih ?_
    obtain ⟨cur, h⟩ := h
    by_cases hg : g = b
    · subst hg
      exact ⟨cur.setIfInBounds o v, by simp [World.setCell, Array.getElem?_modify, h]⟩
    · exact ⟨cur, (Below.heap_setCell w ⟨b, o, none⟩ v g hg).trans h⟩
theorem size_setCells (b : Nat) : ∀ (vs : List Value) (o : Nat) (w : World), (w.setCells b o vs).heap.size = w.heap.size
  | [], _, _ => rfl
  | v :: vs, o, w => by unfold World.setCells; rw [size_setCells b vs]; simp [World.setCell]
theorem tape_setCells (b : Nat) : ∀ (vs : List Value) (o : Nat) (w : World), (w.setCells b o vs).tape = w.tape
  | [], _, _ => rfl
  | v :: vs, o, w => by unfold World.setCells; rw [tape_setCells b vs]; rfl
/-- append to a window -/
theorem run_append_win {w : World} (t ty : TypeId) (base : Nat) (e : TypeId) (i : TypeInfo) (z : Value) (size bytes : Nat) (ht : Tryz.prog.underlying t = some (.slice e)) (hi : Tryz.prog.info? e = some i) (hz : i.zero = some z)
    (hsize : i.size = size) (hby : i.bytes = bytes) (hzs : z.cells.size = size) (hsz : 0 < size)
    (v : Value) (n : Nat) (xs : List Value) (hown : Win w base e size v n xs)
    (ad : Addr) (m c : Nat) (news : List Value) (hl : news.length = m * size) (hnews : ∀ j u, news[j]? = some u → w.cell? (ad.add j) = some u) (h1 : ∀ u ∈ news, u.oneCell' = true)
    (hm : 0 < m) (h63 : n + m ≤ maxLen) (hbytes : (n + m) * bytes ≤ 140737488355328) (hbase : base ≤ w.heap.size) :
    ∃ g off cap w', (Builtin.append_ #[t, t] ty #[v, .slice (some ad) m c]).run Tryz.prog w = .ok (.slice (some ⟨g, off, none⟩) (n + m) cap) w' ∧
      Win w' base e size (.slice (some ⟨g, off, none⟩) (n + m) cap) (n + m) (xs ++ news) ∧ w.grownBy w' v.ownBlock ∧ (v.ownBlock = some g ∨ w.heap.size ≤ g) := by
  have grows : ∀ v' w', (Builtin.append_ #[t, t] ty #[v, .slice (some ad) m c]).run Tryz.prog w = .ok v' w' → w'.ownsRow w.heap.size e size v' (n + m) (xs ++ news) → w.grownBy w' v.ownBlock →
      ∃ g off cap w', (Builtin.append_ #[t, t] ty #[v, .slice (some ad) m c]).run Tryz.prog w = .ok (.slice (some ⟨g, off, none⟩) (n + m) cap) w' ∧ Win w' base e size (.slice (some ⟨g, off, none⟩) (n + m) cap) (n + m) (xs ++ news) ∧ w.grownBy w' v.ownBlock ∧ (v.ownBlock = some g ∨ w.heap.size ≤ g) := fun v' w' hr h2 h3 => by
    obtain ⟨g, cap, rfl, hg, _⟩ := h2.form (by omega)
    exact ⟨g, 0, cap, w', hr, Win.own h2 hbase, h3, .inr hg⟩
  rcases hown.2 with ⟨rfl, rfl⟩ | ⟨g, off, cap, rfl, k1, k2, k3, k4, k5, k6⟩
  · obtain rfl : xs = [] := List.eq_nil_of_length_eq_zero (by simpa using hown.1)
    obtain ⟨v', w', hr, h2, h3, _⟩ := run_append_own (P := Tryz.prog) w w.heap.size t ty e i z size bytes ht hi hz hsize hby hzs hsz (.slice none 0 0) 0 [] (World.ownsRow_nil w _ e size) ad m c news hl hnews h1 h63 hbytes (Nat.le_refl _)
    exact grows v' w' hr h2 h3
  · by_cases hroom : n + m ≤ cap
    · have hsp : ∀ j, j < news.length → (w.cell? ⟨g, off + n * size + j, none⟩).isSome = true := fun j hj => by
        rw [Nat.add_assoc]
        refine k6 _ ?_
        have : n * size + m * size ≤ cap * size := by rw [← Nat.add_mul]; exact Nat.mul_le_mul_right _ hroom
        omega
      have hfr : ∀ o, w.frozen? ⟨g, o, none⟩ = false := fun o => by obtain ⟨cur, hk⟩ := k2; simp [World.frozen?, hk]
      have hr := run_append_room_cells (P := Tryz.prog) w t ty e i ht hi g off n cap ad m c news (by rw [hsize]; exact hl) hnews h1 hroom (by rw [hsize]; exact hsp) (fun j _ => hfr _)
      rw [hsize] at hr
      refine ⟨g, off, cap, _, hr, ⟨?_, .inr ⟨g, off, cap, rfl, k1, kin_setCells _ k2, hroom, k4, fun j u hj => ?_, fun j hj => ?_⟩⟩, ⟨World.os_setCells _ _ _ _, tape_setCells _ _ _ _, World.output_setCells _ _ _ _, by rw [size_setCells]; exact Nat.le_refl _, fun b hb hne => World.heap_setCells_other _ _ _ _ hb (fun e => hne (by rw [e]; rfl))⟩, .inl rfl⟩
      · rw [List.length_append, hown.1, hl, Nat.add_mul]
      · rcases Nat.lt_or_ge j (n * size) with hlt | hge
        · rw [List.getElem?_append_left (by rw [hown.1]; exact hlt)] at hj
          rw [World.cell?_setCells_out g news (off + n * size) w ⟨g, off + j, none⟩ (fun _ _ => .inl (by show off + j < off + n * size; omega))]
          exact k5 j u hj
        · rw [List.getElem?_append_right (by rw [hown.1]; exact hge), hown.1] at hj
          have hjl : j - n * size < news.length := by
            rcases Nat.lt_or_ge (j - n * size) news.length with h | h
            · exact h
            · rw [List.getElem?_eq_none h] at hj; cases hj
          have := World.cell?_setCells_in g news (off + n * size) w hsp (j - n * size) hjl
          rw [show off + j = off + n * size + (j - n * size) by omega, this]
          rw [List.getElem?_eq_getElem hjl] at hj; exact hj
      · rcases Nat.lt_or_ge j (n * size) with hlt | hge
        · rw [World.cell?_setCells_out g news (off + n * size) w ⟨g, off + j, none⟩ (fun _ _ => .inl (by show off + j < off + n * size; omega))]
          exact k6 j hj
        · rcases Nat.lt_or_ge (j - n * size) news.length with hjl | hjl
          · have := World.cell?_setCells_in g news (off + n * size) w hsp (j - n * size) hjl
            rw [show off + j = off + n * size + (j - n * size) by omega, this]; rfl
          · rw [World.cell?_setCells_out g news (off + n * size) w ⟨g, off + j, none⟩ (fun _ _ => .inr (by show off + n * size + news.length ≤ off + j; omega))]
            exact k6 j hj
    · obtain ⟨v', w', hr, h2, h3⟩ := run_append_arg_grows (P := Tryz.prog) w t ty e i z size bytes ht hi hz hsize hby hzs hsz ⟨g, off, none⟩ n cap xs hown.1 (fun j u hj => by rw [Addr.add_lit]; exact k5 j u hj) ad m c news hl hnews (by omega) h63 hbytes
      exact grows v' w' hr h2 ⟨h3.os, h3.tape, h3.output, h3.size, fun b hb _ => h3.block b hb (by simp)⟩
theorem step_append_win {w : World} {ops : Array Oper} {o : Oper} {a : Act} {K : Act → World → Prop} {Q : Exit → Act → World → Prop} {E : Prop} (hgd : o.guard = none) (s x : Operand) (t : TypeId)
    (ho : o.op = .call { callee := .builtin .append, args := #[s, x], argTypes := #[t, t] })
    (base : Nat) (e : TypeId) (z : Value) (size bytes : Nat) (ht : Tryz.prog.underlying t = some (.slice e)) (hi : (Tryz.prog.info? e).map (fun i => (i.zero, i.size, i.bytes)) = some (some z, size, bytes)) (hzs : z.cells.size = size) (hsz : 0 < size)
    (v : Value) (n : Nat) (xs : List Value) (hs : a.eval s = v) (hown : Win w base e size v n xs)
    (g : Nat) (news : List Value) (hx : a.eval x = .slice (some ⟨g, 0, none⟩) 1 1) (hl : news.length = size) (hnews : ∀ j u, news[j]? = some u → w.cell? ⟨g, j, none⟩ = some u) (h1 : ∀ u ∈ news, u.oneCell' = true)
    (hn : n ≤ 1000000) (hby : bytes ≤ 1000000) (hbase : base ≤ w.heap.size)
    (h : ∀ g off cap w', Win w' base e size (.slice (some ⟨g, off, none⟩) (n + 1) cap) (n + 1) (xs ++ news) → w.grownBy w' v.ownBlock → (v.ownBlock = some g ∨ w.heap.size ≤ g) → K (a.put o.dst (.slice (some ⟨g, off, none⟩) (n + 1) cap)) w') :
    if Region.wanted o (yielded ops a.tmps) = true then Oper.wp Tryz.prog o a w K Q else E := by
  have hw : Region.wanted o (yielded ops a.tmps) = true := by simp [Region.wanted, hgd]
  rw [if_pos hw]
  obtain ⟨i0, hi0, hz0, hz1, hz2⟩ := info_parts hi
  have hb : (n + 1) * bytes ≤ 1000001 * 1000000 := Nat.mul_le_mul (by omega) hby
  obtain ⟨g, off, cap, w', hr, h2, h3, h4⟩ := run_append_win t o.type base e i0 z size bytes ht hi0 hz0 hz1 hz2 hzs hsz v n xs hown ⟨g, 0, none⟩ 1 1 news (by rw [hl, Nat.one_mul]) (fun j u hj => by rw [Addr.add_lit, Nat.zero_add]; exact hnews j u hj) h1 (by omega) (by unfold maxLen; omega) (by omega) hbase
  unfold Oper.wp execOp
  simp only [ho, resolve, invoke, builtin, Sem.run_bind, Sem.run_pure, Result.andThen_ok, List.map_toArray, List.map_cons, List.map_nil, hs, hx, hr]
  exact h g off cap w' h2 h3 h4
end Go.Proofs.YtfelefkmbbfdjaaGreatDoor
