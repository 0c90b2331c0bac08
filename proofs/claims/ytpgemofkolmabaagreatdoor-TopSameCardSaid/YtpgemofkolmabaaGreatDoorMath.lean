/- Plain laws: no Go in sight: arithmetic round the prime 257, polynomials through points, powers. -/
namespace Go.Proofs.YtpgemofkolmabaaGreatDoor.PM
/-! Arithmetic round the prime 257, and polynomials over it. Plain Lean. -/

abbrev F := Fin 257

def q (n : Int) : F := ⟨(n % 257).toNat, by omega⟩

theorem q_add (a b : Int) : q (a + b) = q a + q b := by
  apply Fin.ext; simp only [q, Fin.val_add]; omega
theorem q_sub (a b : Int) : q (a - b) = q a - q b := by
  apply Fin.ext; simp only [q, Fin.sub_def]; omega
theorem q_mul (a b : Int) : q (a * b) = q a * q b := by
  apply Fin.ext; simp only [q, Fin.val_mul]
  have e : a * b % 257 = (a % 257) * (b % 257) % 257 := Int.mul_emod a b 257
  have ha : ((a % 257).toNat : Int) = a % 257 := Int.toNat_of_nonneg (by omega)
  have hb : ((b % 257).toNat : Int) = b % 257 := Int.toNat_of_nonneg (by omega)
  rw [e]
  have : (((a % 257).toNat * (b % 257).toNat : Nat) : Int) = (a % 257) * (b % 257) := by rw [Int.natCast_mul, ha, hb]
  omega
theorem q_mod (a : Int) : q (a % 257) = q a := by
  apply Fin.ext; simp only [q]; omega
theorem q_eq {a b : Int} : q a = q b ↔ a % 257 = b % 257 := by
  constructor
  · intro h; have := congrArg Fin.val h; simp only [q] at this; omega
  · intro h; apply Fin.ext; simp only [q, h]
theorem q_inj {a b : Int} (h : q a = q b) (ha : 0 ≤ a) (ha' : a < 257) (hb : 0 ≤ b) (hb' : b < 257) : a = b := by
  have := q_eq.1 h; omega
theorem q_zero : q 0 = 0 := rfl
theorem q_one : q 1 = 1 := rfl
theorem q_257 : q 257 = 0 := rfl

/-- the inverse, as it is reckoned -/
def iv (a : Int) : Int := a ^ 255 % 257
theorem iv_range (a : Int) : 0 ≤ iv a ∧ iv a < 257 := by unfold iv; omega
theorem iv_mul (a : Int) (h0 : 0 < a) (h : a < 257) : a * iv a % 257 = 1 := by
  have : ∀ n : Nat, n < 257 → 0 < n → (n : Int) * ((n : Int) ^ 255 % 257) % 257 = 1 := by decide +kernel
  obtain ⟨n, rfl⟩ := Int.eq_ofNat_of_zero_le (Int.le_of_lt h0)
  exact this n (by omega) (by omega)
theorem q_iv (a : Int) (h0 : 0 < a) (h : a < 257) : q a * q (iv a) = 1 := by
  rw [← q_mul, ← q_one, q_eq, iv_mul a h0 h]; rfl
theorem pow257 (a : Int) (h0 : 0 ≤ a) (h : a < 257) : a ^ 257 % 257 = a := by
  have : ∀ n : Nat, n < 257 → ((n : Int) ^ 257 % 257) = n := by decide +kernel
  obtain ⟨n, rfl⟩ := Int.eq_ofNat_of_zero_le h0
  exact this n (by omega)

theorem q_val (a : F) : q a.val = a := by
  apply Fin.ext; simp only [q]; omega
theorem dom (a b : F) (h : a * b = 0) : a = 0 ∨ b = 0 := by
  by_cases h0 : a = 0
  · exact .inl h0
  · have hv : 0 < a.val := by
      rcases Nat.eq_zero_or_pos a.val with e | e
      · exact absurd (Fin.ext e) h0
      · exact e
    have hi := q_iv (a.val : Int) (by omega) (by omega)
    rw [q_val] at hi
    right; grind

/-! ### polynomials -/
/-- a polynomial at x: the factors from that of power 0 on -/
def pe : List F → F → F
  | [], _ => 0
  | a :: l, x => a + x * pe l x

/-- f is a polynomial of at most n factors -/
def IsPoly (n : Nat) (f : F → F) : Prop := ∃ l : List F, l.length ≤ n ∧ ∀ x, f x = pe l x

def padd : List F → List F → List F
  | [], m => m
  | l, [] => l
  | a :: l, b :: m => (a + b) :: padd l m
theorem pe_padd (l m : List F) (x : F) : pe (padd l m) x = pe l x + pe m x := by
  induction l generalizing m with
  | nil => simp [padd, pe]
  | cons a l ih =>
    cases m with
    | nil => simp [padd, pe]
    | cons b m => simp only [padd, pe, ih]; grind
theorem padd_length (l m : List F) : (padd l m).length ≤ max l.length m.length := by
  induction l generalizing m with
  | nil => simp [padd]
  | cons a l ih =>
    cases m with
    | nil => simp [padd]
    | cons b m => simp only [padd, List.length_cons]; have := ih m; omega
def pmul (c : F) (l : List F) : List F := l.map (c * ·)
theorem pe_pmul (c : F) (l : List F) (x : F) : pe (pmul c l) x = c * pe l x := by
  induction l with
  | nil => simp only [pmul, List.map_nil, pe]; grind
  | cons a l ih => simp only [pmul, List.map_cons, pe] at *; rw [ih]; grind

theorem IsPoly.more {n m : Nat} {f : F → F} (h : IsPoly n f) (hm : n ≤ m) : IsPoly m f := by
  obtain ⟨l, hl, he⟩ := h; exact ⟨l, by omega, he⟩
theorem IsPoly.zero (n : Nat) : IsPoly n (fun _ => 0) := ⟨[], by simp, fun _ => rfl⟩
theorem IsPoly.const (c : F) : IsPoly 1 (fun _ => c) := ⟨[c], by simp, fun x => by simp only [pe]; grind⟩
theorem IsPoly.add {n : Nat} {f g : F → F} (h : IsPoly n f) (k : IsPoly n g) : IsPoly n (fun x => f x + g x) := by
  obtain ⟨l, hl, he⟩ := h; obtain ⟨m, hm, hg⟩ := k
  exact ⟨padd l m, by have := padd_length l m; omega, fun x => by show f x + g x = _; rw [pe_padd, he, hg]⟩
theorem IsPoly.smul {n : Nat} {f : F → F} (c : F) (h : IsPoly n f) : IsPoly n (fun x => c * f x) := by
  obtain ⟨l, hl, he⟩ := h
  exact ⟨pmul c l, by simp [pmul]; omega, fun x => by show c * f x = _; rw [pe_pmul, he]⟩
theorem IsPoly.lin {n : Nat} {f : F → F} (a : F) (h : IsPoly n f) : IsPoly (n + 1) (fun x => (x - a) * f x) := by
  obtain ⟨l, hl, he⟩ := h
  refine ⟨padd (0 :: l) (pmul (-a) l), ?_, fun x => ?_⟩
  · have := padd_length (0 :: l) (pmul (-a) l); simp [pmul] at this ⊢; omega
  · show (x - a) * f x = _; rw [pe_padd, pe_pmul, he, pe]; grind
theorem IsPoly.sub {n : Nat} {f g : F → F} (h : IsPoly n f) (k : IsPoly n g) : IsPoly n (fun x => f x - g x) := by
  have := h.add (k.smul (-1))
  obtain ⟨l, hl, he⟩ := this
  exact ⟨l, hl, fun x => by rw [← he]; grind⟩
theorem IsPoly.congr {n : Nat} {f g : F → F} (h : IsPoly n f) (e : ∀ x, g x = f x) : IsPoly n g := by
  obtain ⟨l, hl, he⟩ := h; exact ⟨l, hl, fun x => by rw [e, he]⟩
theorem IsPoly.pe (l : List F) : IsPoly l.length (pe l) := ⟨l, Nat.le_refl _, fun _ => rfl⟩

/-- a root goes out -/
theorem IsPoly.root {n : Nat} {f : F → F} (h : IsPoly (n + 1) f) (a : F) : ∃ g, IsPoly n g ∧ ∀ x, f x = f a + (x - a) * g x := by
  obtain ⟨l, hl, he⟩ := h
  suffices H : ∀ (l : List F) (n : Nat), l.length ≤ n + 1 → ∃ g, IsPoly n g ∧ ∀ x, PM.pe l x = PM.pe l a + (x - a) * g x by
    obtain ⟨g, hg, hx⟩ := H l n hl
    exact ⟨g, hg, fun x => by rw [he, he, hx]⟩
  intro l
  induction l with
  | nil => intro n _; exact ⟨fun _ => 0, IsPoly.zero _, fun x => by simp only [PM.pe]; grind⟩
  | cons c l ih =>
    intro n hl
    cases n with
    | zero =>
      have : l = [] := List.eq_nil_of_length_eq_zero (by simpa using hl)
      subst this
      exact ⟨fun _ => 0, IsPoly.zero _, fun x => by simp only [PM.pe]; grind⟩
    | succ n =>
      obtain ⟨g, hg, hx⟩ := ih n (by simpa using hl)
      -- pe (c::l) x = c + x * pe l x = c + a * pe l a + (x-a) * (pe l a + x * g x)
      refine ⟨fun x => PM.pe l a + x * g x, ?_, fun x => ?_⟩
      · obtain ⟨m, hm, hgm⟩ := hg
        exact ⟨PM.pe l a :: m, by simp; omega, fun x => by simp only [PM.pe, hgm]⟩
      · simp only [PM.pe]; rw [hx x]; grind

/-- of at most n factors, nought at n places that differ: nought -/
theorem IsPoly.none {n : Nat} {f : F → F} (h : IsPoly n f) (xs : List F) (hn : n ≤ xs.length) (hd : xs.Nodup) (h0 : ∀ x ∈ xs, f x = 0) : ∀ x, f x = 0 := by
  induction n generalizing f xs with
  | zero =>
    obtain ⟨l, hl, he⟩ := h
    have : l = [] := List.eq_nil_of_length_eq_zero (by omega)
    subst this; intro x; rw [he]; rfl
  | succ n ih =>
    cases xs with
    | nil => simp at hn
    | cons a xs =>
      obtain ⟨g, hg, hx⟩ := h.root a
      rw [List.nodup_cons] at hd
      have ha := h0 a (List.mem_cons_self ..)
      have := ih hg xs (by simpa using hn) hd.2 (fun y hy => by
        have h1 := hx y
        rw [h0 y (List.mem_cons_of_mem _ hy), ha] at h1
        have h2 : (y - a) * g y = 0 := by grind
        rcases dom _ _ h2 with h3 | h3
        · have : y = a := by grind
          subst this; exact absurd hy hd.1
        · exact h3)
      intro x
      rw [hx, ha, this]; grind

theorem IsPoly.one {n : Nat} {f g : F → F} (h : IsPoly n f) (k : IsPoly n g) (xs : List F) (hn : n ≤ xs.length) (hd : xs.Nodup) (h0 : ∀ x ∈ xs, f x = g x) : ∀ x, f x = g x := by
  intro x
  have := (h.sub k).none xs hn hd (fun y hy => by rw [h0 y hy]; grind) x
  grind

end Go.Proofs.YtpgemofkolmabaaGreatDoor.PM

namespace Go.Proofs.YtpgemofkolmabaaGreatDoor.PM

/-! ### through points (Lagrange): rounds of the loops -/
/-- the inner loop: behind k rounds -/
def pb (X : Nat → Int) (i : Nat) (x u : Int) : Nat → Int
  | 0 => u
  | k + 1 => if k = i then pb X i x u k else pb X i x u k * (x - X k + 257) % 257
/-- the outer loop: behind k rounds -/
def thr (X Y : Nat → Int) (n : Nat) (x : Int) : Nat → Int
  | 0 => 0
  | k + 1 => (thr X Y n x k + pb X k x (Y k) n * iv (pb X k (X k) 1 n)) % 257

theorem pb_range (X : Nat → Int) (i : Nat) (x u : Int) (hu : 0 ≤ u ∧ u < 257) (k : Nat) : 0 ≤ pb X i x u k ∧ pb X i x u k < 257 := by
  induction k with
  | zero => exact hu
  | succ k ih => simp only [pb]; split <;> omega
theorem thr_range (X Y : Nat → Int) (n : Nat) (x : Int) (k : Nat) : 0 ≤ thr X Y n x k ∧ thr X Y n x k < 257 := by
  cases k with
  | zero => simp [thr]
  | succ k => simp only [thr]; omega

def pbF (X : Nat → F) (i : Nat) (x : F) : Nat → F
  | 0 => 1
  | k + 1 => if k = i then pbF X i x k else (x - X k) * pbF X i x k
theorem q_pb (X : Nat → Int) (i : Nat) (x u : Int) (k : Nat) : q (pb X i x u k) = q u * pbF (fun j => q (X j)) i (q x) k := by
  induction k with
  | zero => simp only [pb, pbF]; grind
  | succ k ih =>
    simp only [pb, pbF]
    split
    · exact ih
    · rw [q_mod, q_mul, ih, q_add, q_sub, q_257]; grind
theorem pbF_poly (X : Nat → F) (i : Nat) (k : Nat) : IsPoly (if i < k then k else k + 1) (fun x => pbF X i x k) := by
  induction k with
  | zero => simp only [pbF]; exact IsPoly.const 1
  | succ k ih =>
    by_cases h : k = i
    · subst h
      rw [if_neg (by omega)] at ih
      simp only [pbF, if_true, if_pos (Nat.lt_succ_self k)]
      exact ih
    · simp only [pbF, if_neg h]
      have := ih.lin (X k)
      by_cases hi : i < k
      · rw [if_pos hi] at this; rw [if_pos (by omega)]; exact this
      · rw [if_neg hi] at this; rw [if_neg (by omega)]; exact this
theorem pbF_zero (X : Nat → F) (i m k : Nat) (hm : m < k) (hne : m ≠ i) : pbF X i (X m) k = 0 := by
  induction k with
  | zero => omega
  | succ k ih =>
    simp only [pbF]
    by_cases e : m = k
    · subst e; rw [if_neg hne]; grind
    · have := ih (by omega)
      split
      · exact this
      · rw [this]; grind
theorem pbF_ne (X : Nat → F) (i k : Nat) (hd : ∀ j, j < k → j ≠ i → X i ≠ X j) : pbF X i (X i) k ≠ 0 := by
  induction k with
  | zero => simp only [pbF]; decide
  | succ k ih =>
    have := ih (fun j hj hne => hd j (by omega) hne)
    simp only [pbF]
    split
    · exact this
    · rename_i hne
      intro h0
      rcases dom _ _ h0 with h1 | h1
      · exact hd k (by omega) hne (by grind)
      · exact this h1

/-- partial sums of Lagrange's way -/
def lag (X Y : Nat → F) (D : Nat → F) (n : Nat) (x : F) : Nat → F
  | 0 => 0
  | k + 1 => lag X Y D n x k + Y k * D k * pbF X k x n
theorem lag_poly (X Y D : Nat → F) (n k : Nat) (hk : k ≤ n) : IsPoly n (fun x => lag X Y D n x k) := by
  induction k with
  | zero => exact IsPoly.zero n
  | succ k ih =>
    have h := pbF_poly X k n
    rw [if_pos (by omega)] at h
    exact (ih (by omega)).add (h.smul _)
theorem lag_at (X Y D : Nat → F) (n m : Nat) (hm : m < n) (hD : D m * pbF X m (X m) n = 1) (k : Nat) (hk : k ≤ n) :
    lag X Y D n (X m) k = if m < k then Y m else 0 := by
  induction k with
  | zero => rfl
  | succ k ih =>
    simp only [lag]
    rw [ih (by omega)]
    by_cases e : m = k
    · subst e; rw [if_neg (by omega), if_pos (by omega)]; grind
    · rw [pbF_zero X k m n hm e]
      by_cases h : m < k
      · rw [if_pos h, if_pos (by omega)]; grind
      · rw [if_neg h, if_neg (by omega)]; grind

/-- places that differ, and are places -/
structure Pts (X Y : Nat → Int) (n : Nat) : Prop where
  xr : ∀ i, i < n → 0 ≤ X i ∧ X i < 257
  yr : ∀ i, i < n → 0 ≤ Y i ∧ Y i < 257
  ne : ∀ i j, i < n → j < n → i ≠ j → X i ≠ X j

theorem Pts.qne {X Y : Nat → Int} {n : Nat} (h : Pts X Y n) {i j : Nat} (hi : i < n) (hj : j < n) (hne : i ≠ j) : q (X i) ≠ q (X j) := by
  intro e
  have a := h.xr i hi; have b := h.xr j hj
  exact h.ne i j hi hj hne (q_inj e a.1 a.2 b.1 b.2)

theorem Pts.inv {X Y : Nat → Int} {n : Nat} (h : Pts X Y n) {m : Nat} (hm : m < n) :
    q (iv (pb X m (X m) 1 n)) * pbF (fun j => q (X j)) m (q (X m)) n = 1 := by
  have hr := pb_range X m (X m) 1 (by omega) n
  have hq := q_pb X m (X m) 1 n
  have hne := pbF_ne (fun j => q (X j)) m n (fun j hj hne => h.qne hm hj (fun e => hne e.symm))
  have h0 : 0 < pb X m (X m) 1 n := by
    rcases Int.lt_or_eq_of_le hr.1 with e | e
    · exact e
    · rw [← e] at hq
      exact absurd (by rw [q_one] at hq; have : q 0 = 0 := rfl; grind) hne
  have := q_iv _ h0 hr.2
  rw [hq, q_one] at this
  grind

theorem q_thr (X Y : Nat → Int) (n : Nat) (x : Int) (k : Nat) :
    q (thr X Y n x k) = lag (fun j => q (X j)) (fun j => q (Y j)) (fun j => q (iv (pb X j (X j) 1 n))) n (q x) k := by
  induction k with
  | zero => rfl
  | succ k ih =>
    simp only [thr, lag]
    rw [q_mod, q_add, q_mul, ih, q_pb]; grind

/-- WHAT GOES THROUGH POINTS IS THE ONE POLYNOMIAL OF SO FEW FACTORS. -/
theorem thr_poly {X Y : Nat → Int} {n : Nat} (h : Pts X Y n) {f : F → F} (hf : IsPoly n f) (hy : ∀ i, i < n → f (q (X i)) = q (Y i)) (x : Int) :
    q (thr X Y n x n) = f (q x) := by
  rw [q_thr]
  have hl := lag_poly (fun j => q (X j)) (fun j => q (Y j)) (fun j => q (iv (pb X j (X j) 1 n))) n n (Nat.le_refl _)
  refine hl.one hf ((List.range n).map fun j => q (X j)) (by simp) ?_ ?_ (q x)
  · rw [List.nodup_iff_pairwise_ne, List.pairwise_map]
    refine List.Pairwise.imp_of_mem ?_ (List.nodup_iff_pairwise_ne.1 List.nodup_range)
    intro a b ha hb hne
    exact h.qne (by simpa using ha) (by simpa using hb) hne
  · intro y hyy
    obtain ⟨m, hm, rfl⟩ := List.mem_map.1 hyy
    have hm' : m < n := by simpa using hm
    rw [lag_at _ _ _ n m hm' (h.inv hm') n (Nat.le_refl _), if_pos hm', hy m hm']
/-- .. and there is one. -/
theorem thr_is_poly {X Y : Nat → Int} {n : Nat} (h : Pts X Y n) : ∃ f, IsPoly n f ∧ (∀ i, i < n → f (q (X i)) = q (Y i)) ∧ ∀ x : Int, q (thr X Y n x n) = f (q x) := by
  refine ⟨_, lag_poly (fun j => q (X j)) (fun j => q (Y j)) (fun j => q (iv (pb X j (X j) 1 n))) n n (Nat.le_refl _), fun i hi => ?_, fun x => q_thr X Y n x n⟩
  show lag _ _ _ n _ n = _
  rw [lag_at _ _ _ n i hi (h.inv hi) n (Nat.le_refl _), if_pos hi]
/-- it goes through each point -/
theorem thr_each {X Y : Nat → Int} {n : Nat} (h : Pts X Y n) {i : Nat} (hi : i < n) : thr X Y n (X i) n = Y i := by
  obtain ⟨f, _, hy, hx⟩ := thr_is_poly h
  have r := thr_range X Y n (X i) n
  have s := h.yr i hi
  exact q_inj (by rw [hx, hy i hi]) r.1 r.2 s.1 s.2

/-! ### a polynomial's values (Horner), from the last factor on -/
/-- behind k rounds from the end: the factors from n - k on -/
def hor : List Int → Int → Int
  | [], _ => 0
  | a :: l, x => (hor l x * x + a) % 257
theorem hor_range (l : List Int) (x : Int) : 0 ≤ hor l x ∧ hor l x < 257 := by
  cases l with
  | nil => simp [hor]
  | cons a l => simp only [hor]; omega
theorem q_hor (l : List Int) (x : Int) : q (hor l x) = pe (l.map q) (q x) := by
  induction l with
  | nil => rfl
  | cons a l ih => simp only [hor, List.map_cons, pe]; rw [q_mod, q_add, q_mul, ih]; grind
theorem hor_isPoly (l : List Int) : IsPoly l.length (fun x => pe (l.map q) x) := ⟨l.map q, by simp, fun _ => rfl⟩

/-- AS MANY POINTS AS FACTORS TELL IT ALL. -/
theorem thr_hor {X Y : Nat → Int} {n : Nat} (h : Pts X Y n) (p : List Int) (hp : p.length ≤ n) (hy : ∀ i, i < n → Y i = hor p (X i)) (x : Int) :
    thr X Y n x n = hor p x := by
  have r := thr_range X Y n x n
  have s := hor_range p x
  refine q_inj ?_ r.1 r.2 s.1 s.2
  rw [thr_poly h ((hor_isPoly p).more hp) (fun i hi => by rw [hy i hi, q_hor]) x, q_hor]

end Go.Proofs.YtpgemofkolmabaaGreatDoor.PM

namespace Go.Proofs.YtpgemofkolmabaaGreatDoor.PM

/-! ### Neville's way -/
def nv (X Y : Nat → Int) (x : Int) : Nat → Nat → Int
  | 0, i => Y i
  | k + 1, i => ((x - X (i + (k + 1)) + 257) % 257 * nv X Y x k i + (X i - x + 257) % 257 * nv X Y x k (i + 1)) % 257 * iv ((X i - X (i + (k + 1)) + 257) % 257) % 257

theorem nv_range {X Y : Nat → Int} {n : Nat} (h : Pts X Y n) (x : Int) (k i : Nat) (hi : i + k < n) : 0 ≤ nv X Y x k i ∧ nv X Y x k i < 257 := by
  cases k with
  | zero => exact h.yr i (by omega)
  | succ k => simp only [nv]; omega

theorem nv_poly {X Y : Nat → Int} {n : Nat} (h : Pts X Y n) (k : Nat) : ∀ i, i + k < n →
    ∃ f, IsPoly (k + 1) f ∧ (∀ j, i ≤ j → j ≤ i + k → f (q (X j)) = q (Y j)) ∧ ∀ x, q (nv X Y x k i) = f (q x) := by
  induction k with
  | zero =>
    intro i hi
    exact ⟨fun _ => q (Y i), IsPoly.const _, fun j h1 h2 => by rw [show j = i by omega], fun x => rfl⟩
  | succ k ih =>
    intro i hi
    obtain ⟨f, hf, hfy, hfx⟩ := ih i (by omega)
    obtain ⟨g, hg, hgy, hgx⟩ := ih (i + 1) (by omega)
    have hxi := h.xr i (by omega)
    have hxk := h.xr (i + (k + 1)) hi
    have hne := h.qne (i := i) (j := i + (k + 1)) (by omega) hi (by omega)
    have hd0 : 0 < (X i - X (i + (k + 1)) + 257) % 257 := by
      have := h.ne i (i + (k + 1)) (by omega) hi (by omega); omega
    have hinv := q_iv _ hd0 (by omega)
    rw [q_mod, q_add, q_sub, q_257] at hinv
    have hev : ∀ z : F, (q (iv ((X i - X (i + (k + 1)) + 257) % 257))) * ((z - q (X (i + (k + 1)))) * f z + (-1) * ((z - q (X i)) * g z))
        = ((z - q (X (i + (k + 1)))) * f z + (q (X i) - z) * g z) * q (iv ((X i - X (i + (k + 1)) + 257) % 257)) := by intro z; grind
    refine ⟨fun z => (q (iv ((X i - X (i + (k + 1)) + 257) % 257))) * ((z - q (X (i + (k + 1)))) * f z + (-1) * ((z - q (X i)) * g z)), ?_, ?_, ?_⟩
    · exact ((hf.lin _).add ((hg.lin _).smul _)).smul _
    · intro j h1 h2
      show (q (iv ((X i - X (i + (k + 1)) + 257) % 257))) * ((q (X j) - q (X (i + (k + 1)))) * f (q (X j)) + (-1) * ((q (X j) - q (X i)) * g (q (X j)))) = _
      generalize q (iv ((X i - X (i + (k + 1)) + 257) % 257)) = I at *
      by_cases e1 : j = i
      · subst e1
        rw [hfy j (by omega) (by omega)]; grind
      · by_cases e2 : j = i + (k + 1)
        · subst e2
          rw [hgy _ (by omega) (by omega)]; grind
        · rw [hfy j (by omega) (by omega), hgy j (by omega) (by omega)]; grind
    · intro x
      show _ = (q (iv ((X i - X (i + (k + 1)) + 257) % 257))) * ((q x - q (X (i + (k + 1)))) * f (q x) + (-1) * ((q x - q (X i)) * g (q x)))
      rw [hev]
      simp only [nv]
      rw [q_mod, q_mul, q_mod, q_add, q_mul, q_mul, q_mod, q_mod, q_add, q_add, q_sub, q_sub, q_257, hfx, hgx]
      grind

/-- NEVILLE's WAY IS LAGRANGE's. -/
theorem nv_thr {X Y : Nat → Int} {n : Nat} (h : Pts X Y n) (hn : 0 < n) (x : Int) : nv X Y x (n - 1) 0 = thr X Y n x n := by
  obtain ⟨f, hf, hfy, hfx⟩ := nv_poly h (n - 1) 0 (by omega)
  have r := nv_range h x (n - 1) 0 (by omega)
  have s := thr_range X Y n x n
  refine q_inj ?_ r.1 r.2 s.1 s.2
  rw [hfx, thr_poly h (hf.more (by omega)) (fun i hi => hfy i (by omega) (by omega)) x]

/-! ### values by sums (the reference) -/
def atT (x : Int) : Nat → Int
  | 0 => 1
  | k + 1 => atT x k * x % 257
def atS (p : Nat → Int) (x : Int) : Nat → Int
  | 0 => 0
  | k + 1 => (atS p x k + p k * atT x k) % 257
theorem atT_range (x : Int) (k : Nat) : 0 ≤ atT x k ∧ atT x k < 257 := by
  cases k with
  | zero => simp [atT]
  | succ k => simp only [atT]; omega
theorem atS_range (p : Nat → Int) (x : Int) (k : Nat) : 0 ≤ atS p x k ∧ atS p x k < 257 := by
  cases k with
  | zero => simp [atS]
  | succ k => simp only [atS]; omega
theorem atT_shift (x : Int) (k : Nat) : q (atT x (k + 1)) = q x * q (atT x k) := by simp only [atT]; rw [q_mod, q_mul]; grind
theorem atS_cons (a : Int) (l : List Int) (x : Int) (k : Nat) :
    q (atS (fun i => (a :: l).getD i 0) x (k + 1)) = q a + q x * q (atS (fun i => l.getD i 0) x k) := by
  induction k with
  | zero =>
    simp only [atS, atT]; rw [q_mod, q_add, q_mul, q_zero, q_one]
    simp; grind
  | succ k ih =>
    rw [atS, q_mod, q_add, ih, q_mul, atT_shift]
    simp only [atS]
    rw [q_mod, q_add, q_mul]
    simp
    grind
theorem atS_hor (p : List Int) (x : Int) : atS (fun i => p.getD i 0) x p.length = hor p x := by
  have r := atS_range (fun i => p.getD i 0) x p.length
  have s := hor_range p x
  refine q_inj ?_ r.1 r.2 s.1 s.2
  induction p with
  | nil => rfl
  | cons a l ih =>
    have ih' := ih (atS_range _ _ _) (hor_range _ _)
    rw [List.length_cons, atS_cons, ih']
    simp only [hor]; rw [q_mod, q_add, q_mul]; grind

/-! ### powers -/
theorem pow_emod (b m : Int) (k : Nat) : (b % m) ^ k % m = b ^ k % m := by
  induction k with
  | zero => simp
  | succ k ih => rw [Int.pow_succ, Int.pow_succ, Int.mul_emod, ih, Int.emod_emod_of_dvd _ (Int.dvd_refl _), ← Int.mul_emod]
/-- a, n times, modulo by, as the loop has it: a round more -/
theorem pow_step (a out by' : Int) (n : Nat) : out * a ^ n % by' = (if n % 2 = 1 then out * a % by' else out) * (a * a % by') ^ (n / 2) % by' := by
  have hp : a ^ n = (a * a) ^ (n / 2) * a ^ (n % 2) := by
    have e : (a * a) = a ^ 2 := by grind
    rw [e, ← Int.pow_mul, ← Int.pow_add]
    congr 1; omega
  split
  · rename_i h
    rw [hp, h, Int.mul_emod (out * a % by'), pow_emod, Int.emod_emod_of_dvd _ (Int.dvd_refl _), ← Int.mul_emod]
    congr 1; grind
  · rename_i h
    have h0 : n % 2 = 0 := by omega
    rw [hp, h0, Int.pow_zero, Int.mul_one, Int.mul_emod out ((a * a) ^ (n / 2)), ← pow_emod, ← Int.mul_emod]

/-- the reference's way -/
theorem pow_half (a by' : Int) (n : Nat) (h : Int) (hh : h = a ^ (n / 2) % by') :
    (if n % 2 = 1 then h * h % by' * a % by' else h * h % by') = a ^ n % by' := by
  have hp : a ^ n = a ^ (n / 2) * a ^ (n / 2) * a ^ (n % 2) := by
    rw [← Int.pow_add, ← Int.pow_add]; congr 1; omega
  have h2 : h * h % by' = a ^ (n / 2) * a ^ (n / 2) % by' := by rw [hh, ← Int.mul_emod]
  split
  · rename_i e
    rw [hp, e, Int.pow_one, h2, Int.mul_emod, Int.emod_emod_of_dvd _ (Int.dvd_refl _), ← Int.mul_emod]
  · rename_i e
    have h0 : n % 2 = 0 := by omega
    rw [hp, h0, Int.pow_zero, Int.mul_one, h2]

/-! ### shares that are told and caught (Feldman) -/
theorem g_order0 : (64 : Int) ^ 256 * 64 % 1543 = 1 := by decide +kernel
theorem g_order (n : Nat) (h : n = 257) : (64 : Int) ^ n % 1543 = 1 := by
  obtain ⟨m, rfl⟩ : ∃ m, n = m + 1 := ⟨n - 1, by omega⟩
  rw [Int.pow_succ, show m = 256 by omega]; exact g_order0
theorem g_mod (m : Nat) : (64 : Int) ^ m % 1543 = 64 ^ (m % 257) % 1543 := by
  obtain ⟨o, ho⟩ : ∃ o : Nat, o = 257 := ⟨_, rfl⟩
  rw [← ho]
  have e : o * (m / o) + m % o = m := Nat.div_add_mod m o
  have h1 : ∀ k : Nat, ((64 : Int) ^ o) ^ k % 1543 = 1 := by
    intro k
    induction k with
    | zero => rfl
    | succ k ih => rw [Int.pow_succ, Int.mul_emod, ih, g_order o ho]; rfl
  have e2 : (64 : Int) ^ m = 64 ^ (o * (m / o) + m % o) := by rw [e]
  rw [e2, Int.pow_add, Int.pow_mul, Int.mul_emod, h1, Int.one_mul, Int.emod_emod_of_dvd _ (Int.dvd_refl _)]
theorem g_ne (d : Nat) (h0 : 0 < d) (h : d < 257) : (64 : Int) ^ d % 1543 ≠ 1 := by
  have : ∀ d, d < 257 → 0 < d → (64 : Int) ^ d % 1543 ≠ 1 := by decide +kernel
  exact this d h h0
theorem g_inj' (a b : Nat) (hb : b < 257) (hab : a < b) : (64 : Int) ^ a % 1543 ≠ 64 ^ b % 1543 := by
  intro h
  -- times 64 ^ (257 - a)
  have h2 : (64 : Int) ^ a * 64 ^ (257 - a) % 1543 = 64 ^ b * 64 ^ (257 - a) % 1543 := by
    rw [Int.mul_emod, h, ← Int.mul_emod]
  rw [← Int.pow_add, ← Int.pow_add, g_order _ (show a + (257 - a) = 257 by omega), g_mod, show (b + (257 - a)) % 257 = b - a by omega] at h2
  exact g_ne (b - a) (by omega) (by omega) h2.symm
theorem g_inj (a b : Nat) (ha : a < 257) (hb : b < 257) : (64 : Int) ^ a % 1543 = 64 ^ b % 1543 ↔ a = b := by
  constructor
  · intro h
    rcases Nat.lt_trichotomy a b with h1 | h1 | h1
    · exact absurd h (g_inj' a b hb h1)
    · exact h1
    · exact absurd h.symm (g_inj' b a ha h1)
  · intro h; rw [h]

/-- what the commits come to, behind k rounds -/
def trO (c : Nat → Int) (x : Int) : Nat → Int
  | 0 => 1
  | k + 1 => trO c x k * (c k ^ (atT x k).toNat % 1543) % 1543
theorem trO_range (c : Nat → Int) (x : Int) (k : Nat) : 0 ≤ trO c x k ∧ trO c x k < 1543 := by
  cases k with
  | zero => simp [trO]
  | succ k => simp only [trO]; omega
def sumN (p : Nat → Int) (x : Int) : Nat → Nat
  | 0 => 0
  | k + 1 => sumN p x k + (p k).toNat * (atT x k).toNat
theorem trO_pow (p : Nat → Int) (x : Int) (k : Nat) : trO (fun i => 64 ^ (p i).toNat % 1543) x k = 64 ^ sumN p x k % 1543 := by
  induction k with
  | zero => rfl
  | succ k ih =>
    simp only [trO, sumN]
    rw [ih, pow_emod, ← Int.mul_emod, ← Int.pow_mul, ← Int.pow_add]
theorem sumN_at (p : Nat → Int) (hp : ∀ i, 0 ≤ p i) (x : Int) (k : Nat) : (sumN p x k : Int) % 257 = atS p x k := by
  induction k with
  | zero => rfl
  | succ k ih =>
    have ht := atT_range x k
    have h1 : ((p k).toNat : Int) = p k := Int.toNat_of_nonneg (hp k)
    have h2 : ((atT x k).toNat : Int) = atT x k := Int.toNat_of_nonneg ht.1
    simp only [sumN, atS]
    rw [← ih]
    have : ((sumN p x k + (p k).toNat * (atT x k).toNat : Nat) : Int) = (sumN p x k : Int) + p k * atT x k := by
      rw [Int.natCast_add, Int.natCast_mul, h1, h2]
    rw [this]; omega

/-- A TRUE SHARE IS TOLD, A FALSE ONE CAUGHT. -/
theorem feldman (p : List Int) (hp : ∀ i, 0 ≤ p.getD i 0) (x s : Int) (hs : 0 ≤ s) (hs' : s < 257) :
    (trO (fun i => 64 ^ (p.getD i 0).toNat % 1543) x p.length = 64 ^ s.toNat % 1543) ↔ s = hor p x := by
  rw [trO_pow, g_mod]
  have h := sumN_at (fun i => p.getD i 0) hp x p.length
  rw [atS_hor] at h
  have r := hor_range p x
  rw [g_inj _ _ (Nat.mod_lt _ (by omega)) (by omega)]
  omega

end Go.Proofs.YtpgemofkolmabaaGreatDoor.PM

