/-
  Brackets as bits: the least, the greatest, how many; the excess; Close, Open, Enclose, Size, Child, Select as the document says them. Plain laws: no program in sight. No condition.
-/
namespace Go.Proofs.YtmbiolhecheplaaDoor.Lp

/-! ### the least, the greatest, how many -/
def leastD (p : Nat → Bool) : Nat → Int
  | 0 => -1
  | n + 1 => if 0 ≤ leastD p n then leastD p n else if p n then (n : Int) else -1
def greatestD (p : Nat → Bool) : Nat → Int
  | 0 => -1
  | n + 1 => if p n then (n : Int) else greatestD p n
def cnt (p : Nat → Bool) : Nat → Nat
  | 0 => 0
  | n + 1 => cnt p n + if p n then 1 else 0

theorem leastD_cases (p : Nat → Bool) (n : Nat) : (leastD p n = -1 ∧ ∀ j, j < n → p j = false) ∨ ∃ k : Nat, k < n ∧ leastD p n = (k : Int) ∧ p k = true ∧ ∀ j, j < k → p j = false := by
  induction n with
  | zero => exact .inl ⟨rfl, fun j h => by omega⟩
  | succ n ih =>
    rcases ih with ⟨h1, h2⟩ | ⟨k, hk, h1, h2, h3⟩
    · by_cases hp : p n
      · exact .inr ⟨n, by omega, by rw [leastD, h1, if_neg (by omega), if_pos hp], hp, h2⟩
      · refine .inl ⟨by rw [leastD, h1, if_neg (by omega), if_neg hp], fun j hj => ?_⟩
        by_cases e : j = n
        · subst e; simpa using hp
        · exact h2 j (by omega)
    · exact .inr ⟨k, by omega, by rw [leastD, h1, if_pos (by omega)], h2, h3⟩

theorem leastD_some {p : Nat → Bool} {n k : Nat} (hk : k < n) (hp : p k = true) (h : ∀ j, j < k → p j = false) : leastD p n = (k : Int) := by
  rcases leastD_cases p n with ⟨_, h2⟩ | ⟨k', _, h1, h2, h3⟩
  · rw [h2 k hk] at hp; cases hp
  · rcases Nat.lt_trichotomy k k' with hlt | he | hgt
    · rw [h3 k hlt] at hp; cases hp
    · rw [h1, he]
    · rw [h k' hgt] at h2; cases h2

theorem leastD_none {p : Nat → Bool} {n : Nat} (h : ∀ j, j < n → p j = false) : leastD p n = -1 := by
  rcases leastD_cases p n with ⟨h1, _⟩ | ⟨k, hk, _, h2, _⟩
  · exact h1
  · rw [h k hk] at h2; cases h2

theorem leastD_congr {p q : Nat → Bool} {n : Nat} (h : ∀ j, j < n → p j = q j) : leastD p n = leastD q n := by
  induction n with
  | zero => rfl
  | succ n ih => rw [leastD, leastD, ih (fun j hj => h j (by omega)), h n (by omega)]

theorem greatestD_cases (p : Nat → Bool) (n : Nat) : (greatestD p n = -1 ∧ ∀ j, j < n → p j = false) ∨ ∃ k : Nat, k < n ∧ greatestD p n = (k : Int) ∧ p k = true ∧ ∀ j, k < j → j < n → p j = false := by
  induction n with
  | zero => exact .inl ⟨rfl, fun j h => by omega⟩
  | succ n ih =>
    by_cases hp : p n
    · exact .inr ⟨n, by omega, by rw [greatestD, if_pos hp], hp, fun j _ _ => by omega⟩
    · have hp' : p n = false := by simpa using hp
      rcases ih with ⟨h1, h2⟩ | ⟨k, hk, h1, h2, h3⟩
      · refine .inl ⟨by rw [greatestD, if_neg hp, h1], fun j hj => ?_⟩
        by_cases e : j = n
        · subst e; exact hp'
        · exact h2 j (by omega)
      · refine .inr ⟨k, by omega, by rw [greatestD, if_neg hp, h1], h2, fun j hj hj2 => ?_⟩
        by_cases e : j = n
        · subst e; exact hp'
        · exact h3 j hj (by omega)

theorem greatestD_some {p : Nat → Bool} {n k : Nat} (hk : k < n) (hp : p k = true) (h : ∀ j, k < j → j < n → p j = false) : greatestD p n = (k : Int) := by
  rcases greatestD_cases p n with ⟨_, h2⟩ | ⟨k', hk', h1, h2, h3⟩
  · rw [h2 k hk] at hp; cases hp
  · rcases Nat.lt_trichotomy k k' with hlt | he | hgt
    · rw [h k' hlt hk'] at h2; cases h2
    · rw [h1, he]
    · rw [h3 k hgt hk] at hp; cases hp

theorem greatestD_none {p : Nat → Bool} {n : Nat} (h : ∀ j, j < n → p j = false) : greatestD p n = -1 := by
  rcases greatestD_cases p n with ⟨h1, _⟩ | ⟨k, hk, _, h2, _⟩
  · exact h1
  · rw [h k hk] at h2; cases h2

theorem greatestD_congr {p q : Nat → Bool} {n : Nat} (h : ∀ j, j < n → p j = q j) : greatestD p n = greatestD q n := by
  induction n with
  | zero => rfl
  | succ n ih => rw [greatestD, greatestD, ih (fun j hj => h j (by omega)), h n (by omega)]

theorem greatestD_skip {p : Nat → Bool} {n m : Nat} (hm : m ≤ n) (h : ∀ j, m ≤ j → j < n → p j = false) : greatestD p n = greatestD p m := by
  induction n with
  | zero => rw [show m = 0 from by omega]
  | succ n ih =>
    by_cases e : m = n + 1
    · rw [e]
    · rw [greatestD, h n (by omega) (by omega), if_neg (by simp), ih (by omega) (fun j h1 h2 => h j h1 (by omega))]

theorem cnt_le (p : Nat → Bool) (n : Nat) : cnt p n ≤ n := by
  induction n with
  | zero => exact Nat.le_refl _
  | succ n ih => rw [cnt]; split <;> omega

theorem cnt_mono (p : Nat → Bool) {a b : Nat} (h : a ≤ b) : cnt p a ≤ cnt p b := by
  induction b with
  | zero => rw [show a = 0 from by omega]; exact Nat.le_refl _
  | succ b ih =>
    by_cases e : a = b + 1
    · rw [e]; exact Nat.le_refl _
    · have := ih (by omega); rw [cnt]; omega

theorem cnt_congr {p q : Nat → Bool} {n : Nat} (h : ∀ j, j < n → p j = q j) : cnt p n = cnt q n := by
  induction n with
  | zero => rfl
  | succ n ih => rw [cnt, cnt, ih (fun j hj => h j (by omega)), h n (by omega)]

/-! ### the excess -/
def ex (f : Nat → Bool) : Nat → Int
  | 0 => 0
  | n + 1 => ex f n + if f n then 1 else -1

theorem ex_cnt (f : Nat → Bool) (n : Nat) : ex f n = 2 * (cnt f n : Int) - n := by
  induction n with
  | zero => rfl
  | succ n ih => rw [ex, cnt, ih]; split <;> (simp only [Int.natCast_add]; omega)

theorem ex_open {f : Nat → Bool} {n : Nat} (h : f n = true) : ex f (n + 1) = ex f n + 1 := by rw [ex, h]; rfl
theorem ex_shut {f : Nat → Bool} {n : Nat} (h : f n = false) : ex f (n + 1) = ex f n - 1 := by rw [ex, h]; rfl
theorem ex_step (f : Nat → Bool) (n : Nat) : ex f (n + 1) = ex f n + 1 ∨ ex f (n + 1) = ex f n - 1 := by
  cases h : f n
  · exact .inr (ex_shut h)
  · exact .inl (ex_open h)

theorem ex_bound (f : Nat → Bool) (n : Nat) : -(n : Int) ≤ ex f n ∧ ex f n ≤ n := by
  have := cnt_le f n
  rw [ex_cnt]; omega

/-- the excess stays above t, or there is a first time that it comes down to t -/
theorem ex_down (f : Nat → Bool) (t : Int) (a : Nat) (h0 : t < ex f a) : ∀ b, a ≤ b → (∀ j, a ≤ j → j ≤ b → t < ex f j) ∨ ∃ k, a ≤ k ∧ k < b ∧ ex f (k + 1) = t ∧ ∀ j, a ≤ j → j ≤ k → t < ex f j := by
  intro b
  induction b with
  | zero => intro h1; exact .inl fun j j1 j2 => by rw [show j = a from by omega]; exact h0
  | succ b ih =>
    intro h1
    by_cases e : a = b + 1
    · exact .inl fun j j1 j2 => by rw [show j = a from by omega]; exact h0
    · rcases ih (by omega) with h | ⟨k, k1, k2, k3, k4⟩
      · by_cases hb : t < ex f (b + 1)
        · refine .inl fun j j1 j2 => ?_
          by_cases e2 : j = b + 1
          · rw [e2]; exact hb
          · exact h j j1 (by omega)
        · have := h b (by omega) (by omega)
          refine .inr ⟨b, by omega, by omega, ?_, h⟩
          rcases ex_step f b with s | s <;> omega
      · exact .inr ⟨k, k1, by omega, k3, k4⟩

/-! ### Close -/
/-- the bracket that closes the one at i; -1 -/
def closeD (f : Nat → Bool) (n i : Nat) : Int := if i < n ∧ f i = true then leastD (fun k => decide (i < k) && ex f (k + 1) == ex f i) n else -1

theorem closeD_cases (f : Nat → Bool) (n i : Nat) (hi : i < n) (hf : f i = true) :
    (closeD f n i = -1 ∧ ∀ j, i < j → j ≤ n → ex f i < ex f j) ∨
    ∃ k : Nat, i < k ∧ k < n ∧ closeD f n i = (k : Int) ∧ ex f (k + 1) = ex f i ∧ f k = false ∧ ∀ j, i < j → j ≤ k → ex f i < ex f j := by
  have ho := ex_open hf
  rw [closeD, if_pos ⟨hi, hf⟩]
  rcases ex_down f (ex f i) (i + 1) (by omega) n (by omega) with h | ⟨k, k1, k2, k3, k4⟩
  · refine .inl ⟨leastD_none fun j hj => ?_, fun j j1 j2 => h j (by omega) j2⟩
    by_cases hij : i < j
    · have := h (j + 1) (by omega) (by omega)
      have : ¬ ex f (j + 1) = ex f i := by omega
      simp [this]
    · simp [hij]
  · refine .inr ⟨k, by omega, k2, leastD_some k2 (by simp [k3]; omega) fun j hj => ?_, k3, ?_, fun j j1 j2 => k4 j (by omega) j2⟩
    · by_cases hij : i < j
      · have := k4 (j + 1) (by omega) (by omega)
        have : ¬ ex f (j + 1) = ex f i := by omega
        simp [this]
      · simp [hij]
    · cases hk : f k
      · rfl
      · have := ex_open hk
        have := k4 k k1 (Nat.le_refl _)
        omega

theorem closeD_some {f : Nat → Bool} {n i k : Nat} (hf : f i = true) (hik : i < k) (hk : k < n) (he : ex f (k + 1) = ex f i) (h : ∀ j, i < j → j ≤ k → ex f i < ex f j) : closeD f n i = (k : Int) := by
  rw [closeD, if_pos ⟨by omega, hf⟩]
  refine leastD_some hk (by simp [he]; omega) fun j hj => ?_
  by_cases hij : i < j
  · have := h (j + 1) (by omega) (by omega)
    have : ¬ ex f (j + 1) = ex f i := by omega
    simp [this]
  · simp [hij]

theorem closeD_none {f : Nat → Bool} {n i : Nat} (h : ∀ j, i < j → j ≤ n → ex f i < ex f j) : closeD f n i = -1 := by
  rw [closeD]
  split
  · refine leastD_none fun j hj => ?_
    by_cases hij : i < j
    · have := h (j + 1) (by omega) (by omega)
      have : ¬ ex f (j + 1) = ex f i := by omega
      simp [this]
    · simp [hij]
  · rfl

theorem closeD_shut {f : Nat → Bool} {n i : Nat} (h : ¬ (i < n ∧ f i = true)) : closeD f n i = -1 := by rw [closeD, if_neg h]

/-- what closeD is, told whole -/
theorem closeD_is (f : Nat → Bool) (n i : Nat) : (closeD f n i = -1 ∧ (i < n → f i = true → ∀ j, i < j → j ≤ n → ex f i < ex f j)) ∨
    ∃ k : Nat, i < k ∧ k < n ∧ f i = true ∧ closeD f n i = (k : Int) ∧ ex f (k + 1) = ex f i ∧ f k = false ∧ ∀ j, i < j → j ≤ k → ex f i < ex f j := by
  by_cases h : i < n ∧ f i = true
  · rcases closeD_cases f n i h.1 h.2 with ⟨a, b⟩ | ⟨k, a, b, c, d⟩
    · exact .inl ⟨a, fun _ _ => b⟩
    · exact .inr ⟨k, a, b, h.2, c, d⟩
  · exact .inl ⟨closeD_shut h, fun a b => absurd ⟨a, b⟩ h⟩

theorem closeD_lo (f : Nat → Bool) (n i : Nat) : -1 ≤ closeD f n i ∧ closeD f n i < n := by
  rcases closeD_is f n i with ⟨a, _⟩ | ⟨k, _, b, _, c, _⟩ <;> omega

/-- what opens within a pair is closed within it -/
theorem close_within {f : Nat → Bool} {n o c k : Nat} (ho : closeD f n o = (c : Int)) (h1 : o < k) (h2 : k ≤ c) (hk : f k = true) : ∃ d : Nat, closeD f n k = (d : Int) ∧ k < d ∧ d < c := by
  rcases closeD_is f n o with ⟨a, _⟩ | ⟨c', a1, a2, a3, a4, a5, a6, a7⟩
  · omega
  · obtain rfl : c' = c := by omega
    have h3 := a7 k h1 h2
    have hkc : k < c' := by
      rcases Nat.lt_or_ge k c' with h | h
      · exact h
      · rw [show k = c' from by omega] at hk; rw [hk] at a6; cases a6
    rcases closeD_cases f n k (by omega) hk with ⟨b1, b2⟩ | ⟨d, b1, b2, b3, b4, b5, b6⟩
    · have := b2 (c' + 1) (by omega) (by omega); omega
    · refine ⟨d, b3, b1, ?_⟩
      rcases Nat.lt_or_ge d c' with h | h
      · exact h
      · exfalso
        by_cases e : d = c'
        · rw [e] at b4; omega
        · have := b6 (c' + 1) (by omega) (by omega); omega

/-! ### Open -/
def openD (f : Nat → Bool) (n i : Nat) : Int := if i < n ∧ f i = false then greatestD (fun k => f k && ex f k == ex f (i + 1)) i else -1

/-- what is open is closed where the excess is the same again; Open undoes Close -/
theorem open_close {f : Nat → Bool} {n i c : Nat} (h : closeD f n i = (c : Int)) : openD f n c = (i : Int) := by
  rcases closeD_is f n i with ⟨a, _⟩ | ⟨c', a1, a2, a3, a4, a5, a6, a7⟩
  · omega
  · obtain rfl : c' = c := by omega
    rw [openD, if_pos ⟨a2, a6⟩]
    refine greatestD_some a1 (by simp [a3, a5]) fun j j1 j2 => ?_
    have := a7 j j1 (by omega)
    have : ¬ ex f j = ex f (c' + 1) := by omega
    simp [this]

/-! ### Enclose -/
def enclD (f : Nat → Bool) (n i : Nat) : Int := if i < n then greatestD (fun k => f k && decide ((i : Int) < closeD f n k) && decide (closeD f n i < closeD f n k)) i else -1

/-! ### Size, Child, Select -/
def sizeD (f : Nat → Bool) (n i : Nat) : Int := if closeD f n i < 0 then 0 else (cnt f (closeD f n i).toNat : Int) - cnt f i
/-- stands at in the pair of i? -/
def kid (f : Nat → Bool) (n i : Nat) (at_ : Nat) : Bool := decide (i < at_) && f at_ && enclD f n at_ == (i : Int)
def childD (f : Nat → Bool) (n i : Nat) (k : Nat) : Int := if closeD f n i < 0 then -1 else leastD (fun j => kid f n i j && cnt (kid f n i) j == k) (closeD f n i).toNat
def selD (f : Nat → Bool) (n : Nat) (k : Nat) : Int := leastD (fun j => f j && cnt f j == k) n

/-- within the pair of i: whose Enclose is i? just what has the excess of i and one more -/
theorem kid_iff {f : Nat → Bool} {n i c j : Nat} (hc : closeD f n i = (c : Int)) (h1 : i < j) (h2 : j < c) (hf : f j = true) : kid f n i j = decide (ex f j = ex f i + 1) := by
  rcases closeD_is f n i with ⟨a, _⟩ | ⟨c', a1, a2, a3, a4, a5, a6, a7⟩
  · omega
  obtain rfl : c' = c := by omega
  obtain ⟨d, d1, d2, d3⟩ := close_within hc h1 (by omega) hf
  rcases closeD_is f n j with ⟨b, _⟩ | ⟨d', b1, b2, b3, b4, b5, b6, b7⟩
  · omega
  obtain rfl : d' = d := by omega
  have hij := a7 j h1 (by omega)
  have hen : enclD f n j = greatestD (fun k => f k && decide ((j : Int) < closeD f n k) && decide (closeD f n j < closeD f n k)) j := by rw [enclD, if_pos (by omega)]
  by_cases he : ex f j = ex f i + 1
  · have : enclD f n j = (i : Int) := by
      rw [hen]
      refine greatestD_some h1 (by simp [a3, hc, d1]; omega) fun k k1 k2 => ?_
      cases hk : f k
      · rfl
      · obtain ⟨e, e1, e2, e3⟩ := close_within hc k1 (by omega) hk
        rcases closeD_is f n k with ⟨g, _⟩ | ⟨e', g1, g2, g3, g4, g5, g6, g7⟩
        · omega
        obtain rfl : e' = e := by omega
        have hke := a7 k k1 (by omega)
        have : e' < j := by
          rcases Nat.lt_or_ge e' j with h | h
          · exact h
          · have := g7 j k2 h; omega
        simp [e1, d1]
        omega
    simp [kid, h1, hf, this, he]
  · have : enclD f n j ≠ (i : Int) := by
      -- the last place ahead of j whose excess is j's, less one
      have hlast : ∃ k, i < k ∧ k < j ∧ ex f k = ex f j - 1 ∧ ∀ m, k < m → m ≤ j → ex f j ≤ ex f m := by
        have hgen : ∀ t, ∀ b, i < b → ex f i + 1 ≤ t → t ≤ ex f b → (∀ m, i < m → m ≤ b → ex f i < ex f m) → ∃ k, i < k ∧ k ≤ b ∧ ex f k = t ∧ ∀ m, k < m → m ≤ b → t < ex f m := by
          intro t b
          induction b with
          | zero => intro h; omega
          | succ b ih =>
            intro g1 g2 g3 g4
            by_cases g5 : ex f (b + 1) = t
            · exact ⟨b + 1, by omega, by omega, g5, fun m _ _ => by omega⟩
            · have hs := ex_step f b
              by_cases g6 : i = b
              · subst g6
                have := ex_open a3
                omega
              · obtain ⟨k, k1, k2, k3, k4⟩ := ih (by omega) g2 (by omega) (fun m m1 m2 => g4 m m1 (by omega))
                refine ⟨k, k1, by omega, k3, fun m m1 m2 => ?_⟩
                by_cases g7 : m = b + 1
                · rw [g7]; omega
                · exact k4 m m1 (by omega)
        obtain ⟨k, k1, k2, k3, k4⟩ := hgen (ex f j - 1) j h1 (by omega) (by omega) (fun m m1 m2 => a7 m m1 (by omega))
        refine ⟨k, k1, ?_, k3, fun m m1 m2 => by have := k4 m m1 m2; omega⟩
        rcases Nat.lt_or_ge k j with h | h
        · exact h
        · rw [show k = j from by omega] at k3; omega
      obtain ⟨k, k1, k2, k3, k4⟩ := hlast
      have hfk : f k = true := by
        cases hk : f k
        · have := ex_shut hk
          have := k4 (k + 1) (by omega) (by omega)
          omega
        · rfl
      obtain ⟨e, e1, e2, e3⟩ := close_within hc k1 (by omega) hfk
      rcases closeD_is f n k with ⟨g, _⟩ | ⟨e', g1, g2, g3, g4, g5, g6, g7⟩
      · omega
      obtain rfl : e' = e := by omega
      have hde : d' < e' := by
        rcases Nat.lt_or_ge d' e' with h | h
        · exact h
        · exfalso
          by_cases hje : j ≤ e'
          · by_cases hje2 : j = e'
            · rw [← hje2] at g6; rw [hf] at g6; cases g6
            · have := b7 (e' + 1 - 1) (by omega) (by omega)
              by_cases h3 : e' = d'
              · rw [← h3] at b5; omega
              · have := b7 (e' + 1) (by omega) (by omega); omega
          · have := k4 (e' + 1) (by omega) (by omega); omega
      rw [hen]
      rcases greatestD_cases (fun k => f k && decide ((j : Int) < closeD f n k) && decide (closeD f n j < closeD f n k)) j with ⟨q1, _⟩ | ⟨q, q1, q2, q3, q4⟩
      · omega
      · intro hq
        have : q = i := by omega
        have := q4 k (by omega) k2
        simp [hfk, e1, d1] at this
        omega
    simp [kid, h1, hf, this, he]

end Go.Proofs.YtmbiolhecheplaaDoor.Lp
