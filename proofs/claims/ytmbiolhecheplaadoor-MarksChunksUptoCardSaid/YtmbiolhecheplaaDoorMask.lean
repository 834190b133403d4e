namespace Go.Proofs.YtmbiolhecheplaaDoor.Lo

/-- The mask of the first n bits, bit i of it is f i. -/
def mk : Nat → (Nat → Bool) → BitVec 64
  | 0, _ => 0#64
  | n + 1, f => if f n then mk n f + (1#64 <<< n) else mk n f

theorem one_shl (n i : Nat) (hi : i < 64) : (1#64 <<< n).getLsbD i = decide (i = n) := by
  simp only [BitVec.getLsbD_shiftLeft, BitVec.getLsbD_one]
  by_cases h : i = n
  · subst h; simp [hi]
  · simp [h]; omega

theorem mk_lsb (n : Nat) (hn : n ≤ 64) (f : Nat → Bool) : ∀ i, i < 64 → (mk n f).getLsbD i = (decide (i < n) && f i) := by
  induction n with
  | zero => intro i hi; simp [mk]
  | succ n ih =>
    intro i hi
    have ih := ih (by omega)
    have hand : mk n f &&& (1#64 <<< n) = 0#64 := by
      apply BitVec.eq_of_getLsbD_eq
      intro j hj
      rw [BitVec.getLsbD_and, ih j hj, one_shl n j hj]
      by_cases h : j = n <;> simp [h]
    rw [mk]
    by_cases hf : f n
    · rw [if_pos hf, BitVec.add_eq_or_of_and_eq_zero _ _ hand, BitVec.getLsbD_or, ih i hi, one_shl n i hi]
      by_cases h : i = n
      · subst h; simp [hf]
      · have : i < n + 1 ↔ i < n := by omega
        simp [h, this]
    · rw [if_neg hf, ih i hi]
      by_cases h : i = n
      · subst h; simp [hf]
      · have : i < n + 1 ↔ i < n := by omega
        simp [this]

theorem ext64 {x y : BitVec 64} (h : ∀ i, i < 64 → x.getLsbD i = y.getLsbD i) : x = y := BitVec.eq_of_getLsbD_eq (fun i hi => h i hi)

theorem mk_eq_of {n : Nat} {f g : Nat → Bool} (h : ∀ i, i < n → f i = g i) : mk n f = mk n g := by
  induction n with
  | zero => rfl
  | succ n ih => rw [mk, mk, ih (fun i hi => h i (by omega)), h n (by omega)]

theorem mk_of_lsb (x : BitVec 64) : mk 64 x.getLsbD = x := ext64 fun i hi => by rw [mk_lsb 64 (by omega) _ i hi]; simp [hi]

/-! Prefix -/
/-- parity of the bits below n. -/
def par (f : Nat → Bool) : Nat → Bool
  | 0 => false
  | n + 1 => par f n ^^ f n

/-- the sum of w bits from i downwards -/
def win (f : Nat → Bool) : Nat → Nat → Bool
  | 0, _ => false
  | w + 1, i => win f w i ^^ (if w ≤ i then f (i - w) else false)

theorem win_par (f : Nat → Bool) (w i : Nat) : win f w i = (par f (i + 1) ^^ par f (i + 1 - w)) := by
  induction w with
  | zero => simp [win]
  | succ w ih =>
    rw [win, ih]
    by_cases h : w ≤ i
    · rw [if_pos h, show i + 1 - w = (i - w) + 1 from by omega, show i + 1 - (w + 1) = i - w from by omega]
      simp only [par]
      cases par f i <;> cases f i <;> cases par f (i - w) <;> cases f (i - w) <;> rfl
    · rw [if_neg h, show i + 1 - w = 0 from by omega, show i + 1 - (w + 1) = 0 from by omega]; simp

def shx (x : BitVec 64) (w : Nat) : BitVec 64 := x ^^^ (x <<< w)

theorem shx_win (x y : BitVec 64) (w : Nat) (hy : ∀ i, i < 64 → y.getLsbD i = win x.getLsbD w i) : ∀ i, i < 64 → (shx y w).getLsbD i = win x.getLsbD (w + w) i := by
  intro i hi
  rw [shx, BitVec.getLsbD_xor, BitVec.getLsbD_shiftLeft, hy i hi, win_par, win_par]
  by_cases h : i < w
  · simp only [h, hi, decide_true, Bool.not_true, Bool.and_false, Bool.false_and]
    rw [show i + 1 - (w + w) = 0 from by omega]
    by_cases h2 : i + 1 = w
    · rw [show i + 1 - w = 0 from by omega]; simp
    · rw [show i + 1 - w = 0 from by omega]; simp
  · rw [hy (i - w) (by omega), win_par, show i - w + 1 = i + 1 - w from by omega, show i + 1 - w - w = i + 1 - (w + w) from by omega]
    simp only [h, hi, decide_true, decide_false, Bool.not_false, Bool.and_true, Bool.true_and]
    cases par x.getLsbD (i + 1) <;> cases par x.getLsbD (i + 1 - w) <;> cases par x.getLsbD (i + 1 - (w + w)) <;> rfl

/-- the program's steps: after k rounds -/
def preTo (x : BitVec 64) : Nat → BitVec 64
  | 0 => x
  | k + 1 => shx (preTo x k) (2 ^ k)

theorem preTo_win (x : BitVec 64) (k : Nat) : ∀ i, i < 64 → (preTo x k).getLsbD i = win x.getLsbD (2 ^ k) i := by
  induction k with
  | zero => intro i hi; simp [preTo, win]
  | succ k ih => rw [preTo, Nat.pow_succ, Nat.mul_two]; exact shx_win x _ _ ih

/-- The document's answer. -/
def pre (x : BitVec 64) : BitVec 64 := mk 64 fun i => par x.getLsbD (i + 1)

theorem pre_eq (x : BitVec 64) : preTo x 6 = pre x := ext64 fun i hi => by
  rw [preTo_win x 6 i hi, win_par, pre, mk_lsb 64 (by omega) _ i hi, show i + 1 - 2 ^ 6 = 0 from by omega]
  simp [hi, par]

/-! Escaped -/
def esc (back : Nat → Bool) (odd : Bool) : Nat → Bool
  | 0 => odd
  | n + 1 => !(esc back odd n) && back n

def one (b : Bool) : BitVec 64 := if b then 1#64 else 0#64
def evens : BitVec 64 := 0x5555555555555555#64
def escBack (back : BitVec 64) (odd : Bool) : BitVec 64 := back &&& ~~~ (one odd)
def escFollows (back : BitVec 64) (odd : Bool) : BitVec 64 := (escBack back odd <<< 1) ||| one odd
def escStarts (back : BitVec 64) (odd : Bool) : BitVec 64 := (escBack back odd &&& ~~~ evens) &&& ~~~ (escFollows back odd)
def escSum (back : BitVec 64) (odd : Bool) : BitVec 64 := escStarts back odd + escBack back odd
def escMask (back : BitVec 64) (odd : Bool) : BitVec 64 := (evens ^^^ (escSum back odd <<< 1)) &&& escFollows back odd

theorem one_lsb (b : Bool) (i : Nat) : (one b).getLsbD i = (b && decide (i = 0)) := by
  cases b <;> simp [one]

theorem evens_lsb : ∀ i, i < 64 → evens.getLsbD i = decide (i % 2 = 0) := by decide

theorem escBack_lsb (back : BitVec 64) (odd : Bool) (i : Nat) (hi : i < 64) : (escBack back odd).getLsbD i = (back.getLsbD i && !(odd && decide (i = 0))) := by
  rw [escBack, BitVec.getLsbD_and, BitVec.getLsbD_not, one_lsb]; simp [hi]

theorem escFollows_lsb (back : BitVec 64) (odd : Bool) (i : Nat) (hi : i < 64) : (escFollows back odd).getLsbD i = if i = 0 then odd else (escBack back odd).getLsbD (i - 1) := by
  rw [escFollows, BitVec.getLsbD_or, BitVec.getLsbD_shiftLeft, one_lsb]
  by_cases h : i = 0
  · subst h; simp
  · simp [h, hi]

/-- the carry into bit i -/
def escCarry (back : BitVec 64) (odd : Bool) (i : Nat) : Bool := BitVec.carry i (escStarts back odd) (escBack back odd) false

theorem esc_claim (back : BitVec 64) (odd : Bool) : ∀ i, i < 64 →
    (((escBack back odd).getLsbD i = true → esc back.getLsbD odd (i + 1) = (decide (i % 2 = 1) ^^ !(escCarry back odd (i + 1)))) ∧
     ((escBack back odd).getLsbD i = false → esc back.getLsbD odd (i + 1) = false ∧ escCarry back odd (i + 1) = false)) := by
  intro i
  induction i with
  | zero =>
    intro hi
    have hb := escBack_lsb back odd 0 hi
    have hf := escFollows_lsb back odd 0 hi
    have hs : (escStarts back odd).getLsbD 0 = false := by
      simp [escStarts, evens]
    unfold escCarry
    rw [BitVec.carry_succ, hs, BitVec.carry_zero, hb]
    simp only [esc]
    cases back.getLsbD 0 <;> cases odd <;> simp [Bool.atLeastTwo]
  | succ i ih =>
    intro hi
    have ⟨ih1, ih2⟩ := ih (by omega)
    have hb := escBack_lsb back odd (i + 1) hi
    have hf := escFollows_lsb back odd (i + 1) hi
    have hs : (escStarts back odd).getLsbD (i + 1) = ((escBack back odd).getLsbD (i + 1) && decide ((i + 1) % 2 = 1) && !(escBack back odd).getLsbD i) := by
      simp only [escStarts, BitVec.getLsbD_and, BitVec.getLsbD_not, hi, evens_lsb (i + 1) hi, hf, decide_true, Bool.true_and]
      rw [if_neg (by omega)]
      have e : (!decide ((i + 1) % 2 = 0)) = decide ((i + 1) % 2 = 1) := by
        have : (i + 1) % 2 = 0 ∨ (i + 1) % 2 = 1 := by omega
        rcases this with h | h <;> simp [h]
      rw [e]
      rfl
    have hpar : decide ((i + 1) % 2 = 1) = !decide (i % 2 = 1) := by
      have : i % 2 = 0 ∨ i % 2 = 1 := by omega
      rcases this with h | h
      · have : (i + 1) % 2 = 1 := by omega
        simp [h, this]
      · have : (i + 1) % 2 = 0 := by omega
        simp [h, this]
    have hbi : (escBack back odd).getLsbD (i + 1) = back.getLsbD (i + 1) := by rw [hb]; simp
    have hc : escCarry back odd (i + 2) = Bool.atLeastTwo ((escStarts back odd).getLsbD (i + 1)) ((escBack back odd).getLsbD (i + 1)) (escCarry back odd (i + 1)) := by
      unfold escCarry; rw [BitVec.carry_succ (i + 1)]
    have he : esc back.getLsbD odd (i + 1 + 1) = (!(esc back.getLsbD odd (i + 1)) && back.getLsbD (i + 1)) := rfl
    rw [he, show i + 1 + 1 = i + 2 from rfl, hc, hs, hpar, hbi]
    cases hx : (escBack back odd).getLsbD i
    · obtain ⟨h1, h2⟩ := ih2 hx
      rw [h1, h2]
      cases back.getLsbD (i + 1) <;> cases decide (i % 2 = 1) <;> simp [Bool.atLeastTwo]
    · have h1 := ih1 hx
      rw [h1]
      cases back.getLsbD (i + 1) <;> cases decide (i % 2 = 1) <;> cases escCarry back odd (i + 1) <;> simp [Bool.atLeastTwo]

/-- The document's answer -/
def escD (back : BitVec 64) (odd : Bool) : BitVec 64 := mk 64 (esc back.getLsbD odd)

theorem escMask_eq (back : BitVec 64) (odd : Bool) : escMask back odd = escD back odd := ext64 fun i hi => by
  rw [escD, mk_lsb 64 (by omega) _ i hi]
  simp only [escMask, BitVec.getLsbD_and, BitVec.getLsbD_xor, evens_lsb i hi, BitVec.getLsbD_shiftLeft, escFollows_lsb back odd i hi, hi, decide_true, Bool.true_and]
  by_cases h : i = 0
  · subst h; simp [esc]
  · obtain ⟨j, rfl⟩ : ∃ j, i = j + 1 := ⟨i - 1, by omega⟩
    have ⟨c1, c2⟩ := esc_claim back odd j (by omega)
    have hsum : (escSum back odd).getLsbD j = ((escStarts back odd).getLsbD j ^^ ((escBack back odd).getLsbD j ^^ escCarry back odd j)) := by
      rw [escSum, BitVec.getLsbD_add (by omega)]; rfl
    have hc : escCarry back odd (j + 1) = Bool.atLeastTwo ((escStarts back odd).getLsbD j) ((escBack back odd).getLsbD j) (escCarry back odd j) := by
      unfold escCarry; rw [BitVec.carry_succ j]
    rw [if_neg h, show j + 1 - 1 = j from rfl, hsum]
    have hne : (escBack back odd).getLsbD j = true → ¬ ((escStarts back odd).getLsbD j = true ∧ escCarry back odd j = true) := by
      rintro _ ⟨hs, hcj⟩
      cases j with
      | zero => simp [escCarry, BitVec.carry_zero] at hcj
      | succ k =>
        have ⟨d1, d2⟩ := esc_claim back odd k (by omega)
        cases hk : (escBack back odd).getLsbD k
        · rw [(d2 hk).2] at hcj; cases hcj
        · simp only [escStarts, BitVec.getLsbD_and, BitVec.getLsbD_not, escFollows_lsb back odd (k + 1) (by omega)] at hs
          simp [hk] at hs
    have hpar : decide ((j + 1) % 2 = 0) = decide (j % 2 = 1) := by
      have : j % 2 = 0 ∨ j % 2 = 1 := by omega
      rcases this with h | h
      · have : (j + 1) % 2 = 1 := by omega
        simp [h, this]
      · have : (j + 1) % 2 = 0 := by omega
        simp [h, this]
    rw [hpar]
    cases hb : (escBack back odd).getLsbD j
    · simp [(c2 hb).1]
    · rw [c1 hb, hc, hb]
      have hne := hne hb
      revert hne
      cases (escStarts back odd).getLsbD j <;> cases escCarry back odd j <;> cases decide (j % 2 = 1) <;> simp [Bool.atLeastTwo]

theorem escCarry_eq (back : BitVec 64) (odd : Bool) : escCarry back odd 64 = esc back.getLsbD odd 64 := by
  have ⟨c1, c2⟩ := esc_claim back odd 63 (by omega)
  cases hb : (escBack back odd).getLsbD 63
  · rw [(c2 hb).1, (c2 hb).2]
  · rw [c1 hb]; simp

end Go.Proofs.YtmbiolhecheplaaDoor.Lo
