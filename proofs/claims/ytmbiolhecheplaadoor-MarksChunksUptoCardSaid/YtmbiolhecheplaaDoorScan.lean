import Derived.Test.YtmbiolhecheplaaDoorMask
namespace Go.Proofs.YtmbiolhecheplaaDoor.Lo

theorem lsb_mk {n i : Nat} {f : Nat → Bool} (hn : n ≤ 64) (hi : i < 64) : (mk n f).getLsbD i = (decide (i < n) && f i) := mk_lsb n hn f i hi

theorem lsb_not (x : BitVec 64) {i : Nat} (hi : i < 64) : (~~~x).getLsbD i = !x.getLsbD i := by rw [BitVec.getLsbD_not]; simp [hi]

theorem lsb_shl1 (x : BitVec 64) {i : Nat} (hi : i < 64) : (x <<< 1).getLsbD i = if i = 0 then false else x.getLsbD (i - 1) := by
  rw [BitVec.getLsbD_shiftLeft]
  by_cases h : i = 0
  · subst h; simp
  · simp [h, hi]

/-! Inside -/
def insD (q : BitVec 64) (inn : Bool) : BitVec 64 := mk 64 fun i => inn ^^ par q.getLsbD (i + 1)

theorem ins_false (q : BitVec 64) : pre q = insD q false := by unfold pre insD; apply mk_eq_of; intro i _; simp
theorem ins_true (q : BitVec 64) : ~~~(pre q) = insD q true := ext64 fun i hi => by
  rw [lsb_not _ hi, pre, insD, lsb_mk (by omega) hi, lsb_mk (by omega) hi]; simp [hi]

theorem ins_top (q : BitVec 64) (inn : Bool) : (insD q inn).getLsbD 63 = (inn ^^ par q.getLsbD 64) := by
  rw [insD, lsb_mk (by omega) (by omega)]; simp

/-! BitmapSums -/
theorem pre_sums (x : BitVec 64) : pre x ^^^ (pre x <<< 1) = x := ext64 fun i hi => by
  rw [BitVec.getLsbD_xor, lsb_shl1 _ hi, pre, lsb_mk (by omega) hi]
  by_cases h : i = 0
  · subst h; simp [par]
  · obtain ⟨j, rfl⟩ : ∃ j, i = j + 1 := ⟨i - 1, by omega⟩
    rw [if_neg h, show j + 1 - 1 = j from rfl, lsb_mk (by omega) (by omega)]
    simp only [par, hi, show j < 64 from by omega, decide_true, Bool.true_and]
    cases par x.getLsbD j <;> cases x.getLsbD j <;> cases x.getLsbD (j + 1) <;> rfl

theorem par_xor (f g : Nat → Bool) (n : Nat) : par (fun i => f i ^^ g i) n = (par f n ^^ par g n) := by
  induction n with
  | zero => rfl
  | succ n ih => simp only [par, ih]; cases par f n <;> cases par g n <;> cases f n <;> cases g n <;> rfl

theorem pre_xor (x y : BitVec 64) : pre (x ^^^ y) = pre x ^^^ pre y := ext64 fun i hi => by
  rw [BitVec.getLsbD_xor, pre, pre, pre, lsb_mk (by omega) hi, lsb_mk (by omega) hi, lsb_mk (by omega) hi]
  have : (x ^^^ y).getLsbD = fun i => x.getLsbD i ^^ y.getLsbD i := by funext j; rw [BitVec.getLsbD_xor]
  rw [this, par_xor]
  simp [hi]

/-! BitmapRuns -/
theorem esc_free (back : BitVec 64) (odd : Bool) : escD back odd = ((back &&& ~~~(escD back odd)) <<< 1) ||| one odd := ext64 fun i hi => by
  rw [BitVec.getLsbD_or, lsb_shl1 _ hi, one_lsb]
  by_cases h : i = 0
  · subst h; rw [escD, lsb_mk (by omega) hi]; simp [esc]
  · obtain ⟨j, rfl⟩ : ∃ j, i = j + 1 := ⟨i - 1, by omega⟩
    rw [if_neg h, show j + 1 - 1 = j from rfl, BitVec.getLsbD_and, lsb_not _ (by omega), escD, lsb_mk (by omega) hi, lsb_mk (by omega) (by omega)]
    simp only [esc, hi, show j < 64 from by omega, decide_true, Bool.true_and]
    cases esc back.getLsbD odd j <;> cases back.getLsbD j <;> simp

theorem esc_free_top (back : BitVec 64) (odd : Bool) : (back &&& ~~~(escD back odd)).getLsbD 63 = esc back.getLsbD odd 64 := by
  rw [BitVec.getLsbD_and, lsb_not _ (by omega), escD, lsb_mk (by omega) (by omega), show esc back.getLsbD odd 64 = (!esc back.getLsbD odd 63 && back.getLsbD 63) from rfl]
  generalize esc back.getLsbD odd 63 = u
  cases u <;> cases back.getLsbD 63 <;> rfl

theorem esc_two (back : BitVec 64) (odd : Bool) : escD back odd &&& (escD back odd <<< 1) = 0#64 := ext64 fun i hi => by
  rw [BitVec.getLsbD_and, lsb_shl1 _ hi]
  by_cases h : i = 0
  · subst h; simp
  · obtain ⟨j, rfl⟩ : ∃ j, i = j + 1 := ⟨i - 1, by omega⟩
    rw [if_neg h, show j + 1 - 1 = j from rfl, escD, lsb_mk (by omega) hi, lsb_mk (by omega) (by omega)]
    simp only [esc, hi, show j < 64 from by omega, decide_true, Bool.true_and]
    cases esc back.getLsbD odd j <;> simp

/-! Scan -/
/-- is byte i escaped? -/
def so (g : Nat → Int) (o : Bool) : Nat → Bool := esc (fun i => g i == 92) o
/-- is byte i a quote that isn't? -/
def sq (g : Nat → Int) (o : Bool) (i : Nat) : Bool := g i == 34 && !(so g o i)
/-- within a string ahead of byte i? -/
def si (g : Nat → Int) (o inn : Bool) : Nat → Bool
  | 0 => inn
  | n + 1 => si g o inn n ^^ sq g o n

def bitsM (n : Nat) (g : Nat → Int) (c : Int) : BitVec 64 := mk n fun i => g i == c
def qM (n : Nat) (g : Nat → Int) (o : Bool) : BitVec 64 := mk n (sq g o)
def iM (n : Nat) (g : Nat → Int) (o inn : Bool) : BitVec 64 := mk n fun i => si g o inn (i + 1)
def aM (n : Nat) (g : Nat → Int) (o inn : Bool) (p : Int → Bool) : BitVec 64 := mk n fun i => p (g i) && !si g o inn (i + 1)

theorem esc_congr {f f' : Nat → Bool} {o : Bool} {n : Nat} (h : ∀ i, i < n → f i = f' i) : esc f o n = esc f' o n := by
  induction n with
  | zero => rfl
  | succ n ih => rw [esc, esc, ih (fun i hi => h i (by omega)), h n (by omega)]

theorem par_congr {f f' : Nat → Bool} {n : Nat} (h : ∀ i, i < n → f i = f' i) : par f n = par f' n := by
  induction n with
  | zero => rfl
  | succ n ih => rw [par, par, ih (fun i hi => h i (by omega)), h n (by omega)]

theorem so_of (n : Nat) (hn : n ≤ 64) (g : Nat → Int) (o : Bool) (i : Nat) (hi : i ≤ n) : esc (bitsM n g 92).getLsbD o i = so g o i := by
  apply esc_congr
  intro j hj
  rw [bitsM, lsb_mk hn (by omega)]; simp; omega

theorem esc_lsb (n : Nat) (hn : n ≤ 64) (g : Nat → Int) (o : Bool) (i : Nat) (hi : i ≤ n) (h64 : i < 64) : (escD (bitsM n g 92) o).getLsbD i = so g o i := by
  rw [escD, lsb_mk (by omega) h64, so_of n hn g o i hi]; simp [h64]

theorem quotes_eq (n : Nat) (hn : n ≤ 64) (g : Nat → Int) (o : Bool) : bitsM n g 34 &&& ~~~(escD (bitsM n g 92) o) = qM n g o := ext64 fun i hi => by
  rw [BitVec.getLsbD_and, lsb_not _ hi, show (bitsM n g 34).getLsbD i = _ from lsb_mk hn hi, qM, lsb_mk hn hi]
  by_cases h : i < n
  · rw [esc_lsb n hn g o i (by omega) hi]; simp [h, sq]
  · simp [h]

theorem si_par (n : Nat) (hn : n ≤ 64) (g : Nat → Int) (o inn : Bool) (i : Nat) (hi : i ≤ n) : (inn ^^ par (qM n g o).getLsbD i) = si g o inn i := by
  induction i with
  | zero => simp [par, si]
  | succ i ih =>
    rw [par, si, ← ih (by omega), qM, lsb_mk hn (by omega)]
    simp [show i < n from by omega]

theorem par_beyond (n : Nat) (hn : n < 64) (g : Nat → Int) (o : Bool) : par (qM n g o).getLsbD (n + 1) = par (qM n g o).getLsbD n := by
  rw [par, qM, lsb_mk (by omega) hn]; simp

theorem still_eq (n : Nat) (hn : n < 64) (g : Nat → Int) (o inn : Bool) : (insD (qM n g o) inn).getLsbD n = si g o inn n := by
  rw [insD, lsb_mk (by omega) hn, par_beyond n hn, si_par n (by omega) g o inn n (Nat.le_refl _)]; simp [hn]

theorem have_lsb (n : Nat) (hn : n ≤ 64) (i : Nat) (hi : i < 64) : ((1#64 <<< n) - 1#64).getLsbD i = decide (i < n) := by
  have h64 : ∀ k, k < 65 → ∀ j, j < 64 → ((1#64 <<< k) - 1#64).getLsbD j = decide (j < k) := by decide +kernel
  exact h64 n (by omega) i hi

theorem in_eq (n : Nat) (hn : n ≤ 64) (g : Nat → Int) (o inn : Bool) : insD (qM n g o) inn &&& ((1#64 <<< n) - 1#64) = iM n g o inn := ext64 fun i hi => by
  rw [BitVec.getLsbD_and, have_lsb n hn i hi, insD, lsb_mk (by omega) hi, iM, lsb_mk hn hi]
  by_cases h : i < n
  · rw [si_par n hn g o inn (i + 1) (by omega)]; simp [h, hi]
  · simp [h]

theorem any1_eq (n : Nat) (hn : n ≤ 64) (g : Nat → Int) (o inn : Bool) (x : BitVec 64) (p : Int → Bool) (hx : ∀ i, i < 64 → x.getLsbD i = (decide (i < n) && p (g i))) : x &&& ~~~(iM n g o inn) = aM n g o inn p := ext64 fun i hi => by
  rw [BitVec.getLsbD_and, lsb_not _ hi, hx i hi, iM, lsb_mk hn hi, aM, lsb_mk hn hi]
  by_cases h : i < n <;> simp [h]

theorem or_any (n : Nat) (hn : n ≤ 64) (g : Nat → Int) (x : BitVec 64) (p : Int → Bool) (c : Int) (hx : ∀ i, i < 64 → x.getLsbD i = (decide (i < n) && p (g i))) : ∀ i, i < 64 → (x ||| bitsM n g c).getLsbD i = (decide (i < n) && (p (g i) || g i == c)) := by
  intro i hi
  rw [BitVec.getLsbD_or, hx i hi, bitsM, lsb_mk hn hi]
  cases decide (i < n) <;> simp

/-- a byte that is no quote leaves in as it is -/
theorem si_same (g : Nat → Int) (o inn : Bool) (i : Nat) (h : sq g o i = false) : si g o inn (i + 1) = si g o inn i := by rw [si, h]; simp

/-! BitmapMarks -/
theorem aM_in (n : Nat) (hn : n ≤ 64) (g : Nat → Int) (o inn : Bool) (p : Int → Bool) : aM n g o inn p &&& iM n g o inn = 0#64 := ext64 fun i hi => by
  rw [BitVec.getLsbD_and, aM, lsb_mk hn hi, iM, lsb_mk hn hi]
  cases si g o inn (i + 1) <;> simp

theorem aM_q (n : Nat) (hn : n ≤ 64) (g : Nat → Int) (o inn : Bool) (p : Int → Bool) (hp : p 34 = false) : aM n g o inn p &&& qM n g o = 0#64 := ext64 fun i hi => by
  rw [BitVec.getLsbD_and, aM, lsb_mk hn hi, qM, lsb_mk hn hi]
  by_cases h : g i = 34
  · rw [h, hp]; simp
  · simp [sq, h]

theorem aM_or (n : Nat) (hn : n ≤ 64) (g : Nat → Int) (o inn : Bool) (p r : Int → Bool) : aM n g o inn p ||| aM n g o inn r = aM n g o inn fun c => p c || r c := ext64 fun i hi => by
  rw [BitVec.getLsbD_or, aM, lsb_mk hn hi, aM, lsb_mk hn hi, aM, lsb_mk hn hi]
  cases decide (i < n) <;> cases p (g i) <;> cases r (g i) <;> cases si g o inn (i + 1) <;> rfl

theorem aM_apart (n : Nat) (hn : n ≤ 64) (g : Nat → Int) (o inn : Bool) (p r : Int → Bool) (h : ∀ c, (p c && r c) = false) : aM n g o inn p &&& aM n g o inn r = 0#64 := ext64 fun i hi => by
  rw [BitVec.getLsbD_and, aM, lsb_mk hn hi, aM, lsb_mk hn hi]
  have := h (g i)
  revert this
  cases decide (i < n) <;> cases p (g i) <;> cases r (g i) <;> cases si g o inn (i + 1) <;> simp

theorem mk_beyond (n : Nat) (hn : n ≤ 64) (f : Nat → Bool) : mk n f >>> n = 0#64 := ext64 fun i hi => by
  rw [BitVec.getLsbD_ushiftRight]
  by_cases h : n + i < 64
  · rw [lsb_mk hn h]; simp; omega
  · rw [BitVec.getLsbD_of_ge _ _ (by omega)]; simp

end Go.Proofs.YtmbiolhecheplaaDoor.Lo
