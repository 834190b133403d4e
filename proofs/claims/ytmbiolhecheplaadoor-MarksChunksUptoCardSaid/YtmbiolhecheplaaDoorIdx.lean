/-
  The index of a text, word by word, as cells; plain laws of its carries. No program in sight. No condition.
-/
import Derived.Test.YtmbiolhecheplaaDoorRscan
namespace Go.Proofs.YtmbiolhecheplaaDoor
open Go.RowKit

/-! What a piece's carry is, of the whole text. -/
theorem esc_shift (f : Nat → Bool) (o : Bool) (a j : Nat) : Lo.esc (fun i => f (a + i)) (Lo.esc f o a) j = Lo.esc f o (a + j) := by
  induction j with
  | zero => rfl
  | succ j ih => rw [Lo.esc, ih]; rfl
theorem so_shift (G : Nat → Int) (o : Bool) (a j : Nat) : Lo.so (fun i => G (a + i)) (Lo.so G o a) j = Lo.so G o (a + j) := esc_shift (fun i => G i == 92) o a j
theorem sq_shift (G : Nat → Int) (o : Bool) (a j : Nat) : Lo.sq (fun i => G (a + i)) (Lo.so G o a) j = Lo.sq G o (a + j) := by unfold Lo.sq; rw [so_shift]
theorem si_shift (G : Nat → Int) (o i : Bool) (a j : Nat) : Lo.si (fun k => G (a + k)) (Lo.so G o a) (Lo.si G o i a) j = Lo.si G o i (a + j) := by
  induction j with
  | zero => rfl
  | succ j ih => rw [Lo.si, ih, sq_shift]; rfl
theorem carry_shift (G : Nat → Int) (a j : Nat) : carry j (fun i => G (a + i)) (Lo.so G false a) (Lo.si G false false a) = carry (a + j) G false false := by
  unfold carry; rw [so_shift, si_shift]

/-- word q of the index of a text of n bytes -/
def wordA (G : Nat → Int) (n q : Nat) : Array Value := masks (min 64 (n - 64 * q)) (fun i => G (64 * q + i)) (Lo.so G false (64 * q)) (Lo.si G false false (64 * q))
/-- the cells of the first q words -/
def wordsL (G : Nat → Int) (n : Nat) : Nat → List Value
  | 0 => []
  | q + 1 => wordsL G n q ++ (wordA G n q).toList
theorem wordA_size (G : Nat → Int) (n q : Nat) : (wordA G n q).toList.length = 7 := rfl
theorem wordsL_length (G : Nat → Int) (n q : Nat) : (wordsL G n q).length = q * 7 := by
  induction q with
  | zero => rfl
  | succ q ih => rw [wordsL, List.length_append, ih, wordA_size]; omega
theorem wordsL_one (G : Nat → Int) (n q : Nat) : ∀ u ∈ wordsL G n q, u.oneCell' = true := by
  induction q with
  | zero => intro u hu; cases hu
  | succ q ih =>
    intro u hu
    rw [wordsL, List.mem_append] at hu
    rcases hu with hu | hu
    · exact ih u hu
    · simp [wordA, masks] at hu
      rcases hu with rfl | rfl | rfl | rfl | rfl | rfl | rfl <;> rfl
theorem wordsL_get (G : Nat → Int) (n q : Nat) : ∀ p, p < q → ∀ k, k < 7 → (wordsL G n q)[p * 7 + k]? = (wordA G n p)[k]? := by
  induction q with
  | zero => intro p hp; omega
  | succ q ih =>
    intro p hp k hk
    rw [wordsL]
    by_cases h : p < q
    · rw [List.getElem?_append_left (by rw [wordsL_length]; omega)]
      exact ih p h k hk
    · obtain rfl : p = q := by omega
      rw [List.getElem?_append_right (by rw [wordsL_length]; omega), wordsL_length, show p * 7 + k - p * 7 = k from by omega, Array.getElem?_toList]
/-- how many words -/
def nwords (n : Nat) : Nat := (n + 63) / 64
/-- where a piece is cut off ahead of the text's end nothing turns -/
theorem wordA_congr {G G' : Nat → Int} {n n' q : Nat} (h : ∀ i, i < n → G i = G' i) (hn : min 64 (n - 64 * q) = min 64 (n' - 64 * q)) (hq : 64 * q ≤ n) : wordA G n q = wordA G' n' q := by
  have hso : ∀ k, k ≤ n → Lo.so G false k = Lo.so G' false k := fun k hk => Lo.esc_congr fun i hi => by rw [h i (by omega)]
  have hsq : ∀ k, k < n → Lo.sq G false k = Lo.sq G' false k := fun k hk => by unfold Lo.sq; rw [hso k (by omega), h k hk]
  have hsi : ∀ k, k ≤ n → Lo.si G false false k = Lo.si G' false false k := by
    intro k
    induction k with
    | zero => intro _; rfl
    | succ k ih => intro hk; rw [Lo.si, Lo.si, ih (by omega), hsq k (by omega)]
  unfold wordA masks
  rw [← hn]
  have e1 : ∀ j, j < min 64 (n - 64 * q) → Lo.sq (fun i => G (64 * q + i)) (Lo.so G false (64 * q)) j = Lo.sq (fun i => G' (64 * q + i)) (Lo.so G' false (64 * q)) j := fun j hj => by
    rw [sq_shift, sq_shift]; exact hsq _ (by omega)
  have e2 : ∀ j, j < min 64 (n - 64 * q) → Lo.si (fun i => G (64 * q + i)) (Lo.so G false (64 * q)) (Lo.si G false false (64 * q)) (j + 1) = Lo.si (fun i => G' (64 * q + i)) (Lo.so G' false (64 * q)) (Lo.si G' false false (64 * q)) (j + 1) := fun j hj => by
    rw [si_shift, si_shift]; exact hsi _ (by omega)
  have e3 : ∀ p : Int → Bool, Lo.aM (min 64 (n - 64 * q)) (fun i => G (64 * q + i)) (Lo.so G false (64 * q)) (Lo.si G false false (64 * q)) p = Lo.aM (min 64 (n - 64 * q)) (fun i => G' (64 * q + i)) (Lo.so G' false (64 * q)) (Lo.si G' false false (64 * q)) p := fun p => Lo.mk_eq_of fun j hj => by
    rw [e2 j hj]
    show (p (G (64 * q + j)) && _) = (p (G' (64 * q + j)) && _)
    rw [h (64 * q + j) (by omega)]
  rw [show Lo.qM (min 64 (n - 64 * q)) (fun i => G (64 * q + i)) (Lo.so G false (64 * q)) = _ from Lo.mk_eq_of e1, show Lo.iM (min 64 (n - 64 * q)) (fun i => G (64 * q + i)) (Lo.so G false (64 * q)) (Lo.si G false false (64 * q)) = _ from Lo.mk_eq_of e2, e3, e3, e3, e3, e3]
  rfl
end Go.Proofs.YtmbiolhecheplaaDoor
