/-
  What New makes of bits, plainly: the bits, the ranks, the least and the most of a word. No program in sight.
-/
import Derived.Test.YtldjemekncfmeaaDoorSelb
namespace Go.Proofs.YtldjemekncfmeaaDoor
open Go.RowKit

/-- the number of bits that are kept -/
def clip (n : Int) (l : Nat) : Nat := (max 0 (min n (64 * l))).toNat
/-- the bits -/
def bitF (ys : Nat → BitVec 64) (N : Nat) (j : Nat) : Bool := decide (j < N) && (ys (j / 64)).getLsbD (j % 64)
theorem bitF_beyond (ys : Nat → BitVec 64) (N j : Nat) (h : N ≤ j) : bitF ys N j = false := by unfold bitF; simp; omega

/-- the least excess of a, behind 1 .. m more bits (one more than that at a if there are none) -/
def loE (f : Nat → Bool) (a : Nat) : Nat → Int
  | 0 => Lp.ex f a + 1
  | m + 1 => min (loE f a m) (Lp.ex f (a + m + 1))
def hiE (f : Nat → Bool) (a : Nat) : Nat → Int
  | 0 => Lp.ex f a - 1
  | m + 1 => max (hiE f a m) (Lp.ex f (a + m + 1))
theorem loE_le (f : Nat → Bool) (a : Nat) : ∀ m j, a < j → j ≤ a + m → loE f a m ≤ Lp.ex f j := by
  intro m
  induction m with
  | zero => intro j h1 h2; omega
  | succ m ih =>
    intro j h1 h2
    rw [loE]
    by_cases hj : j = a + m + 1
    · subst hj; omega
    · have := ih j h1 (by omega); omega
theorem hiE_le (f : Nat → Bool) (a : Nat) : ∀ m j, a < j → j ≤ a + m → Lp.ex f j ≤ hiE f a m := by
  intro m
  induction m with
  | zero => intro j h1 h2; omega
  | succ m ih =>
    intro j h1 h2
    rw [hiE]
    by_cases hj : j = a + m + 1
    · subst hj; omega
    · have := ih j h1 (by omega); omega
/-- bounds, so that nothing turns round -/
theorem loE_bound (f : Nat → Bool) (a m : Nat) : -((a : Int) + m) ≤ loE f a m ∧ loE f a m ≤ a + 1 := by
  induction m with
  | zero => have := Lp.ex_bound f a; rw [loE]; omega
  | succ m ih => have := Lp.ex_bound f (a + m + 1); rw [loE]; omega
theorem hiE_bound (f : Nat → Bool) (a m : Nat) : -((a : Int) + 1) ≤ hiE f a m ∧ hiE f a m ≤ a + m := by
  induction m with
  | zero => have := Lp.ex_bound f a; rw [hiE]; omega
  | succ m ih => have := Lp.ex_bound f (a + m + 1); rw [hiE]; omega

/-- how many bits the q-th word has -/
def haveN (N q : Nat) : Nat := min 64 (N - 64 * q)
/-- the q-th word as it is kept -/
def wordX (ys : Nat → BitVec 64) (N q : Nat) : BitVec 64 := if haveN N q < 64 then ys q &&& ((1#64 <<< haveN N q) - 1#64) else ys q
theorem wordX_bit (ys : Nat → BitVec 64) (N q i : Nat) (hi : i < 64) : (wordX ys N q).getLsbD i = bitF ys N (64 * q + i) := by
  unfold wordX bitF
  rw [show (64 * q + i) / 64 = q from by omega, show (64 * q + i) % 64 = i from by omega]
  split
  · rename_i h
    rw [low_lsb _ _ (by omega) i hi]
    have : (i < haveN N q) = (64 * q + i < N) := by unfold haveN; apply propext; omega
    simp only [this]
    cases (ys q).getLsbD i <;> simp
  · rename_i h
    have h2 : 64 * q + i < N := by unfold haveN at h; omega
    simp [h2]
theorem word_cnt (ys : Nat → BitVec 64) (N q : Nat) : Lp.cnt (bitF ys N) (64 * (q + 1)) = Lp.cnt (bitF ys N) (64 * q) + Lp.cnt (wordX ys N q).getLsbD 64 := by
  rw [show 64 * (q + 1) = 64 * q + 64 from by omega, cnt_add, Lp.cnt_congr (fun i hi => wordX_bit ys N q i hi)]

/-- the four rows, as far as they are made -/
def rowW (ys : Nat → BitVec 64) (N m : Nat) : List Value := (List.range m).map fun q => .int .u64 (U (wordX ys N q))
def rowR (f : Nat → Bool) (m : Nat) : List Value := (List.range m).map fun q => .int .i64 (Lp.cnt f (64 * q))
def rowL (f : Nat → Bool) (N m : Nat) : List Value := (List.range m).map fun q => .int .i64 (loE f (64 * q) (haveN N q))
def rowM (f : Nat → Bool) (N m : Nat) : List Value := (List.range m).map fun q => .int .i64 (hiE f (64 * q) (haveN N q))
theorem row_succ (h : Nat → Value) (m : Nat) : (List.range (m + 1)).map h = (List.range m).map h ++ [h m] := by rw [List.range_succ]; simp

/-- a row of the call's own, as a slice that is read -/
theorem IS.own {w : World} {base : Nat} {e : TypeId} {v : Value} {m : Nat} {h : Nat → Value} (ho : w.ownsRow base e 1 v m ((List.range m).map h)) : ∃ A cp, v = .slice A m cp ∧ IS w A m h := by
  rcases ho.2 with ⟨rfl, rfl⟩ | ⟨g, cap, cur, rfl, hb, hg, h1, h2, h3, h4⟩
  · exact ⟨none, 0, rfl, .inl rfl⟩
  · refine ⟨_, cap, rfl, .inr ⟨g, 0, rfl, fun i hi => ?_⟩⟩
    rw [cell_of_row w g (0 + i) cur e (0, 0) hg, Nat.zero_add]
    have e1 : (cur.toList.take (m * 1))[i]? = some (h i) := by rw [h4]; simp [hi]
    rw [List.getElem?_take] at e1
    simpa [hi] using e1

/-- two values that own rows own different ones -/
def Apart (a b : Value) : Prop := ∀ k, a.ownBlock = some k → b.ownBlock ≠ some k
theorem Apart.symm {a b : Value} (h : Apart a b) : Apart b a := fun k h1 h2 => h k h2 h1
theorem Apart.far {a b : Value} (h : Apart a b) : b.ownBlock = none ∨ b.ownBlock ≠ a.ownBlock := by
  cases hb : b.ownBlock with
  | none => exact .inl rfl
  | some k => right; intro e; exact h k e.symm hb
/-- behind an append to a: still apart from b -/
theorem Apart.next {a b : Value} {w : World} {base : Nat} {e : TypeId} {m : Nat} {xs : List Value} {g n cap H : Nat} (h : Apart a b) (hb : w.ownsRow base e 1 b m xs) (hH : w.heap.size ≤ H) (hg : a.ownBlock = some g ∨ g = H) :
    Apart (.slice (some ⟨g, 0, none⟩) n cap) b := by
  intro k hk
  have e1 : g = k := by simpa [Value.ownBlock] using hk
  subst e1
  rcases hg with hg | hg
  · exact h g hg
  · intro hb2
    have := (hb.lt g hb2).2
    omega
theorem apart_nil (b : Value) : Apart (.slice none 0 0) b := fun k h => by simp [Value.ownBlock] at h
end Go.Proofs.YtldjemekncfmeaaDoor
