/-
  Where something stands in a text, place by place, and which marks it has: plain laws over bytes; no program in sight. No condition.
-/
import Derived.Test.YtmbiolhecheplaaDoorBr
import Derived.Test.YtmbiolhecheplaaDoorFil
namespace Go.Proofs.YtmbiolhecheplaaDoor
open Go.RowKit

namespace Lm
/-- within a string, or a quote that begins one; a quote that is a string's -/
def inn (G : Nat → Int) (j : Nat) : Bool := Lo.si G false false (j + 1)
def quo (G : Nat → Int) (j : Nat) : Bool := Lo.sq G false j
/-- a sign of structure; a space -/
def stc (c : Int) : Bool := c == 91 || c == 123 || (c == 93 || c == 125) || c == 58 || c == 44
def spc (c : Int) : Bool := c == 32 || c == 9 || c == 10 || c == 13
def str (G : Nat → Int) (j : Nat) : Bool := stc (G j) && !inn G j
/-- a byte of something else, outside strings -/
def zed (G : Nat → Int) (j : Nat) : Bool := !quo G j && !str G j && !(inn G j || spc (G j))
def run (G : Nat → Int) : Nat → Bool
  | 0 => false
  | j + 1 => zed G j
/-- what a mark at a place says; 0: there is none -/
def kind (G : Nat → Int) (j : Nat) : Int := if quo G j then (if inn G j then 34 else 0) else if str G j then G j else if zed G j && !run G j then 48 else 0
/-- the marks ahead of place n -/
def ml (G : Nat → Int) : Nat → List (Nat × Int)
  | 0 => []
  | j + 1 => if kind G j = 0 then ml G j else ml G j ++ [(j, kind G j)]
def cells (l : List (Nat × Int)) : List Value := l.flatMap fun p => [.int .i64 p.1, .int .u8 p.2]
theorem cells_snoc (l : List (Nat × Int)) (p : Nat × Int) : cells (l ++ [p]) = cells l ++ [.int .i64 p.1, .int .u8 p.2] := by simp [cells]
theorem cells_len (l : List (Nat × Int)) : (cells l).length = l.length * 2 := by
  induction l with
  | nil => rfl
  | cons p l ih => simp only [cells, List.flatMap_cons, List.length_append, List.length_cons, List.length_nil] at *; omega
theorem cells_one (l : List (Nat × Int)) : ∀ u ∈ cells l, u.oneCell' = true := by
  intro u hu
  simp only [cells, List.mem_flatMap] at hu
  obtain ⟨p, _, hu⟩ := hu
  simp at hu
  rcases hu with rfl | rfl <;> rfl
theorem cells_get (l : List (Nat × Int)) : ∀ i p, l[i]? = some p → (cells l)[i * 2]? = some (.int .i64 p.1) ∧ (cells l)[i * 2 + 1]? = some (.int .u8 p.2) := by
  induction l with
  | nil => intro i p h; simp at h
  | cons q l ih =>
    intro i p h
    have e : cells (q :: l) = .int .i64 q.1 :: .int .u8 q.2 :: cells l := rfl
    rw [e]
    cases i with
    | zero => obtain rfl : q = p := by simpa using h
              exact ⟨rfl, rfl⟩
    | succ i =>
      have h2 := ih i p (by simpa using h)
      rw [show (i + 1) * 2 = i * 2 + 1 + 1 from by omega]
      exact h2
theorem ml_len (G : Nat → Int) (n : Nat) : (ml G n).length ≤ n := by
  induction n with
  | zero => exact Nat.le_refl _
  | succ n ih =>
    rw [ml]
    split
    · omega
    · rw [List.length_append]; simp; omega
theorem ml_skip {G : Nat → Int} {j : Nat} (h : kind G j = 0) : ml G (j + 1) = ml G j := by rw [ml, if_pos h]
theorem ml_push {G : Nat → Int} {j : Nat} (h : kind G j ≠ 0) : ml G (j + 1) = ml G j ++ [(j, kind G j)] := by rw [ml, if_neg h]
theorem stc_quo {c : Int} (h : stc c = true) : (c == 34) = false := by
  cases h2 : c == 34
  · rfl
  · have : c = 34 := by simpa using h2
    subst this
    simp [stc] at h
/-! the five ways through a place -/
theorem kind_open {G : Nat → Int} {j : Nat} (h1 : quo G j = true) (h2 : inn G j = true) : kind G j = 34 ∧ zed G j = false := by simp [kind, zed, h1, h2]
theorem kind_shut {G : Nat → Int} {j : Nat} (h1 : quo G j = true) (h2 : inn G j = false) : kind G j = 0 ∧ zed G j = false := by simp [kind, zed, h1, h2]
theorem kind_str {G : Nat → Int} {j : Nat} (h1 : quo G j = false) (h2 : str G j = true) : kind G j = G j ∧ kind G j ≠ 0 ∧ zed G j = false := by
  have e : kind G j = G j := by simp [kind, h1, h2]
  refine ⟨e, ?_, by simp [zed, h1, h2]⟩
  rw [e]
  intro h0
  simp [str, stc, h0] at h2
theorem kind_new {G : Nat → Int} {j : Nat} (h1 : quo G j = false) (h2 : str G j = false) (h3 : (inn G j || spc (G j)) = false) (h4 : run G j = false) : kind G j = 48 ∧ zed G j = true := by
  have : zed G j = true := by simp [zed, h1, h2]; simpa using h3
  exact ⟨by simp [kind, h1, h2, this, h4], this⟩
theorem kind_on {G : Nat → Int} {j : Nat} (h1 : quo G j = false) (h2 : str G j = false) (h3 : (inn G j || spc (G j)) = false) (h4 : run G j = true) : kind G j = 0 ∧ zed G j = true := by
  have : zed G j = true := by simp [zed, h1, h2]; simpa using h3
  exact ⟨by simp [kind, h1, h2, h4], this⟩
theorem kind_none {G : Nat → Int} {j : Nat} (h1 : quo G j = false) (h2 : str G j = false) (h3 : (inn G j || spc (G j)) = true) : kind G j = 0 ∧ zed G j = false := by
  have : zed G j = false := by simp only [zed, h3]; simp
  exact ⟨by simp [kind, h1, h2, this], this⟩
end Lm

/-! The masks of a text's index, by word and mask. -/
/-- mask c of word q of the index of n bytes -/
def mwG (G : Nat → Int) (n q c : Nat) : BitVec 64 :=
  match c with
  | 0 => Lo.qM (min 64 (n - 64 * q)) (fun i => G (64 * q + i)) (Lo.so G false (64 * q))
  | 1 => Lo.iM (min 64 (n - 64 * q)) (fun i => G (64 * q + i)) (Lo.so G false (64 * q)) (Lo.si G false false (64 * q))
  | 2 => Lo.aM (min 64 (n - 64 * q)) (fun i => G (64 * q + i)) (Lo.so G false (64 * q)) (Lo.si G false false (64 * q)) fun c => c == 91 || c == 123
  | 3 => Lo.aM (min 64 (n - 64 * q)) (fun i => G (64 * q + i)) (Lo.so G false (64 * q)) (Lo.si G false false (64 * q)) fun c => c == 93 || c == 125
  | 4 => Lo.aM (min 64 (n - 64 * q)) (fun i => G (64 * q + i)) (Lo.so G false (64 * q)) (Lo.si G false false (64 * q)) fun c => c == 58
  | 5 => Lo.aM (min 64 (n - 64 * q)) (fun i => G (64 * q + i)) (Lo.so G false (64 * q)) (Lo.si G false false (64 * q)) fun c => c == 44
  | _ => Lo.aM (min 64 (n - 64 * q)) (fun i => G (64 * q + i)) (Lo.so G false (64 * q)) (Lo.si G false false (64 * q)) fun c => c == 32 || c == 9 || c == 10 || c == 13
theorem wordA_get (G : Nat → Int) (n q c : Nat) (hc : c < 7) : (wordA G n q)[c]? = some (.int .u64 (U (mwG G n q c))) := by
  have : c = 0 ∨ c = 1 ∨ c = 2 ∨ c = 3 ∨ c = 4 ∨ c = 5 ∨ c = 6 := by omega
  rcases this with rfl | rfl | rfl | rfl | rfl | rfl | rfl <;> rfl
theorem inn_at (G : Nat → Int) (q i : Nat) : Lo.si (fun i => G (64 * q + i)) (Lo.so G false (64 * q)) (Lo.si G false false (64 * q)) (i + 1) = Lm.inn G (64 * q + i) := by
  rw [si_shift]; rfl
theorem quo_at (G : Nat → Int) (q i : Nat) : Lo.sq (fun i => G (64 * q + i)) (Lo.so G false (64 * q)) i = Lm.quo G (64 * q + i) := by
  rw [sq_shift]; rfl
section
variable (G : Nat → Int) (n q i : Nat)
theorem mw_quo (hi : i < 64) : (mwG G n q 0).getLsbD i = (decide (64 * q + i < n) && Lm.quo G (64 * q + i)) := by
  rw [mwG, Lo.qM, Lo.lsb_mk (by omega) hi, quo_at]
  congr 1
  by_cases h : 64 * q + i < n <;> simp [h] <;> omega
theorem mw_inn (hi : i < 64) : (mwG G n q 1).getLsbD i = (decide (64 * q + i < n) && Lm.inn G (64 * q + i)) := by
  rw [mwG, Lo.iM, Lo.lsb_mk (by omega) hi, inn_at]
  congr 1
  by_cases h : 64 * q + i < n <;> simp [h] <;> omega
theorem mw_any (hi : i < 64) (p : Int → Bool) : (Lo.aM (min 64 (n - 64 * q)) (fun i => G (64 * q + i)) (Lo.so G false (64 * q)) (Lo.si G false false (64 * q)) p).getLsbD i = (decide (64 * q + i < n) && (p (G (64 * q + i)) && !Lm.inn G (64 * q + i))) := by
  rw [Lo.aM, Lo.lsb_mk (by omega) hi, inn_at]
  congr 1
  by_cases h : 64 * q + i < n <;> simp [h] <;> omega
/-- a sign of structure, by the four masks -/
theorem mw_str (hi : i < 64) : (mwG G n q 2 ||| mwG G n q 3 ||| mwG G n q 4 ||| mwG G n q 5).getLsbD i = (decide (64 * q + i < n) && Lm.str G (64 * q + i)) := by
  rw [BitVec.getLsbD_or, BitVec.getLsbD_or, BitVec.getLsbD_or]
  simp only [mwG]
  rw [mw_any G n q i hi, mw_any G n q i hi, mw_any G n q i hi, mw_any G n q i hi, Lm.str, Lm.stc]
  generalize decide (64 * q + i < n) = a
  generalize Lm.inn G (64 * q + i) = b
  generalize (G (64 * q + i) == 91 || G (64 * q + i) == 123) = c
  generalize (G (64 * q + i) == 93 || G (64 * q + i) == 125) = d
  generalize (G (64 * q + i) == 58) = e
  generalize (G (64 * q + i) == 44) = f
  cases a <;> cases b <;> cases c <;> cases d <;> cases e <;> cases f <;> rfl
/-- within, or a space -/
theorem mw_isp (hi : i < 64) (h : 64 * q + i < n) : (mwG G n q 1 ||| mwG G n q 6).getLsbD i = (Lm.inn G (64 * q + i) || Lm.spc (G (64 * q + i))) := by
  rw [BitVec.getLsbD_or, mw_inn G n q i hi]
  simp only [mwG]
  rw [mw_any G n q i hi, Lm.spc]
  cases Lm.inn G (64 * q + i) <;> simp [h]
end
/-- what stands in the index of a text -/
theorem stands_G (G : Nat → Int) (n j : Nat) : standsD (mwG G n) j = (decide (j < n) && (Lm.quo G j || Lm.str G j)) := by
  have hj : 64 * (j / 64) + j % 64 = j := by omega
  have h1 := mw_quo G n (j / 64) (j % 64) (by omega)
  have h2 := mw_str G n (j / 64) (j % 64) (by omega)
  rw [hj] at h1 h2
  unfold standsD allD
  simp only [BitVec.getLsbD_or] at h1 h2 ⊢
  have e : ∀ a b c d e : Bool, (a || b || c || d || e) = (a || (b || c || d || e)) := by decide
  rw [e, h1, h2]
  cases decide (j < n) <;> simp
end Go.Proofs.YtmbiolhecheplaaDoor
