/-
  What stands in the masks of a Scan: each mark outside strings, one at most; where within changes. Plain laws. No condition.
-/
import Derived.Test.YtmbiolhecheplaaShown
namespace Go.Proofs.Ytmbiolhecheplaa
open Go.RowKit

def pO (c : Int) : Bool := c == 91 || c == 123
def pC (c : Int) : Bool := c == 93 || c == 125
def pN (c : Int) : Bool := c == 58
def pM (c : Int) : Bool := c == 44
def pS (c : Int) : Bool := c == 32 || c == 9 || c == 10 || c == 13

theorem marks_plain (n : Nat) (hn : n ≤ 64) (g : Nat → Int) (o i : Bool) :
    let Q := Lo.qM n g o
    let I := Lo.iM n g o i
    let O := Lo.aM n g o i pO
    let C := Lo.aM n g o i pC
    let N := Lo.aM n g o i pN
    let M := Lo.aM n g o i pM
    let S := Lo.aM n g o i pS
    O &&& C = 0#64 ∧ (O ||| C) &&& (N ||| M ||| S) = 0#64 ∧ N &&& M = 0#64 ∧ (N ||| M) &&& S = 0#64 ∧
    (O ||| C ||| N ||| M ||| S) &&& I = 0#64 ∧ (O ||| C ||| N ||| M ||| S) &&& Q = 0#64 ∧ (O ||| C ||| N ||| M ||| S ||| Q ||| I) >>> n = 0#64 ∧
    (∀ j, j < n → I.getLsbD j = (Lo.si g o i j ^^ Lo.sq g o j)) ∧ (∀ j, j < n → Q.getLsbD j = Lo.sq g o j) := by
  intro Q I O C N M S
  have hor := Lo.aM_or n hn g o i
  have hap := Lo.aM_apart n hn g o i
  refine ⟨?_, ?_, ?_, ?_, ?_, ?_, ?_, ?_, ?_⟩
  · refine hap _ _ fun c => ?_
    by_cases h : c = 91 ∨ c = 123
    · rcases h with rfl | rfl <;> rfl
    · have : pO c = false := by simp [pO]; omega
      rw [this]; rfl
  · show (Lo.aM n g o i pO ||| Lo.aM n g o i pC) &&& (Lo.aM n g o i pN ||| Lo.aM n g o i pM ||| Lo.aM n g o i pS) = _
    rw [hor, hor, hor]
    refine hap _ _ fun c => ?_
    by_cases h : c = 91 ∨ c = 123 ∨ c = 93 ∨ c = 125
    · rcases h with rfl | rfl | rfl | rfl <;> rfl
    · have h1 : pO c = false := by simp [pO]; omega
      have h2 : pC c = false := by simp [pC]; omega
      simp [h1, h2]
  · refine hap _ _ fun c => ?_
    by_cases h : c = 58
    · subst h; rfl
    · have : pN c = false := by simp [pN, h]
      rw [this]; rfl
  · show (Lo.aM n g o i pN ||| Lo.aM n g o i pM) &&& Lo.aM n g o i pS = _
    rw [hor]
    refine hap _ _ fun c => ?_
    by_cases h : c = 58 ∨ c = 44
    · rcases h with rfl | rfl <;> rfl
    · have h1 : pN c = false := by simp [pN]; omega
      have h2 : pM c = false := by simp [pM]; omega
      simp [h1, h2]
  · show (Lo.aM n g o i pO ||| Lo.aM n g o i pC ||| Lo.aM n g o i pN ||| Lo.aM n g o i pM ||| Lo.aM n g o i pS) &&& _ = _
    rw [hor, hor, hor, hor]
    exact Lo.aM_in n hn g o i _
  · show (Lo.aM n g o i pO ||| Lo.aM n g o i pC ||| Lo.aM n g o i pN ||| Lo.aM n g o i pM ||| Lo.aM n g o i pS) &&& _ = _
    rw [hor, hor, hor, hor]
    exact Lo.aM_q n hn g o i _ rfl
  · show (Lo.aM n g o i pO ||| Lo.aM n g o i pC ||| Lo.aM n g o i pN ||| Lo.aM n g o i pM ||| Lo.aM n g o i pS ||| Lo.mk n _ ||| Lo.mk n _) >>> n = _
    rw [hor, hor, hor, hor]
    show (Lo.mk n _ ||| Lo.mk n _ ||| Lo.mk n _) >>> n = _
    rw [BitVec.ushiftRight_or_distrib, BitVec.ushiftRight_or_distrib, Lo.mk_beyond n hn, Lo.mk_beyond n hn, Lo.mk_beyond n hn]
    rfl
  · intro j hj
    show (Lo.mk n _).getLsbD j = _
    rw [Lo.lsb_mk hn (by omega)]
    simp [hj, Lo.si]
  · intro j hj
    show (Lo.mk n _).getLsbD j = _
    rw [Lo.lsb_mk hn (by omega)]
    simp [hj]

theorem marks_facts (A : Option Addr) (n cp : Nat) (g : Nat → Int) (o i : Bool) (hn : n ≤ 9223372036854775807) (m : Nat) (hm : m = min 64 n) : ∃ (Q I O C N M S : BitVec 64) (c0 c1 : Bool),
    (∀ W : World, BS W A n g → Calls Try.prog 20 #[.slice A n cp, .agg #[.bool o, .bool i]] W fun e w' => e = .returned (.tuple #[.agg #[.int .u64 (U Q), .int .u64 (U I), .int .u64 (U O), .int .u64 (U C), .int .u64 (U N), .int .u64 (U M), .int .u64 (U S)], .agg #[.bool c0, .bool c1]]) ∧ Below W.heap.size W w') ∧
    (O &&& C = 0#64 ∧ (O ||| C) &&& (N ||| M ||| S) = 0#64 ∧ N &&& M = 0#64 ∧ (N ||| M) &&& S = 0#64 ∧
    (O ||| C ||| N ||| M ||| S) &&& I = 0#64 ∧ (O ||| C ||| N ||| M ||| S) &&& Q = 0#64 ∧ (O ||| C ||| N ||| M ||| S ||| Q ||| I) >>> m = 0#64 ∧
    (∀ j, j < m → I.getLsbD j = (Lo.si g o i j ^^ Lo.sq g o j)) ∧ (∀ j, j < m → Q.getLsbD j = Lo.sq g o j)) ∧ c1 = Lo.si g o i m := by
  subst hm
  exact ⟨Lo.qM (min 64 n) g o, Lo.iM (min 64 n) g o i, Lo.aM (min 64 n) g o i pO, Lo.aM (min 64 n) g o i pC, Lo.aM (min 64 n) g o i pN, Lo.aM (min 64 n) g o i pM, Lo.aM (min 64 n) g o i pS, Lo.so g o (min 64 n), Lo.si g o i (min 64 n),
    fun W h => (scan_any A n cp g o i W h hn).mono fun _ _ h => h, marks_plain (min 64 n) (Nat.min_le_left _ _) g o i, rfl⟩
end Go.Proofs.Ytmbiolhecheplaa
