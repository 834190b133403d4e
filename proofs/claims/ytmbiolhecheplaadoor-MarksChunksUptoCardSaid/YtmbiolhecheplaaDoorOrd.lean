/-
  How Next leads from one mark of a text to the next one: plain laws over bytes; no program in sight. No condition.
-/
import Derived.Test.YtmbiolhecheplaaDoorMl
import Derived.Test.YtmbiolhecheplaaDoorRnext
namespace Go.Proofs.YtmbiolhecheplaaDoor
open Go.RowKit

namespace Lm
/-- does something stand at a place; is it one that a mark tells, other than of other bytes? -/
def stn (G : Nat → Int) (j : Nat) : Bool := quo G j || str G j
def pm (G : Nat → Int) (j : Nat) : Bool := (quo G j && inn G j) || str G j

theorem si_succ (G : Nat → Int) (j : Nat) : inn G j = (Lo.si G false false j ^^ quo G j) := rfl
theorem si_keep {G : Nat → Int} {a b : Nat} (h : a ≤ b) (hq : ∀ j, a ≤ j → j < b → quo G j = false) : Lo.si G false false b = Lo.si G false false a := by
  induction b with
  | zero => rw [show a = 0 from by omega]
  | succ b ih =>
    by_cases e : a = b + 1
    · rw [e]
    · have h2 : Lo.si G false false (b + 1) = (Lo.si G false false b ^^ quo G b) := rfl
      rw [h2, hq b (by omega) (by omega), ih (by omega) fun j j1 j2 => hq j j1 (by omega)]; simp
theorem str_quo {G : Nat → Int} {j : Nat} (h : str G j = true) : quo G j = false := by
  unfold str at h
  have h1 : stc (G j) = true := by
    cases hs : stc (G j)
    · rw [hs] at h; simp at h
    · rfl
  have h2 := stc_quo h1
  show (G j == 34 && _) = false
  rw [h2]; rfl
theorem quo_34 {G : Nat → Int} {j : Nat} (h : quo G j = true) : G j = 34 := by
  have h' : (G j == 34 && !(Lo.so G false j)) = true := h
  rw [Bool.and_eq_true] at h'
  simpa using h'.1
theorem shut_of {G : Nat → Int} {j : Nat} (h1 : stn G j = true) (h2 : pm G j = false) : quo G j = true ∧ inn G j = false := by
  unfold stn at h1
  unfold pm at h2
  cases hq : quo G j <;> cases hi : inn G j <;> cases hs : str G j <;> simp_all
/-- outside strings the next one that stands is a mark -/
theorem out_next {G : Nat → Int} {a p : Nat} (hs : Lo.si G false false a = false) (hn : ∀ j, a ≤ j → j < p → pm G j = false) : ∀ b, b ≤ p → ∀ j, a ≤ j → j < b → stn G j = false := by
  intro b
  induction b with
  | zero => intro _ j _ h; omega
  | succ b ih =>
    intro hb j j1 j2
    by_cases e : j < b
    · exact ih (by omega) j j1 e
    · obtain rfl : j = b := by omega
      cases hst : stn G j
      · rfl
      · exfalso
        obtain ⟨h1, h2⟩ := shut_of hst (hn j j1 (by omega))
        have hk := si_keep j1 (G := G) fun i i1 i2 => by
          have := ih (by omega) i i1 i2
          unfold stn at this
          exact (Bool.or_eq_false_iff.1 this).1
        rw [si_succ, hk, hs, h1] at h2
        simp at h2
/-- the first place where something is, or none -/
theorem first_or (f : Nat → Bool) (a b : Nat) : (∀ j, a ≤ j → j < b → f j = false) ∨ ∃ q, a ≤ q ∧ q < b ∧ f q = true ∧ ∀ j, a ≤ j → j < q → f j = false := by
  induction b with
  | zero => exact .inl fun j _ h => by omega
  | succ b ih =>
    rcases ih with ih | ⟨q, h1, h2, h3, h4⟩
    · by_cases hab : a ≤ b
      · cases hb : f b
        · refine .inl fun j j1 j2 => ?_
          by_cases e : j = b
          · rw [e, hb]
          · exact ih j j1 (by omega)
        · exact .inr ⟨b, hab, by omega, hb, fun j j1 j2 => ih j j1 j2⟩
      · exact .inl fun j j1 j2 => by omega
    · exact .inr ⟨q, h1, by omega, h3, h4⟩
/-- within a string: the next one that stands is the quote that ends it, or there is none -/
theorem in_next {G : Nat → Int} {a p : Nat} (_hs : Lo.si G false false a = true) (hn : ∀ j, a ≤ j → j < p → pm G j = false) :
    (∀ j, a ≤ j → j < p → stn G j = false) ∨ ∃ q, a ≤ q ∧ q < p ∧ stn G q = true ∧ G q = 34 ∧ Lo.si G false false (q + 1) = false ∧ ∀ j, a ≤ j → j < q → stn G j = false := by
  rcases first_or (stn G) a p with h | ⟨q, h1, h2, h3, h4⟩
  · exact .inl h
  · obtain ⟨h5, h6⟩ := shut_of h3 (hn q h1 h2)
    exact .inr ⟨q, h1, h2, h3, quo_34 h5, h6, h4⟩
theorem in_mark {G : Nat → Int} {a p : Nat} (hap : a ≤ p) (hs : Lo.si G false false a = true) (hp : pm G p = true) (h : ∀ j, a ≤ j → j < p → stn G j = false) : False := by
  have hk := si_keep hap (G := G) fun i i1 i2 => by
    have := h i i1 i2
    unfold stn at this
    exact (Bool.or_eq_false_iff.1 this).1
  have h1 := si_succ G p
  rw [hk, hs] at h1
  unfold pm at hp
  cases hq : quo G p
  · rw [hq] at hp h1
    have h2 : str G p = true := by simpa using hp
    unfold str at h2
    rw [h1] at h2
    simp at h2
  · rw [hq] at hp h1
    have h2 : inn G p = false := by rw [h1]; rfl
    have h3 : str G p = true := by rw [h2] at hp; simpa using hp
    rw [str_quo h3] at hq; cases hq

/-! the list of marks -/
theorem ml_mem (G : Nat → Int) (n : Nat) (x : Nat × Int) : x ∈ ml G n ↔ x.1 < n ∧ x.2 = kind G x.1 ∧ kind G x.1 ≠ 0 := by
  induction n with
  | zero => simp [ml]
  | succ n ih =>
    rw [ml]
    split
    · rename_i h
      rw [ih]
      constructor
      · rintro ⟨h1, h2, h3⟩; exact ⟨by omega, h2, h3⟩
      · rintro ⟨h1, h2, h3⟩
        refine ⟨?_, h2, h3⟩
        by_cases e : x.1 = n
        · rw [e] at h3; exact absurd h h3
        · omega
    · rename_i h
      rw [List.mem_append, ih, List.mem_singleton]
      constructor
      · rintro (⟨h1, h2, h3⟩ | rfl)
        · exact ⟨by omega, h2, h3⟩
        · exact ⟨by show n < n + 1; omega, rfl, h⟩
      · rintro ⟨h1, h2, h3⟩
        by_cases e : x.1 = n
        · right
          obtain ⟨a, b⟩ := x
          simp only at e h2
          rw [e] at h2
          rw [e, h2]
        · left; exact ⟨by omega, h2, h3⟩
theorem ml_up (G : Nat → Int) (n : Nat) : (ml G n).Pairwise fun x y => x.1 < y.1 := by
  induction n with
  | zero => exact List.Pairwise.nil
  | succ n ih =>
    rw [ml]
    split
    · exact ih
    · rw [List.pairwise_append]
      refine ⟨ih, List.pairwise_singleton _ _, fun x hx y hy => ?_⟩
      rw [List.mem_singleton] at hy
      subst hy
      exact ((ml_mem G n x).1 hx).1
theorem ml_lt {G : Nat → Int} {n i j : Nat} {x y : Nat × Int} (h : i < j) (hx : (ml G n)[i]? = some x) (hy : (ml G n)[j]? = some y) : x.1 < y.1 := by
  obtain ⟨hi, rfl⟩ := List.getElem?_eq_some_iff.1 hx
  obtain ⟨hj, rfl⟩ := List.getElem?_eq_some_iff.1 hy
  exact List.pairwise_iff_getElem.1 (ml_up G n) i j hi hj h
theorem kind_pm {G : Nat → Int} {j : Nat} (h : pm G j = true) : kind G j ≠ 0 ∧ kind G j ≠ 48 := by
  unfold pm at h
  cases hq : quo G j
  · rw [hq] at h
    have hs : str G j = true := by simpa using h
    obtain ⟨h1, h2, _⟩ := kind_str hq hs
    refine ⟨h2, fun e => ?_⟩
    rw [h1] at e
    simp [str, stc, e] at hs
  · have hs : str G j = false := by
      cases hs : str G j
      · rfl
      · rw [str_quo hs] at hq; cases hq
    rw [hq, hs] at h
    have hi : inn G j = true := by simpa using h
    rw [(kind_open hq hi).1]; decide
theorem pm_kind {G : Nat → Int} {j : Nat} (h0 : kind G j ≠ 0) (h1 : kind G j ≠ 48) : pm G j = true ∧ kind G j = G j := by
  unfold pm
  cases hq : quo G j
  · cases hs : str G j
    · exfalso
      unfold kind at h0 h1
      rw [hq, hs] at h0 h1
      simp only [Bool.false_eq_true, if_false] at h0 h1
      split at h0 <;> simp_all
    · exact ⟨by simp, (kind_str hq hs).1⟩
  · cases hi : inn G j
    · exact absurd (kind_shut hq hi).1 h0
    · exact ⟨by simp, by rw [(kind_open hq hi).1, quo_34 hq]⟩
theorem pm_stn {G : Nat → Int} {j : Nat} (h : pm G j = true) : stn G j = true := by
  unfold pm at h
  unfold stn
  cases hq : quo G j
  · rw [hq] at h; simpa using h
  · rfl
end Lm

theorem stands_n (G : Nat → Int) (n j : Nat) (h : j < n) : standsD (mwG G n) j = Lm.stn G j := by rw [stands_G]; simp [h]; rfl
/-- Next over a text's own index: it leads to the place -/
theorem next_hit (G : Nat → Int) {n a r : Nat} (h1 : a ≤ r) (h2 : r < n) (h3 : Lm.stn G r = true) (h4 : ∀ j, a ≤ j → j < r → Lm.stn G j = false) : nextI (mwG G n) (nwords n) n a = r := by
  have e : firstD (mwG G n) (nwords n) a = (r : Int) := first_at h1 (by unfold nwords; omega) (fun t t1 t2 => by rw [stands_n G n t (by omega)]; exact h4 t t1 t2) (by rw [stands_n G n r h2]; exact h3)
  unfold nextI
  rw [show (max (a : Int) 0).toNat = a from by omega, e, if_pos (by omega), if_pos (by omega)]
  omega
theorem next_miss (G : Nat → Int) {n a : Nat} (_h1 : a ≤ n) (h4 : ∀ j, a ≤ j → j < n → Lm.stn G j = false) : nextI (mwG G n) (nwords n) n a = n := by
  have e : firstD (mwG G n) (nwords n) a = -1 := Lp.leastD_none fun j hj => by
    by_cases haj : a ≤ j
    · have : standsD (mwG G n) j = false := by
        by_cases hjn : j < n
        · rw [stands_n G n j hjn]; exact h4 j haj hjn
        · rw [stands_G]; simp [hjn]
      rw [this]; simp
    · simp [haj]
  unfold nextI
  rw [show (max (a : Int) 0).toNat = a from by omega, e]
  split
  · rfl
  · omega

/-- What the law has at the head of a round: at is behind all marks ahead of the i-th, other bytes' left out. -/
structure AtIs (G : Nat → Int) (n i a : Nat) : Prop where
  le : a ≤ n
  all : ∀ j, a ≤ j → j < n → Lm.pm G j = true → ∃ k, i ≤ k ∧ (Lm.ml G n)[k]? = some (j, Lm.kind G j)
  low : ∀ k x, i ≤ k → (Lm.ml G n)[k]? = some x → a ≤ x.1
theorem AtIs.zero (G : Nat → Int) (n : Nat) : AtIs G n 0 0 where
  le := Nat.zero_le _
  all := fun j _ hj hp => by
    have := (Lm.ml_mem G n (j, Lm.kind G j)).2 ⟨hj, rfl, (Lm.kind_pm hp).1⟩
    obtain ⟨k, hk⟩ := List.mem_iff_getElem?.1 this
    exact ⟨k, Nat.zero_le _, hk⟩
  low := fun _ _ _ _ => Nat.zero_le _
theorem AtIs.skip {G : Nat → Int} {n i a : Nat} {x : Nat × Int} (h : AtIs G n i a) (hx : (Lm.ml G n)[i]? = some x) (h48 : x.2 = 48) : AtIs G n (i + 1) a where
  le := h.le
  all := fun j h1 h2 h3 => by
    obtain ⟨k, hk, he⟩ := h.all j h1 h2 h3
    refine ⟨k, ?_, he⟩
    by_cases e : k = i
    · subst e
      rw [hx] at he
      obtain rfl := Option.some.inj he
      exact absurd h48 (Lm.kind_pm h3).2
    · omega
  low := fun k y hk hy => h.low k y (by omega) hy
theorem AtIs.step {G : Nat → Int} {n i a : Nat} {x : Nat × Int} (h : AtIs G n i a) (hx : (Lm.ml G n)[i]? = some x) : AtIs G n (i + 1) (x.1 + 1) where
  le := by have := ((Lm.ml_mem G n x).1 (List.mem_of_getElem? hx)).1; omega
  all := fun j h1 h2 h3 => by
    obtain ⟨k, hk, he⟩ := h.all j (by have := h.low i x (Nat.le_refl _) hx; omega) h2 h3
    refine ⟨k, ?_, he⟩
    by_cases e : k = i
    · subst e
      rw [hx] at he
      obtain rfl := Option.some.inj he
      simp only at h1; omega
    · omega
  low := fun k y hk hy => by have := Lm.ml_lt (i := i) (j := k) (by omega) hx hy; omega
/-- the place of the i-th mark, told by Next: at once, or behind the quote that ends a string -/
theorem AtIs.tell {G : Nat → Int} {n i a : Nat} {x : Nat × Int} (h : AtIs G n i a) (hx : (Lm.ml G n)[i]? = some x) (h48 : x.2 ≠ 48) : x.1 < n ∧ x.2 = G x.1 ∧
    (nextI (mwG G n) (nwords n) n a = x.1 ∨ ∃ q : Nat, nextI (mwG G n) (nwords n) n a = q ∧ q < x.1 ∧ G q = 34 ∧ nextI (mwG G n) (nwords n) n (q + 1 : Nat) = x.1) := by
  obtain ⟨hn, hk, h0⟩ := (Lm.ml_mem G n x).1 (List.mem_of_getElem? hx)
  obtain ⟨hp, hg⟩ := Lm.pm_kind h0 (by rw [← hk]; exact h48)
  have ha := h.low i x (Nat.le_refl _) hx
  have hnone : ∀ j, a ≤ j → j < x.1 → Lm.pm G j = false := fun j h1 h2 => by
    cases hpj : Lm.pm G j
    · rfl
    · obtain ⟨k, hk, he⟩ := h.all j h1 (by omega) hpj
      by_cases e : k = i
      · subst e
        rw [hx] at he
        obtain rfl := Option.some.inj he
        simp only at h2; omega
      · have := Lm.ml_lt (i := i) (j := k) (by omega) hx he
        simp only at this; omega
  refine ⟨hn, by rw [hk, hg], ?_⟩
  cases hs : Lo.si G false false a
  · left
    exact next_hit G ha hn (Lm.pm_stn hp) (Lm.out_next hs hnone x.1 (Nat.le_refl _))
  · right
    rcases Lm.in_next hs hnone with h1 | ⟨q, q1, q2, q3, q4, q5, q6⟩
    · exact (Lm.in_mark ha hs hp h1).elim
    · exact ⟨q, next_hit G q1 (by omega) q3 q6, q2, q4, next_hit G (by omega) hn (Lm.pm_stn hp) (Lm.out_next q5 (fun j j1 j2 => hnone j (by omega) j2) x.1 (Nat.le_refl _))⟩
/-- behind the last mark: none, or the quote that ends a string alone -/
theorem AtIs.last {G : Nat → Int} {n a : Nat} (h : AtIs G n (Lm.ml G n).length a) : nextI (mwG G n) (nwords n) n a = n ∨ ∃ q : Nat, nextI (mwG G n) (nwords n) n a = q ∧ q < n ∧ G q = 34 ∧ nextI (mwG G n) (nwords n) n (q + 1 : Nat) = n := by
  have hnone : ∀ j, a ≤ j → j < n → Lm.pm G j = false := fun j h1 h2 => by
    cases hpj : Lm.pm G j
    · rfl
    · obtain ⟨k, hk, he⟩ := h.all j h1 h2 hpj
      rw [List.getElem?_eq_none hk] at he; cases he
  cases hs : Lo.si G false false a
  · left
    exact next_miss G h.le (Lm.out_next hs hnone n (Nat.le_refl _))
  · rcases Lm.in_next hs hnone with h1 | ⟨q, q1, q2, q3, q4, q5, q6⟩
    · exact .inl (next_miss G h.le h1)
    · exact .inr ⟨q, next_hit G q1 q2 q3 q6, q2, q4, next_miss G (by omega) (Lm.out_next q5 (fun j j1 j2 => hnone j (by omega) j2) n (Nat.le_refl _))⟩
end Go.Proofs.YtmbiolhecheplaaDoor
