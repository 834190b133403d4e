/-
  A list of pieces as it comes in: where each lies, and that they are of 2^20 bytes together at most. Condition of the row's second form alone.
-/
import Derived.Test.YtmbiolhecheplaaDoorTabm
import Derived.Test.YtmbiolhecheplaaDoorChunk
namespace Go.Proofs.YtmbiolhecheplaaDoor
open Go.ChangeShapes Go.WideShapes Go.ChangeAt Go.RowKit Go.Joins Go.Deep

section
variable {H : Type} {enc : TypeId × Value → H} {W : World} {base : Nat} {v : Value} {d : DataW H} {p : List MemPlace}
theorem bulk_append (l r : List (DataW H)) : Rows.uptoBulkAll (l ++ r) = Rows.uptoBulkAll l + Rows.uptoBulkAll r := by
  induction l with
  | nil => simp [Rows.uptoBulkAll]
  | cons x l ih => simp only [List.cons_append, Rows.uptoBulkAll, ih]; omega
theorem sum_bulk (f : Nat → Nat) (D : Nat → DataW H) : ∀ n, (∀ r, r < n → f r + 1 ≤ Rows.uptoBulk (D r)) → sumN f n + n ≤ Rows.uptoBulkAll ((List.range n).map D) := by
  intro n
  induction n with
  | zero => intro _; simp [sumN]
  | succ n ih =>
    intro h
    have h1 := ih fun r hr => h r (by omega)
    have h2 := h n (by omega)
    rw [List.range_succ, List.map_append, bulk_append, sumN]
    simp only [List.map_cons, List.map_nil, Rows.uptoBulkAll]
    omega
theorem lit_bulk (k : IntKind) (zs : List Int) : Rows.uptoBulkAll (lits (H := H) k zs) = zs.length := by
  unfold lits
  induction zs with
  | nil => simp [Rows.uptoBulkAll]
  | cons z zs ih => simp only [List.map_cons, Rows.uptoBulkAll, ih, Rows.uptoBulk, List.length_cons]; omega
theorem row_bulk (A : Option Addr) (L C : Nat) (zs : List Int) (h1 : L ≤ C) (h2 : zs.length = C) (h3 : A = none → C = 0) : L + 1 ≤ Rows.uptoBulk (intRow (H := H) .u8 A L zs) := by
  cases A with
  | none => have := h3 rfl; simp [intRow, Rows.uptoBulk]; omega
  | some a =>
    simp only [intRow, Rows.uptoBulk, lit_bulk, List.length_take]
    omega
/-- the pieces that come in -/
theorem open_pieces (hv : Value.okWide Tryd.prog W .any base 46 v) (h : DataW.Trod enc Tryd.prog W 0 (fun _ => true) true 46 v d p) (hu : Rows.uptoBulk d ≤ 1048576) : ∃ P, PcsAt W v P := by
  obtain ⟨A, n, cp, rfl⟩ := okWide_slice Tryd.underlying46 hv
  obtain ⟨fuel, hf⟩ := h
  rcases open_int_rows Tryd.underlying46 Tryd.underlying22 Tryd.underlying5 (by kernel_rfl) cellsByte hf with ⟨hcs, _⟩ | ⟨a, len, cap, Ar, L, C, Z, hcs, _, hl, hm, hx, hr⟩
  · simp [Value.cells] at hcs
    obtain ⟨rfl, rfl, rfl⟩ := hcs
    exact ⟨⟨none, 0, 0, fun _ => none, fun _ => 0, fun _ => 0, fun _ _ => 0⟩, rfl, .inl rfl, fun i hi => absurd hi (Nat.not_lt_zero i), Nat.zero_le _, Nat.zero_le _⟩
  · simp [Value.cells] at hcs
    obtain ⟨rfl, rfl, rfl⟩ := hcs
    obtain ⟨rfl, rfl⟩ : d = _ ∧ p = _ := Prod.mk.inj hx
    have hs := sum_bulk L (fun r => intRow (H := H) .u8 (Ar r) (L r) (Z r)) n fun r hrn => row_bulk _ _ _ _ (hr r (by omega)).2.1 (hr r (by omega)).2.2.2.1 (hr r (by omega)).2.2.2.2.2.1
    simp only [Rows.uptoBulk] at hu
    refine ⟨⟨some a, n, cp, Ar, L, C, fun i j => (Z i).getD j 0⟩, rfl, ?_, fun i hi => ⟨?_, (hr i (Nat.lt_of_lt_of_le hi hl)).2.1, ?_⟩, ?_, ?_⟩
    · by_cases h0 : n = 0
      · exact .inl h0
      · have h1 := (hr 0 (by omega)).1
        obtain ⟨b, off, spot⟩ := a
        have hspot : spot = none := by simpa [Addr.add] using World.cell?_spot h1
        subst hspot
        exact .inr ⟨b, off, rfl, fun i hi => by rw [← Go.WideShapes.add_plain]; exact (hr i (Nat.lt_of_lt_of_le hi hl)).1⟩
    · obtain ⟨_, q1, _, q3, _, q5, q6⟩ := hr i (by show i < cp; exact Nat.lt_of_lt_of_le hi hl)
      by_cases h0 : L i = 0
      · exact .inl h0
      · cases hA : Ar i with
        | none => have := q5 hA; omega
        | some a' =>
          obtain ⟨_, hc⟩ := q6 a' hA
          obtain ⟨b, off, hba, hcc⟩ := ints_at (w := W) (a := a') (k := .u8) (zs := Z i) (fun j hj => hc j (by omega)) (by omega)
          refine .inr ⟨b, off, hA.trans (by rw [hba]), fun j hj => hcc j (by have : j < L i := hj; omega)⟩
    · have := (hr i (by show i < cp; exact Nat.lt_of_lt_of_le hi hl)).2.2.1
      unfold maxLen at this
      exact this
    · show n ≤ 1048576
      omega
    · show sumN L n ≤ 1048576
      omega
end
end Go.Proofs.YtmbiolhecheplaaDoor
