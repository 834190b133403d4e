/-
  What a vector of brackets is in memory; its Len, in, Opens, Rank, Excess: what each call returns. For every vector of at most 2^50 bits, nil too, and every place; nothing is written.
-/
import Derived.Test.YtldjemekncfmeaaDoorOnes
import Derived.Deep.QuietTactic
import Derived.BigQuiet
namespace Go.Proofs.YtldjemekncfmeaaDoor
open Go.RowKit

theorem quiet_l {P : Program} {f : FuncId} {args : Array Value} {w : World} {n : Nat} {v : Value}
    (h : Calls P f args (w.drewN n) fun e w' => e = .returned v ∧ w.drewN n = w') : Calls P f args (w.drewN n) fun e w'' => e = .returned v ∧ ∃ m, w'' = w.drewN m :=
  h.mono fun _ _ ⟨he, hm⟩ => ⟨he, n, hm.symm⟩
theorem quiet_al {P : Program} {f : FuncId} {args : Array Value} {w : World} {a n : Nat} {v : Value}
    (h : Calls P f args (w.drewN (a + n)) fun e w' => e = .returned v ∧ w.drewN (a + n) = w') : Calls P f args (w.drewN (a + n)) fun e w'' => e = .returned v ∧ ∃ m, w'' = w.drewN (a + m) :=
  h.mono fun _ _ ⟨he, hm⟩ => ⟨he, n, hm.symm⟩
/-- A slice of n elements of one cell each, h i the i-th: nil or not. -/
def IS (w : World) (A : Option Addr) (n : Nat) (h : Nat → Value) : Prop := n = 0 ∨ ∃ b off, A = some ⟨b, off, none⟩ ∧ ∀ i, i < n → w.cell? ⟨b, off + i, none⟩ = some (h i)
theorem IS.keep {w w' : World} {A : Option Addr} {n : Nat} {h : Nat → Value} (hs : IS w A n h) (hk : ∀ a v, w.cell? a = some v → w'.cell? a = some v) : IS w' A n h := by
  rcases hs with hs | ⟨b, off, e, hc⟩
  · exact .inl hs
  · exact .inr ⟨b, off, e, fun i hi => hk _ _ (hc i hi)⟩

def nw (n : Nat) : Nat := (n + 63) / 64

/-- The vector behind a pointer: n bits, f j the j-th (none beyond). -/
structure VecAt (w : World) (g n : Nat) (f : Nat → Bool) (Aw Ar Al Am : Option Addr) (cw cr cl cm : Nat) (xs : Nat → BitVec 64) (ls ms : Nat → Int) : Prop where
  c0 : w.cell? ⟨g, 0, none⟩ = some (.int .i64 n)
  c1 : w.cell? ⟨g, 1, none⟩ = some (.slice Aw (nw n) cw)
  c2 : w.cell? ⟨g, 2, none⟩ = some (.slice Ar (nw n) cr)
  c3 : w.cell? ⟨g, 3, none⟩ = some (.slice Al (nw n) cl)
  c4 : w.cell? ⟨g, 4, none⟩ = some (.slice Am (nw n) cm)
  s1 : IS w Aw (nw n) (fun q => .int .u64 (U (xs q)))
  s2 : IS w Ar (nw n) (fun q => .int .i64 (Lp.cnt f (64 * q)))
  s3 : IS w Al (nw n) (fun q => .int .i64 (ls q))
  s4 : IS w Am (nw n) (fun q => .int .i64 (ms q))
  bits : ∀ q, q < nw n → ∀ i, i < 64 → (xs q).getLsbD i = f (64 * q + i)
  lo : ∀ q, q < nw n → ∀ j, 64 * q < j → j ≤ 64 * q + 64 → j ≤ n → ls q ≤ Lp.ex f j ∧ Lp.ex f j ≤ ms q
/-- .. which may be nil. -/
def Vec (w : World) (p : Option Addr) (n : Nat) (f : Nat → Bool) : Prop :=
  n ≤ 1125899906842624 ∧ (∀ j, n ≤ j → f j = false) ∧ ((p = none ∧ n = 0) ∨ ∃ g Aw Ar Al Am cw cr cl cm xs ls ms, p = some ⟨g, 0, none⟩ ∧ VecAt w g n f Aw Ar Al Am cw cr cl cm xs ls ms)
theorem Vec.keep {w w' : World} {p : Option Addr} {n : Nat} {f : Nat → Bool} (h : Vec w p n f) (hk : ∀ a v, w.cell? a = some v → w'.cell? a = some v) : Vec w' p n f := by
  obtain ⟨h1, h2, h3⟩ := h
  refine ⟨h1, h2, ?_⟩
  rcases h3 with h3 | ⟨g, Aw, Ar, Al, Am, cw, cr, cl, cm, xs, ls, ms, e, v⟩
  · exact .inl h3
  · exact .inr ⟨g, Aw, Ar, Al, Am, cw, cr, cl, cm, xs, ls, ms, e, hk _ _ v.c0, hk _ _ v.c1, hk _ _ v.c2, hk _ _ v.c3, hk _ _ v.c4, v.s1.keep hk, v.s2.keep hk, v.s3.keep hk, v.s4.keep hk, v.bits, v.lo⟩
theorem Vec.drewN {w : World} {p : Option Addr} {n : Nat} {f : Nat → Bool} (h : Vec w p n f) (k : Nat) : Vec (w.drewN k) p n f := h.keep fun _ _ e => e
theorem Vec.below {w w' : World} {p : Option Addr} {n : Nat} {f : Nat → Bool} (h : Vec w p n f) (hb : Below w.heap.size w w') : Vec w' p n f :=
  h.keep fun a _ e => (hb.cell (p := a) (World.block_lt_of_cell? _ _ e)).trans e

/-- a call that returns v and writes nothing (it may draw) -/
def Ret (v : Value) (w : World) (e : Ending) (w' : World) : Prop := e = .returned v ∧ ∃ m, w' = w.drewN m
theorem Ret.same {u v : Value} {w : World} (h : u = v) : Ret v w (.returned u) w := ⟨by rw [h], 0, rfl⟩

theorem len_any (p : Option Addr) (n : Nat) (f : Nat → Bool) (w : World) (h : Vec w p n f) :
    Calls Tryd.prog 13 #[.pointer p] w fun e w' => e = .returned (.int .i64 n) ∧ w = w' := by
  obtain ⟨_, _, ⟨rfl, rfl⟩ | ⟨g, Aw, Ar, Al, Am, cw, cr, cl, cm, xs, ls, ms, rfl, v⟩⟩ := h
  · go_enter Tryd.func13, Tryd.ntmps13
    go_wp2
    go_ret
    exact ⟨rfl, rfl⟩
  · have c0 := v.c0
    clear v
    go_enter Tryd.func13, Tryd.ntmps13
    go_wp2
    go_ret
    exact ⟨rfl, rfl⟩

/-- is a place within? -/
def inB (n : Nat) (i : Int) : Bool := decide (0 ≤ i) && decide (i < n)
theorem in_any (p : Option Addr) (n : Nat) (f : Nat → Bool) (i : Int) (w : World) (h : Vec w p n f) :
    Calls Tryd.prog 35 #[.pointer p, .int .i64 i] w fun e w' => e = .returned (.bool (inB n i)) ∧ w = w' := by
  have HV := Lib.hid h
  clear h
  by_cases h0 : 0 ≤ i
  · by_cases h1 : i < n
    · have hr : inB n i = true := by simp [inB, h0, h1]
      have HR := Lib.hid hr
      clear hr
      go_enter Tryd.func35, Tryd.ntmps35
      go_wp2_with (go_at_call 13; refine (len_any _ n f _ HV.out).mono ?_; rintro e w' ⟨rfl, rfl⟩)
      go_ret
      exact ⟨by rw [HR.out]; simp, rfl⟩
    · have hr : inB n i = false := by simp [inB]; omega
      have HR := Lib.hid hr
      clear hr
      go_enter Tryd.func35, Tryd.ntmps35
      go_wp2_with (go_at_call 13; refine (len_any _ n f _ HV.out).mono ?_; rintro e w' ⟨rfl, rfl⟩)
      go_ret
      exact ⟨by rw [HR.out]; simp; omega, rfl⟩
  · have hr : inB n i = false := by simp [inB]; omega
    have HR := Lib.hid hr
    clear hr
    go_enter Tryd.func35, Tryd.ntmps35
    go_wp2
    go_ret
    exact ⟨by rw [HR.out]; rfl, rfl⟩
end Go.Proofs.YtldjemekncfmeaaDoor
