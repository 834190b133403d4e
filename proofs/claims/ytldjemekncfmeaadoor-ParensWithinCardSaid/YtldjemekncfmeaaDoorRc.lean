/-
  The reference's Closes: what each call returns: of each bracket the one that closes it; the stack of what is open. For at most 768 bools; what was there stays as it is.
-/
import Derived.Test.YtldjemekncfmeaaDoorRm
namespace Go.Proofs.YtldjemekncfmeaaDoor
open Go.RowKit

/-- the brackets that are open ahead of i, the last one first -/
def Stk (f : Nat → Bool) : Nat → List Nat → Prop
  | i, [] => ∀ j, j ≤ i → Lp.ex f i ≤ Lp.ex f j
  | i, t :: r => t < i ∧ f t = true ∧ Lp.ex f i = Lp.ex f t + 1 ∧ (∀ m, t < m → m ≤ i → Lp.ex f t < Lp.ex f m) ∧ Stk f t r
theorem stk_zero (f : Nat → Bool) : Stk f 0 [] := fun j hj => by rw [show j = 0 from by omega]; omega
theorem stk_push {f : Nat → Bool} {i : Nat} {r : List Nat} (hf : f i = true) (h : Stk f i r) : Stk f (i + 1) (i :: r) :=
  ⟨by omega, hf, Lp.ex_open hf, fun m h1 h2 => by rw [show m = i + 1 from by omega, Lp.ex_open hf]; omega, h⟩
theorem stk_low {f : Nat → Bool} {i : Nat} (hf : f i = false) (h : Stk f i []) : Stk f (i + 1) [] := fun j hj => by
  have hs := Lp.ex_shut hf
  by_cases e : j = i + 1
  · subst e; omega
  · have := h j (by omega); omega
theorem stk_pop {f : Nat → Bool} {i t : Nat} {r : List Nat} (hf : f i = false) (h : Stk f i (t :: r)) : Stk f (i + 1) r := by
  obtain ⟨h1, h2, h3, h4, h5⟩ := h
  have hs := Lp.ex_shut hf
  have hit : Lp.ex f (i + 1) = Lp.ex f t := by omega
  cases r with
  | nil =>
    intro j hj
    rw [hit]
    by_cases e : j = i + 1
    · subst e; omega
    · by_cases e2 : t < j
      · have := h4 j e2 (by omega); omega
      · exact h5 j (by omega)
  | cons s r =>
    obtain ⟨g1, g2, g3, g4, g5⟩ := h5
    refine ⟨by omega, g2, by omega, fun m m1 m2 => ?_, g5⟩
    by_cases e : m = i + 1
    · subst e; omega
    · by_cases e2 : t < m
      · have := h4 m e2 (by omega); omega
      · exact g4 m m1 (by omega)
theorem close_step (f : Nat → Bool) (i j : Nat) (h : j < i) : Lp.closeD f (i + 1) j = if 0 ≤ Lp.closeD f i j then Lp.closeD f i j else if f j = true ∧ Lp.ex f (i + 1) = Lp.ex f j then (i : Int) else -1 := by
  by_cases hf : f j = true
  · have e1 : Lp.closeD f (i + 1) j = Lp.leastD (fun k => decide (j < k) && Lp.ex f (k + 1) == Lp.ex f j) (i + 1) := by rw [Lp.closeD, if_pos ⟨by omega, hf⟩]
    have e2 : Lp.closeD f i j = Lp.leastD (fun k => decide (j < k) && Lp.ex f (k + 1) == Lp.ex f j) i := by rw [Lp.closeD, if_pos ⟨h, hf⟩]
    rw [e1, e2, Lp.leastD]
    by_cases h1 : 0 ≤ Lp.leastD (fun k => decide (j < k) && Lp.ex f (k + 1) == Lp.ex f j) i
    · rw [if_pos h1, if_pos h1]
    · rw [if_neg h1, if_neg h1]
      simp [hf, h]
  · rw [Lp.closeD_shut (by simp [hf]), Lp.closeD_shut (by simp [hf])]
    simp [hf]
theorem close_new (f : Nat → Bool) (i : Nat) : Lp.closeD f (i + 1) i = -1 := by
  rcases Lp.closeD_is f (i + 1) i with ⟨h, _⟩ | ⟨c, h1, h2, _⟩
  · exact h
  · omega
/-- what stays -/
theorem close_stay {f : Nat → Bool} {i j : Nat} (h : j < i) (hn : Lp.closeD f i j = -1 → f j = true → (∀ m, j < m → m ≤ i → Lp.ex f j < Lp.ex f m) → Lp.ex f (i + 1) ≠ Lp.ex f j) : Lp.closeD f (i + 1) j = Lp.closeD f i j := by
  rw [close_step f i j h]
  split
  · rfl
  · rename_i h0
    rcases Lp.closeD_is f i j with ⟨e, e2⟩ | ⟨c, _, _, _, e, _⟩
    · rw [if_neg, e]
      rintro ⟨hf, hx⟩
      exact hn e hf (e2 h hf) hx
    · omega
theorem close_push {f : Nat → Bool} {i j : Nat} (hf : f i = true) (h : j < i) : Lp.closeD f (i + 1) j = Lp.closeD f i j :=
  close_stay h fun _ _ hm => by have := hm i h (Nat.le_refl _); have := Lp.ex_open hf; omega
theorem close_low {f : Nat → Bool} {i j : Nat} (hf : f i = false) (hs : Stk f i []) (h : j < i) : Lp.closeD f (i + 1) j = Lp.closeD f i j :=
  close_stay h fun _ _ _ => by have := hs j (by omega); have := Lp.ex_shut hf; omega
theorem close_pop {f : Nat → Bool} {i t : Nat} {r : List Nat} (hf : f i = false) (hs : Stk f i (t :: r)) : Lp.closeD f (i + 1) t = (i : Int) ∧ ∀ j, j < i → j ≠ t → Lp.closeD f (i + 1) j = Lp.closeD f i j := by
  obtain ⟨h1, h2, h3, h4, h5⟩ := hs
  have hx := Lp.ex_shut hf
  refine ⟨Lp.closeD_some h2 h1 (by omega) (by omega) h4, fun j j1 j2 => close_stay j1 fun _ _ hm => ?_⟩
  rcases Nat.lt_or_ge j t with h | h
  · have := hm t h (by omega); omega
  · have := h4 j (by omega) (by omega); omega

/-- What Closes returns. -/
def ClosesIs (f : Nat → Bool) (n : Nat) (w : World) (e : Ending) (w' : World) : Prop := ∃ A cp, e = .returned (.slice A n cp) ∧ IS w' A n (fun j => .int .i64 (Lp.closeD f n j)) ∧ Below w.heap.size w w'

theorem stk_len {f : Nat → Bool} : ∀ {r : List Nat} {i : Nat}, Stk f i r → r.length ≤ i
  | [], _, _ => Nat.zero_le _
  | t :: r, i, h => by have := stk_len h.2.2.2.2; have := h.1; simp; omega
/-- the stack's row -/
def stkRow (r : List Nat) : List Value := r.reverse.map fun t => .int .i64 (t : Nat)
theorem stkRow_cons (t : Nat) (r : List Nat) : stkRow (t :: r) = stkRow r ++ [.int .i64 t] := by simp [stkRow]

/-- ahead of the i-th place -/
structure ClSt (w wr : World) (f : Nat → Bool) (n i : Nat) (v : Value) (r : List Nat) (cs : Array Value) : Prop where
  bel : Below w.heap.size w wr
  blk : Blk wr w.heap.size 3 cs
  size : cs.size = n
  rows : ∀ j, j < i → cs[j]? = some (.int .i64 (Lp.closeD f i j))
  own : wr.ownsRow (w.heap.size + 1) 3 1 v r.length (stkRow r)
  stk : Stk f i r
/-- at the i-th place, -1 laid -/
structure ClMid (w wr : World) (f : Nat → Bool) (n i : Nat) (v : Value) (r : List Nat) (cs : Array Value) : Prop where
  bel : Below w.heap.size w wr
  blk : Blk wr w.heap.size 3 cs
  size : cs.size = n
  rows : ∀ j, j < i → cs[j]? = some (.int .i64 (Lp.closeD f i j))
  last : cs[i]? = some (.int .i64 (-1))
  own : wr.ownsRow (w.heap.size + 1) 3 1 v r.length (stkRow r)
  stk : Stk f i r
section
variable {w wr : World} {f : Nat → Bool} {n i : Nat} {v : Value} {r : List Nat} {cs : Array Value}
theorem ClSt.mid (h : ClSt w wr f n i v r cs) (hi : i < n) : ClMid w (wr.setCell ⟨w.heap.size, i, none⟩ (.int .i64 (-1))) f n i v r (cs.setIfInBounds i (.int .i64 (-1))) where
  bel := h.bel.setCell (Nat.le_refl _) _
  blk := h.blk.set_ i _
  size := by rw [Array.size_setIfInBounds]; exact h.size
  rows := fun j hj => by rw [Array.getElem?_setIfInBounds, if_neg (by omega)]; exact h.rows j hj
  last := by rw [Array.getElem?_setIfInBounds, if_pos rfl, if_pos (by rw [h.size]; exact hi)]
  own := own_set h.own i _
  stk := h.stk
theorem ClMid.push {w2 : World} {v' : Value} {o : Obj} (h : ClMid w wr f n i v r cs) (hf : f i = true) (ho : w2.ownsRow (w.heap.size + 1) 3 1 v' (r.length + 1) (stkRow r ++ [.int .i64 i])) (hg : (wr.alloc o).grownBy w2 v.ownBlock) : ClSt w w2 f n (i + 1) v' (i :: r) cs where
  bel := below_grown (h.bel.alloc h.bel.size o) (Nat.le_refl _) (h.own.alloc o) hg
  blk := (h.blk.alloc o).grown hg (own_ne (h.own.alloc o))
  size := h.size
  rows := fun j hj => by
    by_cases e : j = i
    · subst e; rw [close_new]; exact h.last
    · rw [close_push hf (by omega)]; exact h.rows j (by omega)
  own := by rw [stkRow_cons]; exact ho
  stk := stk_push hf h.stk
theorem ClMid.low (h : ClMid w wr f n i v [] cs) (hf : f i = false) : ClSt w wr f n (i + 1) v [] cs where
  bel := h.bel
  blk := h.blk
  size := h.size
  rows := fun j hj => by
    by_cases e : j = i
    · subst e; rw [close_new]; exact h.last
    · rw [close_low hf h.stk (by omega)]; exact h.rows j (by omega)
  own := h.own
  stk := stk_low hf h.stk
theorem own_pop {base g m cap : Nat} {e : TypeId} {xs : List Value} {x : Value} (h : wr.ownsRow base e 1 (.slice (some ⟨g, 0, none⟩) (m + 1) cap) (m + 1) (xs ++ [x])) :
    wr.ownsRow base e 1 (.slice (some ⟨g, 0, none⟩) m cap) m xs ∧ wr.cell? ⟨g, m, none⟩ = some x ∧ m + 1 ≤ cap := by
  obtain ⟨hl, ⟨h1, _⟩ | ⟨g', cap', cur, h1, h2, h3, h4, h5, h6, h7⟩⟩ := h
  · cases h1
  · obtain ⟨rfl, rfl⟩ : g = g' ∧ cap = cap' := by simpa using h1
    have hx : xs.length = m := by simpa using hl
    refine ⟨⟨by rw [hx]; omega, .inr ⟨g, cap, cur, rfl, h2, h3, by omega, h5, h6, ?_⟩⟩, ?_, h4⟩
    · have e1 : List.take m (List.take ((m + 1) * 1) cur.toList) = List.take m (xs ++ [x]) := by rw [h7]
      rw [List.take_take, show min m ((m + 1) * 1) = m from by omega, List.take_left' hx] at e1
      rw [Nat.mul_one]; exact e1
    · rw [cell_of_row wr g m cur e (0, 0) h3]
      have e1 : (cur.toList.take ((m + 1) * 1))[m]? = some x := by rw [h7]; simp [hx]
      rw [List.getElem?_take] at e1
      simpa using e1
theorem ClMid.pop {t g cap : Nat} (h : ClMid w wr f n i (.slice (some ⟨g, 0, none⟩) (r.length + 1) cap) (t :: r) cs) (hf : f i = false) (hi : i < n) :
    ClSt w (wr.setCell ⟨w.heap.size, t, none⟩ (.int .i64 i)) f n (i + 1) (.slice (some ⟨g, 0, none⟩) r.length cap) r (cs.setIfInBounds t (.int .i64 i)) where
  bel := h.bel.setCell (Nat.le_refl _) _
  blk := h.blk.set_ t _
  size := by rw [Array.size_setIfInBounds]; exact h.size
  rows := fun j hj => by
    have ht := h.stk.1
    obtain ⟨p1, p2⟩ := close_pop hf h.stk
    rw [Array.getElem?_setIfInBounds]
    by_cases e : t = j
    · subst e; rw [if_pos rfl, if_pos (by rw [h.size]; omega), p1]
    · rw [if_neg e]
      by_cases e2 : j = i
      · subst e2; rw [close_new]; exact h.last
      · rw [p2 j (by omega) (by omega)]; exact h.rows j (by omega)
  own := own_set (own_pop (by have := h.own; rw [stkRow_cons] at this; exact this)).1 t _
  stk := stk_pop hf h.stk
end

set_option maxHeartbeats 2000000 in
theorem rcloses_any (A : Option Addr) (n cp : Nat) (f : Nat → Bool) (w : World) (h : BL w A n f) (hn : n ≤ 768) :
    Calls Tryd.prog 37 #[.slice A n cp] w (ClosesIs f n w) := by
  have HS := Lib.hid h
  clear h
  obtain ⟨i0, hi, hz0, hz1, hz2⟩ := info_parts int_info
  have hmk : ∀ u : World, (Instr.makeSlice 40 (.int .i64 n) (.int .i64 n)).run Tryd.prog u = .ok (.slice (some ⟨u.heap.size, 0, none⟩) n n) (u.alloc (.cells (madeCells #[.int .i64 0] n) 3)) := fun u => by
    have := run_makeSlice (P := Tryd.prog) u 40 3 i0 (.int .i64 0) Tryd.underlying40 hi hz0 .i64 .i64 n n (by omega) (Int.le_refl _) (by rw [hz1]; simp; omega) (by rw [hz2]; omega) (by omega)
    simpa [hz1, Value.cells] using this
  go_enter Tryd.func37, Tryd.ntmps37
  go_wp2
  go_loopw [4, 5] (fun s4 s5 wr => ∃ (i : Nat) (r : List Nat) (cs : Array Value), s5 = .int .i64 i ∧ i ≤ n ∧ ClSt w wr f n i s4 r cs) (fun _ s5 _ => n - (intOf s5).toNat)
  case atStart =>
    exact ⟨0, [], _, rfl, Nat.zero_le _, ⟨(Below.refl _ _).alloc (Nat.le_refl _) _, Blk.newAt _ _ _ rfl, size_madeCells _ _, fun j hj => by omega, World.ownsRow_nil _ _ _ _, stk_zero f⟩⟩
  case round =>
    obtain ⟨i, r, cs, rfl, hin, hst⟩ := hrel
    have HST := Lib.hid hst
    by_cases hlt : i < n
    · have hlti : (i : Int) < n := by omega
      obtain ⟨b, off, rfl, hc⟩ := HS.out.at (by omega)
      have hcb : w.cell? ⟨b, off + i, none⟩ = some (.bool (f i)) := hc i hlt 0
      have hci : ∃ c, cs[i]? = some c := ⟨_, Array.getElem?_eq_getElem (by rw [hst.size]; exact hlt)⟩
      obtain ⟨c, hci⟩ := hci
      have e1 : wr.cell? ⟨w.heap.size, i, none⟩ = some c := (hst.blk.cell i).trans hci
      have e2 : wr.frozen? ⟨w.heap.size, i, none⟩ = false := hst.blk.frozen i
      have hmid := hst.mid hlt
      clear hst hc hci
      go_upto_region 7 with (fail)
      generalize (wr.setCell ⟨w.heap.size, i, none⟩ (.int .i64 (-1))) = W1 at hmid ⊢
      have hcv : W1.cell? ⟨b, off + i, none⟩ = some (.bool (f i)) := (hmid.bel.cell (p := ⟨b, off + i, none⟩) (World.block_lt_of_cell? _ _ hcb)).trans hcb
      have HMID := Lib.hid hmid
      have hrl := stk_len hmid.stk
      clear e1 e2 hcb
      cases hf : f i
      · rw [hf] at hcv
        have HF := Lib.hid hf
        clear hf
        cases r with
        | nil =>
          rcases hmid.own.2 with ⟨hv, _⟩ | ⟨g', cap', cur, hv, _⟩
          all_goals
            have hv := hv
            subst hv
            have hlow := hmid.low HF.out
            have HLOW := Lib.hid hlow
            clear hmid hlow
            go_wp2
            go_roundw
            case rel => exact ⟨i + 1, [], _, by go_num, hlt, HLOW.out⟩
            case measure => simp [intOf] <;> omega
        | cons t r =>
          obtain ⟨g', cap', hv, _, _⟩ := hmid.own.form (by simp)
          subst hv
          have hown := hmid.own
          rw [stkRow_cons] at hown
          obtain ⟨_, hct, hcap⟩ := own_pop hown
          have ht := hmid.stk.1
          have hcw : ∃ c, (cs.setIfInBounds i (.int .i64 (-1)))[t]? = some c := ⟨_, Array.getElem?_eq_getElem (by rw [hmid.size]; omega)⟩
          obtain ⟨c2, hcw⟩ := hcw
          have e1 : W1.cell? ⟨w.heap.size, t, none⟩ = some c2 := (hmid.blk.cell t).trans hcw
          have e2 : W1.frozen? ⟨w.heap.size, t, none⟩ = false := hmid.blk.frozen t
          have hpop := hmid.pop HF.out hlt
          have HPOP := Lib.hid hpop
          have htn : (t : Int) < n := by omega
          have hrl2 : r.length < 768 := by simp at hrl; omega
          clear hrl
          clear hmid hpop hown hcw
          go_wp2
          go_roundw
          case rel => exact ⟨i + 1, r, _, by go_num, hlt, HPOP.out⟩
          case measure => simp [intOf] <;> omega
      · rw [hf] at hcv
        have HF := Lib.hid hf
        clear hf
        have hown := hmid.own
        have HOWN := Lib.hid hown
        have hsz1 := hmid.bel.size
        have hblt := hmid.blk.lt
        clear hmid hown
        go_wp2_with (at_builtin; refine wpList_append_lies _ rfl (.tmp 22) (.tmp 24) 40 rfl (w.heap.size + 1) 3 i0 (.int .i64 0) 1 8 Tryd.underlying40 hi hz0 hz1 hz2 rfl (by decide) u4 r.length _ rfl (HOWN.out.alloc _) ⟨W1.heap.size, 0, none⟩ 1 1 [.int .i64 i] rfl rfl ?c1 ?c2 (by decide) ?c3 ?c4 ?c5 _ rfl ?_)
        case c1 =>
          intro j u hj
          match j, hj with
          | 0, hj => simp at hj; subst hj; simp [Addr.add]
        case c2 => intro u hu; simp at hu; subst hu; rfl
        case c3 => unfold maxLen; omega
        case c4 => omega
        case c5 => simp; omega
        intro g' cap' w2 hown2 hgrow hat hlt2
        have hpush := HMID.out.push HF.out hown2 hgrow
        have HPUSH := Lib.hid hpush
        clear hown2 hgrow hat hpush
        go_wp2
        go_roundw
        case rel => exact ⟨i + 1, i :: r, _, by go_num, hlt, HPUSH.out⟩
        case measure => simp [intOf] <;> omega
    · obtain rfl : i = n := by omega
      go_wp2
      go_ret
      exact ⟨_, _, rfl, .inr ⟨w.heap.size, 0, rfl, fun j hj => by rw [Nat.zero_add, HST.out.blk.cell j]; exact HST.out.rows j hj⟩, HST.out.bel⟩
end Go.Proofs.YtldjemekncfmeaaDoor
