/-
  The reference's Make: what each call returns: the bits as bools, in memory of its own. For at most 12 words and every n; what was there stays as it is.
-/
import Derived.Test.YtldjemekncfmeaaDoorRb
import Derived.OwnWalk
import Derived.Deep.OwnRows
import Derived.Deep.AppendLies
import Derived.Deep.RegionHeld3
import Derived.Deep.RegionLaw
namespace Go.Proofs.YtldjemekncfmeaaDoor
open Go.RowKit

theorem bool_info : (Tryd.prog.info? 4).map (fun i => (i.zero, i.size, i.bytes)) = some (some (.bool false), 1, 1) := by kernel_rfl
/-- What Make returns. -/
def MakeIs (f : Nat → Bool) (N : Nat) (w : World) (e : Ending) (w' : World) : Prop := ∃ A cp, e = .returned (.slice A N cp) ∧ BL w' A N f ∧ Below w.heap.size w w'

theorem below_grown' {w0 w w' : World} {e : TypeId} {v : Value} {n : Nat} {xs : List Value} (hb : Below w0.heap.size w0 w) (h : w.ownsRow w0.heap.size e 1 v n xs) (hg : w.grownBy w' v.ownBlock) : Below w0.heap.size w0 w' :=
  ⟨hg.os.trans hb.os, hg.tape.trans hb.tape, hg.output.trans hb.output, Nat.le_trans hb.size hg.size, fun b hb' => (hg.block b (Nat.lt_of_lt_of_le hb' hb.size) (fun e' => by have := (h.lt b e'.symm).1; omega)).trans (hb.block b hb')⟩

set_option maxHeartbeats 1000000 in
theorem make_any (A : Option Addr) (l cp : Nat) (ys : Nat → BitVec 64) (n : Int) (w : World) (hs : IS w A l (fun i => .int .u64 (U (ys i)))) (hl : l ≤ 12) :
    Calls Tryd.prog 12 #[.slice A l cp, .int .i64 n] w (MakeIs (bitF ys (clip n l)) (clip n l) w) := by
  have hN : clip n l ≤ 64 * l := by unfold clip; omega
  have hcl : ((clip n l : Nat) : Int) = max 0 (min n (64 * l)) := by unfold clip; omega
  generalize clip n l = N at *
  have HS := Lib.hid hs
  have HCL := Lib.hid hcl
  clear hs hcl
  go_enter Tryd.func12, Tryd.ntmps12
  obtain ⟨i0, hi, hz0, hz1, hz2⟩ := info_parts bool_info
  go_wp2
  go_loopw [5, 6] (fun s5 s6 wr => ∃ q : Nat, s6 = .int .i64 q ∧ q ≤ N ∧ wr.ownsRow w.heap.size 4 1 s5 q ((List.range q).map fun j => .bool (bitF ys N j)) ∧ Below w.heap.size w wr) (fun _ s6 _ => N - (intOf s6).toNat)
  case atStart => exact ⟨0, rfl, Nat.zero_le _, World.ownsRow_nil _ _ _ _, Below.refl _ _⟩
  case round =>
    obtain ⟨q, rfl, hqN, hown, hbel⟩ := hrel
    have HOWN := Lib.hid hown
    have HBEL := Lib.hid hbel
    clear hown hbel
    by_cases hlt : q < N
    · have h1 : (q : Int) < n := by have := HCL.out; omega
      have h2 : (q : Int) < 64 * l := by omega
      have hql : q / 64 < l := by omega
      obtain ⟨b, off, rfl, hc⟩ := HS.out.resolve_left (by omega)
      have e1 := (HBEL.out.cell (p := ⟨b, off + q / 64, none⟩) (World.block_lt_of_cell? _ _ (hc _ hql))).trans (hc _ hql)
      have hbit : (ys (q / 64)).getLsbD (q % 64) = bitF ys N q := by unfold bitF; simp [hlt]
      have HBIT := Lib.hid hbit
      clear hc hbit
      go_wp2_with fail
      refine (has_any (ys (q / 64)) (q % 64) (by omega) _).mono ?_
      rintro e w' ⟨rfl, rfl⟩
      rw [HBIT.out]
      go_wp2_with (at_builtin; refine wpList_append_lies _ rfl (.tmp 19) (.tmp 28) 28 rfl w.heap.size 4 i0 (.bool false) 1 1 Tryd.underlying28 hi hz0 hz1 hz2 rfl (by decide) u5 q _ rfl (HOWN.out.alloc _) ⟨wr.heap.size, 0, none⟩ 1 1 [.bool (bitF ys N q)] rfl rfl ?c1 ?c2 (by decide) ?c3 ?c4 ?c5 _ rfl ?_)
      case c1 =>
        intro j u hj
        match j, hj with
        | 0, hj => simp at hj; subst hj; simp [Addr.add]
      case c2 => intro u hu; simp at hu; subst hu; rfl
      case c3 => unfold maxLen; omega
      case c4 => omega
      case c5 => have := HBEL.out.size; simp; omega
      intro g cap w1 hown1 hgrow hat hlt1
      have hb1 : Below w.heap.size w w1 := below_grown' (HBEL.out.alloc HBEL.out.size _) (HOWN.out.alloc _) hgrow
      rw [← row_succ (fun j => .bool (bitF ys N j)) q] at hown1
      have HOWN1 := Lib.hid hown1
      have HB1 := Lib.hid hb1
      clear hown1 hgrow hat hb1
      go_wp2
      go_roundw
      case rel => exact ⟨q + 1, by go_num, hlt, HOWN1.out, HB1.out⟩
      case measure => simp [intOf] <;> omega
    · obtain rfl : q = N := by omega
      have h1 : ¬ ((q : Int) < n ∧ (q : Int) < 64 * l) := by have := HCL.out; omega
      obtain ⟨A', cp', rfl, hi'⟩ := IS.own (h := fun j => .bool (bitF ys q j)) HOWN.out
      by_cases h2 : (q : Int) < n
      · have h3 : ¬ (q : Int) < 64 * l := by omega
        go_wp2
        go_ret
        exact ⟨A', cp', rfl, hi', HBEL.out⟩
      · clear h1
        go_wp2
        go_ret
        exact ⟨A', cp', rfl, hi', HBEL.out⟩
end Go.Proofs.YtldjemekncfmeaaDoor
