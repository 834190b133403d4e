/-
  The reference's Scan: what each call returns. For all bytes and every carry; what was there stays as it is.
-/
import Derived.Test.YtmbiolhecheplaaDoorStep
import Derived.Test.YtmbiolhecheplaaDoorBlk
import Derived.Deep.RegionHeld3
import Derived.Deep.DeepCutAuto
import Derived.Deep.RegionWith
namespace Go.Proofs.YtmbiolhecheplaaDoor
open Go.RowKit

/-- The masks of n bytes g behind a carry, as a struct's seven fields. -/
def masks (n : Nat) (g : Nat → Int) (o i : Bool) : Array Value :=
  #[.int .u64 (U (Lo.qM n g o)), .int .u64 (U (Lo.iM n g o i)), .int .u64 (U (Lo.aM n g o i fun c => c == 91 || c == 123)), .int .u64 (U (Lo.aM n g o i fun c => c == 93 || c == 125)),
    .int .u64 (U (Lo.aM n g o i fun c => c == 58)), .int .u64 (U (Lo.aM n g o i fun c => c == 44)), .int .u64 (U (Lo.aM n g o i fun c => c == 32 || c == 9 || c == 10 || c == 13))]
def carry (n : Nat) (g : Nat → Int) (o i : Bool) : Array Value := #[.bool (Lo.so g o n), .bool (Lo.si g o i n)]

/-- What a Scan returns: the masks of the first 64 bytes, and what is carried; what was there stays. -/
def ScanIs (n : Nat) (g : Nat → Int) (o i : Bool) (w : World) (e : Ending) (w' : World) : Prop :=
  e = .returned (.tuple #[.agg (masks (min 64 n) g o i), .agg (carry (min 64 n) g o i)]) ∧ Below w.heap.size w w'

/-! What a Step's answer says of each mask. -/
theorem what_q (c : Int) (o i : Bool) : (what c o i == 113) = (c == 34 && !o) := by
  by_cases h34 : c = 34
  · subst h34; cases o <;> cases i <;> rfl
  by_cases h91 : c = 91
  · subst h91; cases o <;> cases i <;> rfl
  by_cases h123 : c = 123
  · subst h123; cases o <;> cases i <;> rfl
  by_cases h93 : c = 93
  · subst h93; cases o <;> cases i <;> rfl
  by_cases h125 : c = 125
  · subst h125; cases o <;> cases i <;> rfl
  by_cases h58 : c = 58
  · subst h58; cases o <;> cases i <;> rfl
  by_cases h44 : c = 44
  · subst h44; cases o <;> cases i <;> rfl
  by_cases h32 : c = 32
  · subst h32; cases o <;> cases i <;> rfl
  by_cases h9 : c = 9
  · subst h9; cases o <;> cases i <;> rfl
  by_cases h10 : c = 10
  · subst h10; cases o <;> cases i <;> rfl
  by_cases h13 : c = 13
  · subst h13; cases o <;> cases i <;> rfl
  cases i <;> simp [what, h34, h91, h123, h93, h125, h58, h44, h32, h9, h10, h13]
theorem what_o (c : Int) (o i : Bool) : (what c o i == 111) = ((c == 91 || c == 123) && !nin c o i) := by
  by_cases h34 : c = 34
  · subst h34; cases o <;> cases i <;> rfl
  by_cases h91 : c = 91
  · subst h91; cases o <;> cases i <;> rfl
  by_cases h123 : c = 123
  · subst h123; cases o <;> cases i <;> rfl
  by_cases h93 : c = 93
  · subst h93; cases o <;> cases i <;> rfl
  by_cases h125 : c = 125
  · subst h125; cases o <;> cases i <;> rfl
  by_cases h58 : c = 58
  · subst h58; cases o <;> cases i <;> rfl
  by_cases h44 : c = 44
  · subst h44; cases o <;> cases i <;> rfl
  by_cases h32 : c = 32
  · subst h32; cases o <;> cases i <;> rfl
  by_cases h9 : c = 9
  · subst h9; cases o <;> cases i <;> rfl
  by_cases h10 : c = 10
  · subst h10; cases o <;> cases i <;> rfl
  by_cases h13 : c = 13
  · subst h13; cases o <;> cases i <;> rfl
  cases i <;> simp [what, nin, h34, h91, h123, h93, h125, h58, h44, h32, h9, h10, h13]
theorem what_c (c : Int) (o i : Bool) : (what c o i == 99) = ((c == 93 || c == 125) && !nin c o i) := by
  by_cases h34 : c = 34
  · subst h34; cases o <;> cases i <;> rfl
  by_cases h91 : c = 91
  · subst h91; cases o <;> cases i <;> rfl
  by_cases h123 : c = 123
  · subst h123; cases o <;> cases i <;> rfl
  by_cases h93 : c = 93
  · subst h93; cases o <;> cases i <;> rfl
  by_cases h125 : c = 125
  · subst h125; cases o <;> cases i <;> rfl
  by_cases h58 : c = 58
  · subst h58; cases o <;> cases i <;> rfl
  by_cases h44 : c = 44
  · subst h44; cases o <;> cases i <;> rfl
  by_cases h32 : c = 32
  · subst h32; cases o <;> cases i <;> rfl
  by_cases h9 : c = 9
  · subst h9; cases o <;> cases i <;> rfl
  by_cases h10 : c = 10
  · subst h10; cases o <;> cases i <;> rfl
  by_cases h13 : c = 13
  · subst h13; cases o <;> cases i <;> rfl
  cases i <;> simp [what, nin, h34, h91, h123, h93, h125, h58, h44, h32, h9, h10, h13]
theorem what_n (c : Int) (o i : Bool) : (what c o i == 58) = (c == 58 && !nin c o i) := by
  by_cases h34 : c = 34
  · subst h34; cases o <;> cases i <;> rfl
  by_cases h91 : c = 91
  · subst h91; cases o <;> cases i <;> rfl
  by_cases h123 : c = 123
  · subst h123; cases o <;> cases i <;> rfl
  by_cases h93 : c = 93
  · subst h93; cases o <;> cases i <;> rfl
  by_cases h125 : c = 125
  · subst h125; cases o <;> cases i <;> rfl
  by_cases h58 : c = 58
  · subst h58; cases o <;> cases i <;> rfl
  by_cases h44 : c = 44
  · subst h44; cases o <;> cases i <;> rfl
  by_cases h32 : c = 32
  · subst h32; cases o <;> cases i <;> rfl
  by_cases h9 : c = 9
  · subst h9; cases o <;> cases i <;> rfl
  by_cases h10 : c = 10
  · subst h10; cases o <;> cases i <;> rfl
  by_cases h13 : c = 13
  · subst h13; cases o <;> cases i <;> rfl
  cases i <;> simp [what, nin, h34, h91, h123, h93, h125, h58, h44, h32, h9, h10, h13]
theorem what_m (c : Int) (o i : Bool) : (what c o i == 44) = (c == 44 && !nin c o i) := by
  by_cases h34 : c = 34
  · subst h34; cases o <;> cases i <;> rfl
  by_cases h91 : c = 91
  · subst h91; cases o <;> cases i <;> rfl
  by_cases h123 : c = 123
  · subst h123; cases o <;> cases i <;> rfl
  by_cases h93 : c = 93
  · subst h93; cases o <;> cases i <;> rfl
  by_cases h125 : c = 125
  · subst h125; cases o <;> cases i <;> rfl
  by_cases h58 : c = 58
  · subst h58; cases o <;> cases i <;> rfl
  by_cases h44 : c = 44
  · subst h44; cases o <;> cases i <;> rfl
  by_cases h32 : c = 32
  · subst h32; cases o <;> cases i <;> rfl
  by_cases h9 : c = 9
  · subst h9; cases o <;> cases i <;> rfl
  by_cases h10 : c = 10
  · subst h10; cases o <;> cases i <;> rfl
  by_cases h13 : c = 13
  · subst h13; cases o <;> cases i <;> rfl
  cases i <;> simp [what, nin, h34, h91, h123, h93, h125, h58, h44, h32, h9, h10, h13]
theorem what_s (c : Int) (o i : Bool) : (what c o i == 32) = ((c == 32 || c == 9 || c == 10 || c == 13) && !nin c o i) := by
  by_cases h34 : c = 34
  · subst h34; cases o <;> cases i <;> rfl
  by_cases h91 : c = 91
  · subst h91; cases o <;> cases i <;> rfl
  by_cases h123 : c = 123
  · subst h123; cases o <;> cases i <;> rfl
  by_cases h93 : c = 93
  · subst h93; cases o <;> cases i <;> rfl
  by_cases h125 : c = 125
  · subst h125; cases o <;> cases i <;> rfl
  by_cases h58 : c = 58
  · subst h58; cases o <;> cases i <;> rfl
  by_cases h44 : c = 44
  · subst h44; cases o <;> cases i <;> rfl
  by_cases h32 : c = 32
  · subst h32; cases o <;> cases i <;> rfl
  by_cases h9 : c = 9
  · subst h9; cases o <;> cases i <;> rfl
  by_cases h10 : c = 10
  · subst h10; cases o <;> cases i <;> rfl
  by_cases h13 : c = 13
  · subst h13; cases o <;> cases i <;> rfl
  cases i <;> simp [what, nin, h34, h91, h123, h93, h125, h58, h44, h32, h9, h10, h13]
theorem nin_si (g : Nat → Int) (o i : Bool) (j : Nat) : nin (g j) (Lo.so g o j) (Lo.si g o i j) = Lo.si g o i (j + 1) := by
  rw [Lo.si, Lo.sq, nin]
  by_cases h : (g j == 34 && !Lo.so g o j) = true
  · rw [if_pos h, h]; simp
  · rw [if_neg h, Bool.eq_false_iff.2 h]; simp

/-- a new block of two cells, laid behind a call or ahead of it and written behind it -/
theorem pair_after {wr W w1 : World} {B : Nat} {t : TypeId} (x y : Value) (hb : Below B W w1) (hB : wr.heap.size ≤ B) (hw : Below wr.heap.size wr W) :
    ∃ gb : Nat, Value.pointer (some ⟨w1.heap.size, 0, none⟩) = .pointer (some ⟨gb, 0, none⟩) ∧ wr.heap.size ≤ gb ∧ Blk (w1.alloc (.cells #[x, y] t)) gb t #[x, y] ∧ Below wr.heap.size wr (w1.alloc (.cells #[x, y] t)) :=
  have h : Below wr.heap.size wr w1 := hw.trans (hb.mono hB)
  ⟨_, rfl, h.size, Blk.new _ _ _, h.alloc h.size _⟩
theorem pair_ahead {wr W w1 : World} {B : Nat} {t : TypeId} (x y x0 y0 : Value) (hb : Below B W w1) (hB : wr.heap.size < B) (hw : Below wr.heap.size wr W) (hk : Blk W wr.heap.size t #[x0, y0]) :
    ∃ gb : Nat, Value.pointer (some ⟨wr.heap.size, 0, none⟩) = .pointer (some ⟨gb, 0, none⟩) ∧ wr.heap.size ≤ gb ∧ Blk ((w1.setCell ⟨wr.heap.size, 0, none⟩ x).setCell ⟨wr.heap.size, 1, none⟩ y) gb t #[x, y] ∧ Below wr.heap.size wr ((w1.setCell ⟨wr.heap.size, 0, none⟩ x).setCell ⟨wr.heap.size, 1, none⟩ y) :=
  have h : Below wr.heap.size wr w1 := hw.trans (hb.mono (Nat.le_of_lt hB))
  have h1 := ((hk.below hb hB).set_ 0 x).set_ 1 y
  ⟨_, rfl, Nat.le_refl _, h1, (h.setCell (p := ⟨wr.heap.size, 0, none⟩) (Nat.le_refl _) x).setCell (p := ⟨wr.heap.size, 1, none⟩) (Nat.le_refl _) y⟩

/-- behind a round: the masks and the carry written anew, all else as it was -/
theorem round_end {w wr wc : World} {t s : TypeId} {x0 y0 x y : Value} {a0 a1 a2 a3 a4 a5 a6 v0 v1 v2 v3 v4 v5 v6 : Value} {z1 z2 cs ms : Array Value}
    (hw : Below w.heap.size w wr) (hb : Below wr.heap.size wr wc) (b0 : Blk wc w.heap.size s #[x0, y0]) (b1 : Blk wc (w.heap.size + 1) t z1) (b2 : Blk wc (w.heap.size + 1 + 1) s z2)
    (b3 : Blk wc (w.heap.size + 1 + 1 + 1) t #[a0, a1, a2, a3, a4, a5, a6]) (hcs : #[x, y] = cs) (hms : #[v0, v1, v2, v3, v4, v5, v6] = ms) :
    Below w.heap.size w (((((((((wc.setCell ⟨w.heap.size + 1 + 1 + 1, 0, none⟩ v0).setCell ⟨w.heap.size + 1 + 1 + 1, 1, none⟩ v1).setCell ⟨w.heap.size + 1 + 1 + 1, 2, none⟩ v2).setCell ⟨w.heap.size + 1 + 1 + 1, 3, none⟩ v3).setCell ⟨w.heap.size + 1 + 1 + 1, 4, none⟩ v4).setCell ⟨w.heap.size + 1 + 1 + 1, 5, none⟩ v5).setCell ⟨w.heap.size + 1 + 1 + 1, 6, none⟩ v6).setCell ⟨w.heap.size, 0, none⟩ x).setCell ⟨w.heap.size, 1, none⟩ y) ∧
    Blk (((((((((wc.setCell ⟨w.heap.size + 1 + 1 + 1, 0, none⟩ v0).setCell ⟨w.heap.size + 1 + 1 + 1, 1, none⟩ v1).setCell ⟨w.heap.size + 1 + 1 + 1, 2, none⟩ v2).setCell ⟨w.heap.size + 1 + 1 + 1, 3, none⟩ v3).setCell ⟨w.heap.size + 1 + 1 + 1, 4, none⟩ v4).setCell ⟨w.heap.size + 1 + 1 + 1, 5, none⟩ v5).setCell ⟨w.heap.size + 1 + 1 + 1, 6, none⟩ v6).setCell ⟨w.heap.size, 0, none⟩ x).setCell ⟨w.heap.size, 1, none⟩ y) w.heap.size s cs ∧
    Blk (((((((((wc.setCell ⟨w.heap.size + 1 + 1 + 1, 0, none⟩ v0).setCell ⟨w.heap.size + 1 + 1 + 1, 1, none⟩ v1).setCell ⟨w.heap.size + 1 + 1 + 1, 2, none⟩ v2).setCell ⟨w.heap.size + 1 + 1 + 1, 3, none⟩ v3).setCell ⟨w.heap.size + 1 + 1 + 1, 4, none⟩ v4).setCell ⟨w.heap.size + 1 + 1 + 1, 5, none⟩ v5).setCell ⟨w.heap.size + 1 + 1 + 1, 6, none⟩ v6).setCell ⟨w.heap.size, 0, none⟩ x).setCell ⟨w.heap.size, 1, none⟩ y) (w.heap.size + 1) t z1 ∧
    Blk (((((((((wc.setCell ⟨w.heap.size + 1 + 1 + 1, 0, none⟩ v0).setCell ⟨w.heap.size + 1 + 1 + 1, 1, none⟩ v1).setCell ⟨w.heap.size + 1 + 1 + 1, 2, none⟩ v2).setCell ⟨w.heap.size + 1 + 1 + 1, 3, none⟩ v3).setCell ⟨w.heap.size + 1 + 1 + 1, 4, none⟩ v4).setCell ⟨w.heap.size + 1 + 1 + 1, 5, none⟩ v5).setCell ⟨w.heap.size + 1 + 1 + 1, 6, none⟩ v6).setCell ⟨w.heap.size, 0, none⟩ x).setCell ⟨w.heap.size, 1, none⟩ y) (w.heap.size + 1 + 1) s z2 ∧
    Blk (((((((((wc.setCell ⟨w.heap.size + 1 + 1 + 1, 0, none⟩ v0).setCell ⟨w.heap.size + 1 + 1 + 1, 1, none⟩ v1).setCell ⟨w.heap.size + 1 + 1 + 1, 2, none⟩ v2).setCell ⟨w.heap.size + 1 + 1 + 1, 3, none⟩ v3).setCell ⟨w.heap.size + 1 + 1 + 1, 4, none⟩ v4).setCell ⟨w.heap.size + 1 + 1 + 1, 5, none⟩ v5).setCell ⟨w.heap.size + 1 + 1 + 1, 6, none⟩ v6).setCell ⟨w.heap.size, 0, none⟩ x).setCell ⟨w.heap.size, 1, none⟩ y) (w.heap.size + 1 + 1 + 1) t ms := by
  subst hcs
  subst hms
  have far : ∀ {W : World} {g : Nat} {q : TypeId} {c : Array Value} {p : Addr} {u : Value}, g ≠ p.block → Blk W g q c → Blk (W.setCell p u) g q c := fun hp h => h.far hp _
  have up : ∀ {W : World} {p : Addr} {u : Value}, w.heap.size ≤ p.block → Below w.heap.size w W → Below w.heap.size w (W.setCell p u) := fun hp h => h.setCell hp _
  refine ⟨?_, ?_, ?_, ?_, ?_⟩
  · iterate 9 refine up (by simp; try omega) ?_
    exact hw.trans (hb.mono hw.size)
  · refine (Blk.set_ (Blk.set_ (cs := #[x0, y0]) ?_ 0 x) 1 y).is (by simp)
    iterate 7 refine far (by simp; try omega) ?_
    exact b0
  · iterate 9 refine far (by simp; try omega) ?_
    exact b1
  · iterate 9 refine far (by simp; try omega) ?_
    exact b2
  · iterate 2 refine far (by simp; try omega) ?_
    exact (((((((b3.set_ 0 v0).set_ 1 v1).set_ 2 v2).set_ 3 v3).set_ 4 v4).set_ 5 v5).set_ 6 v6).is (by simp)

set_option maxHeartbeats 1000000 in
theorem rscan_any (A : Option Addr) (n cp : Nat) (g : Nat → Int) (o i : Bool) (w : World) (hb : BS w A n g) :
    Calls Tryd.prog 25 #[.slice A n cp, .agg #[.bool o, .bool i]] w (ScanIs n g o i w) := by
  have HB := Lib.hid hb
  clear hb
  go_enter Tryd.func25, Tryd.ntmps25
  go_wp2
  go_loopw [7, 8, 9, 10] (fun k _ _ _ wr => ∃ j : Nat, j ≤ 64 ∧ j ≤ n ∧ k = .int .i64 j ∧ Below w.heap.size w wr ∧ Blk wr w.heap.size 52 (carry j g o i) ∧
    Blk wr (w.heap.size + 1) 45 #[.int .u64 0, .int .u64 0, .int .u64 0, .int .u64 0, .int .u64 0, .int .u64 0, .int .u64 0] ∧ Blk wr (w.heap.size + 1 + 1) 52 #[.bool false, .bool false] ∧
    Blk wr (w.heap.size + 1 + 1 + 1) 45 (masks j g o i)) (fun k _ _ _ _ => 64 - (intOf k).toNat)
  case atStart =>
    refine ⟨0, Nat.zero_le _, Nat.zero_le _, rfl, ?_, ?_, ?_, ?_, ?_⟩
    · go_grown
    · exact (((Blk.new w _ _).alloc _).alloc _).alloc _
    · exact ((Blk.newAt _ _ _ (by simp)).alloc _).alloc _
    · exact (Blk.newAt _ _ _ (by simp)).alloc _
    · exact Blk.newAt _ _ _ (by simp)
  case round =>
    obtain ⟨j, hj, hjn, rfl, hbe, b0, b1, b2, b3⟩ := hrel
    by_cases h64 : j < 64
    · by_cases hlt : j < n
      · obtain ⟨b, off, rfl, hc⟩ := HB.out.resolve_left (by omega)
        have hcell : wr.cell? ⟨b, off + j, none⟩ = some (.int .u8 (g j)) := by
          have h := hc j hlt
          have hlt2 : b < w.heap.size := World.block_lt_of_cell? _ _ h
          rw [← h]; exact hbe.cell (p := ⟨b, off + j, none⟩) hlt2
        clear hc
        have c0 := b0.cell 0
        have c1 := b0.cell 1
        simp only [carry] at c0 c1
        simp at c0 c1
        have e0 : wr.heap.size ≠ w.heap.size := by have := b0.lt; omega
        have e1 : wr.heap.size ≠ b := World.new_ne wr _ hcell
        have l0 := b0.lt
        have l1 : b < wr.heap.size := World.block_lt_of_cell? _ _ hcell
        have l2 : ((j : Nat) : Int) < (n : Int) := by omega
        generalize hwh : what (g j) (Lo.so g o j) (Lo.si g o i j) = wh
        generalize hni : nin (g j) (Lo.so g o j) (Lo.si g o i j) = ni
        generalize hno : nodd (g j) (Lo.so g o j) = no
        have hstep : ∀ W : World, Calls Tryd.prog 26 #[.int .u8 (g j), .agg #[.bool (Lo.so g o j), .bool (Lo.si g o i j)]] W fun e w' => e = .returned (.tuple #[.int .u8 wh, .bool ni, .agg #[.bool no, .bool ni]]) ∧ Below W.heap.size W w' := fun W => by
          have h := step_any (g j) (Lo.so g o j) (Lo.si g o i j) W
          unfold StepIs at h
          rw [hwh, hni, hno] at h
          exact h
        have a1 : (wh == 113) = Lo.sq g o j := by rw [← hwh]; exact what_q _ _ _
        have a2 : ni = Lo.si g o i (j + 1) := by rw [← hni]; exact nin_si g o i j
        have a3 : (wh == 111) = ((g j == 91 || g j == 123) && !Lo.si g o i (j + 1)) := by rw [← hwh, ← nin_si]; exact what_o _ _ _
        have a4 : (wh == 99) = ((g j == 93 || g j == 125) && !Lo.si g o i (j + 1)) := by rw [← hwh, ← nin_si]; exact what_c _ _ _
        have a5 : (wh == 58) = (g j == 58 && !Lo.si g o i (j + 1)) := by rw [← hwh, ← nin_si]; exact what_n _ _ _
        have a6 : (wh == 44) = (g j == 44 && !Lo.si g o i (j + 1)) := by rw [← hwh, ← nin_si]; exact what_m _ _ _
        have a7 : (wh == 32) = ((g j == 32 || g j == 9 || g j == 10 || g j == 13) && !Lo.si g o i (j + 1)) := by rw [← hwh, ← nin_si]; exact what_s _ _ _
        have a8 : no = Lo.so g o (j + 1) := by rw [← hno]; rfl
        have A1 := Lib.hid a1
        have A2 := Lib.hid a2
        have A3 := Lib.hid a3
        have A4 := Lib.hid a4
        have A5 := Lib.hid a5
        have A6 := Lib.hid a6
        have A7 := Lib.hid a7
        have A8 := Lib.hid a8
        clear a1 a2 a3 a4 a5 a6 a7 a8
        have HST := Lib.hid hstep
        clear hstep
        have HWH := Lib.hid hwh
        have HNI := Lib.hid hni
        have HNO := Lib.hid hno
        clear hwh hni hno
        have HHB := Lib.hid hbe
        clear hbe
        go_upto_region 5 with (fail)
        go_cut [8, 9, 10] (fun s8 s9 s10 wx => s8 = .int .u8 wh ∧ s9 = .bool ni ∧ ∃ gb : Nat, s10 = .pointer (some ⟨gb, 0, none⟩) ∧ wr.heap.size ≤ gb ∧ Blk wx gb 52 #[.bool no, .bool ni] ∧ Below wr.heap.size wr wx)
        case first =>
          go_region_with (go_at_call 26; refine (HST.out _).mono ?_; rintro e w1 ⟨rfl, hb1⟩; obtain ⟨hq1, hq2⟩ := bcell hb1; have hz := hb1.size)
          all_goals
            go_wp2_with fail
            go_meet
            refine ⟨rfl, rfl, ?_⟩
            first | (exact pair_after _ _ hb1 (by simp) (by go_grown)) | (exact pair_ahead _ _ _ _ hb1 (by simp) (by go_grown) (Blk.new _ _ _))
        case rest =>
          obtain ⟨rfl, rfl, gb, rfl, hgb, bn, hb2⟩ := hcut
          have hlt3 := b3.lt
          have m3 : Blk wc (w.heap.size + 1 + 1 + 1) 45 (masks j g o i) := b3.kept hb2
          have m0 : Blk wc (w.heap.size) 52 (carry j g o i) := b0.kept hb2
          have p0 := m3.cell 0
          have p1 := m3.cell 1
          have p2 := m3.cell 2
          have p3 := m3.cell 3
          have p4 := m3.cell 4
          have p5 := m3.cell 5
          have p6 := m3.cell 6
          have q0 := m0.cell 0
          have q1 := m0.cell 1
          have n0 := bn.cell 0
          have n1 := bn.cell 1
          have z0 := m3.frozen 0
          have z1 := m3.frozen 1
          have z2 := m3.frozen 2
          have z3 := m3.frozen 3
          have z4 := m3.frozen 4
          have z5 := m3.frozen 5
          have z6 := m3.frozen 6
          have y0 := m0.frozen 0
          have y1 := m0.frozen 1
          simp only [masks, Lo.qM, Lo.iM, Lo.aM, carry] at p0 p1 p2 p3 p4 p5 p6 q0 q1
          simp at p0 p1 p2 p3 p4 p5 p6 q0 q1 n0 n1
          have HM3 := Lib.hid m3
          have HM0 := Lib.hid m0
          have HBN := Lib.hid bn
          have HB2 := Lib.hid hb2
          have HB1 := Lib.hid b1
          have HB2' := Lib.hid b2
          clear m3 m0 bn hb2 b0 b1 b2 b3 c0 c1 hcell
          have d0 : gb ≠ w.heap.size := by omega
          have d3 : gb ≠ w.heap.size + 1 + 1 + 1 := by omega
          go_wp2_with fail
          refine (with_mk j h64 _ _ A1.out _).mono ?_; rintro e w1 ⟨rfl, rfl⟩
          go_wp2_with fail
          refine (with_mk j h64 _ _ A2.out _).mono ?_; rintro e w1 ⟨rfl, rfl⟩
          go_wp2_with fail
          refine (with_mk j h64 _ _ A3.out _).mono ?_; rintro e w1 ⟨rfl, rfl⟩
          go_wp2_with fail
          refine (with_mk j h64 _ _ A4.out _).mono ?_; rintro e w1 ⟨rfl, rfl⟩
          go_wp2_with fail
          refine (with_mk j h64 _ _ A5.out _).mono ?_; rintro e w1 ⟨rfl, rfl⟩
          go_wp2_with fail
          refine (with_mk j h64 _ _ A6.out _).mono ?_; rintro e w1 ⟨rfl, rfl⟩
          go_wp2_with fail
          refine (with_mk j h64 _ _ A7.out _).mono ?_; rintro e w1 ⟨rfl, rfl⟩
          go_wp2_with fail
          have hcs : #[Value.bool no, .bool ni] = carry (j + 1) g o i := by rw [A8.out, A2.out]; rfl
          go_roundw
          case rel => exact ⟨j + 1, by omega, by omega, by go_num, round_end HHB.out HB2.out HM0.out (HB1.out.kept HB2.out) (HB2'.out.kept HB2.out) HM3.out hcs rfl⟩
          case measure => simp [intOf]; omega
      · have hm : min 64 n = j := by omega
        have HM := Lib.hid hm
        clear hm
        have HHB := Lib.hid hbe
        have c0 := b0.cell 0
        have c1 := b0.cell 1
        have p0 := b3.cell 0
        have p1 := b3.cell 1
        have p2 := b3.cell 2
        have p3 := b3.cell 3
        have p4 := b3.cell 4
        have p5 := b3.cell 5
        have p6 := b3.cell 6
        have r0 := b1.cell 0
        have f0 := b1.frozen 0
        have r1 := b1.cell 1
        have f1 := b1.frozen 1
        have r2 := b1.cell 2
        have f2 := b1.frozen 2
        have r3 := b1.cell 3
        have f3 := b1.frozen 3
        have r4 := b1.cell 4
        have f4 := b1.frozen 4
        have r5 := b1.cell 5
        have f5 := b1.frozen 5
        have r6 := b1.cell 6
        have f6 := b1.frozen 6
        have s0 := b2.cell 0
        have s1 := b2.cell 1
        have t0 := b2.frozen 0
        have t1 := b2.frozen 1
        simp only [masks, carry] at p0 p1 p2 p3 p4 p5 p6 c0 c1
        simp at p0 p1 p2 p3 p4 p5 p6 c0 c1 r0 r1 r2 r3 r4 r5 r6 s0 s1
        have B1 := Lib.hid b1
        have B2 := Lib.hid b2
        clear hbe b0 b1 b2 b3
        go_wp2
        go_region
        all_goals
          go_wp2
          have hbe := HHB.out
          refine bodyPost_ret (v := .tuple #[.agg (masks j g o i), .agg (carry j g o i)]) (by simp [results, Tryd.results25, go_sem, masks, carry, r0, r1, r2, r3, r4, r5, r6, s0, s1]) rfl ⟨by rw [HM.out], ?_⟩
          go_grown
    · have hm : min 64 n = j := by omega
      have HM := Lib.hid hm
      clear hm
      have HHB := Lib.hid hbe
      have c0 := b0.cell 0
      have c1 := b0.cell 1
      have p0 := b3.cell 0
      have p1 := b3.cell 1
      have p2 := b3.cell 2
      have p3 := b3.cell 3
      have p4 := b3.cell 4
      have p5 := b3.cell 5
      have p6 := b3.cell 6
      have r0 := b1.cell 0
      have f0 := b1.frozen 0
      have r1 := b1.cell 1
      have f1 := b1.frozen 1
      have r2 := b1.cell 2
      have f2 := b1.frozen 2
      have r3 := b1.cell 3
      have f3 := b1.frozen 3
      have r4 := b1.cell 4
      have f4 := b1.frozen 4
      have r5 := b1.cell 5
      have f5 := b1.frozen 5
      have r6 := b1.cell 6
      have f6 := b1.frozen 6
      have s0 := b2.cell 0
      have s1 := b2.cell 1
      have t0 := b2.frozen 0
      have t1 := b2.frozen 1
      simp only [masks, carry] at p0 p1 p2 p3 p4 p5 p6 c0 c1
      simp at p0 p1 p2 p3 p4 p5 p6 c0 c1 r0 r1 r2 r3 r4 r5 r6 s0 s1
      have B1 := Lib.hid b1
      have B2 := Lib.hid b2
      clear hbe b0 b1 b2 b3
      go_wp2
      go_region
      all_goals
        go_wp2
        have hbe := HHB.out
        refine bodyPost_ret (v := .tuple #[.agg (masks j g o i), .agg (carry j g o i)]) (by simp [results, Tryd.results25, go_sem, masks, carry, r0, r1, r2, r3, r4, r5, r6, s0, s1]) rfl ⟨by rw [HM.out], ?_⟩
        go_grown
end Go.Proofs.YtmbiolhecheplaaDoor
