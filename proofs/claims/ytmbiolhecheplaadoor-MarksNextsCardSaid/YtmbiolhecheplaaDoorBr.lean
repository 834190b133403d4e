/-
  Which brackets open: what a call of Brackets returns. For every index of up to 2^42 words; nothing that was there is written. Condition: the table of math/bits lies.
-/
import Derived.Test.YtmbiolhecheplaaDoorNext
import Derived.OwnWalk
import Derived.Deep.OwnRows
import Derived.Deep.AppendLies
import Derived.Deep.RegionLaw
namespace Go.Proofs.YtmbiolhecheplaaDoor
open Go.RowKit

/-- a word's brackets; is a place one, does it open? -/
def brW (mw : Nat → Nat → BitVec 64) (q : Nat) : BitVec 64 := mw q 2 ||| mw q 3
def isB (mw : Nat → Nat → BitVec 64) (j : Nat) : Bool := (brW mw (j / 64)).getLsbD (j % 64)
def opJ (mw : Nat → Nat → BitVec 64) (j : Nat) : Bool := (mw (j / 64) 2).getLsbD (j % 64)
/-- the brackets ahead of place J, one by one -/
def brB (mw : Nat → Nat → BitVec 64) : Nat → List Bool
  | 0 => []
  | j + 1 => if isB mw j then brB mw j ++ [opJ mw j] else brB mw j
theorem brB_skip {mw : Nat → Nat → BitVec 64} {a b : Nat} (h : a ≤ b) (hn : ∀ j, a ≤ j → j < b → isB mw j = false) : brB mw b = brB mw a := by
  induction b with
  | zero => rw [show a = 0 from by omega]
  | succ b ih =>
    by_cases e : a = b + 1
    · rw [e]
    · rw [brB, hn b (by omega) (by omega)]
      exact ih (by omega) fun j j1 j2 => hn j j1 (by omega)
theorem brB_len (mw : Nat → Nat → BitVec 64) (j : Nat) : (brB mw j).length ≤ j := by
  induction j with
  | zero => exact Nat.le_refl _
  | succ j ih =>
    rw [brB]
    split
    · rw [List.length_append]; simp; omega
    · omega
/-- bits as words -/
def packW (bs : List Bool) (q : Nat) : BitVec 64 := Lo.mk 64 fun r => bs.getD (64 * q + r) false
theorem pack_bit (bs : List Bool) (q r : Nat) (hr : r < 64) : (packW bs q).getLsbD r = bs.getD (64 * q + r) false := by unfold packW; rw [Lo.lsb_mk (Nat.le_refl _) hr]; simp [hr]
theorem getD_snoc (bs : List Bool) (b : Bool) (i : Nat) : (bs ++ [b]).getD i false = (bs.getD i false || (decide (i = bs.length) && b)) := by
  rw [List.getD_eq_getElem?_getD, List.getD_eq_getElem?_getD]
  rcases Nat.lt_trichotomy i bs.length with h | h | h
  · rw [List.getElem?_append_left h]
    have : ¬ i = bs.length := by omega
    simp [this]
  · subst h
    rw [List.getElem?_append_right (Nat.le_refl _)]
    simp
  · rw [List.getElem?_append_right (by omega), List.getElem?_eq_none (by simp; omega), List.getElem?_eq_none (by omega)]
    have : ¬ i = bs.length := by omega
    simp [this]
theorem pack_far (bs : List Bool) (b : Bool) (q : Nat) (h : q ≠ bs.length / 64) : packW (bs ++ [b]) q = packW bs q := by
  apply Lo.ext64
  intro r hr
  rw [pack_bit _ _ _ hr, pack_bit _ _ _ hr, getD_snoc]
  have : ¬ 64 * q + r = bs.length := by omega
  simp [this]
theorem pack_false (bs : List Bool) (q : Nat) : packW (bs ++ [false]) q = packW bs q := by
  apply Lo.ext64
  intro r hr
  rw [pack_bit _ _ _ hr, pack_bit _ _ _ hr, getD_snoc]; simp
theorem pack_true (bs : List Bool) : packW (bs ++ [true]) (bs.length / 64) = packW bs (bs.length / 64) ||| (1#64 <<< (bs.length % 64)) := by
  apply Lo.ext64
  intro r hr
  rw [BitVec.getLsbD_or, pack_bit _ _ _ hr, pack_bit _ _ _ hr, getD_snoc, BitVec.getLsbD_shiftLeft, BitVec.getLsbD_one]
  congr 1
  by_cases h : r = bs.length % 64
  · subst h
    have : 64 * (bs.length / 64) + bs.length % 64 = bs.length := by omega
    simp [this]; omega
  · have : ¬ 64 * (bs.length / 64) + r = bs.length := by omega
    simp [this]; omega
theorem pack_new (bs : List Bool) (q : Nat) (h : bs.length ≤ 64 * q) : packW bs q = 0#64 := by
  apply Lo.ext64
  intro r hr
  rw [pack_bit _ _ _ hr, BitVec.getLsbD_zero, List.getD_eq_getElem?_getD, List.getElem?_eq_none (by omega)]; rfl
/-- how many words, and the row of them -/
def bwords (n : Nat) : Nat := (n + 63) / 64
def brRow (bs : List Bool) : List Value := (List.range (bwords bs.length)).map fun q => .int .u64 (U (packW bs q))

/-- in a word: what is left from c on -/
def LeftW (x y : BitVec 64) (c : Nat) : Prop := ∀ i, i < 64 → y.getLsbD i = (x.getLsbD i && decide (c ≤ i))
theorem left_zero (x : BitVec 64) : LeftW x x 0 := fun i _ => by simp
theorem left_low {x y : BitVec 64} {c : Nat} (h : LeftW x y c) (hy : y ≠ 0#64) : c ≤ low y ∧ low y < 64 ∧ x.getLsbD (low y) = true ∧ (∀ i, c ≤ i → i < low y → x.getLsbD i = false) ∧ LeftW x (y &&& (y - 1#64)) (low y + 1) := by
  obtain ⟨h1, h2, h3⟩ := low_is y (low_ne hy)
  have hn := low_none h3
  generalize low y = t at *
  have h4 := h t h1
  rw [h2] at h4
  have h5 : x.getLsbD t = true ∧ c ≤ t := by simpa using h4.symm
  refine ⟨h5.2, h1, h5.1, fun i i1 i2 => ?_, fun i hi => ?_⟩
  · have := h i (by omega)
    rw [hn i i2] at this
    simpa [i1] using this.symm
  · rw [clear_low y i hi, h i hi]
    by_cases hit : t < i
    · have hc : 0 < Lp.cnt y.getLsbD i := by
        have := Lp.cnt_mono y.getLsbD (show t + 1 ≤ i from hit)
        rw [Lp.cnt, h2] at this
        simp at this; omega
      have : c ≤ i := by omega
      simp [hc, this]; omega
    · have hc : Lp.cnt y.getLsbD i = 0 := by
        have := Lp.cnt_mono y.getLsbD (show i ≤ t by omega)
        omega
      simp [hc]; omega
theorem left_end {x y : BitVec 64} {c : Nat} (h : LeftW x y c) (hy : y = 0#64) : ∀ i, c ≤ i → i < 64 → x.getLsbD i = false := fun i i1 i2 => by
  have := h i i2
  rw [hy, BitVec.getLsbD_zero] at this
  simpa [i1] using this.symm
theorem isB_at (mw : Nat → Nat → BitVec 64) (q t : Nat) (ht : t < 64) : isB mw (64 * q + t) = (brW mw q).getLsbD t ∧ opJ mw (64 * q + t) = (mw q 2).getLsbD t := by
  unfold isB opJ
  rw [show (64 * q + t) / 64 = q from by omega, show (64 * q + t) % 64 = t from by omega]
  exact ⟨rfl, rfl⟩

theorem u64_info : (Tryd.prog.info? 42).map (fun i => (i.zero, i.size, i.bytes)) = some (some (.int .u64 0), 1, 8) := by kernel_rfl
theorem U_dec (x : BitVec 64) : IntKind.u64.wrap (U x - 1) = U (x - 1#64) := by have := U_sub x 1#64; rwa [U_one] at this
theorem U_powA (n : Nat) : IntKind.u64.wrap (2 ^ n) = U (1#64 <<< n) := by
  have := U_shlA 1#64 n
  rwa [U_one, Int.one_mul] at this
theorem bit_eq (x : BitVec 64) (t : Nat) : (bits .and .u64 (U (x >>> t)) 1 == 1) = x.getLsbD t := by
  have h : bits .and .u64 (U (x >>> t)) (U 1#64) = U ((x >>> t) &&& 1#64) := U_and _ _
  rw [U_one] at h
  rw [h, show (1 : Int) = U 1#64 from U_one.symm, U_beq]
  cases hb : x.getLsbD t
  · have e : (x >>> t) &&& 1#64 = 0#64 := by
      apply Lo.ext64
      intro i hi
      rw [BitVec.getLsbD_and, BitVec.getLsbD_one, BitVec.getLsbD_ushiftRight]
      by_cases h0 : i = 0
      · subst h0; simp [hb]
      · simp [h0]
    rw [e]; rfl
  · have e : (x >>> t) &&& 1#64 = 1#64 := by
      apply Lo.ext64
      intro i hi
      rw [BitVec.getLsbD_and, BitVec.getLsbD_one, BitVec.getLsbD_ushiftRight]
      by_cases h0 : i = 0
      · subst h0; simp [hb]
      · simp [h0]
    rw [e]; rfl
theorem below_own {w0 w w' : World} {e : TypeId} {v : Value} {n g : Nat} {xs : List Value} (hb : Below w0.heap.size w0 w) (hl : w0.heap.size ≤ g) (h : w.ownsRow (g + 1) e 1 v n xs) (hg : w.grownBy w' v.ownBlock) : Below w0.heap.size w0 w' :=
  ⟨hg.os.trans hb.os, hg.tape.trans hb.tape, hg.output.trans hb.output, Nat.le_trans hb.size hg.size, fun b hb' => (hg.block b (Nat.lt_of_lt_of_le hb' hb.size) (fun e' => by have := (h.lt b e'.symm).1; omega)).trans (hb.block b hb')⟩
/-- the words' block m of this round, and the brackets so far -/
structure BrSt (w wr : World) (gm : Nat) (ms : Array Value) (v : Value) (L : List Value) (nl : Nat) : Prop where
  bel : Below w.heap.size w wr
  low : w.heap.size < gm
  blk : Blk wr gm 45 ms
  own : wr.ownsRow (w.heap.size + 1) 42 1 v nl L
  far : v.ownBlock ≠ some gm
theorem BrSt.push {w wr w2 : World} {gm : Nat} {ms : Array Value} {v : Value} {L L2 : List Value} {nl g' cap n2 : Nat} {o : Obj} (h : BrSt w wr gm ms v L nl)
    (ho : w2.ownsRow (w.heap.size + 1) 42 1 (.slice (some ⟨g', 0, none⟩) n2 cap) n2 L2) (hg : (wr.alloc o).grownBy w2 v.ownBlock) (hat : v.ownBlock = some g' ∨ g' = (wr.alloc o).heap.size) : BrSt w w2 gm ms (.slice (some ⟨g', 0, none⟩) n2 cap) L2 n2 where
  bel := below_own (h.bel.alloc h.bel.size o) (Nat.le_refl _) (h.own.alloc o) hg
  low := h.low
  blk := (hg.block gm (h.blk.alloc o).lt (fun e => h.far e.symm)).trans (h.blk.alloc o)
  own := ho
  far := by
    intro e
    have e1 : g' = gm := by simpa [Value.ownBlock] using e
    subst e1
    rcases hat with hat | hat
    · exact h.far hat
    · have := h.blk.lt
      rw [hat] at this
      simp at this; omega
theorem BrSt.store {w wr : World} {gm : Nat} {ms : Array Value} {L : List Value} {nl g' cap : Nat} (h : BrSt w wr gm ms (.slice (some ⟨g', 0, none⟩) nl cap) L nl) (j : Nat) (u : Value) :
    BrSt w (wr.setCell ⟨g', j, none⟩ u) gm ms (.slice (some ⟨g', 0, none⟩) nl cap) (L.set j u) nl where
  bel := below_own h.bel (Nat.le_refl _) h.own (h.own.stored j u).2
  low := h.low
  blk := h.blk.far (fun e => h.far (by rw [e]; rfl)) u
  own := (h.own.stored j u).1
  far := h.far
theorem BrSt.drewN {w wr : World} {gm : Nat} {ms : Array Value} {v : Value} {L : List Value} {nl : Nat} (h : BrSt w wr gm ms v L nl) (m : Nat) : BrSt w (wr.drewN m) gm ms v L nl :=
  ⟨belowN h.bel m, h.low, h.blk, h.own, h.far⟩
/-- a bracket more, in a word that stands -/
theorem brRow_keep (bs : List Bool) (h : bs.length % 64 ≠ 0) : brRow (bs ++ [false]) = brRow bs ∧ bwords (bs ++ [false]).length = bwords bs.length := by
  have hw : bwords (bs ++ [false]).length = bwords bs.length := by unfold bwords; simp; omega
  refine ⟨?_, hw⟩
  unfold brRow
  rw [hw]
  apply List.map_congr_left
  intro q _
  rw [pack_false]
theorem brRow_flip (bs : List Bool) : (brRow (bs ++ [false])).set (bs.length / 64) (.int .u64 (U (packW bs (bs.length / 64) ||| (1#64 <<< (bs.length % 64))))) = brRow (bs ++ [true]) := by
  have hw : bwords (bs ++ [true]).length = bwords (bs ++ [false]).length := by simp
  unfold brRow
  rw [hw]
  apply List.ext_getElem?
  intro q
  rw [List.getElem?_set]
  by_cases hq : bs.length / 64 = q
  · subst hq
    have : bs.length / 64 < bwords (bs ++ [false]).length := by unfold bwords; simp; omega
    simp only [if_true, List.length_map, List.length_range, this, List.getElem?_map, List.getElem?_range, Option.map_some, pack_true]
  · rw [if_neg hq]
    by_cases hq2 : q < bwords (bs ++ [false]).length
    · simp only [List.getElem?_map, List.getElem?_range hq2, Option.map_some, pack_far bs true q (fun e => hq e.symm), pack_false]
    · simp only [List.getElem?_map, List.getElem?_eq_none (show (List.range (bwords (bs ++ [false]).length)).length ≤ q by simpa using hq2), Option.map_none]
theorem own_cell {w : World} {base : Nat} {e : TypeId} {g n cap : Nat} {xs : List Value} (h : w.ownsRow base e 1 (.slice (some ⟨g, 0, none⟩) n cap) n xs) (j : Nat) (hj : j < n) : w.cell? ⟨g, j, none⟩ = xs[j]? ∧ w.frozen? ⟨g, j, none⟩ = false := by
  rcases h.2 with ⟨h1, _⟩ | ⟨g', cap', cur, h1, h2, h3, _, _, _, h4⟩
  · cases h1
  · obtain ⟨rfl, rfl⟩ : g = g' ∧ cap = cap' := by simpa using h1
    refine ⟨?_, Blk.frozen (cs := cur) (t := e) h3 j⟩
    rw [cell_of_row w g j cur e (0, 0) h3, ← h4, List.getElem?_take]
    simp [hj]
theorem less_low {y : BitVec 64} (h : y ≠ 0#64) : (U (y &&& (y - 1#64))).toNat < (U y).toNat := by
  unfold U
  rw [Int.toNat_natCast, Int.toNat_natCast, BitVec.toNat_and]
  have h0 : y.toNat ≠ 0 := fun e => h (BitVec.eq_of_toNat_eq e)
  have h1 : (y - 1#64).toNat = y.toNat - 1 := by
    have := y.isLt
    rw [BitVec.toNat_sub]
    simp
    omega
  have := @Nat.and_le_right y.toNat (y - 1#64).toNat
  omega
/-- .. in a new one -/
theorem brRow_new (bs : List Bool) (h : bs.length % 64 = 0) : brRow (bs ++ [false]) = brRow bs ++ [.int .u64 0] := by
  have hw : bwords (bs ++ [false]).length = bwords bs.length + 1 := by unfold bwords; simp; omega
  unfold brRow
  rw [hw, List.range_succ, List.map_append]
  congr 1
  · apply List.map_congr_left
    intro q _
    rw [pack_false]
  · rw [List.map_cons, List.map_nil, pack_false, pack_new bs _ (by unfold bwords; omega)]; rfl

attribute [local go_sem] U_and U_or U_dec U_powA
set_option maxRecDepth 100000 in
set_option maxHeartbeats 2000000 in
theorem brackets_any (A : Option Addr) (k cp : Nat) (mw : Nat → Nat → BitVec 64) (n : Int) (w : World) (hs : WS w A k mw) (hT : Tab w) (hk : k ≤ 4398046511104) :
    Calls Tryd.prog 18 #[.agg #[.slice A k cp, .int .i64 n]] w fun e w' => ∃ v, e = .returned (.tuple #[v, .int .i64 (brB mw (64 * k)).length]) ∧ w'.ownsRow (w.heap.size + 1) 42 1 v (bwords (brB mw (64 * k)).length) (brRow (brB mw (64 * k))) ∧ Below w.heap.size w w' := by
  have HS := Lib.hid hs
  have HT := Lib.hid hT
  clear hs hT
  obtain ⟨i0, hi, hz0, hz1, hz2⟩ := info_parts u64_info
  go_enter Tryd.func18, Tryd.ntmps18
  go_wp2
  go_loopw [4, 5, 12] (fun s4 s5 s12 wr => ∃ q : Nat, s12 = .int .i64 q ∧ q ≤ k ∧ s5 = .int .i64 (brB mw (64 * q)).length ∧ wr.ownsRow (w.heap.size + 1) 42 1 s4 (bwords (brB mw (64 * q)).length) (brRow (brB mw (64 * q))) ∧ Below w.heap.size w wr ∧ w.heap.size < wr.heap.size) (fun _ _ s12 _ => k - (intOf s12).toNat)
  case atStart => exact ⟨0, rfl, Nat.zero_le _, rfl, by rw [show brB mw (64 * 0) = [] from rfl, show brRow [] = [] from by unfold brRow bwords; rfl, show bwords ([] : List Bool).length = 0 from by unfold bwords; rfl]; exact World.ownsRow_nil _ _ _ _, (Below.refl _ _).alloc (Nat.le_refl _) _, by simp⟩
  case round =>
    obtain ⟨q, rfl, hqk, rfl, hown, hbel, hlow⟩ := hrel
    have HOWN := Lib.hid hown
    have HB := Lib.hid hbel
    by_cases hq : q < k
    · have hqi : (q : Int) < k := by omega
      obtain ⟨b, off, rfl, hc⟩ := HS.out.resolve_left (by omega)
      have hcw : ∀ c, c < 7 → wr.cell? ⟨b, off + q * 7 + c, none⟩ = some (.int .u64 (U (mw q c))) := fun c h7 => (hbel.cell (p := ⟨b, off + q * 7 + c, none⟩) (World.block_lt_of_cell? _ _ (hc q hq c h7))).trans (hc q hq c h7)
      have d0 : wr.cell? ⟨b, off + q * 7, none⟩ = some (.int .u64 (U (mw q 0))) := hcw 0 (by omega)
      have d1 := hcw 1 (by omega)
      have d2 := hcw 2 (by omega)
      have d3 := hcw 3 (by omega)
      have d4 := hcw 4 (by omega)
      have d5 := hcw 5 (by omega)
      have d6 := hcw 6 (by omega)
      clear hc hcw hbel hown
      go_upto_region 7 with (fail)
      have hst : BrSt w (wr.alloc (.cells #[.int .u64 (U (mw q 0)), .int .u64 (U (mw q 1)), .int .u64 (U (mw q 2)), .int .u64 (U (mw q 3)), .int .u64 (U (mw q 4)), .int .u64 (U (mw q 5)), .int .u64 (U (mw q 6))] 45)) wr.heap.size #[.int .u64 (U (mw q 0)), .int .u64 (U (mw q 1)), .int .u64 (U (mw q 2)), .int .u64 (U (mw q 3)), .int .u64 (U (mw q 4)), .int .u64 (U (mw q 5)), .int .u64 (U (mw q 6))] u4 (brRow (brB mw (64 * q))) (bwords (brB mw (64 * q)).length) :=
        ⟨HB.out.alloc HB.out.size _, hlow, Blk.new _ _ _, HOWN.out.alloc _, fun e => by have := (HOWN.out.lt _ e).2; omega⟩
      generalize (wr.alloc (.cells #[.int .u64 (U (mw q 0)), .int .u64 (U (mw q 1)), .int .u64 (U (mw q 2)), .int .u64 (U (mw q 3)), .int .u64 (U (mw q 4)), .int .u64 (U (mw q 5)), .int .u64 (U (mw q 6))] 45)) = W1 at hst ⊢
      generalize wr.heap.size = gm at hst hlow ⊢
      have hall : mw q 2 ||| mw q 3 = brW mw q := rfl
      rw [hall]
      have HST := Lib.hid hst
      clear hst hall d0 d1 d2 d3 d4 d5 d6
      go_loopw [4, 5, 8] (fun s4 s5 s8 wx => ∃ (c : Nat) (y : BitVec 64), s8 = .int .u64 (U y) ∧ c ≤ 64 ∧ Hid (LeftW (brW mw q) y c) ∧ s5 = .int .i64 (brB mw (64 * q + c)).length ∧ BrSt w wx gm #[.int .u64 (U (mw q 0)), .int .u64 (U (mw q 1)), .int .u64 (U (mw q 2)), .int .u64 (U (mw q 3)), .int .u64 (U (mw q 4)), .int .u64 (U (mw q 5)), .int .u64 (U (mw q 6))] s4 (brRow (brB mw (64 * q + c))) (bwords (brB mw (64 * q + c)).length)) (fun _ _ s8 _ => (intOf s8).toNat)
      case atStart => exact ⟨0, brW mw q, rfl, by omega, (left_zero _), rfl, HST.out⟩
      case round =>
        obtain ⟨c, y, rfl, hc64, hleft, rfl, hst⟩ := hrel
        have HST2 := Lib.hid hst
        have HLEFT := Lib.hid hleft.out
        have hln := brB_len mw (64 * q + c)
        clear hst hleft
        by_cases hy : y = 0#64
        · have hskip : brB mw (64 * (q + 1)) = brB mw (64 * q + c) := brB_skip (by omega) fun j j1 j2 => by
            have h1 := left_end HLEFT.out hy (j - 64 * q) (by omega) (by omega)
            rw [show j = 64 * q + (j - 64 * q) from by omega, (isB_at mw q (j - 64 * q) (by omega)).1]
            exact h1
          have HSK := Lib.hid hskip
          have hu : U y = 0 := by rw [hy]; rfl
          rw [hu]
          clear hskip hu hy
          go_wp2
          go_roundw
          case rel => exact ⟨q + 1, by go_num, hq, by rw [HSK.out], by rw [HSK.out]; exact HST2.out.own, HST2.out.bel, by have := HST2.out.blk.lt; have := HST2.out.low; omega⟩
          case measure => simp [intOf] <;> omega
        · have hu : (U y == 0) = false := by
            rw [beq_eq_false_iff_ne]
            intro e
            exact hy (U_inj.1 (e.trans U_zero.symm))
          obtain ⟨l1, l2, l3, l4, l5⟩ := left_low HLEFT.out hy
          have htz : ∀ (W : World) (m : Nat), Below w.heap.size w W → Calls Tryd.prog 27 #[.int .u64 (U y)] (W.drewN m) fun e w' => e = .returned (.int .i64 (low y)) ∧ W.drewN m = w' := fun W m hW => tz_any y (W.drewN m) ((HT.out.below hW).drewN m) (low_ne hy)
          have hless := less_low hy
          have HTZ := Lib.hid htz
          have HLESS := Lib.hid hless
          have HL5 := Lib.hid l5
          clear htz hless l5
          generalize low y = t at *
          have hskip : brB mw (64 * q + t) = brB mw (64 * q + c) := brB_skip (by omega) fun j j1 j2 => by
            have h1 := l4 (j - 64 * q) (by omega) (by omega)
            rw [show j = 64 * q + (j - 64 * q) from by omega, (isB_at mw q (j - 64 * q) (by omega)).1]
            exact h1
          have hnext : brB mw (64 * q + (t + 1)) = brB mw (64 * q + c) ++ [(mw q 2).getLsbD t] := by
            rw [show 64 * q + (t + 1) = (64 * q + t) + 1 from rfl, brB, (isB_at mw q t l2).1, l3, if_pos rfl, hskip, (isB_at mw q t l2).2]
          have HNX := Lib.hid hnext
          clear hskip hnext l4 l3 hy
          generalize brB mw (64 * q + c) = bs at *
          have hbl : bs.length < 281474976710656 := by omega
          go_upto_if 29 with (fail)
          go_cut [4] (fun s4 wx => BrSt w wx gm #[.int .u64 (U (mw q 0)), .int .u64 (U (mw q 1)), .int .u64 (U (mw q 2)), .int .u64 (U (mw q 3)), .int .u64 (U (mw q 4)), .int .u64 (U (mw q 5)), .int .u64 (U (mw q 6))] s4 (brRow (bs ++ [false])) (bwords (bs ++ [false]).length))
          case first =>
            by_cases h64 : bs.length % 64 = 0
            · have ht : ((bs.length : Int) % 64 == 0) = true := beq_iff_eq.2 (by omega)
              have hbr := brRow_new bs h64
              have hbw : bwords (bs ++ [false]).length = bwords bs.length + 1 := by unfold bwords; simp; omega
              have HBR := Lib.hid hbr
              have HBW := Lib.hid hbw
              have hbwl : bwords bs.length ≤ 4398046511104 := by unfold bwords; omega
              have hsz2 := HST2.out.bel.size
              have hsz3 := HST2.out.low
              have hsz4 := HST2.out.blk.lt
              clear hbr hbw
              go_wp2_with (at_builtin; refine wpList_append_lies _ rfl (.tmp 30) (.tmp 31) 36 rfl (w.heap.size + 1) 42 i0 (.int .u64 0) 1 8 Tryd.underlying36 hi hz0 hz1 hz2 rfl (by decide) u4 (bwords bs.length) _ rfl (HST2.out.own.alloc _) ⟨wr.heap.size, 0, none⟩ 1 1 [.int .u64 0] rfl rfl ?c1 ?c2 (by decide) ?c3 ?c4 ?c5 _ rfl ?_)
              case c1 =>
                intro j u hj
                match j, hj with
                | 0, hj => simp at hj; subst hj; simp [Addr.add]
              case c2 => intro u hu; simp at hu; subst hu; rfl
              case c3 => unfold maxLen; omega
              case c4 => omega
              case c5 => simp; omega
              intro g' cap' w2 hown2 hgrow hat hlt2
              rw [← HBR.out] at hown2
              have hp := HST2.out.push hown2 hgrow (by rcases hat with h | h; exact .inl h; exact .inr (by rw [h]; simp))
              have HPP := Lib.hid hp
              clear hown2 hgrow hat hp
              go_wp2
              go_meet
              rw [HBW.out]; exact HPP.out
            · have ht : ((bs.length : Int) % 64 == 0) = false := beq_eq_false_iff_ne.2 (by omega)
              obtain ⟨hbr, hbw⟩ := brRow_keep bs h64
              have HBR := Lib.hid hbr
              have HBW := Lib.hid hbw
              clear hbr hbw
              go_wp2_with fail
              go_meet
              rw [HBR.out, HBW.out]; exact HST2.out
          case rest =>
            have HC := Lib.hid hcut
            have k2 := hcut.blk.cell 2
            simp at k2
            have hbit := bit_eq (mw q 2) t
            have hsh : ∀ x : BitVec 64, U x / (2 : Int) ^ t = U (x >>> t) := fun x => U_shr x _
            have hpos : 0 < bwords (bs ++ [false]).length := by unfold bwords; simp
            obtain ⟨g', cap', hv, _, _⟩ := hcut.own.form hpos
            subst hv
            have hidx : bs.length / 64 < bwords (bs ++ [false]).length := by unfold bwords; simp; omega
            have hidi : (bs.length : Int) / 64 < (bwords (bs ++ [false]).length : Int) := by omega
            have hbwl : bwords (bs ++ [false]).length ≤ 4398046511105 := by unfold bwords; simp; omega
            obtain ⟨hcell, hfrz⟩ := own_cell hcut.own (bs.length / 64) hidx
            have hrow : (brRow (bs ++ [false]))[bs.length / 64]? = some (.int .u64 (U (packW bs (bs.length / 64)))) := by
              unfold brRow
              rw [List.getElem?_map, List.getElem?_range hidx, Option.map_some, pack_false]
            rw [hrow] at hcell
            have hflip := brRow_flip bs
            have hlen2 : bwords (bs ++ [true]).length = bwords (bs ++ [false]).length := by simp
            have hlen1 : bwords (bs ++ [false]).length = bwords (bs ++ [false]).length := rfl
            have hcf := hcut
            generalize hNW : bwords (bs ++ [false]).length = NW at hidx hidi hbwl hlen2 hcf ⊢
            have HC := Lib.hid hcf
            have HNW := Lib.hid hNW
            have HFLIP := Lib.hid hflip
            have HLEN2 := Lib.hid hlen2
            have hid0 : (0 : Int) ≤ (bs.length : Int) / 64 := by omega
            clear hcut hcf hrow hflip hlen2 hlen1 hNW hpos
            cases hb : (mw q 2).getLsbD t
            · rw [hb] at hbit
              have HNB := Lib.hid (HNX.out.trans (by rw [hb]) : brB mw (64 * q + (t + 1)) = bs ++ [false])
              clear hb
              go_wp2
              go_quiet ((go_at_call 27; exact quiet_n (HTZ.out wc _ HC.out.bel)))
              go_wp2
              go_roundw
              case rel => exact ⟨t + 1, y &&& (y - 1#64), rfl, by omega, HL5, by rw [HNB.out] <;> simp, by rw [HNB.out, HNW.out]; exact HC.out.drewN _⟩
              case measure => exact HLESS.out
            · rw [hb] at hbit
              have HNB := Lib.hid (HNX.out.trans (by rw [hb]) : brB mw (64 * q + (t + 1)) = bs ++ [true])
              clear hb
              go_wp2
              go_quiet ((go_at_call 27; exact quiet_n (HTZ.out wc _ HC.out.bel)))
              go_wp2
              go_cut [49] (fun _ wx => BrSt w wx gm #[.int .u64 (U (mw q 0)), .int .u64 (U (mw q 1)), .int .u64 (U (mw q 2)), .int .u64 (U (mw q 3)), .int .u64 (U (mw q 4)), .int .u64 (U (mw q 5)), .int .u64 (U (mw q 6))] (.slice (some ⟨g', 0, none⟩) NW cap') (brRow (bs ++ [true])) NW)
              case first =>
                go_region
                all_goals
                  go_wp2_with fail
                  go_meet
                  rw [← HFLIP.out]
                  first
                    | exact (HC.out.drewN _).store _ _
                    | exact ((HC.out.drewN _).store _ _).drewN _
              case rest =>
                have HC3 := Lib.hid hcut
                clear hcut
                go_wp2
                go_roundw
                case rel => exact ⟨t + 1, y &&& (y - 1#64), rfl, by omega, HL5, by rw [HNB.out] <;> simp, by rw [HNB.out, HLEN2.out]; exact HC3.out⟩
                case measure => exact HLESS.out
    · obtain rfl : q = k := by omega
      clear hbel hown
      go_wp2
      exact bodyPost_ret (v := .tuple #[u4, .int .i64 (brB mw (64 * q)).length]) (by simp [results, Tryd.results18, go_sem]) rfl ⟨u4, rfl, HOWN.out, HB.out⟩
end Go.Proofs.YtmbiolhecheplaaDoor
