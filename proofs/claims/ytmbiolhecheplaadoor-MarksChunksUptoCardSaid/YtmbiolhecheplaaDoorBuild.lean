/-
  Build and Chunks of the program: what a call returns: the text's index, word by word. For all bytes; what was there stays as it is.
-/
import Derived.Test.YtmbiolhecheplaaDoorTake
import Derived.Test.YtmbiolhecheplaaDoorMl
namespace Go.Proofs.YtmbiolhecheplaaDoor
open Go.RowKit

/-- a row of the call's own that holds an index, read as words -/
theorem ws_of_own {w : World} {base k : Nat} {v : Value} {G : Nat → Int} {n : Nat} (h : w.ownsRow base 45 7 v k (wordsL G n k)) : ∃ A cp, v = .slice A k cp ∧ k ≤ cp ∧ WS w A k (mwG G n) := by
  rcases h.2 with ⟨h1, h2⟩ | ⟨g, cap, cur, h1, _, h3, h5, _, _, h4⟩
  · exact ⟨none, 0, by rw [h1, h2], by omega, .inl h2⟩
  · refine ⟨_, cap, h1, h5, .inr ⟨g, 0, rfl, fun q hq c hc => ?_⟩⟩
    rw [show (0 : Nat) + q * 7 + c = q * 7 + c from by omega, cell_of_row w g (q * 7 + c) cur 45 (0, 0) h3]
    have e : (wordsL G n k)[q * 7 + c]? = some (.int .u64 (U (mwG G n q c))) := (wordsL_get G n k q hq c hc).trans (wordA_get G n q c hc)
    rw [← h4, List.getElem?_take] at e
    split at e
    · rw [Array.getElem?_toList] at e; exact e
    · cases e
theorem own_setLow {wr : World} {e : TypeId} {v : Value} {base n b s : Nat} {xs : List Value} (h : wr.ownsRow base e s v n xs) (hb : b < base) (i : Nat) (u : Value) : (wr.setCell ⟨b, i, none⟩ u).ownsRow base e s v n xs :=
  h.kept (row := some b) ⟨rfl, rfl, rfl, Nat.le_of_eq (by simp [World.setCell]), fun k hk hne => heap_setCell_other _ _ _ _ (fun e' => hne (by rw [e']))⟩ (.inr fun e' => by have := (h.lt b e').1; omega)
theorem WS.below {w w' : World} {A : Option Addr} {k : Nat} {mw : Nat → Nat → BitVec 64} (h : WS w A k mw) (hb : Below w.heap.size w w') : WS w' A k mw :=
  h.keep fun a _ e => (hb.cell (p := a) (World.block_lt_of_cell? _ _ e)).trans e

/-- What a Build returns: the index of n bytes G. -/
def IndexIs (G : Nat → Int) (n : Nat) (w : World) (e : Ending) (w' : World) : Prop :=
  ∃ A cp, e = .returned (.agg #[.slice A (nwords n) cp, .int .i64 n]) ∧ nwords n ≤ cp ∧ WS w' A (nwords n) (mwG G n) ∧ Below w.heap.size w w'

/-- the filler as it is made -/
theorem took_new (w0 W : World) (G : Nat → Int) (cs : Array Value) {H : Nat} (hH : W.heap.size = H) (hb : Below w0.heap.size w0 W) (hz : cs.size = 69) (h64 : cs[64]? = some (.int .i64 0)) (h65 : cs[65]? = some (.bool false)) (h66 : cs[66]? = some (.bool false)) (h67 : cs[67]? = some (.slice none 0 0)) (h68 : cs[68]? = some (.int .i64 0)) :
    Took w0 (W.alloc (.cells cs 54)) H G 0 := by
  subst hH
  exact ⟨.slice none 0 0, cs, {
    bel := hb.alloc hb.size _
    low := hb.size
    blk := Blk.new _ _ _
    size := hz
    buf := fun j hj => by omega
    c64 := h64
    c65 := h65
    c66 := h66
    c67 := h67
    c68 := h68
    own := World.ownsRow_nil _ _ _ _ }⟩

/-- the filler's cells as they are made -/
def filZ : Array Value := (List.replicate 64 (Value.int .u8 0) ++ [Value.int .i64 0, Value.bool false, Value.bool false, Value.slice none 0 0, Value.int .i64 0]).toArray
theorem fil_zero (w : World) : (zeroValue 54).run Tryd.prog w = .ok (.agg filZ) w := by kernel_rfl
/-- The filler behind its last flush. -/
structure Done (w0 wr : World) (g : Nat) (G : Nat → Int) (k : Nat) (v : Value) : Prop where
  bel : Below w0.heap.size w0 wr
  c67 : wr.cell? ⟨g, 67, none⟩ = some v
  c68 : wr.cell? ⟨g, 68, none⟩ = some (.int .i64 k)
  own : wr.ownsRow (g + 1) 45 7 v (nwords k) (wordsL G k (nwords k))
theorem flush_any (w0 wr : World) (g : Nat) (G : Nat → Int) (k : Nat) (hT : Took w0 wr g G k) (hk : k ≤ 140737488351232) :
    Calls Tryd.prog 24 #[.pointer (some ⟨g, 0, none⟩)] wr fun e w' => e = .returned (.tuple #[]) ∧ ∃ v, Done w0 w' g G k v := by
  obtain ⟨v, cs, f⟩ := hT
  by_cases h0 : k % 64 = 0
  · rw [h0] at f
    refine (flush_none w0 wr g G _ _ _ _ v cs f).mono ?_
    rintro e w' ⟨rfl, rfl⟩
    refine ⟨rfl, v, f.bel, (f.blk.cell 67).trans f.c67, ?_, ?_⟩
    · have := (f.blk.cell 68).trans f.c68
      rwa [show 64 * (k / 64) = k from by omega] at this
    · have := f.own
      rwa [rowF_is G k _ (Nat.le_refl _), show k / 64 = nwords k from by unfold nwords; omega] at this
  · refine (flush_some w0 wr g G _ _ _ _ _ v cs f (by omega) (by omega) (by omega) (by omega)).mono ?_
    rintro e w' ⟨rfl, v', cs', f'⟩
    refine ⟨rfl, v', f'.bel, (f'.blk.cell 67).trans f'.c67, ?_, ?_⟩
    · have := (f'.blk.cell 68).trans f'.c68
      rwa [show 64 * (k / 64) + k % 64 = k from by omega] at this
    · have := f'.own
      have e1 : rowF G (k / 64) ++ (wordF G (64 * (k / 64)) (k % 64)).toList = idxRow G k := by unfold idxRow; rw [if_neg h0]
      rwa [e1, idxRow_is, show k / 64 + 1 = nwords k from by unfold nwords; omega] at this

set_option maxRecDepth 100000 in
set_option maxHeartbeats 2000000 in
theorem build_any (A : Option Addr) (n cp : Nat) (G : Nat → Int) (w : World) (hb : BS w A n G) (hn : n ≤ 140737488351232) (hcp : n ≤ cp) (hcm : cp ≤ 9223372036854775807) :
    Calls Tryd.prog 12 #[.slice A n cp] w (IndexIs G n w) := by
  have HB := Lib.hid hb
  clear hb
  have hz := fil_zero
  go_enter Tryd.func12, Tryd.ntmps12
  go_wp2_with fail
  have hw : Below w.heap.size w (w.alloc (.cells #[.slice none 0 0, .int .i64 0] 27)) := (Below.refl _ _).alloc (Nat.le_refl _) _
  have HB1 := Lib.hid (HB.out.bel hw)
  have HT := Lib.hid (took_new (w.alloc (.cells #[.slice none 0 0, .int .i64 0] 27)) (w.alloc (.cells #[.slice none 0 0, .int .i64 0] 27)) G filZ (H := w.heap.size + 1) (by simp) (Below.refl _ _) rfl rfl rfl rfl rfl rfl)
  refine (take_any _ _ (w.heap.size + 1) G 0 n cp A HT.out (by simpa using HB1.out) hcp (by omega) hcm).mono ?_
  rintro e w1 ⟨rfl, ht⟩
  rw [Nat.zero_add] at ht
  have HT1 := Lib.hid ht
  clear ht
  go_wp2_with fail
  refine (flush_any _ _ (w.heap.size + 1) G n HT1.out hn).mono ?_
  rintro e w2 ⟨rfl, v, hd⟩
  obtain ⟨A', cp', rfl, hcp', _⟩ := ws_of_own hd.own
  have d67 := hd.c67
  have d68 := hd.c68
  have hbk : Blk w2 w.heap.size 27 #[.slice none 0 0, .int .i64 0] := (hd.bel.block w.heap.size (by simp)).trans (Blk.new _ _ _)
  have r0 := hbk.cell 0
  have r1 := hbk.cell 1
  have f0 := hbk.frozen 0
  have f1 := hbk.frozen 1
  simp at r0 r1
  have HD := Lib.hid hd
  have HW := Lib.hid hw
  clear hd hbk hw
  go_wp2
  obtain ⟨A2, cp2, e2, _, hws⟩ := ws_of_own (own_setLow (own_setLow HD.out.own (show w.heap.size < w.heap.size + 1 + 1 by omega) 0 (.slice A' (nwords n) cp')) (show w.heap.size < w.heap.size + 1 + 1 by omega) 1 (.int .i64 n))
  obtain ⟨rfl, rfl⟩ : A' = A2 ∧ cp' = cp2 := by simpa using e2
  refine bodyPost_ret (v := .agg #[.slice A' (nwords n) cp', .int .i64 n]) (by simp [results, Tryd.results12, go_sem, r0, r1]) rfl ⟨A', cp', rfl, hcp', hws, ?_⟩
  have hb2 := HD.out.bel
  exact ((HW.out.trans (hb2.mono (by simp))).setCell (Nat.le_refl _) _).setCell (Nat.le_refl _) _
end Go.Proofs.YtmbiolhecheplaaDoor
