/-
  shown of layer 7, the document's examples: it returns true. Condition: the table of math/bits lies as the text lays it; what was there stays as it is.
-/
import Derived.Test.YtmbiolhecheplaaDoorMarks
import Derived.Test.YtmbiolhecheplaaDoorOrd
import Derived.Lib.SlBytesConst
namespace Go.Proofs.YtmbiolhecheplaaDoor
open Go.RowKit

def TrueIs (w : World) (e : Ending) (w' : World) : Prop := e = .returned (.bool true) ∧ Below w.heap.size w w'
/-- the bytes of the example -/
def exG (i : Nat) : Int := [91, 49, 44, 32, 34, 97, 58, 34, 93].getD i 0
theorem ex_ml : Lm.ml exG 9 = [(0, 91), (1, 48), (2, 44), (4, 34), (8, 93)] := by decide +kernel
theorem ex_words : nwords 9 = 1 := by decide
theorem ex_s3 : Lm.stn exG 3 = false := by decide +kernel
theorem ex_s5 : Lm.stn exG 5 = false := by decide +kernel
theorem ex_s6 : Lm.stn exG 6 = false := by decide +kernel
theorem ex_next3 : nextI (mwG exG 9) 1 9 3 = 4 := next_hit (n := 9) (a := 3) (r := 4) exG (by omega) (by omega) (by decide +kernel) fun j j1 j2 => by
  obtain rfl : j = 3 := by omega
  exact ex_s3
theorem ex_next5 : nextI (mwG exG 9) 1 9 5 = 7 := next_hit (n := 9) (a := 5) (r := 7) exG (by omega) (by omega) (by decide +kernel) fun j j1 j2 => by
  have : j = 5 ∨ j = 6 := by omega
  rcases this with rfl | rfl
  · exact ex_s5
  · exact ex_s6
theorem ex_brB : brB (mwG exG 9) (64 * 1) = [true, false] := by decide +kernel
theorem ex_pack : packW [true, false] 0 = 1#64 := by decide +kernel
theorem ex_row : brRow [true, false] = [.int .u64 1] := by
  have : bwords [true, false].length = 1 := by decide
  unfold brRow
  rw [this, List.range_one, List.map_cons, List.map_nil, ex_pack]; rfl
/-- a row of the call's own, its cells and marks -/
theorem own_form {w : World} {base : Nat} {e : TypeId} {s n : Nat} {v : Value} {xs : List Value} (h : w.ownsRow base e s v n xs) (hn : 0 < n) : ∃ g cap, v = .slice (some ⟨g, 0, none⟩) n cap ∧ base ≤ g ∧ n ≤ cap ∧ ∀ j u, xs[j]? = some u → w.cell? ⟨g, j, none⟩ = some u := by
  rcases h.2 with ⟨_, h2⟩ | ⟨g, cap, cur, h1, hb, h3, h5, _, _, h4⟩
  · omega
  · refine ⟨g, cap, h1, hb, h5, fun j u hj => ?_⟩
    rw [cell_of_row w g j cur e (0, 0) h3]
    rw [← h4, List.getElem?_take] at hj
    split at hj
    · rwa [Array.getElem?_toList] at hj
    · cases hj
theorem own_slice {w : World} {base : Nat} {e : TypeId} {s n : Nat} {v : Value} {xs : List Value} (h : w.ownsRow base e s v n xs) : ∃ A cap, v = .slice A n cap := by
  rcases h.2 with ⟨h1, h2⟩ | ⟨g, cap, cur, h1, _⟩
  · exact ⟨none, 0, by rw [h1, h2]⟩
  · exact ⟨_, _, h1⟩

theorem ex_bytes {w : World} {g : Nat} {t : TypeId} {fr : Nat × Nat} (h : w.heap[g]? = some (.cells #[.int .u8 91, .int .u8 49, .int .u8 44, .int .u8 32, .int .u8 34, .int .u8 97, .int .u8 58, .int .u8 34, .int .u8 93] t fr)) : BS w (some ⟨g, 0, none⟩) 9 exG := by
  refine .inr ⟨_, _, rfl, fun i hi => ?_⟩
  rw [Nat.zero_add, cell_of_row w g i _ t fr h]
  have : i = 0 ∨ i = 1 ∨ i = 2 ∨ i = 3 ∨ i = 4 ∨ i = 5 ∨ i = 6 ∨ i = 7 ∨ i = 8 := by omega
  rcases this with rfl | rfl | rfl | rfl | rfl | rfl | rfl | rfl | rfl <;> rfl

theorem ex_lay (w : World) : BS (w.alloc (.cells #[.int .u8 91, .int .u8 49, .int .u8 44, .int .u8 32, .int .u8 34, .int .u8 97, .int .u8 58, .int .u8 34, .int .u8 93] 5 (9, 10))) (some ⟨w.heap.size, 0, none⟩) 9 exG := ex_bytes (heap_alloc_new w _)

set_option maxRecDepth 100000 in
set_option maxHeartbeats 2000000 in
theorem shown_any (w : World) (hT : Tab w) : Calls Tryd.prog 10 #[] w (TrueIs w) := by
  have HT := Lib.hid hT
  clear hT
  have kc := fun (w : World) (C : Array Value) (n c : Nat) => Lib.run_convert_bytes_const (P := Tryd.prog) w 22 5 C n c Tryd.underlying22 Tryd.underlying5
  go_enter Tryd.func10, Tryd.ntmps10
  go_wp2_with fail
  refine (marks_any _ 9 9 exG _ (ex_lay _) (by omega) (by omega) (by omega)).mono ?_
  rintro e w1 ⟨v1, rfl, hown, hb⟩
  rw [ex_ml] at hown
  obtain ⟨g1, cap1, rfl, hg1, _, hc1⟩ := own_form hown (by decide)
  have HC1 := Lib.hid hc1
  have hlt1 : g1 < w1.heap.size := (hown.lt g1 rfl).2
  have hb1 : Below w.heap.size w w1 := ((Below.refl _ _).alloc (Nat.le_refl _) _).trans (hb.mono (by simp))
  have HB1 := Lib.hid hb1
  have HS1 := Lib.hid ((ex_lay w).bel hb)
  clear hown hb hc1 hb1
  go_wp2_with fail
  refine (build_any _ 9 9 exG _ HS1.out (by omega) (by omega) (by omega)).mono ?_
  rintro e w2 ⟨A', cp', rfl, hcp', hws, hbel⟩
  rw [ex_words] at hws hcp' ⊢
  have HWS := Lib.hid (hws.below ((Below.refl _ _).alloc (Nat.le_refl _) (.cells #[.slice A' 1 cp', .int .i64 9] 27)))
  have HB2 := Lib.hid ((HB1.out.trans (hbel.mono HB1.out.size)).alloc (Nat.le_trans HB1.out.size hbel.size) (.cells #[.slice A' 1 cp', .int .i64 9] 27))
  have HC2 : Hid (∀ j u, (Lm.cells [(0, 91), (1, 48), (2, 44), (4, 34), (8, 93)])[j]? = some u → (w2.alloc (.cells #[.slice A' 1 cp', .int .i64 9] 27)).cell? ⟨g1, j, none⟩ = some u) := Lib.hid fun j u hj => (((hbel.alloc hbel.size _).cell (p := ⟨g1, j, none⟩) hlt1).trans (HC1.out j u hj))
  have hlt2 : g1 < w2.heap.size := Nat.lt_of_lt_of_le hlt1 hbel.size
  have hlt3 : w2.heap.size < (w2.alloc (.cells #[.slice A' 1 cp', .int .i64 9] 27)).heap.size := by simp
  have HX := Lib.hid (Blk.newAt w2 27 #[.slice A' 1 cp', .int .i64 9] rfl)
  clear hws hbel HS1 HC1
  go_wp2_with fail
  refine (brackets_any A' 1 cp' (mwG exG 9) 9 _ HWS.out (HT.out.below HB2.out) (by omega)).mono ?_
  rintro e w3 ⟨v3, rfl, hown3, hb3⟩
  rw [ex_brB] at hown3 ⊢
  rw [ex_row] at hown3
  obtain ⟨g3, cap3, rfl, hg3, _, hc3⟩ := own_form hown3 (by decide)
  have p2 := (hb3.cell (p := ⟨g1, 2, none⟩) (by simp; omega)).trans (HC2.out 2 _ rfl)
  have p3 := (hb3.cell (p := ⟨g1, 3, none⟩) (by simp; omega)).trans (HC2.out 3 _ rfl)
  have p6 := (hb3.cell (p := ⟨g1, 6, none⟩) (by simp; omega)).trans (HC2.out 6 _ rfl)
  have p7 := (hb3.cell (p := ⟨g1, 7, none⟩) (by simp; omega)).trans (HC2.out 7 _ rfl)
  have x0 := (hb3.cell (p := ⟨w2.heap.size, 0, none⟩) hlt3).trans (HX.out.cell 0)
  have x1 := (hb3.cell (p := ⟨w2.heap.size, 1, none⟩) hlt3).trans (HX.out.cell 1)
  have r0 := hc3 0 _ rfl
  have l5 : bwords [true, false].length = 1 := by decide
  rw [l5]
  simp at x0 x1
  have HW3 := Lib.hid (HWS.out.below hb3)
  have HB3 := Lib.hid (HB2.out.trans (hb3.mono HB2.out.size))
  have HT3 := Lib.hid (HT.out.below HB3.out)
  clear hown3 hb3 hc3 hlt3 l5
  have hx3 : w2.heap.size < w3.heap.size := (World.block_lt_of_cell? _ _ x0)
  have hg3' : g3 < w3.heap.size := (World.block_lt_of_cell? _ _ r0)
  go_wp2_with fail
  refine (next_any A' 1 cp' (mwG exG 9) 9 3 w3 HW3.out HT3.out (by omega) ⟨by omega⟩ ⟨by omega⟩).mono ?_
  rintro e w4 ⟨rfl, hb4⟩
  rw [ex_next3]
  have x04 := (hb4.cell (p := ⟨w2.heap.size, 0, none⟩) hx3).trans x0
  have x14 := (hb4.cell (p := ⟨w2.heap.size, 1, none⟩) hx3).trans x1
  have r04 := (hb4.cell (p := ⟨g3, 0, none⟩) hg3').trans r0
  have HW4 := Lib.hid (HW3.out.below hb4)
  have HB4 := Lib.hid (HB3.out.trans (hb4.mono HB3.out.size))
  have HT4 := Lib.hid (HT.out.below HB4.out)
  have hg4' : g3 < w4.heap.size := (World.block_lt_of_cell? _ _ r04)
  clear hb4 x0 x1 r0 p2 p3 p6 p7 hx3 hg3' HW3 HT3
  go_wp2_with fail
  refine (next_any A' 1 cp' (mwG exG 9) 9 5 w4 HW4.out HT4.out (by omega) ⟨by omega⟩ ⟨by omega⟩).mono ?_
  rintro e w5 ⟨rfl, hb5⟩
  rw [ex_next5]
  have r05 := (hb5.cell (p := ⟨g3, 0, none⟩) hg4').trans r04
  have HB5 := Lib.hid (HB4.out.trans (hb5.mono HB4.out.size))
  clear hb5 x04 x14 r04
  go_wp2
  try rw [Exit.noGoto_ret]
  go_ret
  exact ⟨rfl, HB5.out⟩
end Go.Proofs.YtmbiolhecheplaaDoor
