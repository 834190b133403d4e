/-
  The filler of layer 7: its block and the words that it has made; what an append, a store, a copy leave. Plain laws and footprints; no walk.
-/
import Derived.Test.YtmbiolhecheplaaDoorIdx
import Derived.Test.YtmbiolhecheplaaDoorAny
import Derived.OwnWalk
import Derived.Deep.OwnRows
import Derived.Deep.AppendLies
import Derived.Laws.CopyOwn
namespace Go.Proofs.YtmbiolhecheplaaDoor
open Go.RowKit

/-- a word of the index: of the h bytes from p on -/
def wordF (G : Nat → Int) (p h : Nat) : Array Value := masks h (fun i => G (p + i)) (Lo.so G false p) (Lo.si G false false p)
/-- the cells of the first q full words -/
def rowF (G : Nat → Int) : Nat → List Value
  | 0 => []
  | q + 1 => rowF G q ++ (wordF G (64 * q) 64).toList
/-- the cells of the index of n bytes -/
def idxRow (G : Nat → Int) (n : Nat) : List Value := if n % 64 = 0 then rowF G (n / 64) else rowF G (n / 64) ++ (wordF G (64 * (n / 64)) (n % 64)).toList
theorem rowF_is (G : Nat → Int) (n : Nat) : ∀ q, q ≤ n / 64 → rowF G q = wordsL G n q := by
  intro q
  induction q with
  | zero => intro _; rfl
  | succ q ih =>
    intro h
    rw [rowF, wordsL, ih (by omega), wordF, wordA, show min 64 (n - 64 * q) = 64 from by omega]
theorem idxRow_is (G : Nat → Int) (n : Nat) : idxRow G n = wordsL G n (nwords n) := by
  unfold idxRow
  split
  · rename_i h
    rw [rowF_is G n _ (Nat.le_refl _), show nwords n = n / 64 from by unfold nwords; omega]
  · rename_i h
    rw [rowF_is G n _ (Nat.le_refl _), show nwords n = n / 64 + 1 from by unfold nwords; omega, wordsL, wordF, wordA, show min 64 (n - 64 * (n / 64)) = n % 64 from by omega]

theorem own_neS {w : World} {e : TypeId} {v : Value} {n g s : Nat} {xs : List Value} (h : w.ownsRow (g + 1) e s v n xs) : some g ≠ v.ownBlock := fun e' => by
  have := (h.lt g e'.symm).1; omega
theorem below_grownS {w0 w w' : World} {e : TypeId} {v : Value} {n g s : Nat} {xs : List Value} (hb : Below w0.heap.size w0 w) (hl : w0.heap.size ≤ g) (h : w.ownsRow (g + 1) e s v n xs) (hg : w.grownBy w' v.ownBlock) : Below w0.heap.size w0 w' :=
  ⟨hg.os.trans hb.os, hg.tape.trans hb.tape, hg.output.trans hb.output, Nat.le_trans hb.size hg.size, fun b hb' => (hg.block b (Nat.lt_of_lt_of_le hb' hb.size) (fun e' => by have := (h.lt b e'.symm).1; omega)).trans (hb.block b hb')⟩
theorem own_setS {wr : World} {e : TypeId} {v : Value} {n g s : Nat} {xs : List Value} (h : wr.ownsRow (g + 1) e s v n xs) (i : Nat) (u : Value) : (wr.setCell ⟨g, i, none⟩ u).ownsRow (g + 1) e s v n xs :=
  h.kept (row := some g) ⟨rfl, rfl, rfl, Nat.le_of_eq (by simp [World.setCell]), fun k hk hne => heap_setCell_other _ _ _ _ (fun e' => hne (by rw [e']))⟩ (.inr fun e' => own_neS h e'.symm)
theorem Blk.grownS {w w' : World} {g : Nat} {t : TypeId} {cs : Array Value} {row : Option Nat} (h : Blk w g t cs) (hg : w.grownBy w' row) (hr : some g ≠ row) : Blk w' g t cs := (hg.block g h.lt hr).trans h
theorem own_below {w w' : World} {e : TypeId} {v : Value} {n b s : Nat} {xs : List Value} (h : w.ownsRow b e s v n xs) (hb : Below w.heap.size w w') : w'.ownsRow b e s v n xs :=
  h.kept (row := none) ⟨hb.os, hb.tape, hb.output, hb.size, fun k hk _ => hb.block k hk⟩ (by cases hv : v.ownBlock with | none => exact .inl rfl | some k => exact .inr (by simp))

/-- The filler: its block g holds the bytes from p on, h of them; q words stand in its row. -/
structure FilAt (w0 wr : World) (g : Nat) (G : Nat → Int) (p h q L : Nat) (R : List Value) (v : Value) (cs : Array Value) : Prop where
  bel : Below w0.heap.size w0 wr
  low : w0.heap.size ≤ g
  blk : Blk wr g 54 cs
  size : cs.size = 69
  buf : ∀ j, j < h → cs[j]? = some (.int .u8 (G (p + j)))
  c64 : cs[64]? = some (.int .i64 h)
  c65 : cs[65]? = some (.bool (Lo.so G false p))
  c66 : cs[66]? = some (.bool (Lo.si G false false p))
  c67 : cs[67]? = some v
  c68 : cs[68]? = some (.int .i64 L)
  own : wr.ownsRow (g + 1) 45 7 v q R
theorem FilAt.bytes {w0 wr : World} {g : Nat} {G : Nat → Int} {p h q L : Nat} {R : List Value} {v : Value} {cs : Array Value} (f : FilAt w0 wr g G p h q L R v cs) : BS wr (some ⟨g, 0, none⟩) h (fun j => G (p + j)) :=
  .inr ⟨g, 0, rfl, fun j hj => by rw [Nat.zero_add, f.blk.cell j]; exact f.buf j hj⟩
section
variable {w0 wr w2 : World} {g : Nat} {G : Nat → Int} {p h q L : Nat} {R : List Value} {v : Value} {cs : Array Value}
theorem FilAt.under (f : FilAt w0 wr g G p h q L R v cs) (hb : Below wr.heap.size wr w2) : FilAt w0 w2 g G p h q L R v cs :=
  { f with bel := f.bel.trans (hb.mono f.bel.size), blk := f.blk.kept hb, own := own_below f.own hb }
theorem FilAt.drew (f : FilAt w0 wr g G p h q L R v cs) : FilAt w0 wr.drew g G p h q L R v cs := { f with bel := f.bel.drew, blk := f.blk, own := f.own }
theorem FilAt.app {o : Obj} {R' : List Value} {v' : Value} {q' : Nat} (f : FilAt w0 wr g G p h q L R v cs) (h64 : h ≤ 64) (ho : w2.ownsRow (g + 1) 45 7 v' q' R') (hg : (wr.alloc o).grownBy w2 v.ownBlock) :
    FilAt w0 (w2.setCell ⟨g, 67, none⟩ v') g G p h q' L R' v' (cs.setIfInBounds 67 v') where
  bel := (below_grownS (f.bel.alloc f.bel.size o) f.low (f.own.alloc o) hg).setCell f.low _
  low := f.low
  blk := ((f.blk.alloc o).grownS hg (own_neS (f.own.alloc o))).set_ 67 _
  size := by rw [Array.size_setIfInBounds]; exact f.size
  buf := fun j hj => by rw [Array.getElem?_setIfInBounds, if_neg (by omega)]; exact f.buf j hj
  c64 := by rw [Array.getElem?_setIfInBounds, if_neg (by omega)]; exact f.c64
  c65 := by rw [Array.getElem?_setIfInBounds, if_neg (by omega)]; exact f.c65
  c66 := by rw [Array.getElem?_setIfInBounds, if_neg (by omega)]; exact f.c66
  c67 := by rw [Array.getElem?_setIfInBounds, if_pos rfl, if_pos (by rw [f.size]; omega)]
  c68 := by rw [Array.getElem?_setIfInBounds, if_neg (by omega)]; exact f.c68
  own := own_setS ho 67 v'
end
end Go.Proofs.YtmbiolhecheplaaDoor
