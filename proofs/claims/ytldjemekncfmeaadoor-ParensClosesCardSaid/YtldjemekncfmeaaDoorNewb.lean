/-
  New's vector while it is made: its block and the four rows, what an append, a store, a draw leave; whole, it is a vector. No walk here.
-/
import Derived.Test.YtldjemekncfmeaaDoorNewa
import Derived.OwnWalk
import Derived.Deep.OwnRows
import Derived.Deep.AppendLies
namespace Go.Proofs.YtldjemekncfmeaaDoor
open Go.RowKit

theorem u64_info : (Tryd.prog.info? 27).map (fun i => (i.zero, i.size, i.bytes)) = some (some (.int .u64 0), 1, 8) := by kernel_rfl
theorem int_info : (Tryd.prog.info? 3).map (fun i => (i.zero, i.size, i.bytes)) = some (some (.int .i64 0), 1, 8) := by kernel_rfl

/-- The block and the four rows of the vector while it is made. -/
structure Rows4 (w wr : World) (g : Nat) (cs : Array Value) (v1 : Value) (n1 : Nat) (x1 : List Value) (v2 : Value) (n2 : Nat) (x2 : List Value) (v3 : Value) (n3 : Nat) (x3 : List Value) (v4 : Value) (n4 : Nat) (x4 : List Value) : Prop where
  below : Below w.heap.size w wr
  low : w.heap.size ≤ g
  blk : Blk wr g 42 cs
  o1 : wr.ownsRow (g + 1) 27 1 v1 n1 x1
  o2 : wr.ownsRow (g + 1) 3 1 v2 n2 x2
  o3 : wr.ownsRow (g + 1) 3 1 v3 n3 x3
  o4 : wr.ownsRow (g + 1) 3 1 v4 n4 x4
  a12 : Apart v1 v2
  a13 : Apart v1 v3
  a14 : Apart v1 v4
  a23 : Apart v2 v3
  a24 : Apart v2 v4
  a34 : Apart v3 v4
theorem Blk.grown {w w' : World} {g : Nat} {t : TypeId} {cs : Array Value} {row : Option Nat} (h : Blk w g t cs) (hg : w.grownBy w' row) (hr : some g ≠ row) : Blk w' g t cs := (hg.block g h.lt hr).trans h
theorem own_ne {w : World} {e : TypeId} {v : Value} {n g : Nat} {xs : List Value} (h : w.ownsRow (g + 1) e 1 v n xs) : some g ≠ v.ownBlock := fun e' => by
  have := (h.lt g e'.symm).1; omega
theorem below_grown {w0 w w' : World} {e : TypeId} {v : Value} {n g : Nat} {xs : List Value} (hb : Below w0.heap.size w0 w) (hl : w0.heap.size ≤ g) (h : w.ownsRow (g + 1) e 1 v n xs) (hg : w.grownBy w' v.ownBlock) : Below w0.heap.size w0 w' :=
  ⟨hg.os.trans hb.os, hg.tape.trans hb.tape, hg.output.trans hb.output, Nat.le_trans hb.size hg.size, fun b hb' => (hg.block b (Nat.lt_of_lt_of_le hb' hb.size) (fun e' => by have := (h.lt b e'.symm).1; omega)).trans (hb.block b hb')⟩

section
variable {w wr w' : World} {g : Nat} {cs : Array Value} {v1 v2 v3 v4 : Value} {n1 n2 n3 n4 : Nat} {x1 x2 x3 x4 : List Value}
theorem Rows4.alloc (h : Rows4 w wr g cs v1 n1 x1 v2 n2 x2 v3 n3 x3 v4 n4 x4) (o : Obj) : Rows4 w (wr.alloc o) g cs v1 n1 x1 v2 n2 x2 v3 n3 x3 v4 n4 x4 :=
  { h with below := h.below.alloc h.below.size o, blk := h.blk.alloc o, o1 := h.o1.alloc o, o2 := h.o2.alloc o, o3 := h.o3.alloc o, o4 := h.o4.alloc o }
theorem Rows4.drew (h : Rows4 w wr g cs v1 n1 x1 v2 n2 x2 v3 n3 x3 v4 n4 x4) : Rows4 w wr.drew g cs v1 n1 x1 v2 n2 x2 v3 n3 x3 v4 n4 x4 :=
  { h with below := h.below.drew, blk := h.blk, o1 := h.o1, o2 := h.o2, o3 := h.o3, o4 := h.o4 }
theorem Rows4.drewN (h : Rows4 w wr g cs v1 n1 x1 v2 n2 x2 v3 n3 x3 v4 n4 x4) (k : Nat) : Rows4 w (wr.drewN k) g cs v1 n1 x1 v2 n2 x2 v3 n3 x3 v4 n4 x4 :=
  { h with below := belowN h.below k, blk := h.blk, o1 := h.o1, o2 := h.o2, o3 := h.o3, o4 := h.o4 }
theorem Rows4.app1 (h : Rows4 w wr g cs v1 n1 x1 v2 n2 x2 v3 n3 x3 v4 n4 x4) {b n cap H : Nat} {x : List Value} (ho : w'.ownsRow (g + 1) 27 1 (.slice (some ⟨b, 0, none⟩) n cap) n x) (hg : wr.grownBy w' v1.ownBlock) (hat : v1.ownBlock = some b ∨ b = H) (hH : wr.heap.size ≤ H) :
    Rows4 w w' g cs (.slice (some ⟨b, 0, none⟩) n cap) n x v2 n2 x2 v3 n3 x3 v4 n4 x4 :=
  { below := below_grown h.below h.low h.o1 hg, low := h.low, blk := h.blk.grown hg (own_ne h.o1), o1 := ho, o2 := h.o2.kept hg h.a12.far, o3 := h.o3.kept hg h.a13.far, o4 := h.o4.kept hg h.a14.far,
    a12 := h.a12.next h.o2 hH hat, a13 := h.a13.next h.o3 hH hat, a14 := h.a14.next h.o4 hH hat, a23 := h.a23, a24 := h.a24, a34 := h.a34 }
theorem Rows4.app2 (h : Rows4 w wr g cs v1 n1 x1 v2 n2 x2 v3 n3 x3 v4 n4 x4) {b n cap H : Nat} {x : List Value} (ho : w'.ownsRow (g + 1) 3 1 (.slice (some ⟨b, 0, none⟩) n cap) n x) (hg : wr.grownBy w' v2.ownBlock) (hat : v2.ownBlock = some b ∨ b = H) (hH : wr.heap.size ≤ H) :
    Rows4 w w' g cs v1 n1 x1 (.slice (some ⟨b, 0, none⟩) n cap) n x v3 n3 x3 v4 n4 x4 :=
  { below := below_grown h.below h.low h.o2 hg, low := h.low, blk := h.blk.grown hg (own_ne h.o2), o2 := ho, o1 := h.o1.kept hg h.a12.symm.far, o3 := h.o3.kept hg h.a23.far, o4 := h.o4.kept hg h.a24.far,
    a12 := (h.a12.symm.next h.o1 hH hat).symm, a13 := h.a13, a14 := h.a14, a23 := h.a23.next h.o3 hH hat, a24 := h.a24.next h.o4 hH hat, a34 := h.a34 }
theorem Rows4.app3 (h : Rows4 w wr g cs v1 n1 x1 v2 n2 x2 v3 n3 x3 v4 n4 x4) {b n cap H : Nat} {x : List Value} (ho : w'.ownsRow (g + 1) 3 1 (.slice (some ⟨b, 0, none⟩) n cap) n x) (hg : wr.grownBy w' v3.ownBlock) (hat : v3.ownBlock = some b ∨ b = H) (hH : wr.heap.size ≤ H) :
    Rows4 w w' g cs v1 n1 x1 v2 n2 x2 (.slice (some ⟨b, 0, none⟩) n cap) n x v4 n4 x4 :=
  { below := below_grown h.below h.low h.o3 hg, low := h.low, blk := h.blk.grown hg (own_ne h.o3), o3 := ho, o1 := h.o1.kept hg h.a13.symm.far, o2 := h.o2.kept hg h.a23.symm.far, o4 := h.o4.kept hg h.a34.far,
    a12 := h.a12, a13 := (h.a13.symm.next h.o1 hH hat).symm, a14 := h.a14, a23 := (h.a23.symm.next h.o2 hH hat).symm, a24 := h.a24, a34 := h.a34.next h.o4 hH hat }
theorem Rows4.app4 (h : Rows4 w wr g cs v1 n1 x1 v2 n2 x2 v3 n3 x3 v4 n4 x4) {b n cap H : Nat} {x : List Value} (ho : w'.ownsRow (g + 1) 3 1 (.slice (some ⟨b, 0, none⟩) n cap) n x) (hg : wr.grownBy w' v4.ownBlock) (hat : v4.ownBlock = some b ∨ b = H) (hH : wr.heap.size ≤ H) :
    Rows4 w w' g cs v1 n1 x1 v2 n2 x2 v3 n3 x3 (.slice (some ⟨b, 0, none⟩) n cap) n x :=
  { below := below_grown h.below h.low h.o4 hg, low := h.low, blk := h.blk.grown hg (own_ne h.o4), o4 := ho, o1 := h.o1.kept hg h.a14.symm.far, o2 := h.o2.kept hg h.a24.symm.far, o3 := h.o3.kept hg h.a34.symm.far,
    a12 := h.a12, a13 := h.a13, a14 := (h.a14.symm.next h.o1 hH hat).symm, a23 := h.a23, a24 := (h.a24.symm.next h.o2 hH hat).symm, a34 := (h.a34.symm.next h.o3 hH hat).symm }
theorem own_set {e : TypeId} {v : Value} {n : Nat} {xs : List Value} (h : wr.ownsRow (g + 1) e 1 v n xs) (i : Nat) (u : Value) : (wr.setCell ⟨g, i, none⟩ u).ownsRow (g + 1) e 1 v n xs :=
  h.kept (row := some g) ⟨rfl, rfl, rfl, Nat.le_of_eq (by simp [World.setCell]), fun k hk hne => heap_setCell_other _ _ _ _ (fun e' => hne (by rw [e']))⟩ (.inr fun e' => own_ne h e'.symm)
theorem Rows4.set (h : Rows4 w wr g cs v1 n1 x1 v2 n2 x2 v3 n3 x3 v4 n4 x4) (i : Nat) (u : Value) : Rows4 w (wr.setCell ⟨g, i, none⟩ u) g (cs.setIfInBounds i u) v1 n1 x1 v2 n2 x2 v3 n3 x3 v4 n4 x4 :=
  { h with below := h.below.setCell h.low u, blk := h.blk.set_ i u, o1 := own_set h.o1 i u, o2 := own_set h.o2 i u, o3 := own_set h.o3 i u, o4 := own_set h.o4 i u }
theorem Rows4.is {ds : Array Value} {y1 y2 y3 y4 : List Value} (h : Rows4 w wr g cs v1 n1 x1 v2 n2 x2 v3 n3 x3 v4 n4 x4) (e : cs = ds) (e1 : x1 = y1) (e2 : x2 = y2) (e3 : x3 = y3) (e4 : x4 = y4) : Rows4 w wr g ds v1 n1 y1 v2 n2 y2 v3 n3 y3 v4 n4 y4 := by
  subst e e1 e2 e3 e4; exact h
end

/-- The vector while it is made: the first two rows hold m1 words, the others m2. -/
def Made (w wr : World) (g : Nat) (ys : Nat → BitVec 64) (N m1 m2 : Nat) (v1 v2 v3 v4 : Value) : Prop :=
  Rows4 w wr g #[.int .i64 N, v1, v2, v3, v4] v1 m1 (rowW ys N m1) v2 m1 (rowR (bitF ys N) m1) v3 m2 (rowL (bitF ys N) N m2) v4 m2 (rowM (bitF ys N) N m2)


theorem Made.vec {w wr : World} {g : Nat} {ys : Nat → BitVec 64} {N : Nat} {v1 v2 v3 v4 : Value} (h : Made w wr g ys N (nw N) (nw N) v1 v2 v3 v4) (hN : N ≤ 1125899906842624) : Vec wr (some ⟨g, 0, none⟩) N (bitF ys N) := by
  unfold Made at h
  obtain ⟨A1, k1, rfl, s1⟩ := IS.own h.o1
  obtain ⟨A2, k2, rfl, s2⟩ := IS.own h.o2
  obtain ⟨A3, k3, rfl, s3⟩ := IS.own h.o3
  obtain ⟨A4, k4, rfl, s4⟩ := IS.own h.o4
  have c0 := h.blk.cell 0
  have c1 := h.blk.cell 1
  have c2 := h.blk.cell 2
  have c3 := h.blk.cell 3
  have c4 := h.blk.cell 4
  simp at c0 c1 c2 c3 c4
  refine ⟨hN, fun j hj => bitF_beyond ys N j hj, .inr ⟨g, A1, A2, A3, A4, k1, k2, k3, k4, wordX ys N, fun q => loE (bitF ys N) (64 * q) (haveN N q), fun q => hiE (bitF ys N) (64 * q) (haveN N q), rfl,
    ⟨c0, c1, c2, c3, c4, s1, s2, s3, s4, fun q _ i hi => wordX_bit ys N q i hi, fun q _ j h1 h2 h3 => ?_⟩⟩⟩
  have : j ≤ 64 * q + haveN N q := by unfold haveN; omega
  exact ⟨loE_le _ _ _ _ h1 this, hiE_le _ _ _ _ h1 this⟩

/-- What New returns. -/
def NewIs (ys : Nat → BitVec 64) (N : Nat) (w : World) (e : Ending) (w' : World) : Prop :=
  ∃ g, e = .returned (.pointer (some ⟨g, 0, none⟩)) ∧ Vec w' (some ⟨g, 0, none⟩) N (bitF ys N) ∧ Below w.heap.size w w'
/-- .. told whole: the block and its rows. -/
def MadeIs (ys : Nat → BitVec 64) (N : Nat) (w : World) (e : Ending) (w' : World) : Prop :=
  ∃ v1 v2 v3 v4, e = .returned (.pointer (some ⟨w.heap.size, 0, none⟩)) ∧ Made w w' w.heap.size ys N (nw N) (nw N) v1 v2 v3 v4
theorem MadeIs.vec {ys : Nat → BitVec 64} {N : Nat} {w w' : World} {e : Ending} (h : MadeIs ys N w e w') (hN : N ≤ 1125899906842624) : NewIs ys N w e w' := by
  obtain ⟨v1, v2, v3, v4, he, hm⟩ := h
  exact ⟨_, he, hm.vec hN, hm.below⟩
/-- a region of New's text, by its number -/
noncomputable def findR (k : Nat) : Code → Option Code
  | .region n ops d => if n = k then some (.region n ops d) else none
  | .seq a b => match findR k a with | some c => some c | none => findR k b
  | .cond _ a b => match findR k a with | some c => some c | none => findR k b
  | .block _ a => findR k a
  | .loop a => findR k a
  | _ => none
noncomputable def newR (k : Nat) : Code := match Tryd.f11.body with
  | some b => (findR k b).getD .skip
  | none => .skip
end Go.Proofs.YtldjemekncfmeaaDoor
