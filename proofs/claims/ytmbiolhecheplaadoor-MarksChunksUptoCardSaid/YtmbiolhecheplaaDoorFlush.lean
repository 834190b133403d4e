/-
  The filler's flush: what a call leaves: the word of what there is, made and laid behind the others. For every filler of up to 2^41 words.
-/
import Derived.Test.YtmbiolhecheplaaDoorFil
import Derived.Test.YtmbiolhecheplaaDoorBscan
import Derived.Deep.RegionHeld3
import Derived.Deep.DeepCutAuto
import Derived.Deep.RegionLaw
namespace Go.Proofs.YtmbiolhecheplaaDoor
open Go.RowKit

theorem masks_info : (Tryd.prog.info? 45).map (fun i => (i.zero, i.size, i.bytes)) = some (some (.agg #[.int .u64 0, .int .u64 0, .int .u64 0, .int .u64 0, .int .u64 0, .int .u64 0, .int .u64 0]), 7, 56) := by kernel_rfl

theorem bel_of {W wr w1 : World} (h : Below wr.heap.size wr W) (hb1 : Below W.heap.size W w1) : Below wr.heap.size wr w1 := h.trans (hb1.mono h.size)
section
variable {W w0 : World} {g gm : Nat} {t : TypeId} {B : Nat} {cs : Array Value} (a0 a1 a2 a3 a4 a5 a6 b0 b1 : Value)
theorem blk7 (h : Blk W gm t #[.int .u64 0, .int .u64 0, .int .u64 0, .int .u64 0, .int .u64 0, .int .u64 0, .int .u64 0]) : Blk (((((((W.setCell ⟨gm, 0, none⟩ a0).setCell ⟨gm, 1, none⟩ a1).setCell ⟨gm, 2, none⟩ a2).setCell ⟨gm, 3, none⟩ a3).setCell ⟨gm, 4, none⟩ a4).setCell ⟨gm, 5, none⟩ a5).setCell ⟨gm, 6, none⟩ a6) gm t #[a0, a1, a2, a3, a4, a5, a6] := (((((((h.set_ 0 a0).set_ 1 a1).set_ 2 a2).set_ 3 a3).set_ 4 a4).set_ 5 a5).set_ 6 a6).is (by simp)
theorem blk2 (h : Blk W gm t #[.bool false, .bool false]) : Blk ((W.setCell ⟨gm, 0, none⟩ b0).setCell ⟨gm, 1, none⟩ b1) gm t #[b0, b1] := ((h.set_ 0 b0).set_ 1 b1).is (by simp)
theorem far7 (h : Blk W g t cs) (hn : g ≠ gm) : Blk (((((((W.setCell ⟨gm, 0, none⟩ a0).setCell ⟨gm, 1, none⟩ a1).setCell ⟨gm, 2, none⟩ a2).setCell ⟨gm, 3, none⟩ a3).setCell ⟨gm, 4, none⟩ a4).setCell ⟨gm, 5, none⟩ a5).setCell ⟨gm, 6, none⟩ a6) g t cs := (((((((h.far hn a0).far hn a1).far hn a2).far hn a3).far hn a4).far hn a5).far hn a6)
theorem far2 (h : Blk W g t cs) (hn : g ≠ gm) : Blk ((W.setCell ⟨gm, 0, none⟩ b0).setCell ⟨gm, 1, none⟩ b1) g t cs := ((h.far hn b0).far hn b1)
theorem below7 (h : Below B w0 W) (hB : B ≤ gm) : Below B w0 (((((((W.setCell ⟨gm, 0, none⟩ a0).setCell ⟨gm, 1, none⟩ a1).setCell ⟨gm, 2, none⟩ a2).setCell ⟨gm, 3, none⟩ a3).setCell ⟨gm, 4, none⟩ a4).setCell ⟨gm, 5, none⟩ a5).setCell ⟨gm, 6, none⟩ a6) := (((((((h.setCell hB a0).setCell hB a1).setCell hB a2).setCell hB a3).setCell hB a4).setCell hB a5).setCell hB a6)
theorem below2 (h : Below B w0 W) (hB : B ≤ gm) : Below B w0 ((W.setCell ⟨gm, 0, none⟩ b0).setCell ⟨gm, 1, none⟩ b1) := ((h.setCell hB b0).setCell hB b1)
end

/-- bitmap's Scan of what there is: the word, and what is carried behind it -/
theorem scan_piece (g h : Nat) (G : Nat → Int) (w0 wr : World) (p q L : Nat) (R : List Value) (v : Value) (cs : Array Value) (f : FilAt w0 wr g G p h q L R v cs) (h64 : h ≤ 64) : ∃ (m0 m1 m2 m3 m4 m5 m6 : BitVec 64) (c0 c1 : Bool),
    (∀ W : World, Below wr.heap.size wr W → Calls Tryd.prog 31 #[.slice (some ⟨g, 0, none⟩) h 64, .agg #[.bool (Lo.so G false p), .bool (Lo.si G false false p)]] W fun e w' => e = .returned (.tuple #[.agg #[.int .u64 (U m0), .int .u64 (U m1), .int .u64 (U m2), .int .u64 (U m3), .int .u64 (U m4), .int .u64 (U m5), .int .u64 (U m6)], .agg #[.bool c0, .bool c1]]) ∧ Below W.heap.size W w' ∧ w'.cell? ⟨g, 64, none⟩ = some (.int .i64 h) ∧ w'.cell? ⟨g, 65, none⟩ = some (.bool (Lo.so G false p)) ∧ w'.cell? ⟨g, 66, none⟩ = some (.bool (Lo.si G false false p))) ∧
    #[.int .u64 (U m0), .int .u64 (U m1), .int .u64 (U m2), .int .u64 (U m3), .int .u64 (U m4), .int .u64 (U m5), .int .u64 (U m6)] = wordF G p h ∧ #[.bool c0, .bool c1] = carry (p + h) G false false := by
  have hsc : ∀ W : World, Below wr.heap.size wr W → Calls Tryd.prog 31 #[.slice (some ⟨g, 0, none⟩) h 64, .agg #[.bool (Lo.so G false p), .bool (Lo.si G false false p)]] W fun e w' => ScanIs h (fun j => G (p + j)) (Lo.so G false p) (Lo.si G false false p) W e w' ∧ w'.cell? ⟨g, 64, none⟩ = some (.int .i64 h) ∧ w'.cell? ⟨g, 65, none⟩ = some (.bool (Lo.so G false p)) ∧ w'.cell? ⟨g, 66, none⟩ = some (.bool (Lo.si G false false p)) :=
    fun W hW => (scan_any _ h 64 (fun j => G (p + j)) _ _ W (f.bytes.below hW) (by omega)).mono fun e w' hh => by
      have hbW : Blk w' g 54 cs := (f.blk.kept hW).kept hh.2
      exact ⟨hh, (hbW.cell 64).trans f.c64, (hbW.cell 65).trans f.c65, (hbW.cell 66).trans f.c66⟩
  refine ⟨_, _, _, _, _, _, _, _, _, fun W hW => (hsc W hW).mono fun _ _ hh => ⟨hh.1.1, hh.1.2, hh.2⟩, ?_, ?_⟩
  · unfold wordF masks; rw [show min 64 h = h from by omega]
  · rw [show min 64 h = h from by omega]
    exact carry_shift G p h

section
variable {w0 wr : World} {g : Nat} {G : Nat → Int} {p h q L : Nat} {R : List Value} {v : Value} {cs : Array Value}
/-- so many bytes more -/
theorem FilAt.more (f : FilAt w0 wr g G p h q L R v cs) (h64 : h ≤ 64) (k : Nat) : FilAt w0 (wr.setCell ⟨g, 68, none⟩ (.int .i64 ((L : Int) + k))) g G p h q (L + k) R v (cs.setIfInBounds 68 (.int .i64 ((L : Int) + k))) where
  bel := f.bel.setCell f.low _
  low := f.low
  blk := f.blk.set_ 68 _
  size := by rw [Array.size_setIfInBounds]; exact f.size
  buf := fun j hj => by rw [Array.getElem?_setIfInBounds, if_neg (by omega)]; exact f.buf j hj
  c64 := by rw [Array.getElem?_setIfInBounds, if_neg (by omega)]; exact f.c64
  c65 := by rw [Array.getElem?_setIfInBounds, if_neg (by omega)]; exact f.c65
  c66 := by rw [Array.getElem?_setIfInBounds, if_neg (by omega)]; exact f.c66
  c67 := by rw [Array.getElem?_setIfInBounds, if_neg (by omega)]; exact f.c67
  c68 := by rw [Array.getElem?_setIfInBounds, if_pos rfl, if_pos (by rw [f.size]; omega)]; simp
  own := own_setS f.own 68 _
/-- the carry stored, nothing left in the buffer -/
theorem FilAt.next (f : FilAt w0 wr g G p h q L R v cs) (d0 d1 : Bool) (hc : #[Value.bool d0, Value.bool d1] = carry (p + h) G false false) :
    FilAt w0 (((wr.setCell ⟨g, 65, none⟩ (.bool d0)).setCell ⟨g, 66, none⟩ (.bool d1)).setCell ⟨g, 64, none⟩ (.int .i64 0)) g G (p + h) 0 q L R v (((cs.setIfInBounds 65 (.bool d0)).setIfInBounds 66 (.bool d1)).setIfInBounds 64 (.int .i64 0)) := by
  have hd : d0 = Lo.so G false (p + h) ∧ d1 = Lo.si G false false (p + h) := by
    unfold carry at hc
    simpa using hc
  have hz := f.size
  exact {
    bel := ((f.bel.setCell f.low _).setCell f.low _).setCell f.low _
    low := f.low
    blk := ((f.blk.set_ 65 _).set_ 66 _).set_ 64 _
    size := by rw [Array.size_setIfInBounds, Array.size_setIfInBounds, Array.size_setIfInBounds]; exact f.size
    buf := fun j hj => by omega
    c64 := by simp [hz]
    c65 := by simp [hz, hd.1]
    c66 := by simp [hz, hd.2]
    c67 := by simp [f.c67]
    c68 := by simp [f.c68]
    own := own_setS (own_setS (own_setS f.own 65 _) 66 _) 64 _ }
end

set_option maxRecDepth 100000 in
set_option maxHeartbeats 2000000 in
theorem flush_some (w0 wr : World) (g : Nat) (G : Nat → Int) (p h q L : Nat) (R : List Value) (v : Value) (cs : Array Value) (f : FilAt w0 wr g G p h q L R v cs) (hh : 0 < h) (h64 : h ≤ 64) (hq : (q + 1) * 56 ≤ 140737488355328) (hL : L ≤ 140737488355328) :
    Calls Tryd.prog 24 #[.pointer (some ⟨g, 0, none⟩)] wr fun e w' => e = .returned (.tuple #[]) ∧ ∃ v' cs', FilAt w0 w' g G (p + h) 0 (q + 1) (L + h) (R ++ (wordF G p h).toList) v' cs' := by
  have HF := Lib.hid f
  have c64 := (f.blk.cell 64).trans f.c64
  have c65 := (f.blk.cell 65).trans f.c65
  have c66 := (f.blk.cell 66).trans f.c66
  have c67 := (f.blk.cell 67).trans f.c67
  have c68 := (f.blk.cell 68).trans f.c68
  obtain ⟨m0, m1, m2, m3, m4, m5, m6, d0, d1, hsc, hwa, hca⟩ := scan_piece g h G w0 wr p q L R v cs f h64
  have HSC := Lib.hid hsc
  have HWA := Lib.hid hwa
  have HCA := Lib.hid hca
  have hglt := f.blk.lt
  have hg1 : g ≠ wr.heap.size := by omega
  have hg2 : g ≠ wr.heap.size + 1 := by omega
  have hg3 : wr.heap.size ≠ g := by omega
  have hg4 : wr.heap.size + 1 ≠ g := by omega
  have hh1 : (0 : Int) ≤ (h : Int) := by omega
  have hh2 : (h : Int) ≤ 64 := by omega
  have hh3 : (0 : Int) < (h : Int) := by omega
  clear f hsc hwa hca
  go_enter Tryd.func24, Tryd.ntmps24
  go_upto_region 1 with (fail)
  go_cut [2, 3] (fun s2 s3 wx => ∃ gm gc : Nat, s2 = .pointer (some ⟨gm, 0, none⟩) ∧ s3 = .pointer (some ⟨gc, 0, none⟩) ∧ (wr.heap.size ≤ gm ∧ wr.heap.size ≤ gc) ∧ Blk wx gm 45 #[.int .u64 (U m0), .int .u64 (U m1), .int .u64 (U m2), .int .u64 (U m3), .int .u64 (U m4), .int .u64 (U m5), .int .u64 (U m6)] ∧ Blk wx gc 52 #[.bool d0, .bool d1] ∧ Below wr.heap.size wr wx)
  case first =>
    go_region_held3 (fun w' => w'.cell? ⟨g, 64, none⟩ = some (.int .i64 h) ∧ w'.cell? ⟨g, 65, none⟩ = some (.bool (Lo.so G false p)) ∧ w'.cell? ⟨g, 66, none⟩ = some (.bool (Lo.si G false false p))) (go_keep)
      (first | (go_at_call 31; refine (HSC.out _ ?_).mono ?_; (first | (with_reducible exact belowN (Below.refl _ _) _) | (with_reducible exact belowN (Below.alloc (Below.refl _ _) (Nat.le_refl _) _) _) | (with_reducible exact Below.drew (Below.refl _ _)) | (with_reducible exact Below.drew (Below.alloc (Below.refl _ _) (Nat.le_refl _) _)) | (with_reducible exact Below.refl _ _) | (focus (go_grown; done))); rintro e w1 ⟨rfl, hb1, s64, s65, s66⟩; obtain ⟨hq1, hq2⟩ := bcell hb1; have hz := hb1.size; (try simp at hz); (try (have hz1 : wr.heap.size < w1.heap.size := by omega)); (try (have hz2 : wr.heap.size + 1 < w1.heap.size := by omega)); (try (have hz3 : wr.heap.size ≠ w1.heap.size := by omega)); (try (have hz4 : wr.heap.size + 1 ≠ w1.heap.size := by omega)); (try (have hz5 : w1.heap.size ≠ wr.heap.size := by omega)); (try (have hz6 : w1.heap.size ≠ wr.heap.size + 1 := by omega)); (try (have hz7 : g ≠ w1.heap.size := by omega)); (try (have hz8 : g ≠ w1.heap.size + 1 := by omega)); (try (have hz9 : w1.heap.size ≠ g := by omega)); (try (have hz10 : w1.heap.size + 1 ≠ g := by omega))))
    all_goals
      go_wp2_with fail
      go_meet
    · have hB : Below wr.heap.size wr w1 := bel_of (Below.drew (Below.refl _ _)) hb1
      have hZ := hB.size
      exact ⟨_, _, rfl, rfl, ⟨by omega, by omega⟩, (Blk.newAt _ _ _ rfl).alloc _, Blk.newAt _ _ _ (by simp), (hB.alloc hZ _).alloc (by simp; omega) _⟩
    · have hB : Below wr.heap.size wr w1 := bel_of (Below.drew (Below.refl _ _)) hb1
      have hZ := hB.size
      exact ⟨_, _, rfl, rfl, ⟨by omega, by omega⟩, Blk.newAt _ _ _ (by simp), (Blk.newAt _ _ _ rfl).alloc _, (hB.alloc hZ _).alloc (by simp; omega) _⟩
    · have hB : Below wr.heap.size wr w1 := bel_of (Below.drew ((Below.refl _ _).alloc (Nat.le_refl _) _)) hb1
      have hZ := hB.size
      exact ⟨_, _, rfl, rfl, ⟨by omega, by omega⟩, (blk7 _ _ _ _ _ _ _ (Blk.kept (Blk.newAt _ _ _ rfl).drew hb1)).alloc _, Blk.newAt _ _ _ (by simp), (below7 _ _ _ _ _ _ _ hB (Nat.le_refl _)).alloc (by simp; omega) _⟩
    · have hB : Below wr.heap.size wr w1 := bel_of (Below.drew (((Below.refl _ _).alloc (Nat.le_refl _) _).alloc (by simp) _)) hb1
      have hZ := hB.size
      exact ⟨_, _, rfl, rfl, ⟨by omega, by omega⟩, far2 _ _ (blk7 _ _ _ _ _ _ _ (Blk.kept ((Blk.newAt _ _ _ rfl).alloc _).drew hb1)) (by omega), blk2 _ _ (far7 _ _ _ _ _ _ _ (Blk.kept (Blk.newAt _ _ _ (by simp)).drew hb1) (by omega)), below2 _ _ (below7 _ _ _ _ _ _ _ hB (Nat.le_refl _)) (by omega)⟩
    · have hB : Below wr.heap.size wr w1 := bel_of (Below.drew ((Below.refl _ _).alloc (Nat.le_refl _) _)) hb1
      have hZ := hB.size
      exact ⟨_, _, rfl, rfl, ⟨by omega, by omega⟩, Blk.newAt _ _ _ (by simp), (blk2 _ _ (Blk.kept (Blk.newAt _ _ _ rfl).drew hb1)).alloc _, (below2 _ _ hB (Nat.le_refl _)).alloc (by simp; omega) _⟩
    · have hB : Below wr.heap.size wr w1 := bel_of (Below.drew (((Below.refl _ _).alloc (Nat.le_refl _) _).alloc (by simp) _)) hb1
      have hZ := hB.size
      exact ⟨_, _, rfl, rfl, ⟨by omega, by omega⟩, far2 _ _ (blk7 _ _ _ _ _ _ _ (Blk.kept (Blk.newAt _ _ _ (by simp)).drew hb1)) (by omega), blk2 _ _ (far7 _ _ _ _ _ _ _ (Blk.kept ((Blk.newAt _ _ _ rfl).alloc _).drew hb1) (by omega)), below2 _ _ (below7 _ _ _ _ _ _ _ hB (by omega)) (Nat.le_refl _)⟩
  case rest =>
    obtain ⟨gm, gc, rfl, rfl, ⟨hgm, hgc⟩, bm, bc, hbx⟩ := hcut
    have hf := HF.out.under hbx
    have HFX := Lib.hid hf
    have x67 := (hf.blk.cell 67).trans hf.c67
    have hgx := hf.blk.lt
    have y0 := bm.cell 0
    have y1 := bm.cell 1
    have y2 := bm.cell 2
    have y3 := bm.cell 3
    have y4 := bm.cell 4
    have y5 := bm.cell 5
    have y6 := bm.cell 6
    simp at y0 y1 y2 y3 y4 y5 y6
    have hfar : some gc ≠ v.ownBlock := fun e => by have := (HF.out.own.lt gc e.symm).2; omega
    have hgc2 : gc < wc.heap.size := bc.lt
    have HBC := Lib.hid bc
    have hne : gc ≠ g := by omega
    obtain ⟨i0, hi, hz0, hz1, hz2⟩ := info_parts masks_info
    have h63 : q + 1 ≤ maxLen := by unfold maxLen; omega
    have H63 := Lib.hid h63
    have HBY := Lib.hid hq
    clear hf c64 c65 c66 c67 c68 h63 bm bc
    go_upto_region 2 with (fail)
    go_cut [33] (fun _ wx => ∃ v' cs', FilAt w0 wx g G p h (q + 1) L (R ++ [.int .u64 (U m0), .int .u64 (U m1), .int .u64 (U m2), .int .u64 (U m3), .int .u64 (U m4), .int .u64 (U m5), .int .u64 (U m6)]) v' cs' ∧ Blk wx gc 52 #[.bool d0, .bool d1])
    case first =>
      go_region_law (first
        | (refine step_append_lies _ rfl (.tmp 30) (.tmp 32) 25 rfl (g + 1) 45 i0 (.agg #[.int .u64 0, .int .u64 0, .int .u64 0, .int .u64 0, .int .u64 0, .int .u64 0, .int .u64 0]) 7 56 Tryd.underlying25 hi hz0 hz1 hz2 rfl (by decide) v q R rfl
            (HFX.out.drew.own.alloc _) ⟨_, 0, none⟩ 1 1 [.int .u64 (U m0), .int .u64 (U m1), .int .u64 (U m2), .int .u64 (U m3), .int .u64 (U m4), .int .u64 (U m5), .int .u64 (U m6)] rfl rfl
            (World.news_of_block (Blk.newAt _ _ _ (by simp))) (by simp [Value.oneCell']) (by decide) H63.out HBY.out (by simp; omega) _ rfl ?_
           intro g1 p1 w2 hown2 hgrow2 hat2 hlt2
           have HA := Lib.hid (HFX.out.drew.app h64 hown2 hgrow2)
           have HG := Lib.hid ((hgrow2.block gc (by simp; omega) hfar).trans (HBC.out.drew.alloc _))
           have k67 := (((HFX.out.drew.blk.alloc _).grownS hgrow2 (own_neS HFX.out.own)).cell 67).trans HFX.out.c67
           have f67 := ((HFX.out.drew.blk.alloc _).grownS hgrow2 (own_neS HFX.out.own)).frozen 67))
      all_goals
        go_wp2_with fail
        go_meet
        exact ⟨_, _, HA.out, Blk.far HG.out hne _⟩
    case rest =>
      obtain ⟨v', cs', hf2, hbc2⟩ := hcut
      have HF2 := Lib.hid hf2
      have HBC2 := Lib.hid hbc2
      have e64 := (hf2.blk.cell 64).trans hf2.c64
      have e68 := (hf2.blk.cell 68).trans hf2.c68
      have f68 := hf2.blk.frozen 68
      have f64 := hf2.blk.frozen 64
      have f65 := hf2.blk.frozen 65
      have f66 := hf2.blk.frozen 66
      have e65 := (hf2.blk.cell 65).trans hf2.c65
      have e66 := (hf2.blk.cell 66).trans hf2.c66
      have n0 := hbc2.cell 0
      have n1 := hbc2.cell 1
      simp at n0 n1
      have hne2 : g ≠ gc := by omega
      have hsum : (0 : Int) ≤ (L : Int) + h := by omega
      have hsum2 : (L : Int) + h ≤ 140737488355328 + 64 := by omega
      clear hf2 hbc2 x67 y0 y1 y2 y3 y4 y5 y6
      go_upto_region 3 with (fail)
      go_cut [46] (fun _ wx => FilAt w0 wx g G p h (q + 1) (L + h) (R ++ [.int .u64 (U m0), .int .u64 (U m1), .int .u64 (U m2), .int .u64 (U m3), .int .u64 (U m4), .int .u64 (U m5), .int .u64 (U m6)]) v' (cs'.setIfInBounds 68 (.int .i64 ((L : Int) + h))) ∧ Blk wx gc 52 #[.bool d0, .bool d1])
      case first =>
        go_region
        all_goals
          go_wp2_with fail
          go_meet
          exact ⟨(HF2.out.more h64 h).drew, (Blk.far HBC2.out hne _).drew⟩
      case rest =>
        obtain ⟨hf3, hb3⟩ := hcut
        have HF3 := Lib.hid hf3
        have e64 := (hf3.blk.cell 64).trans hf3.c64
        have e65 := (hf3.blk.cell 65).trans hf3.c65
        have e66 := (hf3.blk.cell 66).trans hf3.c66
        have f64 := hf3.blk.frozen 64
        have f65 := hf3.blk.frozen 65
        have f66 := hf3.blk.frozen 66
        have n0 := hb3.cell 0
        have n1 := hb3.cell 1
        simp at n0 n1
        clear hf3 hb3
        go_wp2
        go_end0
        have hN := HF3.out.next d0 d1 HCA.out
        have hW : [Value.int .u64 (U m0), .int .u64 (U m1), .int .u64 (U m2), .int .u64 (U m3), .int .u64 (U m4), .int .u64 (U m5), .int .u64 (U m6)] = (wordF G p h).toList := by rw [← HWA.out]
        rw [hW] at hN
        exact ⟨rfl, _, _, hN⟩
/-- with nothing in the buffer: nothing turns -/
theorem flush_none (w0 wr : World) (g : Nat) (G : Nat → Int) (p q L : Nat) (R : List Value) (v : Value) (cs : Array Value) (f : FilAt w0 wr g G p 0 q L R v cs) :
    Calls Tryd.prog 24 #[.pointer (some ⟨g, 0, none⟩)] wr fun e w' => e = .returned (.tuple #[]) ∧ wr = w' := by
  have c64 : wr.cell? ⟨g, 64, none⟩ = some (.int .i64 0) := (f.blk.cell 64).trans f.c64
  clear f
  go_enter Tryd.func24, Tryd.ntmps24
  go_wp2
  refine bodyPost_ret (results_none rfl _ _ _) rfl ?_
  exact ⟨rfl, rfl⟩
end Go.Proofs.YtmbiolhecheplaaDoor
