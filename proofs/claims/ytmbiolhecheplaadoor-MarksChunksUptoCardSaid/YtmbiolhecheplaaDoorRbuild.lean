/-
  The reference's Build of layer 7: what each call returns: the index, word by word, in memory of its own. For all bytes up to 2^47; what was there stays as it is.
-/
import Derived.Test.YtmbiolhecheplaaDoorMarks
import Derived.Deep.RegionHeld3
import Derived.Deep.DeepCutAuto
namespace Go.Proofs.YtmbiolhecheplaaDoor
open Go.RowKit

/-- the reference's Scan of a piece: the word, and what is carried behind it -/
theorem rscan_piece (b off n p cp gk : Nat) (G : Nat → Int) (wr : World) (q : Nat) (hp : p = 64 * q) (hlt : p < n) (hb : BS wr (some ⟨b, off, none⟩) (n - p) (fun i => G (p + i))) (hk : Blk wr gk 52 (carry p G false false)) : ∃ (m0 m1 m2 m3 m4 m5 m6 : BitVec 64) (c0 c1 : Bool),
    (∀ W : World, Below wr.heap.size wr W → Calls Tryd.prog 25 #[.slice (some ⟨b, off, none⟩) (n - p) (cp - p), .agg #[.bool (Lo.so G false p), .bool (Lo.si G false false p)]] W fun e w' => e = .returned (.tuple #[.agg #[.int .u64 (U m0), .int .u64 (U m1), .int .u64 (U m2), .int .u64 (U m3), .int .u64 (U m4), .int .u64 (U m5), .int .u64 (U m6)], .agg #[.bool c0, .bool c1]]) ∧ Below W.heap.size W w' ∧ w'.cell? ⟨gk, 0, none⟩ = some (.bool (Lo.so G false p)) ∧ w'.cell? ⟨gk, 1, none⟩ = some (.bool (Lo.si G false false p))) ∧
    [Value.int .u64 (U m0), .int .u64 (U m1), .int .u64 (U m2), .int .u64 (U m3), .int .u64 (U m4), .int .u64 (U m5), .int .u64 (U m6)] = (wordA G n q).toList ∧ #[.bool c0, .bool c1] = carry (p + min 64 (n - p)) G false false := by
  subst hp
  have hsc : ∀ W : World, Below wr.heap.size wr W → Calls Tryd.prog 25 #[.slice (some ⟨b, off, none⟩) (n - 64 * q) (cp - 64 * q), .agg #[.bool (Lo.so G false (64 * q)), .bool (Lo.si G false false (64 * q))]] W fun e w' => ScanIs (n - 64 * q) (fun i => G (64 * q + i)) (Lo.so G false (64 * q)) (Lo.si G false false (64 * q)) W e w' ∧ w'.cell? ⟨gk, 0, none⟩ = some (.bool (Lo.so G false (64 * q))) ∧ w'.cell? ⟨gk, 1, none⟩ = some (.bool (Lo.si G false false (64 * q))) := fun W hW =>
    (rscan_any _ (n - 64 * q) (cp - 64 * q) _ _ _ W (hb.below hW)).mono fun e w' h => ⟨h, (((hk.kept hW).kept h.2).cell 0).trans rfl, (((hk.kept hW).kept h.2).cell 1).trans rfl⟩
  refine ⟨_, _, _, _, _, _, _, _, _, fun W hW => (hsc W hW).mono fun _ _ h => ⟨h.1.1, h.1.2, h.2⟩, rfl, ?_⟩
  exact carry_shift G (64 * q) (min 64 (n - 64 * q))

/-- What lies in memory at a round's head. -/
structure RbSt (w wr : World) (G : Nat → Int) (n q : Nat) (v : Value) : Prop where
  bel : Below w.heap.size w wr
  b0 : Blk wr w.heap.size 27 #[.slice none 0 0, .int .i64 0]
  b1 : Blk wr (w.heap.size + 1) 27 #[v, .int .i64 n]
  b2 : Blk wr (w.heap.size + 1 + 1) 52 (carry (min (64 * q) n) G false false)
  own : wr.ownsRow (w.heap.size + 1 + 1 + 1) 45 7 v q (wordsL G n q)
theorem RbSt.kept {w wr wx : World} {G : Nat → Int} {n q : Nat} {v : Value} (h : RbSt w wr G n q v) (hb : Below wr.heap.size wr wx) : RbSt w wx G n q v :=
  ⟨h.bel.trans (hb.mono h.bel.size), h.b0.kept hb, h.b1.kept hb, h.b2.kept hb, own_below h.own hb⟩
theorem RbSt.push {w wc w2 : World} {G : Nat → Int} {n q : Nat} {v v' d0 d1 : Value} {o : Obj} {R : List Value} (h : RbSt w wc G n q v) (ho : w2.ownsRow (w.heap.size + 1 + 1 + 1) 45 7 v' (q + 1) R) (hR : R = wordsL G n (q + 1))
    (hg : (wc.alloc o).grownBy w2 v.ownBlock) (hc : #[d0, d1] = carry (min (64 * (q + 1)) n) G false false) :
    RbSt w (((w2.setCell ⟨w.heap.size + 1, 0, none⟩ v').setCell ⟨w.heap.size + 1 + 1, 0, none⟩ d0).setCell ⟨w.heap.size + 1 + 1, 1, none⟩ d1) G n (q + 1) v' := by
  have hne : ∀ k, k < w.heap.size + 1 + 1 + 1 → some k ≠ v.ownBlock := fun k hk e => by have := (h.own.lt k e.symm).1; omega
  have hl0 := h.b0.lt
  subst hR
  exact {
    bel := (((below_row (h.bel.alloc h.bel.size o) (by omega) (h.own.alloc o) hg).setCell (by simp) _).setCell (by simp; omega) _).setCell (by simp; omega) _
    b0 := (((((h.b0.alloc o).grownS hg (hne _ (by omega))).far (by simp) _).far (by simp; omega) _).far (by simp; omega) _)
    b1 := ((((((h.b1.alloc o).grownS hg (hne _ (by omega))).set_ 0 v').far (by simp) _).far (by simp) _)).is (by simp)
    b2 := (((((h.b2.alloc o).grownS hg (hne _ (by omega))).far (by simp) _).set_ 0 d0).set_ 1 d1).is (by rw [← hc]; simp [carry])
    own := own_setLow (own_setLow (own_setLow ho (by omega) 0 v') (by omega) 0 d0) (by omega) 1 d1 }

theorem bel_of2 {W wr w1 : World} (h : Below wr.heap.size wr W) (hb1 : Below W.heap.size W w1) : Below wr.heap.size wr w1 := h.trans (hb1.mono h.size)

set_option maxRecDepth 100000 in
set_option maxHeartbeats 2000000 in
theorem rbuild_any (A : Option Addr) (n cp : Nat) (G : Nat → Int) (w : World) (hb : BS w A n G) (hn : n ≤ 140737488351232) (hcp : n ≤ cp) (_hcm : cp ≤ 9223372036854775807) :
    Calls Tryd.prog 13 #[.slice A n cp] w (IndexIs G n w) := by
  obtain ⟨i0, hi, hz0, hz1, hz2⟩ := info_parts masks_info
  have HB := Lib.hid hb
  have hnI : (n : Int) ≤ 140737488351232 := by omega
  clear hb
  go_enter Tryd.func13, Tryd.ntmps13
  go_wp2
  go_loopw [5] (fun k wr => ∃ q p : Nat, q ≤ nwords n ∧ p = 64 * q ∧ k = .int .i64 p ∧ ∃ v, RbSt w wr G n q v) (fun k _ => nwords n * 64 - (intOf k).toNat)
  case atStart =>
    exact ⟨0, 0, Nat.zero_le _, rfl, rfl, .slice none 0 0, ⟨by go_grown, ((Blk.newAt _ _ _ rfl).alloc _).alloc _, (Blk.newAt _ _ _ (by simp)).alloc _, (Blk.newAt _ _ _ (by simp)).is (by rw [show min (64 * 0) n = 0 from by omega]; rfl), World.ownsRow_nil _ _ _ _⟩⟩
  case round =>
    obtain ⟨q, p, hq, hp, rfl, v, hst⟩ := hrel
    have HP := Lib.hid hp
    have HST := Lib.hid hst
    by_cases hlt : p < n
    · have hqn : q < nwords n := by unfold nwords; omega
      have hmin : min (64 * q) n = p := by omega
      have hb2 := hst.b2
      rw [hmin] at hb2
      obtain ⟨b, off, rfl, hc⟩ := HB.out.resolve_left (by omega)
      have hcpp : ¬ cp = p := by omega
      have hb3 : BS wr (some ⟨b, off + p, none⟩) (n - p) (fun i => G (p + i)) := .inr ⟨b, off + p, rfl, fun i hi => by
        have h := hc (p + i) (by omega)
        rw [Nat.add_assoc, ← h]
        exact hst.bel.cell (p := ⟨b, off + (p + i), none⟩) (World.block_lt_of_cell? _ _ h)⟩
      have c0 := hb2.cell 0
      have c1 := hb2.cell 1
      simp only [carry] at c0 c1
      simp at c0 c1
      have l0 := hst.b2.lt
      have e0 : wr.heap.size ≠ w.heap.size + 1 + 1 := by omega
      have e1 : wr.heap.size ≠ w.heap.size + 1 := by omega
      have l2 : ((p : Nat) : Int) < (n : Int) := by omega
      have l3 : (0 : Int) ≤ (p : Int) := by omega
      have l4 : (p : Int) ≤ (n : Int) := by omega
      have l5 : p ≤ n := by omega
      obtain ⟨m0, m1, m2, m3, m4, m5, m6, d0, d1, hsc, hwa, hca⟩ := rscan_piece b (off + p) n p cp (w.heap.size + 1 + 1) G wr q HP.out (by omega) hb3 hb2
      have HSC := Lib.hid hsc
      have HWA := Lib.hid hwa
      have HCA := Lib.hid hca
      have hbq : p ≤ 140737488351232 := by omega
      have hbqI : (p : Int) ≤ 140737488351232 := by omega
      clear hsc hwa hca hc hb3 hb2 hst hp hmin
      go_upto_region 6 with (fail)
      go_cut [6, 7] (fun s6 s7 wx => ∃ gm gc : Nat, s6 = .pointer (some ⟨gm, 0, none⟩) ∧ s7 = .pointer (some ⟨gc, 0, none⟩) ∧ (wr.heap.size ≤ gm ∧ wr.heap.size ≤ gc) ∧ Blk wx gm 45 #[.int .u64 (U m0), .int .u64 (U m1), .int .u64 (U m2), .int .u64 (U m3), .int .u64 (U m4), .int .u64 (U m5), .int .u64 (U m6)] ∧ Blk wx gc 52 #[.bool d0, .bool d1] ∧ Below wr.heap.size wr wx)
      case first =>
        go_region_held3 (fun w' => w'.cell? ⟨w.heap.size + 1 + 1, 0, none⟩ = some (.bool (Lo.so G false p)) ∧ w'.cell? ⟨w.heap.size + 1 + 1, 1, none⟩ = some (.bool (Lo.si G false false p))) (go_keep)
          (first | (go_at_call 25; refine (HSC.out _ ?_).mono ?_; (first | (with_reducible exact belowN (Below.refl _ _) _) | (with_reducible exact belowN (Below.alloc (Below.refl _ _) (Nat.le_refl _) _) _) | (with_reducible exact Below.drew (Below.refl _ _)) | (with_reducible exact Below.drew (Below.alloc (Below.refl _ _) (Nat.le_refl _) _)) | (with_reducible exact Below.refl _ _) | (focus (go_grown; done))); rintro e w1 ⟨rfl, hb1, s64, s65⟩; obtain ⟨hq1, hq2⟩ := bcell hb1; have hz := hb1.size; (try simp at hz); (try (have hz1 : wr.heap.size < w1.heap.size := by omega)); (try (have hz2 : wr.heap.size + 1 < w1.heap.size := by omega)); (try (have hz3 : wr.heap.size ≠ w1.heap.size := by omega)); (try (have hz4 : wr.heap.size + 1 ≠ w1.heap.size := by omega)); (try (have hz5 : w1.heap.size ≠ wr.heap.size := by omega)); (try (have hz6 : w1.heap.size ≠ wr.heap.size + 1 := by omega)); (try (have hz7 : w.heap.size + 1 + 1 ≠ w1.heap.size := by omega)); (try (have hz8 : w.heap.size + 1 + 1 ≠ w1.heap.size + 1 := by omega)); (try (have hz9 : w1.heap.size ≠ w.heap.size + 1 + 1 := by omega)); (try (have hz10 : w1.heap.size + 1 ≠ w.heap.size + 1 + 1 := by omega))))
        all_goals
          go_wp2_with fail
          go_meet
        · have hB : Below wr.heap.size wr w1 := bel_of (Below.drew (Below.refl _ _)) hb1
          have hZ := hB.size
          exact ⟨_, _, rfl, rfl, ⟨by omega, by omega⟩, (Blk.newAt _ _ _ rfl).alloc _, Blk.newAt _ _ _ (by simp), (hB.alloc hZ _).alloc (by simp; omega) _⟩
        · have hB : Below wr.heap.size wr w1 := bel_of (Below.drew (Below.refl _ _)) hb1
          have hZ := hB.size
          exact ⟨_, _, rfl, rfl, ⟨by omega, by omega⟩, Blk.newAt _ _ _ (by simp), (Blk.newAt _ _ _ rfl).alloc _, (hB.alloc hZ _).alloc (by simp; omega) _⟩
        · have hB : Below wr.heap.size wr w1 := bel_of (Below.drew ((Below.refl _ _).alloc (Nat.le_refl _) _)) hb1
          have hZ := hB.size
          exact ⟨_, _, rfl, rfl, ⟨by omega, by omega⟩, (blk7 _ _ _ _ _ _ _ (Blk.kept (Blk.newAt _ _ _ rfl).drew hb1)).alloc _, Blk.newAt _ _ _ (by simp), (below7 _ _ _ _ _ _ _ hB (Nat.le_refl _)).alloc (by simp; omega) _⟩
        · have hB : Below wr.heap.size wr w1 := bel_of (Below.drew (((Below.refl _ _).alloc (Nat.le_refl _) _).alloc (by simp) _)) hb1
          have hZ := hB.size
          exact ⟨_, _, rfl, rfl, ⟨by omega, by omega⟩, far2 _ _ (blk7 _ _ _ _ _ _ _ (Blk.kept ((Blk.newAt _ _ _ rfl).alloc _).drew hb1)) (by omega), blk2 _ _ (far7 _ _ _ _ _ _ _ (Blk.kept (Blk.newAt _ _ _ (by simp)).drew hb1) (by omega)), below2 _ _ (below7 _ _ _ _ _ _ _ hB (Nat.le_refl _)) (by omega)⟩
        · have hB : Below wr.heap.size wr w1 := bel_of (Below.drew ((Below.refl _ _).alloc (Nat.le_refl _) _)) hb1
          have hZ := hB.size
          exact ⟨_, _, rfl, rfl, ⟨by omega, by omega⟩, Blk.newAt _ _ _ (by simp), (blk2 _ _ (Blk.kept (Blk.newAt _ _ _ rfl).drew hb1)).alloc _, (below2 _ _ hB (Nat.le_refl _)).alloc (by simp; omega) _⟩
        · have hB : Below wr.heap.size wr w1 := bel_of (Below.drew (((Below.refl _ _).alloc (Nat.le_refl _) _).alloc (by simp) _)) hb1
          have hZ := hB.size
          exact ⟨_, _, rfl, rfl, ⟨by omega, by omega⟩, far2 _ _ (blk7 _ _ _ _ _ _ _ (Blk.kept (Blk.newAt _ _ _ (by simp)).drew hb1)) (by omega), blk2 _ _ (far7 _ _ _ _ _ _ _ (Blk.kept ((Blk.newAt _ _ _ rfl).alloc _).drew hb1) (by omega)), below2 _ _ (below7 _ _ _ _ _ _ _ hB (by omega)) (Nat.le_refl _)⟩
      case rest =>
        obtain ⟨gm, gc, rfl, rfl, ⟨hgm, hgc⟩, bm, bc, hbx⟩ := hcut
        have hst := HST.out.kept hbx
        have hfar : some gc ≠ v.ownBlock := fun e => by have := (HST.out.own.lt gc e.symm).2; omega
        have HSX := Lib.hid hst
        have HBC := Lib.hid bc
        have x0 := hst.b1.cell 0
        have x1 := hst.b1.cell 1
        simp at x0 x1
        have y0 := bm.cell 0
        have y1 := bm.cell 1
        have y2 := bm.cell 2
        have y3 := bm.cell 3
        have y4 := bm.cell 4
        have y5 := bm.cell 5
        have y6 := bm.cell 6
        simp at y0 y1 y2 y3 y4 y5 y6
        have hgc2 : gc < wc.heap.size := bc.lt
        have hl3 := hst.b2.lt
        have hbase : w.heap.size + 1 + 1 + 1 ≤ wc.heap.size := by omega
        have hqI : q + 1 ≤ 2199023255553 := by have := HP.out; omega
        clear hst bm bc c0 c1
        go_wp2_with (at_builtin; refine wpList_append_lies _ rfl (.tmp 27) (.tmp 29) 25 rfl (w.heap.size + 1 + 1 + 1) 45 i0 (.agg #[.int .u64 0, .int .u64 0, .int .u64 0, .int .u64 0, .int .u64 0, .int .u64 0, .int .u64 0]) 7 56 Tryd.underlying25 hi hz0 hz1 hz2 rfl (by decide) v q (wordsL G n q) rfl (HSX.out.own.alloc _) ⟨wc.heap.size, 0, none⟩ 1 1 [.int .u64 (U m0), .int .u64 (U m1), .int .u64 (U m2), .int .u64 (U m3), .int .u64 (U m4), .int .u64 (U m5), .int .u64 (U m6)] rfl rfl ?c1 ?c2 (by decide) ?c3 ?c4 ?c5 _ rfl ?_)
        case c1 => exact World.news_of_block (Blk.newAt _ _ _ (by simp))
        case c2 => intro u hu; simp at hu; rcases hu with rfl | rfl | rfl | rfl | rfl | rfl | rfl <;> rfl
        case c3 => unfold maxLen; omega
        case c4 => omega
        case c5 => simp; omega
        intro g' cap' w2 hown2 hgrow hat hlt2
        have hcx : #[Value.bool d0, Value.bool d1] = carry (min (64 * (q + 1)) n) G false false := by
          rw [HCA.out]; congr 1; have := HP.out; omega
        have hp2 := HSX.out.push hown2 (by rw [wordsL, HWA.out]) hgrow hcx
        have HPP := Lib.hid hp2
        have hne : ∀ k, k < w.heap.size + 1 + 1 + 1 → some k ≠ v.ownBlock := fun k hk e => by have := (HSX.out.own.lt k e.symm).1; omega
        have z1 := (HSX.out.b1.alloc (.cells #[.int .u64 (U m0), .int .u64 (U m1), .int .u64 (U m2), .int .u64 (U m3), .int .u64 (U m4), .int .u64 (U m5), .int .u64 (U m6)] 45)).grownS hgrow (hne _ (by omega))
        have z2 := (HSX.out.b2.alloc (.cells #[.int .u64 (U m0), .int .u64 (U m1), .int .u64 (U m2), .int .u64 (U m3), .int .u64 (U m4), .int .u64 (U m5), .int .u64 (U m6)] 45)).grownS hgrow (hne _ (by omega))
        have z3 := (HBC.out.alloc (.cells #[.int .u64 (U m0), .int .u64 (U m1), .int .u64 (U m2), .int .u64 (U m3), .int .u64 (U m4), .int .u64 (U m5), .int .u64 (U m6)] 45)).grownS hgrow hfar
        have k10 := z1.cell 0
        have f10 := z1.frozen 0
        have k20 := z2.cell 0
        have k21 := z2.cell 1
        have f20 := z2.frozen 0
        have f21 := z2.frozen 1
        have k30 := z3.cell 0
        have k31 := z3.cell 1
        simp only [carry] at k20 k21
        simp at k10 k20 k21 k30 k31
        have hd1 : gc ≠ w.heap.size + 1 := by omega
        have hd2 : gc ≠ w.heap.size + 1 + 1 := by omega
        have hd3 : w.heap.size + 1 ≠ gc := by omega
        have hd4 : w.heap.size + 1 + 1 ≠ gc := by omega
        clear hown2 hgrow hat hp2 z1 z2 z3 hcx x0 x1 y0 y1 y2 y3 y4 y5 y6 hne
        go_wp2
        go_roundw
        case rel => exact ⟨q + 1, p + 64, hqn, by have := HP.out; omega, by go_num, _, HPP.out⟩
        case measure => simp [intOf]; have := HP.out; omega
    · have hnl : ¬ ((p : Int) < (n : Int)) := by omega
      obtain rfl : q = nwords n := by unfold nwords at *; omega
      obtain ⟨A', cp', rfl, hcp', _⟩ := ws_of_own hst.own
      have x0 := hst.b1.cell 0
      have x1 := hst.b1.cell 1
      have r0 := hst.b0.cell 0
      have r1 := hst.b0.cell 1
      have f0 := hst.b0.frozen 0
      have f1 := hst.b0.frozen 1
      simp at x0 x1 r0 r1
      clear hst hp
      go_wp2
      obtain ⟨A2, cp2, e2, _, hws⟩ := ws_of_own (own_setLow (own_setLow HST.out.own (show w.heap.size < w.heap.size + 1 + 1 + 1 by omega) 0 (.slice A' (nwords n) cp')) (show w.heap.size < w.heap.size + 1 + 1 + 1 by omega) 1 (.int .i64 n))
      obtain ⟨rfl, rfl⟩ : A' = A2 ∧ cp' = cp2 := by simpa using e2
      refine bodyPost_ret (v := .agg #[.slice A' (nwords n) cp', .int .i64 n]) (by simp [results, Tryd.results13, go_sem, r0, r1]) rfl ⟨A', cp', rfl, hcp', hws, ?_⟩
      exact (HST.out.bel.setCell (Nat.le_refl _) _).setCell (Nat.le_refl _) _
end Go.Proofs.YtmbiolhecheplaaDoor
