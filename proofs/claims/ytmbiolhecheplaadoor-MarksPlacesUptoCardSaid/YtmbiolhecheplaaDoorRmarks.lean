/-
  The reference's Marks: what a call returns: the marks of a text, one by one. For all texts of up to 2^42 bytes; what was there stays as it is.
-/
import Derived.Test.YtmbiolhecheplaaDoorOrd
import Derived.Test.YtmbiolhecheplaaDoorMarks
import Derived.Test.YtmbiolhecheplaaDoorStep
import Derived.Deep.RegionHeld3
import Derived.Deep.DeepCutAuto
namespace Go.Proofs.YtmbiolhecheplaaDoor
open Go.RowKit

/-! What a Step's answer says of a place. -/
theorem what_quo (G : Nat → Int) (j : Nat) (h : Lm.quo G j = true) : what (G j) (Lo.so G false j) (Lo.si G false false j) = 113 := by
  have e : (G j == 34 && !(Lo.so G false j)) = true := h
  unfold what
  rw [if_pos e]
theorem what_rest (G : Nat → Int) (j : Nat) (h : Lm.quo G j = false) : what (G j) (Lo.so G false j) (Lo.si G false false j) = if Lm.inn G j then 0 else if G j == 91 || G j == 123 then 111 else if G j == 93 || G j == 125 then 99 else if G j == 58 || G j == 44 then G j else if G j == 32 || G j == 9 || G j == 10 || G j == 13 then 32 else 0 := by
  have e : ¬ (G j == 34 && !(Lo.so G false j)) = true := by
    have : (G j == 34 && !(Lo.so G false j)) = false := h
    rw [this]; simp
  have e2 : Lm.inn G j = Lo.si G false false j := by
    rw [Lm.si_succ, h]; simp
  unfold what
  rw [if_neg e, e2]
/-- a sign of structure: one of four kinds -/
theorem what_str (G : Nat → Int) (j : Nat) (h : Lm.quo G j = false) (hs : Lm.str G j = true) : (what (G j) (Lo.so G false j) (Lo.si G false false j) = 111 ∨ what (G j) (Lo.so G false j) (Lo.si G false false j) = 99 ∨ what (G j) (Lo.so G false j) (Lo.si G false false j) = 58 ∨ what (G j) (Lo.so G false j) (Lo.si G false false j) = 44) ∧ Lm.inn G j = false := by
  unfold Lm.str at hs
  have hi : Lm.inn G j = false := by
    cases hi : Lm.inn G j
    · rfl
    · rw [hi] at hs; simp at hs
  rw [hi] at hs
  have hc : Lm.stc (G j) = true := by simpa using hs
  rw [what_rest G j h, hi]
  refine ⟨?_, rfl⟩
  unfold Lm.stc at hc
  simp only [Bool.false_eq_true, if_false]
  by_cases h1 : (G j == 91 || G j == 123) = true
  · rw [if_pos h1]; exact .inl rfl
  · rw [if_neg h1]
    by_cases h2 : (G j == 93 || G j == 125) = true
    · rw [if_pos h2]; exact .inr (.inl rfl)
    · rw [if_neg h2]
      by_cases h3 : (G j == 58 || G j == 44) = true
      · rw [if_pos h3]
        rw [Bool.or_eq_true] at h3
        rcases h3 with h3 | h3
        · exact .inr (.inr (.inl (by simpa using h3)))
        · exact .inr (.inr (.inr (by simpa using h3)))
      · exfalso
        simp_all
/-- else: nothing, or a space -/
theorem what_none (G : Nat → Int) (j : Nat) (h : Lm.quo G j = false) (hs : Lm.str G j = false) : what (G j) (Lo.so G false j) (Lo.si G false false j) = (if Lm.inn G j then 0 else if Lm.spc (G j) then 32 else 0) := by
  rw [what_rest G j h]
  cases hi : Lm.inn G j
  · simp only [Bool.false_eq_true, if_false]
    unfold Lm.str at hs
    rw [hi] at hs
    have hc : Lm.stc (G j) = false := by simpa using hs
    unfold Lm.stc at hc
    have h1 : (G j == 91 || G j == 123) = false := by revert hc; cases (G j == 91 || G j == 123) <;> simp
    have h2 : (G j == 93 || G j == 125) = false := by revert hc; cases (G j == 93 || G j == 125) <;> simp
    have h3 : (G j == 58 || G j == 44) = false := by revert hc; cases (G j == 58) <;> cases (G j == 44) <;> simp
    rw [h1, h2, h3]
    simp only [Bool.false_eq_true, if_false]
    rfl
  · simp
/-! BEGIN WALK -/
/-- What lies in memory at a round's head. -/
structure RmSt (w wr : World) (c0 c1 : Bool) (v : Value) (L : List (Nat × Int)) : Prop where
  bel : Below w.heap.size w wr
  blk : Blk wr w.heap.size 52 #[.bool c0, .bool c1]
  own : wr.ownsRow (w.heap.size + 1) 33 2 v L.length (Lm.cells L)
theorem RmSt.kept {w wr wx : World} {c0 c1 : Bool} {v : Value} {L : List (Nat × Int)} (h : RmSt w wr c0 c1 v L) (hb : Below wr.heap.size wr wx) : RmSt w wx c0 c1 v L :=
  ⟨h.bel.trans (hb.mono h.bel.size), h.blk.kept hb, own_below h.own hb⟩
theorem RmSt.step {w wr : World} {c0 c1 : Bool} {v : Value} {L : List (Nat × Int)} (h : RmSt w wr c0 c1 v L) (d0 d1 : Bool) : RmSt w ((wr.setCell ⟨w.heap.size, 0, none⟩ (.bool d0)).setCell ⟨w.heap.size, 1, none⟩ (.bool d1)) d0 d1 v L where
  bel := (h.bel.setCell (Nat.le_refl _) _).setCell (Nat.le_refl _) _
  blk := ((h.blk.set_ 0 (.bool d0)).set_ 1 (.bool d1)).is (by simp)
  own := own_setLow (own_setLow h.own (by omega) 0 _) (by omega) 1 _
theorem RmSt.push {w wr w2 : World} {c0 c1 : Bool} {v : Value} {L : List (Nat × Int)} {g' cap n2 : Nat} {o : Obj} {p : Nat × Int} {xs : List Value} (h : RmSt w wr c0 c1 v L)
    (ho : w2.ownsRow (w.heap.size + 1) 33 2 (.slice (some ⟨g', 0, none⟩) n2 cap) n2 xs) (hn : n2 = L.length + 1) (hx : xs = Lm.cells L ++ [.int .i64 p.1, .int .u8 p.2]) (hg : (wr.alloc o).grownBy w2 v.ownBlock) :
    RmSt w w2 c0 c1 (.slice (some ⟨g', 0, none⟩) n2 cap) (L ++ [p]) where
  bel := below_row (h.bel.alloc h.bel.size o) (by omega) (h.own.alloc o) hg
  blk := (hg.block w.heap.size (h.blk.alloc o).lt (fun e => by have := (h.own.lt _ e.symm).1; omega)).trans (h.blk.alloc o)
  own := by rw [List.length_append, Lm.cells_snoc, ← hx, show L.length + [p].length = n2 from hn.symm]; exact ho
theorem rm_close {w wr : World} {v : Value} {G : Nat → Int} {j : Nat} {b : Bool} {L : List (Nat × Int)} (hz : Lm.zed G j = b) (hm : Lm.ml G (j + 1) = L) (h : RmSt w wr (Lo.so G false (j + 1)) (Lo.si G false false (j + 1)) v L) :
    Value.bool b = .bool (Lm.run G (j + 1)) ∧ RmSt w wr (Lo.so G false (j + 1)) (Lo.si G false false (j + 1)) v (Lm.ml G (j + 1)) := by
  rw [hm]
  exact ⟨by rw [Lm.run, hz], h⟩

set_option maxRecDepth 100000 in
set_option maxHeartbeats 4000000 in
theorem rmarks_any (A : Option Addr) (n cp : Nat) (G : Nat → Int) (w : World) (hb : BS w A n G) (hn : n ≤ 4398046511104) :
    Calls Tryd.prog 15 #[.slice A n cp] w fun e w' => ∃ v, e = .returned v ∧ w'.ownsRow (w.heap.size + 1) 33 2 v (Lm.ml G n).length (Lm.cells (Lm.ml G n)) ∧ Below w.heap.size w w' := by
  obtain ⟨i0, hi, hz0, hz1, hz2⟩ := info_parts mark_info
  have HB := Lib.hid hb
  have hnI : (n : Int) ≤ 4398046511104 := by omega
  clear hb
  go_enter Tryd.func15, Tryd.ntmps15
  go_wp2
  go_loopw [3, 5, 6] (fun s3 s5 s6 wr => ∃ j : Nat, s6 = .int .i64 j ∧ j ≤ n ∧ s5 = .bool (Lm.run G j) ∧ RmSt w wr (Lo.so G false j) (Lo.si G false false j) s3 (Lm.ml G j)) (fun _ _ s6 _ => n - (intOf s6).toNat)
  case atStart => exact ⟨0, rfl, Nat.zero_le _, rfl, ⟨by go_grown, Blk.newAt _ _ _ rfl, World.ownsRow_nil _ _ _ _⟩⟩
  case round =>
    obtain ⟨j, rfl, hjn, rfl, hst⟩ := hrel
    have HST := Lib.hid hst
    by_cases hlt : j < n
    · have hlI : (j : Int) < (n : Int) := by omega
      obtain ⟨b, off, rfl, hc⟩ := HB.out.resolve_left (by omega)
      have hcell : wr.cell? ⟨b, off + j, none⟩ = some (.int .u8 (G j)) := (hst.bel.cell (p := ⟨b, off + j, none⟩) (World.block_lt_of_cell? _ _ (hc j hlt))).trans (hc j hlt)
      have c0 := hst.blk.cell 0
      have c1 := hst.blk.cell 1
      simp at c0 c1
      have hb1 := World.block_lt_of_cell? _ _ (hc j hlt)
      simp only at hb1
      have l0 := hst.blk.lt
      have lb : b < wr.heap.size := by omega
      have lb2 : b ≠ wr.heap.size := by omega
      have lb3 : wr.heap.size ≠ b := by omega
      have lw2 : w.heap.size ≠ wr.heap.size := by omega
      have lw3 : wr.heap.size ≠ w.heap.size := by omega
      have hml := Lm.ml_len G j
      have hstep : ∀ W : World, Below wr.heap.size wr W → Calls Tryd.prog 26 #[.int .u8 (G j), .agg #[.bool (Lo.so G false j), .bool (Lo.si G false false j)]] W fun e w' => e = .returned (.tuple #[.int .u8 (what (G j) (Lo.so G false j) (Lo.si G false false j)), .bool (Lm.inn G j), .agg #[.bool (Lo.so G false (j + 1)), .bool (Lo.si G false false (j + 1))]]) ∧ Below W.heap.size W w' ∧
          w'.cell? ⟨b, off + j, none⟩ = some (.int .u8 (G j)) ∧ w'.cell? ⟨w.heap.size, 0, none⟩ = some (.bool (Lo.so G false j)) ∧ w'.cell? ⟨w.heap.size, 1, none⟩ = some (.bool (Lo.si G false false j)) := fun W hW =>
        (step_any (G j) (Lo.so G false j) (Lo.si G false false j) W).mono fun e w' hh => by
          have hW2 : Below wr.heap.size wr w' := hW.trans (hh.2.mono hW.size)
          refine ⟨?_, hh.2, (hW2.cell (p := ⟨b, off + j, none⟩) lb).trans hcell, (hW2.cell (p := ⟨w.heap.size, 0, none⟩) l0).trans c0, (hW2.cell (p := ⟨w.heap.size, 1, none⟩) l0).trans c1⟩
          rw [hh.1, nin_si]; rfl
      have HSTEP := Lib.hid hstep
      clear hstep hc hst
      go_upto_region 7 with (fail)
      go_cut [7, 8, 9] (fun s7 s8 s9 wx => ∃ gc : Nat, s7 = .int .u8 (what (G j) (Lo.so G false j) (Lo.si G false false j)) ∧ s8 = .bool (Lm.inn G j) ∧ s9 = .pointer (some ⟨gc, 0, none⟩) ∧ wr.heap.size ≤ gc ∧ Blk wx gc 52 #[.bool (Lo.so G false (j + 1)), .bool (Lo.si G false false (j + 1))] ∧ Below wr.heap.size wr wx)
      case first =>
        go_region_held3 (fun w' => w'.cell? ⟨b, off + j, none⟩ = some (.int .u8 (G j)) ∧ w'.cell? ⟨w.heap.size, 0, none⟩ = some (.bool (Lo.so G false j)) ∧ w'.cell? ⟨w.heap.size, 1, none⟩ = some (.bool (Lo.si G false false j))) (go_keep)
          (first | (go_at_call 26; refine (HSTEP.out _ ?_).mono ?_; (first | (with_reducible exact Below.drew (Below.refl _ _)) | (with_reducible exact Below.drew (Below.alloc (Below.refl _ _) (Nat.le_refl _) _)) | (focus (go_grown; done))); rintro e w1 ⟨rfl, hb1, s1, s2, s3⟩; obtain ⟨hq1, hq2⟩ := bcell hb1; have hz := hb1.size; (try simp at hz); (try (have hz1 : wr.heap.size < w1.heap.size := by omega)); (try (have hz3 : wr.heap.size ≠ w1.heap.size := by omega)); (try (have hz5 : w1.heap.size ≠ wr.heap.size := by omega)); (try (have hz7 : w.heap.size ≠ w1.heap.size := by omega)); (try (have hz9 : w1.heap.size ≠ w.heap.size := by omega)); (try (have hz11 : b ≠ w1.heap.size := by omega))))
        all_goals
          go_wp2_with fail
          go_meet
        · have hB : Below wr.heap.size wr w1 := bel_of (Below.drew (Below.refl _ _)) hb1
          exact ⟨_, rfl, rfl, rfl, hB.size, Blk.newAt _ _ _ rfl, hB.alloc hB.size _⟩
        · have hB : Below wr.heap.size wr w1 := bel_of (Below.drew ((Below.refl _ _).alloc (Nat.le_refl _) _)) hb1
          exact ⟨_, rfl, rfl, rfl, Nat.le_refl _, blk2 _ _ (Blk.kept (Blk.newAt _ _ _ rfl).drew hb1), below2 _ _ hB (Nat.le_refl _)⟩
      case rest =>
        obtain ⟨gc, rfl, rfl, rfl, hgc, bc, hbx⟩ := hcut
        have hst := HST.out.kept hbx
        have hfar : some gc ≠ u3.ownBlock := fun e => by have := (HST.out.own.lt gc e.symm).2; omega
        have HSX := Lib.hid hst
        have HBC := Lib.hid bc
        have hcell2 : wc.cell? ⟨b, off + j, none⟩ = some (.int .u8 (G j)) := (hbx.cell (p := ⟨b, off + j, none⟩) lb).trans hcell
        have x0 := hst.blk.cell 0
        have x1 := hst.blk.cell 1
        have fx0 := hst.blk.frozen 0
        have fx1 := hst.blk.frozen 1
        have n0 := bc.cell 0
        have n1 := bc.cell 1
        simp at x0 x1 n0 n1
        have hd1 : gc ≠ w.heap.size := by omega
        have hd2 : w.heap.size ≠ gc := by omega
        have hwl := hst.bel.size
        have hl9 : w.heap.size + 1 ≤ wc.heap.size := hst.blk.lt
        have bj : (j : Int) ≤ 4398046511104 := by omega
        clear hst bc hcell c0 c1 hbx HSTEP HST
        cases hq : Lm.quo G j
        · cases hs : Lm.str G j
          · rw [what_none G j hq hs]
            cases hin : Lm.inn G j
            · cases hx : Lm.spc (G j)
              · cases hr : Lm.run G j
                · have hx2 : (Lm.inn G j || Lm.spc (G j)) = false := by rw [hin, hx]; rfl
                  simp only [Bool.false_eq_true, if_false]
                  obtain ⟨hk, hz⟩ := Lm.kind_new hq hs hx2 hr
                  have HZ := Lib.hid hz
                  have HM := Lib.hid ((Lm.ml_push (by rw [hk]; decide)).trans (by rw [hk]))
                  clear hk hz
                  clear hx2 hq hs hin hx hr
                  go_wp2_with (at_builtin; refine wpList_append_lies _ rfl (.tmp 51) (.tmp 55) 30 rfl (w.heap.size + 1) 33 i0 (.agg #[.int .i64 0, .int .u8 0]) 2 16 Tryd.underlying30 hi hz0 hz1 hz2 rfl (by decide) u3 (Lm.ml G j).length _ rfl (HSX.out.own.alloc _) ⟨wc.heap.size, 0, none⟩ 1 1 [.int .i64 j, .int .u8 48] rfl rfl ?c1 ?c2 (by decide) ?c3 ?c4 ?c5 _ rfl ?_)
                  case c1 => exact World.news_of_block (Blk.newAt _ _ _ (by simp))
                  case c2 => intro u hu; simp at hu; rcases hu with rfl | rfl <;> rfl
                  case c3 => unfold maxLen; omega
                  case c4 => omega
                  case c5 => simp; omega
                  intro g' cap' w2 hown2 hgrow hat hlt2
                  have hp := HSX.out.push (p := (j, 48)) hown2 rfl rfl hgrow
                  have HPP := Lib.hid hp
                  have z2 := (HBC.out.alloc (.cells #[.int .i64 j, .int .u8 48] 33)).grownS hgrow hfar
                  have k30 := z2.cell 0
                  have k31 := z2.cell 1
                  have k20 := hp.blk.cell 0
                  have k21 := hp.blk.cell 1
                  have f20 := hp.blk.frozen 0
                  have f21 := hp.blk.frozen 1
                  simp at k20 k21 k30 k31
                  clear hown2 hgrow hat hp z2 n0 n1 x0 x1 fx0 fx1
                  go_wp2
                  go_roundw
                  case rel => exact ⟨j + 1, by go_num, by omega, rm_close HZ.out HM.out (HPP.out.step _ _)⟩
                  case measure => simp [intOf]; omega
                · have hx2 : (Lm.inn G j || Lm.spc (G j)) = false := by rw [hin, hx]; rfl
                  simp only [Bool.false_eq_true, if_false]
                  obtain ⟨hk, hz⟩ := Lm.kind_on hq hs hx2 hr
                  have HZ := Lib.hid hz
                  have HM := Lib.hid (Lm.ml_skip hk)
                  clear hk hz
                  clear hx2 hq hs hin hx hr
                  go_wp2
                  go_roundw
                  case rel => exact ⟨j + 1, by go_num, by omega, rm_close HZ.out HM.out (HSX.out.step _ _)⟩
                  case measure => simp [intOf]; omega
              · have hx2 : (Lm.inn G j || Lm.spc (G j)) = true := by rw [hin, hx]; rfl
                simp only [Bool.false_eq_true, if_false, if_true]
                obtain ⟨hk, hz⟩ := Lm.kind_none hq hs hx2
                have HZ := Lib.hid hz
                have HM := Lib.hid (Lm.ml_skip hk)
                clear hk hz
                clear hx2 hq hs hin hx
                go_wp2
                go_roundw
                case rel => exact ⟨j + 1, by go_num, by omega, rm_close HZ.out HM.out (HSX.out.step _ _)⟩
                case measure => simp [intOf]; omega
            · have hx2 : (Lm.inn G j || Lm.spc (G j)) = true := by rw [hin]; rfl
              simp only [if_true]
              obtain ⟨hk, hz⟩ := Lm.kind_none hq hs hx2
              have HZ := Lib.hid hz
              have HM := Lib.hid (Lm.ml_skip hk)
              clear hk hz
              clear hx2 hq hs hin
              go_wp2
              go_roundw
              case rel => exact ⟨j + 1, by go_num, by omega, rm_close HZ.out HM.out (HSX.out.step _ _)⟩
              case measure => simp [intOf]; omega
          · obtain ⟨hw, hin⟩ := what_str G j hq hs
            obtain ⟨hk, hk0, hz⟩ := Lm.kind_str hq hs
            have HZ := Lib.hid hz
            have HM := Lib.hid ((Lm.ml_push hk0).trans (by rw [hk]))
            have hgz : (G j != 0) = true := by rw [hk] at hk0; simpa using hk0
            clear hk hk0 hz hq hs
            rw [hin]
            clear hin
            rcases hw with hw | hw | hw | hw
            all_goals
              rw [hw]
              clear hw
              go_wp2_with (at_builtin; refine wpList_append_lies _ rfl (.tmp 51) (.tmp 55) 30 rfl (w.heap.size + 1) 33 i0 (.agg #[.int .i64 0, .int .u8 0]) 2 16 Tryd.underlying30 hi hz0 hz1 hz2 rfl (by decide) u3 (Lm.ml G j).length _ rfl (HSX.out.own.alloc _) ⟨wc.heap.size, 0, none⟩ 1 1 [.int .i64 j, .int .u8 (G j)] rfl rfl ?c1 ?c2 (by decide) ?c3 ?c4 ?c5 _ rfl ?_)
              case c1 => exact World.news_of_block (Blk.newAt _ _ _ (by simp))
              case c2 => intro u hu; simp at hu; rcases hu with rfl | rfl <;> rfl
              case c3 => unfold maxLen; omega
              case c4 => omega
              case c5 => simp; omega
              intro g' cap' w2 hown2 hgrow hat hlt2
              have hp := HSX.out.push (p := (j, (G j))) hown2 rfl rfl hgrow
              have HPP := Lib.hid hp
              have z2 := (HBC.out.alloc (.cells #[.int .i64 j, .int .u8 (G j)] 33)).grownS hgrow hfar
              have k30 := z2.cell 0
              have k31 := z2.cell 1
              have k20 := hp.blk.cell 0
              have k21 := hp.blk.cell 1
              have f20 := hp.blk.frozen 0
              have f21 := hp.blk.frozen 1
              simp at k20 k21 k30 k31
              clear hown2 hgrow hat hp z2 n0 n1 x0 x1 fx0 fx1
              go_wp2
              go_roundw
              case rel => exact ⟨j + 1, by go_num, by omega, rm_close HZ.out HM.out (HPP.out.step _ _)⟩
              case measure => simp [intOf]; omega
        · rw [what_quo G j hq]
          cases hin : Lm.inn G j
          · obtain ⟨hk, hz⟩ := Lm.kind_shut hq hin
            have HZ := Lib.hid hz
            have HM := Lib.hid (Lm.ml_skip hk)
            clear hk hz
            clear hq hin
            go_wp2
            go_roundw
            case rel => exact ⟨j + 1, by go_num, by omega, rm_close HZ.out HM.out (HSX.out.step _ _)⟩
            case measure => simp [intOf]; omega
          · obtain ⟨hk, hz⟩ := Lm.kind_open hq hin
            have HZ := Lib.hid hz
            have HM := Lib.hid ((Lm.ml_push (by rw [hk]; decide)).trans (by rw [hk]))
            clear hk hz
            clear hq hin
            go_wp2_with (at_builtin; refine wpList_append_lies _ rfl (.tmp 51) (.tmp 55) 30 rfl (w.heap.size + 1) 33 i0 (.agg #[.int .i64 0, .int .u8 0]) 2 16 Tryd.underlying30 hi hz0 hz1 hz2 rfl (by decide) u3 (Lm.ml G j).length _ rfl (HSX.out.own.alloc _) ⟨wc.heap.size, 0, none⟩ 1 1 [.int .i64 j, .int .u8 34] rfl rfl ?c1 ?c2 (by decide) ?c3 ?c4 ?c5 _ rfl ?_)
            case c1 => exact World.news_of_block (Blk.newAt _ _ _ (by simp))
            case c2 => intro u hu; simp at hu; rcases hu with rfl | rfl <;> rfl
            case c3 => unfold maxLen; omega
            case c4 => omega
            case c5 => simp; omega
            intro g' cap' w2 hown2 hgrow hat hlt2
            have hp := HSX.out.push (p := (j, 34)) hown2 rfl rfl hgrow
            have HPP := Lib.hid hp
            have z2 := (HBC.out.alloc (.cells #[.int .i64 j, .int .u8 34] 33)).grownS hgrow hfar
            have k30 := z2.cell 0
            have k31 := z2.cell 1
            have k20 := hp.blk.cell 0
            have k21 := hp.blk.cell 1
            have f20 := hp.blk.frozen 0
            have f21 := hp.blk.frozen 1
            simp at k20 k21 k30 k31
            clear hown2 hgrow hat hp z2 n0 n1 x0 x1 fx0 fx1
            go_wp2
            go_roundw
            case rel => exact ⟨j + 1, by go_num, by omega, rm_close HZ.out HM.out (HPP.out.step _ _)⟩
            case measure => simp [intOf]; omega
    · have hnl : ¬ ((j : Int) < (n : Int)) := by omega
      obtain rfl : j = n := by omega
      clear hst
      go_wp2
      go_ret
      exact ⟨u3, rfl, HST.out.own, HST.out.bel⟩
end Go.Proofs.YtmbiolhecheplaaDoor
