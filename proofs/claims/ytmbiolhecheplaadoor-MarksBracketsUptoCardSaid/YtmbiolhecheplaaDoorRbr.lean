/-
  The reference's Brackets and Pack: what a call returns: the brackets one by one; bits as words. For indexes of up to 2^20 words; what was there stays as it is.
-/
import Derived.Test.YtmbiolhecheplaaDoorOrd
import Derived.Test.YtmbiolhecheplaaDoorMarks
import Derived.Deep.RegionWith
import Derived.Deep.DeepCutAuto
import Derived.IntWalk
namespace Go.Proofs.YtmbiolhecheplaaDoor
open Go.RowKit

theorem bool_info : (Tryd.prog.info? 4).map (fun i => (i.zero, i.size, i.bytes)) = some (some (.bool false), 1, 1) := by kernel_rfl
/-- the brackets so far -/
structure BbSt (w wr : World) (ix : Array Value) (v : Value) (L : List Bool) : Prop where
  bel : Below w.heap.size w wr
  blk : Blk wr w.heap.size 27 ix
  own : wr.ownsRow (w.heap.size + 1) 4 1 v L.length (L.map Value.bool)
theorem BbSt.push {w wr w2 : World} {ix : Array Value} {v : Value} {L : List Bool} {g' cap n2 : Nat} {o : Obj} {p : Bool} {xs : List Value} (h : BbSt w wr ix v L)
    (ho : w2.ownsRow (w.heap.size + 1) 4 1 (.slice (some ⟨g', 0, none⟩) n2 cap) n2 xs) (hn : n2 = L.length + 1) (hx : xs = L.map Value.bool ++ [.bool p]) (hg : (wr.alloc o).grownBy w2 v.ownBlock) :
    BbSt w w2 ix (.slice (some ⟨g', 0, none⟩) n2 cap) (L ++ [p]) where
  bel := below_row (h.bel.alloc h.bel.size o) (by omega) (h.own.alloc o) hg
  blk := (hg.block w.heap.size (h.blk.alloc o).lt (fun e => by have := (h.own.lt _ e.symm).1; omega)).trans (h.blk.alloc o)
  own := by rw [List.length_append, List.map_append, show L.map Value.bool ++ [p].map Value.bool = xs from by rw [hx]; rfl, show L.length + [p].length = n2 from hn.symm]; exact ho
theorem brB_one {mw : Nat → Nat → BitVec 64} {q c : Nat} (hc : c < 64) {a b : Bool} (ha : (mw q 2).getLsbD c = a) (hb : (mw q 3).getLsbD c = b) : brB mw (64 * q + (c + 1)) = if (a || b) = true then brB mw (64 * q + c) ++ [a] else brB mw (64 * q + c) := by
  obtain ⟨h1, h2⟩ := isB_at mw q c hc
  have e : isB mw (64 * q + c) = (a || b) := by rw [h1, brW, BitVec.getLsbD_or, ha, hb]
  rw [show 64 * q + (c + 1) = (64 * q + c) + 1 from rfl, brB, e, h2, ha]

set_option maxRecDepth 100000 in
set_option maxHeartbeats 2000000 in
theorem rbrackets_any (A : Option Addr) (k cp : Nat) (mw : Nat → Nat → BitVec 64) (n : Int) (w : World) (hs : WS w A k mw) (hk : k ≤ 1048576) :
    Calls Tryd.prog 19 #[.agg #[.slice A k cp, .int .i64 n]] w fun e w' => ∃ v, e = .returned v ∧ w'.ownsRow (w.heap.size + 1) 4 1 v (brB mw (64 * k)).length ((brB mw (64 * k)).map Value.bool) ∧ Below w.heap.size w w' := by
  obtain ⟨i0, hi, hz0, hz1, hz2⟩ := info_parts bool_info
  have HS := Lib.hid hs
  have hkI : (k : Int) ≤ 1048576 := by omega
  clear hs
  go_enter Tryd.func19, Tryd.ntmps19
  go_wp2
  go_loopw [3, 4] (fun s3 s4 wr => ∃ q : Nat, s4 = .int .i64 q ∧ q ≤ k ∧ BbSt w wr #[.slice A k cp, .int .i64 n] s3 (brB mw (64 * q))) (fun _ s4 _ => k - (intOf s4).toNat)
  case atStart => exact ⟨0, rfl, Nat.zero_le _, (Below.refl _ _).alloc (Nat.le_refl _) _, Blk.newAt _ _ _ rfl, World.ownsRow_nil _ _ _ _⟩
  case round =>
    obtain ⟨q, rfl, hqk, hst⟩ := hrel
    have HST := Lib.hid hst
    have x0 := hst.blk.cell 0
    simp at x0
    by_cases hq : q < k
    · have hqI : (q : Int) < (k : Int) := by omega
      obtain ⟨b, off, rfl, hc⟩ := HS.out.resolve_left (by omega)
      have HCW : Hid (∀ W : World, Below w.heap.size w W → W.cell? ⟨b, off + q * 7 + 2, none⟩ = some (.int .u64 (U (mw q 2))) ∧ W.cell? ⟨b, off + q * 7 + 3, none⟩ = some (.int .u64 (U (mw q 3)))) := Lib.hid fun W hW =>
        ⟨(hW.cell (p := ⟨b, off + q * 7 + 2, none⟩) (World.block_lt_of_cell? _ _ (hc q hq 2 (by omega)))).trans (hc q hq 2 (by omega)), (hW.cell (p := ⟨b, off + q * 7 + 3, none⟩) (World.block_lt_of_cell? _ _ (hc q hq 3 (by omega)))).trans (hc q hq 3 (by omega))⟩
      clear hc hst
      go_wp2
      obtain ⟨wo, hwo⟩ : ∃ wo : World, wo = wr := ⟨_, rfl⟩
      rw [← hwo] at HST ⊢
      clear hwo x0
      go_loopw [3, 5] (fun s3 s5 wx => ∃ c : Nat, s5 = .int .i64 c ∧ c ≤ 64 ∧ BbSt w wx #[.slice (some ⟨b, off, none⟩) k cp, .int .i64 n] s3 (brB mw (64 * q + c))) (fun _ s5 _ => 64 - (intOf s5).toNat)
      case atStart => exact ⟨0, rfl, by omega, HST.out⟩
      case round =>
        obtain ⟨c, rfl, hc64, hst⟩ := hrel
        have HST2 := Lib.hid hst
        have x0 := hst.blk.cell 0
        simp at x0
        have hln := brB_len mw (64 * q + c)
        obtain ⟨d2, d3⟩ := HCW.out _ hst.bel
        have hsz := hst.blk.lt
        clear hst
        by_cases hlt : c < 64
        · have hcI : (c : Int) < 64 := by omega
          cases ha : (mw q 2).getLsbD c <;> cases hb : (mw q 3).getLsbD c
          all_goals
            have HN := Lib.hid (brB_one hlt ha hb)
            go_wp2_with fail
            refine (has_any (mw q 2) c (by omega) _).mono ?_
            rintro e w' ⟨rfl, rfl⟩
            rw [ha]
            go_wp2_with fail
            refine (has_any (mw q 3) c (by omega) _).mono ?_
            rintro e w' ⟨rfl, rfl⟩
            rw [hb]
          · clear ha hb
            go_wp2
            go_roundw
            case rel => exact ⟨c + 1, by go_num, by omega, by rw [HN.out]; exact HST2.out⟩
            case measure => simp [intOf]; omega
          · clear ha hb
            go_wp2_with (at_builtin; refine wpList_append_lies _ rfl (.tmp 39) (.tmp 41) 39 rfl (w.heap.size + 1) 4 i0 (.bool false) 1 1 Tryd.underlying39 hi hz0 hz1 hz2 rfl (by decide) u3 (brB mw (64 * q + c)).length _ rfl (HST2.out.own.alloc _) ⟨wr.heap.size, 0, none⟩ 1 1 [.bool false] rfl rfl ?c1 ?c2 (by decide) ?c3 ?c4 ?c5 _ rfl ?_)
            case c1 => exact World.news_of_block (Blk.newAt _ _ _ (by simp))
            case c2 => intro u hu; simp at hu; subst hu; rfl
            case c3 => unfold maxLen; omega
            case c4 => omega
            case c5 => simp; omega
            intro g' cap' w2 hown2 hgrow hat hlt2
            have HPP := Lib.hid (HST2.out.push (p := false) hown2 rfl rfl hgrow)
            clear hown2 hgrow hat x0 d2 d3
            go_wp2
            go_roundw
            case rel => exact ⟨c + 1, by go_num, by omega, by rw [HN.out]; exact HPP.out⟩
            case measure => simp [intOf]; omega
          · clear ha hb
            go_wp2_with (at_builtin; refine wpList_append_lies _ rfl (.tmp 39) (.tmp 41) 39 rfl (w.heap.size + 1) 4 i0 (.bool false) 1 1 Tryd.underlying39 hi hz0 hz1 hz2 rfl (by decide) u3 (brB mw (64 * q + c)).length _ rfl (HST2.out.own.alloc _) ⟨wr.heap.size, 0, none⟩ 1 1 [.bool true] rfl rfl ?c1 ?c2 (by decide) ?c3 ?c4 ?c5 _ rfl ?_)
            case c1 => exact World.news_of_block (Blk.newAt _ _ _ (by simp))
            case c2 => intro u hu; simp at hu; subst hu; rfl
            case c3 => unfold maxLen; omega
            case c4 => omega
            case c5 => simp; omega
            intro g' cap' w2 hown2 hgrow hat hlt2
            have HPP := Lib.hid (HST2.out.push (p := true) hown2 rfl rfl hgrow)
            clear hown2 hgrow hat x0 d2 d3
            go_wp2
            go_roundw
            case rel => exact ⟨c + 1, by go_num, by omega, by rw [HN.out]; exact HPP.out⟩
            case measure => simp [intOf]; omega
          · clear ha hb
            go_wp2_with (at_builtin; refine wpList_append_lies _ rfl (.tmp 39) (.tmp 41) 39 rfl (w.heap.size + 1) 4 i0 (.bool false) 1 1 Tryd.underlying39 hi hz0 hz1 hz2 rfl (by decide) u3 (brB mw (64 * q + c)).length _ rfl (HST2.out.own.alloc _) ⟨wr.heap.size, 0, none⟩ 1 1 [.bool true] rfl rfl ?c1 ?c2 (by decide) ?c3 ?c4 ?c5 _ rfl ?_)
            case c1 => exact World.news_of_block (Blk.newAt _ _ _ (by simp))
            case c2 => intro u hu; simp at hu; subst hu; rfl
            case c3 => unfold maxLen; omega
            case c4 => omega
            case c5 => simp; omega
            intro g' cap' w2 hown2 hgrow hat hlt2
            have HPP := Lib.hid (HST2.out.push (p := true) hown2 rfl rfl hgrow)
            clear hown2 hgrow hat x0 d2 d3
            go_wp2
            go_roundw
            case rel => exact ⟨c + 1, by go_num, by omega, by rw [HN.out]; exact HPP.out⟩
            case measure => simp [intOf]; omega
        · have hcI : ¬ ((c : Int) < 64) := by omega
          obtain rfl : c = 64 := by omega
          go_wp2
          go_roundw
          case rel => exact ⟨q + 1, by go_num, by omega, HST2.out⟩
          case measure => simp [intOf]; omega
    · have hqI : ¬ ((q : Int) < (k : Int)) := by omega
      obtain rfl : q = k := by omega
      clear hst
      go_wp2
      go_ret
      exact ⟨u3, rfl, HST.out.own, HST.out.bel⟩

/-! Pack -/
/-- a slice of bools -/
def BoS (w : World) (A : Option Addr) (n : Nat) (f : Nat → Bool) : Prop := n = 0 ∨ ∃ b off, A = some ⟨b, off, none⟩ ∧ ∀ i, i < n → w.cell? ⟨b, off + i, none⟩ = some (.bool (f i))
theorem with_pack (bs : List Bool) (on : Bool) (w : World) :
    Calls Tryd.prog 30 #[.int .u64 (U (packW bs (bs.length / 64))), .int .i64 ((bs.length % 64 : Nat) : Int), .bool on] w fun e w' => e = .returned (.int .u64 (U (packW (bs ++ [on]) (bs.length / 64)))) ∧ w = w' := by
  cases on
  · refine (with_off _ _ w).mono fun e w' ⟨he, hw⟩ => ⟨he.trans ?_, hw⟩
    rw [pack_false]
  · refine (with_on _ _ (by omega) w).mono fun e w' ⟨he, hw⟩ => ⟨he.trans ?_, hw⟩
    rw [pack_true, BitVec.add_eq_or_of_and_eq_zero]
    apply Lo.ext64
    intro j hj
    rw [BitVec.getLsbD_and, Lo.one_shl _ j hj, BitVec.getLsbD_zero]
    by_cases h : j = bs.length % 64
    · subst h
      rw [pack_bit _ _ _ hj, show 64 * (bs.length / 64) + bs.length % 64 = bs.length from by omega, List.getD_eq_getElem?_getD, List.getElem?_eq_none (Nat.le_refl _)]; rfl
    · simp [h]
/-- a bit more in a word that stands -/
theorem brRow_put (bs : List Bool) (on : Bool) : (brRow (bs ++ [false])).set (bs.length / 64) (.int .u64 (U (packW (bs ++ [on]) (bs.length / 64)))) = brRow (bs ++ [on]) := by
  cases on
  · apply List.ext_getElem?
    intro q
    rw [List.getElem?_set]
    by_cases hq : bs.length / 64 = q
    · subst hq
      have : bs.length / 64 < bwords (bs ++ [false]).length := by unfold bwords; simp; omega
      unfold brRow
      simp only [if_true, List.length_map, List.length_range, this, List.getElem?_map, List.getElem?_range, Option.map_some]
    · rw [if_neg hq]
  · rw [pack_true]
    exact brRow_flip bs

/-- the words so far -/
structure PkSt (w wr : World) (v : Value) (L : List Value) (nl : Nat) : Prop where
  bel : Below w.heap.size w wr
  own : wr.ownsRow w.heap.size 42 1 v nl L
theorem PkSt.push {w wr w2 : World} {v v' : Value} {L L2 : List Value} {nl n2 : Nat} {o : Obj} (h : PkSt w wr v L nl) (ho : w2.ownsRow w.heap.size 42 1 v' n2 L2) (hg : (wr.alloc o).grownBy w2 v.ownBlock) : PkSt w w2 v' L2 n2 :=
  ⟨below_row (h.bel.alloc h.bel.size o) (Nat.le_refl _) (h.own.alloc o) hg, ho⟩
theorem PkSt.store {w wr : World} {L : List Value} {nl g' cap : Nat} (h : PkSt w wr (.slice (some ⟨g', 0, none⟩) nl cap) L nl) (j : Nat) (u : Value) :
    PkSt w (wr.setCell ⟨g', j, none⟩ u) (.slice (some ⟨g', 0, none⟩) nl cap) (L.set j u) nl where
  bel := below_row h.bel (Nat.le_refl _) h.own (h.own.stored j u).2
  own := (h.own.stored j u).1
theorem PkSt.drew {w wr : World} {v : Value} {L : List Value} {nl : Nat} (h : PkSt w wr v L nl) : PkSt w wr.drew v L nl := ⟨h.bel.drew, h.own⟩

set_option maxRecDepth 100000 in
set_option maxHeartbeats 2000000 in
theorem pack_any (A : Option Addr) (n cp : Nat) (bs : List Bool) (w : World) (hl : bs.length = n) (hs : BoS w A n (fun i => bs.getD i false)) (hn : n ≤ 67108864) :
    Calls Tryd.prog 20 #[.slice A n cp] w fun e w' => ∃ v, e = .returned v ∧ w'.ownsRow w.heap.size 42 1 v (bwords n) (brRow bs) ∧ Below w.heap.size w w' := by
  obtain ⟨i0, hi, hz0, hz1, hz2⟩ := info_parts u64_info
  have HS := Lib.hid hs
  have HL := Lib.hid hl
  have hnI : (n : Int) ≤ 67108864 := by omega
  clear hs hl
  go_enter Tryd.func20, Tryd.ntmps20
  go_wp2
  go_loopw [3, 4] (fun s3 s4 wr => ∃ i : Nat, s4 = .int .i64 i ∧ i ≤ n ∧ PkSt w wr s3 (brRow (bs.take i)) (bwords i)) (fun _ s4 _ => n - (intOf s4).toNat)
  case atStart => exact ⟨0, rfl, Nat.zero_le _, Below.refl _ _, by rw [List.take_zero, show brRow [] = [] from by unfold brRow bwords; rfl, show bwords 0 = 0 from by decide]; exact World.ownsRow_nil _ _ _ _⟩
  case round =>
    obtain ⟨i, rfl, hin, hst⟩ := hrel
    have HST := Lib.hid hst
    clear hst
    by_cases hlt : i < n
    · have hiI : (i : Int) < (n : Int) := by omega
      obtain ⟨b, off, rfl, hc⟩ := HS.out.resolve_left (by omega)
      have HCW : Hid (∀ W : World, Below w.heap.size w W → W.cell? ⟨b, off + i, none⟩ = some (.bool (bs.getD i false))) := Lib.hid fun W hW => (hW.cell (p := ⟨b, off + i, none⟩) (World.block_lt_of_cell? _ _ (hc i hlt))).trans (hc i hlt)
      have hlb : b < w.heap.size := World.block_lt_of_cell? _ _ (hc i hlt)
      have htl : (bs.take i).length = i := by rw [List.length_take, HL.out]; omega
      have HTS := Lib.hid (show bs.take (i + 1) = bs.take i ++ [bs.getD i false] by
        rw [List.take_succ_eq_append_getElem (by rw [HL.out]; exact hlt), List.getD_eq_getElem?_getD, List.getElem?_eq_getElem (by rw [HL.out]; exact hlt)]; rfl)
      clear hc
      generalize hbi : bs.getD i false = bi at *
      generalize bs.take i = ts at *
      go_upto_if 13 with (fail)
      go_cut [3] (fun s3 wx => PkSt w wx s3 (brRow (ts ++ [false])) (bwords (i + 1)))
      case first =>
        by_cases h64 : i % 64 = 0
        · have ht : ((i : Int) % 64 == 0) = true := beq_iff_eq.2 (by omega)
          have HBR := Lib.hid (brRow_new ts (by rw [htl]; exact h64))
          have HBW := Lib.hid (show bwords (i + 1) = bwords i + 1 by unfold bwords; omega)
          have hbwl : bwords i ≤ 67108864 := by unfold bwords; omega
          have hsz := HST.out.bel.size
          go_wp2_with (at_builtin; refine wpList_append_lies _ rfl (.tmp 14) (.tmp 15) 36 rfl w.heap.size 42 i0 (.int .u64 0) 1 8 Tryd.underlying36 hi hz0 hz1 hz2 rfl (by decide) u3 (bwords i) _ rfl (HST.out.own.alloc _) ⟨wr.heap.size, 0, none⟩ 1 1 [.int .u64 0] rfl rfl ?c1 ?c2 (by decide) ?c3 ?c4 ?c5 _ rfl ?_)
          try (case c1 => exact World.news_of_block (Blk.newAt _ _ _ (by simp)))
          case c2 => first | rfl | (intro u hu; simp at hu; subst hu; rfl)
          case c3 => unfold maxLen; omega
          case c4 => omega
          case c5 => first | omega | (simp; omega)
          intro g' cap' w2 hown2 hgrow hat hlt2
          rw [← HBR.out] at hown2
          have HPP := Lib.hid (HST.out.push hown2 hgrow)
          clear hown2 hgrow hat
          go_wp2
          go_meet
          rw [HBW.out]; exact HPP.out
        · have ht : ((i : Int) % 64 == 0) = false := beq_eq_false_iff_ne.2 (by omega)
          have HBR := Lib.hid (brRow_keep ts (by rw [htl]; exact h64)).1
          have HBW := Lib.hid (show bwords (i + 1) = bwords i by unfold bwords; omega)
          go_wp2
          go_meet
          rw [HBR.out, HBW.out]; exact HST.out
      case rest =>
        have HC := Lib.hid hcut
        have hpos : 0 < bwords (i + 1) := by unfold bwords; omega
        obtain ⟨g', cap', hv, hbg, _⟩ := hcut.own.form hpos
        subst hv
        have hidx : i / 64 < bwords (i + 1) := by unfold bwords; omega
        have hidi : (i : Int) / 64 < (bwords (i + 1) : Int) := by omega
        have hid0 : (0 : Int) ≤ (i : Int) / 64 := by omega
        have hid2 : ((i : Int) / 64).toNat = i / 64 := by omega
        have hbwl : (bwords (i + 1) : Int) ≤ 67108865 := by unfold bwords; omega
        obtain ⟨hcell, hfrz⟩ := own_cell hcut.own (i / 64) hidx
        have hrow : (brRow (ts ++ [false]))[i / 64]? = some (.int .u64 (U (packW ts (i / 64)))) := by
          unfold brRow
          rw [List.getElem?_map, show (ts ++ [false]).length = i + 1 from by simp [htl], List.getElem?_range hidx, Option.map_some, pack_false]
        rw [hrow] at hcell
        have hbc := HCW.out _ hcut.bel
        have HWP := Lib.hid (with_pack ts bi)
        have HPUT := Lib.hid (brRow_put ts bi)
        rw [htl] at HWP HPUT
        have hwr : IntKind.i64.wrap ((i : Int) / 64) = (i : Int) / 64 := IntWalk.i64_in _ (by omega)
        have hwr3 : (i : Int).tmod 64 = (i : Int) % 64 := Int.tmod_eq_emod_of_nonneg (by omega)
        have hwr2 : IntKind.i64.wrap ((i : Int) % 64) = (i : Int) % 64 := IntWalk.i64_in _ (by omega)
        have hne : b ≠ g' := by omega
        have hne2 : g' ≠ b := by omega
        clear hcut hrow
        generalize hNW : bwords (i + 1) = NW at *
        have HNW := Lib.hid hNW
        clear hNW
        go_wp2
        go_region_with ((go_at_call 30; refine (HWP.out _).mono ?_; rintro e w' ⟨rfl, rfl⟩))
        all_goals
          go_wp2
          go_roundw
          case rel => exact ⟨i + 1, by go_num, by omega, by rw [HTS.out, ← HPUT.out, HNW.out]; exact (HC.out.store _ _).drew⟩
          case measure => simp [intOf]; omega
    · have hiI : ¬ ((i : Int) < (n : Int)) := by omega
      obtain rfl : i = n := by omega
      go_wp2
      go_ret
      refine ⟨u3, rfl, ?_, HST.out.bel⟩
      have := HST.out.own
      rwa [List.take_of_length_le (by rw [HL.out]; omega)] at this
end Go.Proofs.YtmbiolhecheplaaDoor
