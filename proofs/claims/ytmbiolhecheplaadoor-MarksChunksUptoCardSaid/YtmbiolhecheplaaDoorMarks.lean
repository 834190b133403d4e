/-
  The program's Marks: what a call returns: the marks of a text, one by one. For all texts of up to 2^42 bytes; what was there stays as it is.
-/
import Derived.Test.YtmbiolhecheplaaDoorBuild
namespace Go.Proofs.YtmbiolhecheplaaDoor
open Go.RowKit

theorem mark_info : (Tryd.prog.info? 33).map (fun i => (i.zero, i.size, i.bytes)) = some (some (.agg #[.int .i64 0, .int .u8 0]), 2, 16) := by kernel_rfl
theorem below_row {w0 w w' : World} {e : TypeId} {v : Value} {n s base : Nat} {xs : List Value} (hb : Below w0.heap.size w0 w) (hl : w0.heap.size ≤ base) (h : w.ownsRow base e s v n xs) (hg : w.grownBy w' v.ownBlock) : Below w0.heap.size w0 w' :=
  ⟨hg.os.trans hb.os, hg.tape.trans hb.tape, hg.output.trans hb.output, Nat.le_trans hb.size hg.size, fun b hb' => (hg.block b (Nat.lt_of_lt_of_le hb' hb.size) (fun e' => by have := (h.lt b e'.symm).1; omega)).trans (hb.block b hb')⟩
/-- the word of this round, and the marks so far -/
structure MkSt (wb wr : World) (gm : Nat) (ms : Array Value) (v : Value) (L : List (Nat × Int)) : Prop where
  bel : Below wb.heap.size wb wr
  low : wb.heap.size ≤ gm
  blk : Blk wr gm 45 ms
  own : wr.ownsRow wb.heap.size 33 2 v L.length (Lm.cells L)
  far : v.ownBlock ≠ some gm
theorem MkSt.push {wb wr w2 : World} {gm : Nat} {ms : Array Value} {v : Value} {L : List (Nat × Int)} {g' cap n2 : Nat} {o : Obj} {p : Nat × Int} {xs : List Value} (h : MkSt wb wr gm ms v L)
    (ho : w2.ownsRow wb.heap.size 33 2 (.slice (some ⟨g', 0, none⟩) n2 cap) n2 xs) (hn : n2 = L.length + 1) (hx : xs = Lm.cells L ++ [.int .i64 p.1, .int .u8 p.2]) (hg : (wr.alloc o).grownBy w2 v.ownBlock) (hat : v.ownBlock = some g' ∨ g' = (wr.alloc o).heap.size) :
    MkSt wb w2 gm ms (.slice (some ⟨g', 0, none⟩) n2 cap) (L ++ [p]) where
  bel := below_row (h.bel.alloc h.bel.size o) (Nat.le_refl _) (h.own.alloc o) hg
  low := h.low
  blk := (hg.block gm (h.blk.alloc o).lt (fun e => h.far e.symm)).trans (h.blk.alloc o)
  own := by rw [List.length_append, Lm.cells_snoc, ← hx, show L.length + [p].length = n2 from hn.symm]; exact ho
  far := by
    intro e
    have e1 : g' = gm := by simpa [Value.ownBlock] using e
    subst e1
    rcases hat with hat | hat
    · exact h.far hat
    · have := h.blk.lt
      rw [hat] at this
      simp at this; omega
theorem own_base {w : World} {e : TypeId} {v : Value} {n s base base' : Nat} {xs : List Value} (h : w.ownsRow base e s v n xs) (hb : base' ≤ base) : w.ownsRow base' e s v n xs := by
  refine ⟨h.1, ?_⟩
  rcases h.2 with h1 | ⟨g, cap, cur, h1, h2, h3⟩
  · exact .inl h1
  · exact .inr ⟨g, cap, cur, h1, Nat.le_trans hb h2, h3⟩
theorem bit_test (x : BitVec 64) (i : Nat) (hi : i < 64) : (U (x &&& (1#64 <<< i)) == 0) = !x.getLsbD i := by
  rw [show (0 : Int) = U 0#64 from U_zero.symm, U_beq]
  cases hb : x.getLsbD i
  · have e : x &&& (1#64 <<< i) = 0#64 := by
      apply Lo.ext64
      intro j hj
      rw [BitVec.getLsbD_and, Lo.one_shl i j hj, BitVec.getLsbD_zero]
      by_cases h : j = i
      · subst h; rw [hb]; rfl
      · simp [h]
    rw [e]; rfl
  · have e : x &&& (1#64 <<< i) ≠ 0#64 := by
      intro h
      have h2 : (x &&& (1#64 <<< i)).getLsbD i = false := by rw [h, BitVec.getLsbD_zero]
      rw [BitVec.getLsbD_and, Lo.one_shl i i hi, hb] at h2
      simp at h2
    simpa using e
theorem bit_testn (x : BitVec 64) (i : Nat) (hi : i < 64) : (U (x &&& (1#64 <<< i)) != 0) = x.getLsbD i := by
  have := bit_test x i hi
  unfold bne
  rw [this]; simp
/-- a round's end -/
theorem mk_close {wb wr : World} {gm : Nat} {ms : Array Value} {v : Value} {G : Nat → Int} {j K : Nat} {b : Bool} {L : List (Nat × Int)} (e : K = j + 1) (hz : Lm.zed G j = b) (hm : Lm.ml G (j + 1) = L) (h : MkSt wb wr gm ms v L) :
    Value.bool b = .bool (Lm.run G K) ∧ MkSt wb wr gm ms v (Lm.ml G K) := by
  subst e
  rw [hm]
  exact ⟨by rw [Lm.run, hz], h⟩

attribute [local go_sem] U_and U_or U_powA
set_option maxRecDepth 100000 in
set_option maxHeartbeats 4000000 in
theorem marks_any (A : Option Addr) (n cp : Nat) (G : Nat → Int) (w : World) (hb : BS w A n G) (hn : n ≤ 4398046511104) (hcp : n ≤ cp) (hcm : cp ≤ 9223372036854775807) :
    Calls Tryd.prog 14 #[.slice A n cp] w fun e w' => ∃ v, e = .returned v ∧ w'.ownsRow w.heap.size 33 2 v (Lm.ml G n).length (Lm.cells (Lm.ml G n)) ∧ Below w.heap.size w w' := by
  obtain ⟨i0, hi, hz0, hz1, hz2⟩ := info_parts mark_info
  have HB := Lib.hid hb
  clear hb
  go_enter Tryd.func14, Tryd.ntmps14
  go_wp2_with fail
  refine (build_any A n cp G _ HB.out (by omega) hcp hcm).mono ?_
  rintro e w1 ⟨A', cp', rfl, hcp', hws, hbel⟩
  have HWB := Lib.hid (hws.below ((Below.refl _ _).alloc (Nat.le_refl _) _) : WS (w1.alloc (.cells #[.slice A' (nwords n) cp', .int .i64 n] 27)) A' (nwords n) (mwG G n))
  have HB1 := Lib.hid (hbel.alloc hbel.size (.cells #[.slice A' (nwords n) cp', .int .i64 n] 27))
  clear hws hbel
  go_wp2
  generalize w1.alloc (.cells #[.slice A' (nwords n) cp', .int .i64 n] 27) = wb at *
  go_loopw [3, 4, 19] (fun s3 s4 s19 wr => ∃ q : Nat, s19 = .int .i64 q ∧ q ≤ nwords n ∧ s4 = .bool (Lm.run G (Nat.min n (64 * q))) ∧ wr.ownsRow wb.heap.size 33 2 s3 (Lm.ml G (Nat.min n (64 * q))).length (Lm.cells (Lm.ml G (Nat.min n (64 * q)))) ∧ Below wb.heap.size wb wr) (fun _ _ s19 _ => nwords n - (intOf s19).toNat)
  case atStart => exact ⟨0, rfl, Nat.zero_le _, by rw [show Nat.min n (64 * 0) = 0 from Nat.min_eq_right (Nat.zero_le _)]; rfl, by rw [show Nat.min n (64 * 0) = 0 from Nat.min_eq_right (Nat.zero_le _)]; exact World.ownsRow_nil _ _ _ _, Below.refl _ _⟩
  case round =>
    obtain ⟨q, rfl, hqk, rfl, hown, hbe⟩ := hrel
    by_cases hq : q < nwords n
    · have hqn : 64 * q < n := by unfold nwords at hq; omega
      rw [show Nat.min n (64 * q) = 64 * q from Nat.min_eq_right (by omega)] at hown ⊢
      have hqi : (q : Int) < (nwords n : Int) := by omega
      obtain ⟨b, off, rfl, hc⟩ := HWB.out.resolve_left (by omega)
      have hcw : ∀ c, c < 7 → wr.cell? ⟨b, off + q * 7 + c, none⟩ = some (.int .u64 (U (mwG G n q c))) := fun c h7 => (hbe.cell (p := ⟨b, off + q * 7 + c, none⟩) (World.block_lt_of_cell? _ _ (hc q hq c h7))).trans (hc q hq c h7)
      have HBITS : Hid (∀ i, i < 64 → 64 * q + i < n → (mwG G n q 0).getLsbD i = Lm.quo G (64 * q + i) ∧ (mwG G n q 1).getLsbD i = Lm.inn G (64 * q + i) ∧ (mwG G n q 2 ||| mwG G n q 3 ||| mwG G n q 4 ||| mwG G n q 5).getLsbD i = Lm.str G (64 * q + i) ∧ (mwG G n q 1 ||| mwG G n q 6).getLsbD i = (Lm.inn G (64 * q + i) || Lm.spc (G (64 * q + i)))) :=
        Lib.hid fun i hi h => ⟨by rw [mw_quo G n q i hi]; simp [h], by rw [mw_inn G n q i hi]; simp [h], by rw [mw_str G n q i hi]; simp [h], mw_isp G n q i hi h⟩
      generalize mwG G n q = mw at *
      have d0 : wr.cell? ⟨b, off + q * 7, none⟩ = some (.int .u64 (U (mw 0))) := hcw 0 (by omega)
      have d1 := hcw 1 (by omega)
      have d2 := hcw 2 (by omega)
      have d3 := hcw 3 (by omega)
      have d4 := hcw 4 (by omega)
      have d5 := hcw 5 (by omega)
      have d6 := hcw 6 (by omega)
      have HOWN := Lib.hid hown
      have HBE := Lib.hid hbe
      generalize hP : 64 * q = P at *
      have eP : (q : Int) * 64 = (P : Int) := by omega
      have bP : (P : Int) ≤ 4398046511104 := by omega
      have HPQ := Lib.hid hP
      have bM : (P : Int) < (n : Int) := by omega
      clear hc hcw hown hbe hP
      obtain ⟨b0, off0, hA0, hc0⟩ := HB.out.resolve_left (by omega)
      have HSRC : Hid (∀ W : World, Below wb.heap.size wb W → ∀ i, i < n → W.cell? ⟨b0, off0 + i, none⟩ = some (.int .u8 (G i))) := Lib.hid fun W hW i hi => by
        have h1 := (HB1.out.cell (p := ⟨b0, off0 + i, none⟩) (World.block_lt_of_cell? _ _ (hc0 i hi))).trans (hc0 i hi)
        exact (hW.cell (p := ⟨b0, off0 + i, none⟩) (World.block_lt_of_cell? _ _ h1)).trans h1
      subst hA0
      clear hc0
      have hms : (n - P < 64) ∨ ¬ (n - P < 64) := by omega
      rcases hms with hms | hms
      · have hmi : (n : Int) - (P : Int) < 64 := by omega
        go_wp2
        have eM : (n : Int) - (P : Int) = ((n - P : Nat) : Int) := by omega
        rw [eM]
        generalize hM : n - P = M at *
        clear eM hmi
        have hst0 : MkSt wb (wr.alloc (.cells #[.int .u64 (U (mw 0)), .int .u64 (U (mw 1)), .int .u64 (U (mw 2)), .int .u64 (U (mw 3)), .int .u64 (U (mw 4)), .int .u64 (U (mw 5)), .int .u64 (U (mw 6))] 45)) wr.heap.size #[.int .u64 (U (mw 0)), .int .u64 (U (mw 1)), .int .u64 (U (mw 2)), .int .u64 (U (mw 3)), .int .u64 (U (mw 4)), .int .u64 (U (mw 5)), .int .u64 (U (mw 6))] u3 (Lm.ml G P) :=
          ⟨HBE.out.alloc HBE.out.size _, HBE.out.size, Blk.new _ _ _, HOWN.out.alloc _, fun e => by have := (HOWN.out.lt _ e).2; omega⟩
        generalize (wr.alloc (.cells #[.int .u64 (U (mw 0)), .int .u64 (U (mw 1)), .int .u64 (U (mw 2)), .int .u64 (U (mw 3)), .int .u64 (U (mw 4)), .int .u64 (U (mw 5)), .int .u64 (U (mw 6))] 45)) = W1 at hst0 ⊢
        generalize wr.heap.size = gm at hst0 ⊢
        have HST0 := Lib.hid hst0
        clear hst0 d0 d1 d2 d3 d4 d5 d6
        go_loopw [3, 4, 31] (fun s3 s4 s31 wx => ∃ i : Nat, s31 = .int .i64 i ∧ i ≤ M ∧ s4 = .bool (Lm.run G (P + i)) ∧ MkSt wb wx gm #[.int .u64 (U (mw 0)), .int .u64 (U (mw 1)), .int .u64 (U (mw 2)), .int .u64 (U (mw 3)), .int .u64 (U (mw 4)), .int .u64 (U (mw 5)), .int .u64 (U (mw 6))] s3 (Lm.ml G (P + i))) (fun _ _ s31 _ => M - (intOf s31).toNat)
        case atStart => exact ⟨0, rfl, Nat.zero_le _, rfl, HST0.out⟩
        case round =>
          obtain ⟨i, rfl, him, rfl, hst⟩ := hrel
          by_cases hlt : i < M
          · have hbits := HBITS.out i (by omega) (by omega)
            have HJ0 := Lib.hid (show P + (i + 1) = (P + i) + 1 from rfl)
            generalize hj : P + i = j at *
            have HJ1 := Lib.hid (show P + (i + 1) = j + 1 by omega)
            have eJ : (P : Int) + (i : Int) = (j : Int) := by omega
            have bJ : (j : Int) < (n : Int) := by omega
            have bJ2 : (j : Int) ≤ 4398046511104 := by omega
            have bI : (i : Int) < (M : Int) := by omega
            have bI2 : (i : Int) ≤ 64 := by omega
            have bI3 : i ≤ 64 := by omega
            have hml := Lm.ml_len G j
            have hcell : wr.cell? ⟨b0, off0 + j, none⟩ = some (.int .u8 (G j)) := HSRC.out wr hst.bel j (by omega)
            have q0 := hst.blk.cell 0
            have q1 := hst.blk.cell 1
            have q2 := hst.blk.cell 2
            have q3 := hst.blk.cell 3
            have q4 := hst.blk.cell 4
            have q5 := hst.blk.cell 5
            have q6 := hst.blk.cell 6
            simp at q0 q1 q2 q3 q4 q5 q6
            have hsz := hst.bel.size
            have HST := Lib.hid hst
            have t0 := bit_testn (mw 0) i (by omega)
            have t1 := bit_testn (mw 1) i (by omega)
            have ts := bit_testn (mw 2 ||| mw 3 ||| mw 4 ||| mw 5) i (by omega)
            have ti := bit_test (mw 1 ||| mw 6) i (by omega)
            rw [hbits.1] at t0
            rw [hbits.2.1] at t1
            rw [hbits.2.2.1] at ts
            rw [hbits.2.2.2] at ti
            clear hst hbits hj
            cases hq : Lm.quo G j
            · rw [hq] at t0
              cases hs : Lm.str G j
              · rw [hs] at ts
                cases hx : (Lm.inn G j || Lm.spc (G j))
                · rw [hx] at ti
                  cases hr : Lm.run G j
                  · obtain ⟨hk, hz⟩ := Lm.kind_new hq hs hx hr
                    have HZ := Lib.hid hz
                    have HM := Lib.hid ((Lm.ml_push (by rw [hk]; decide)).trans (by rw [hk]))
                    clear hk hz
                    clear t1 hq hs hx hr
                    go_wp2_with (at_builtin; refine wpList_append_lies _ rfl (.tmp 92) (.tmp 95) 30 rfl wb.heap.size 33 i0 (.agg #[.int .i64 0, .int .u8 0]) 2 16 Tryd.underlying30 hi hz0 hz1 hz2 rfl (by decide) u3 (Lm.ml G j).length _ rfl (HST.out.own.alloc _) ⟨wr.heap.size, 0, none⟩ 1 1 [.int .i64 j, .int .u8 48] rfl rfl ?c1 ?c2 (by decide) ?c3 ?c4 ?c5 _ rfl ?_)
                    case c1 => exact World.news_of_block (Blk.newAt _ _ _ (by simp))
                    case c2 => intro u hu; simp at hu; rcases hu with rfl | rfl <;> rfl
                    case c3 => unfold maxLen; omega
                    case c4 => omega
                    case c5 => simp; omega
                    intro g' cap' w2 hown2 hgrow hat hlt2
                    have hp := HST.out.push (p := (j, 48)) hown2 rfl rfl hgrow (by rcases hat with h | h; exact .inl h; exact .inr (by rw [h]; simp))
                    have HPP := Lib.hid hp
                    clear hown2 hgrow hat hp
                    go_wp2
                    go_roundw
                    case rel => exact ⟨i + 1, by go_num, by omega, mk_close HJ1.out HZ.out HM.out HPP.out⟩
                    case measure => simp [intOf]; omega
                  · obtain ⟨hk, hz⟩ := Lm.kind_on hq hs hx hr
                    have HZ := Lib.hid hz
                    have HM := Lib.hid (Lm.ml_skip hk)
                    clear hk hz
                    clear t1 hq hs hx hr
                    go_wp2
                    go_roundw
                    case rel => exact ⟨i + 1, by go_num, by omega, mk_close HJ1.out HZ.out HM.out HST.out⟩
                    case measure => simp [intOf]; omega
                · rw [hx] at ti
                  obtain ⟨hk, hz⟩ := Lm.kind_none hq hs hx
                  have HZ := Lib.hid hz
                  have HM := Lib.hid (Lm.ml_skip hk)
                  clear hk hz
                  clear t1 hq hs hx
                  go_wp2
                  go_roundw
                  case rel => exact ⟨i + 1, by go_num, by omega, mk_close HJ1.out HZ.out HM.out HST.out⟩
                  case measure => simp [intOf]; omega
              · rw [hs] at ts
                obtain ⟨hk, hk0, hz⟩ := Lm.kind_str hq hs
                have HZ := Lib.hid hz
                have HM := Lib.hid ((Lm.ml_push hk0).trans (by rw [hk]))
                clear hk hk0 hz
                clear t1 ti hq hs
                go_wp2_with (at_builtin; refine wpList_append_lies _ rfl (.tmp 72) (.tmp 79) 30 rfl wb.heap.size 33 i0 (.agg #[.int .i64 0, .int .u8 0]) 2 16 Tryd.underlying30 hi hz0 hz1 hz2 rfl (by decide) u3 (Lm.ml G j).length _ rfl (HST.out.own.alloc _) ⟨wr.heap.size, 0, none⟩ 1 1 [.int .i64 j, .int .u8 (G j)] rfl rfl ?c1 ?c2 (by decide) ?c3 ?c4 ?c5 _ rfl ?_)
                case c1 => exact World.news_of_block (Blk.newAt _ _ _ (by simp))
                case c2 => intro u hu; simp at hu; rcases hu with rfl | rfl <;> rfl
                case c3 => unfold maxLen; omega
                case c4 => omega
                case c5 => simp; omega
                intro g' cap' w2 hown2 hgrow hat hlt2
                have hp := HST.out.push (p := (j, (G j))) hown2 rfl rfl hgrow (by rcases hat with h | h; exact .inl h; exact .inr (by rw [h]; simp))
                have HPP := Lib.hid hp
                clear hown2 hgrow hat hp
                go_wp2
                go_roundw
                case rel => exact ⟨i + 1, by go_num, by omega, mk_close HJ1.out HZ.out HM.out HPP.out⟩
                case measure => simp [intOf]; omega
            · rw [hq] at t0
              cases hin : Lm.inn G j
              · rw [hin] at t1
                obtain ⟨hk, hz⟩ := Lm.kind_shut hq hin
                have HZ := Lib.hid hz
                have HM := Lib.hid (Lm.ml_skip hk)
                clear hk hz
                clear ts ti hq hin
                go_wp2
                go_roundw
                case rel => exact ⟨i + 1, by go_num, by omega, mk_close HJ1.out HZ.out HM.out HST.out⟩
                case measure => simp [intOf]; omega
              · rw [hin] at t1
                obtain ⟨hk, hz⟩ := Lm.kind_open hq hin
                have HZ := Lib.hid hz
                have HM := Lib.hid ((Lm.ml_push (by rw [hk]; decide)).trans (by rw [hk]))
                clear hk hz
                clear ts ti hq hin
                go_wp2_with (at_builtin; refine wpList_append_lies _ rfl (.tmp 64) (.tmp 67) 30 rfl wb.heap.size 33 i0 (.agg #[.int .i64 0, .int .u8 0]) 2 16 Tryd.underlying30 hi hz0 hz1 hz2 rfl (by decide) u3 (Lm.ml G j).length _ rfl (HST.out.own.alloc _) ⟨wr.heap.size, 0, none⟩ 1 1 [.int .i64 j, .int .u8 34] rfl rfl ?c1 ?c2 (by decide) ?c3 ?c4 ?c5 _ rfl ?_)
                case c1 => exact World.news_of_block (Blk.newAt _ _ _ (by simp))
                case c2 => intro u hu; simp at hu; rcases hu with rfl | rfl <;> rfl
                case c3 => unfold maxLen; omega
                case c4 => omega
                case c5 => simp; omega
                intro g' cap' w2 hown2 hgrow hat hlt2
                have hp := HST.out.push (p := (j, 34)) hown2 rfl rfl hgrow (by rcases hat with h | h; exact .inl h; exact .inr (by rw [h]; simp))
                have HPP := Lib.hid hp
                clear hown2 hgrow hat hp
                go_wp2
                go_roundw
                case rel => exact ⟨i + 1, by go_num, by omega, mk_close HJ1.out HZ.out HM.out HPP.out⟩
                case measure => simp [intOf]; omega
          · have bI : ¬ ((i : Int) < (M : Int)) := by omega
            have HST := Lib.hid hst
            have HPI := Lib.hid (show P + i = Nat.min n (64 * (q + 1)) by show P + i = min n (64 * (q + 1)); have := HPQ.out; omega)
            clear hst
            go_wp2
            go_roundw
            case rel => exact ⟨q + 1, by go_num, hq, by rw [← HPI.out], by rw [← HPI.out]; exact HST.out.own, HST.out.bel⟩
            case measure => simp [intOf] <;> omega
      · have hmi : ¬ ((n : Int) - (P : Int) < 64) := by omega
        go_wp2
        have hst0 : MkSt wb (wr.alloc (.cells #[.int .u64 (U (mw 0)), .int .u64 (U (mw 1)), .int .u64 (U (mw 2)), .int .u64 (U (mw 3)), .int .u64 (U (mw 4)), .int .u64 (U (mw 5)), .int .u64 (U (mw 6))] 45)) wr.heap.size #[.int .u64 (U (mw 0)), .int .u64 (U (mw 1)), .int .u64 (U (mw 2)), .int .u64 (U (mw 3)), .int .u64 (U (mw 4)), .int .u64 (U (mw 5)), .int .u64 (U (mw 6))] u3 (Lm.ml G P) :=
          ⟨HBE.out.alloc HBE.out.size _, HBE.out.size, Blk.new _ _ _, HOWN.out.alloc _, fun e => by have := (HOWN.out.lt _ e).2; omega⟩
        generalize (wr.alloc (.cells #[.int .u64 (U (mw 0)), .int .u64 (U (mw 1)), .int .u64 (U (mw 2)), .int .u64 (U (mw 3)), .int .u64 (U (mw 4)), .int .u64 (U (mw 5)), .int .u64 (U (mw 6))] 45)) = W1 at hst0 ⊢
        generalize wr.heap.size = gm at hst0 ⊢
        have HST0 := Lib.hid hst0
        clear hst0 d0 d1 d2 d3 d4 d5 d6
        go_loopw [3, 4, 31] (fun s3 s4 s31 wx => ∃ i : Nat, s31 = .int .i64 i ∧ i ≤ 64 ∧ s4 = .bool (Lm.run G (P + i)) ∧ MkSt wb wx gm #[.int .u64 (U (mw 0)), .int .u64 (U (mw 1)), .int .u64 (U (mw 2)), .int .u64 (U (mw 3)), .int .u64 (U (mw 4)), .int .u64 (U (mw 5)), .int .u64 (U (mw 6))] s3 (Lm.ml G (P + i))) (fun _ _ s31 _ => 64 - (intOf s31).toNat)
        case atStart => exact ⟨0, rfl, Nat.zero_le _, rfl, HST0.out⟩
        case round =>
          obtain ⟨i, rfl, him, rfl, hst⟩ := hrel
          by_cases hlt : i < 64
          · have hbits := HBITS.out i (by omega) (by omega)
            have HJ0 := Lib.hid (show P + (i + 1) = (P + i) + 1 from rfl)
            generalize hj : P + i = j at *
            have HJ1 := Lib.hid (show P + (i + 1) = j + 1 by omega)
            have eJ : (P : Int) + (i : Int) = (j : Int) := by omega
            have bJ : (j : Int) < (n : Int) := by omega
            have bJ2 : (j : Int) ≤ 4398046511104 := by omega
            have bI : (i : Int) < 64 := by omega
            have bI2 : (i : Int) ≤ 64 := by omega
            have bI3 : i ≤ 64 := by omega
            have hml := Lm.ml_len G j
            have hcell : wr.cell? ⟨b0, off0 + j, none⟩ = some (.int .u8 (G j)) := HSRC.out wr hst.bel j (by omega)
            have q0 := hst.blk.cell 0
            have q1 := hst.blk.cell 1
            have q2 := hst.blk.cell 2
            have q3 := hst.blk.cell 3
            have q4 := hst.blk.cell 4
            have q5 := hst.blk.cell 5
            have q6 := hst.blk.cell 6
            simp at q0 q1 q2 q3 q4 q5 q6
            have hsz := hst.bel.size
            have HST := Lib.hid hst
            have t0 := bit_testn (mw 0) i (by omega)
            have t1 := bit_testn (mw 1) i (by omega)
            have ts := bit_testn (mw 2 ||| mw 3 ||| mw 4 ||| mw 5) i (by omega)
            have ti := bit_test (mw 1 ||| mw 6) i (by omega)
            rw [hbits.1] at t0
            rw [hbits.2.1] at t1
            rw [hbits.2.2.1] at ts
            rw [hbits.2.2.2] at ti
            clear hst hbits hj
            cases hq : Lm.quo G j
            · rw [hq] at t0
              cases hs : Lm.str G j
              · rw [hs] at ts
                cases hx : (Lm.inn G j || Lm.spc (G j))
                · rw [hx] at ti
                  cases hr : Lm.run G j
                  · obtain ⟨hk, hz⟩ := Lm.kind_new hq hs hx hr
                    have HZ := Lib.hid hz
                    have HM := Lib.hid ((Lm.ml_push (by rw [hk]; decide)).trans (by rw [hk]))
                    clear hk hz
                    clear t1 hq hs hx hr
                    go_wp2_with (at_builtin; refine wpList_append_lies _ rfl (.tmp 92) (.tmp 95) 30 rfl wb.heap.size 33 i0 (.agg #[.int .i64 0, .int .u8 0]) 2 16 Tryd.underlying30 hi hz0 hz1 hz2 rfl (by decide) u3 (Lm.ml G j).length _ rfl (HST.out.own.alloc _) ⟨wr.heap.size, 0, none⟩ 1 1 [.int .i64 j, .int .u8 48] rfl rfl ?c1 ?c2 (by decide) ?c3 ?c4 ?c5 _ rfl ?_)
                    case c1 => exact World.news_of_block (Blk.newAt _ _ _ (by simp))
                    case c2 => intro u hu; simp at hu; rcases hu with rfl | rfl <;> rfl
                    case c3 => unfold maxLen; omega
                    case c4 => omega
                    case c5 => simp; omega
                    intro g' cap' w2 hown2 hgrow hat hlt2
                    have hp := HST.out.push (p := (j, 48)) hown2 rfl rfl hgrow (by rcases hat with h | h; exact .inl h; exact .inr (by rw [h]; simp))
                    have HPP := Lib.hid hp
                    clear hown2 hgrow hat hp
                    go_wp2
                    go_roundw
                    case rel => exact ⟨i + 1, by go_num, by omega, mk_close HJ1.out HZ.out HM.out HPP.out⟩
                    case measure => simp [intOf]; omega
                  · obtain ⟨hk, hz⟩ := Lm.kind_on hq hs hx hr
                    have HZ := Lib.hid hz
                    have HM := Lib.hid (Lm.ml_skip hk)
                    clear hk hz
                    clear t1 hq hs hx hr
                    go_wp2
                    go_roundw
                    case rel => exact ⟨i + 1, by go_num, by omega, mk_close HJ1.out HZ.out HM.out HST.out⟩
                    case measure => simp [intOf]; omega
                · rw [hx] at ti
                  obtain ⟨hk, hz⟩ := Lm.kind_none hq hs hx
                  have HZ := Lib.hid hz
                  have HM := Lib.hid (Lm.ml_skip hk)
                  clear hk hz
                  clear t1 hq hs hx
                  go_wp2
                  go_roundw
                  case rel => exact ⟨i + 1, by go_num, by omega, mk_close HJ1.out HZ.out HM.out HST.out⟩
                  case measure => simp [intOf]; omega
              · rw [hs] at ts
                obtain ⟨hk, hk0, hz⟩ := Lm.kind_str hq hs
                have HZ := Lib.hid hz
                have HM := Lib.hid ((Lm.ml_push hk0).trans (by rw [hk]))
                clear hk hk0 hz
                clear t1 ti hq hs
                go_wp2_with (at_builtin; refine wpList_append_lies _ rfl (.tmp 72) (.tmp 79) 30 rfl wb.heap.size 33 i0 (.agg #[.int .i64 0, .int .u8 0]) 2 16 Tryd.underlying30 hi hz0 hz1 hz2 rfl (by decide) u3 (Lm.ml G j).length _ rfl (HST.out.own.alloc _) ⟨wr.heap.size, 0, none⟩ 1 1 [.int .i64 j, .int .u8 (G j)] rfl rfl ?c1 ?c2 (by decide) ?c3 ?c4 ?c5 _ rfl ?_)
                case c1 => exact World.news_of_block (Blk.newAt _ _ _ (by simp))
                case c2 => intro u hu; simp at hu; rcases hu with rfl | rfl <;> rfl
                case c3 => unfold maxLen; omega
                case c4 => omega
                case c5 => simp; omega
                intro g' cap' w2 hown2 hgrow hat hlt2
                have hp := HST.out.push (p := (j, (G j))) hown2 rfl rfl hgrow (by rcases hat with h | h; exact .inl h; exact .inr (by rw [h]; simp))
                have HPP := Lib.hid hp
                clear hown2 hgrow hat hp
                go_wp2
                go_roundw
                case rel => exact ⟨i + 1, by go_num, by omega, mk_close HJ1.out HZ.out HM.out HPP.out⟩
                case measure => simp [intOf]; omega
            · rw [hq] at t0
              cases hin : Lm.inn G j
              · rw [hin] at t1
                obtain ⟨hk, hz⟩ := Lm.kind_shut hq hin
                have HZ := Lib.hid hz
                have HM := Lib.hid (Lm.ml_skip hk)
                clear hk hz
                clear ts ti hq hin
                go_wp2
                go_roundw
                case rel => exact ⟨i + 1, by go_num, by omega, mk_close HJ1.out HZ.out HM.out HST.out⟩
                case measure => simp [intOf]; omega
              · rw [hin] at t1
                obtain ⟨hk, hz⟩ := Lm.kind_open hq hin
                have HZ := Lib.hid hz
                have HM := Lib.hid ((Lm.ml_push (by rw [hk]; decide)).trans (by rw [hk]))
                clear hk hz
                clear ts ti hq hin
                go_wp2_with (at_builtin; refine wpList_append_lies _ rfl (.tmp 64) (.tmp 67) 30 rfl wb.heap.size 33 i0 (.agg #[.int .i64 0, .int .u8 0]) 2 16 Tryd.underlying30 hi hz0 hz1 hz2 rfl (by decide) u3 (Lm.ml G j).length _ rfl (HST.out.own.alloc _) ⟨wr.heap.size, 0, none⟩ 1 1 [.int .i64 j, .int .u8 34] rfl rfl ?c1 ?c2 (by decide) ?c3 ?c4 ?c5 _ rfl ?_)
                case c1 => exact World.news_of_block (Blk.newAt _ _ _ (by simp))
                case c2 => intro u hu; simp at hu; rcases hu with rfl | rfl <;> rfl
                case c3 => unfold maxLen; omega
                case c4 => omega
                case c5 => simp; omega
                intro g' cap' w2 hown2 hgrow hat hlt2
                have hp := HST.out.push (p := (j, 34)) hown2 rfl rfl hgrow (by rcases hat with h | h; exact .inl h; exact .inr (by rw [h]; simp))
                have HPP := Lib.hid hp
                clear hown2 hgrow hat hp
                go_wp2
                go_roundw
                case rel => exact ⟨i + 1, by go_num, by omega, mk_close HJ1.out HZ.out HM.out HPP.out⟩
                case measure => simp [intOf]; omega
          · have bI : ¬ ((i : Int) < 64) := by omega
            have HST := Lib.hid hst
            have HPI := Lib.hid (show P + i = Nat.min n (64 * (q + 1)) by show P + i = min n (64 * (q + 1)); have := HPQ.out; omega)
            clear hst
            go_wp2
            go_roundw
            case rel => exact ⟨q + 1, by go_num, hq, by rw [← HPI.out], by rw [← HPI.out]; exact HST.out.own, HST.out.bel⟩
            case measure => simp [intOf] <;> omega
    · have hqk2 : ¬ ((q : Int) < (nwords n : Int)) := by omega
      have hmin : Nat.min n (64 * q) = n := by show min n (64 * q) = n; unfold nwords at hq; omega
      rw [hmin] at hown
      have HOWN := Lib.hid hown
      have HBE := Lib.hid hbe
      clear hown hbe hmin
      go_wp2
      go_ret
      exact ⟨u3, rfl, own_base HOWN.out HB1.out.size, HB1.out.trans (HBE.out.mono HB1.out.size)⟩
end Go.Proofs.YtmbiolhecheplaaDoor
