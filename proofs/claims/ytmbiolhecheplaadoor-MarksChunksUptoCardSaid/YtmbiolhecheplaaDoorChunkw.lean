/-
  The walk of MarksChunks: the law returns true. Condition: the table of math/bits lies; the pieces are of 2^20 bytes together at most; what was there stays as it is.
-/
import Derived.Test.YtmbiolhecheplaaDoorShm
import Derived.Test.YtmbiolhecheplaaDoorJoin
import Derived.Test.YtmbiolhecheplaaDoorRbuild
import Derived.Test.YtmbiolhecheplaaDoorSame
import Derived.Deep.RegionHeld3
import Derived.Deep.DeepCutAuto
namespace Go.Proofs.YtmbiolhecheplaaDoor
open Go.RowKit

set_option maxRecDepth 100000 in
set_option maxHeartbeats 4000000 in
theorem chunks_law (w : World) (hT : Tab w) (v : Value) (P : Pieces) (hp : PcsAt w v P) :
    Calls Tryd.prog 9 #[v] w (TrueIs w) := by
  have HT := Lib.hid hT
  have HP := Lib.hid hp
  have hsum := hp.sum
  obtain rfl := hp.val
  clear hT hp
  go_enter Tryd.func9, Tryd.ntmps9
  go_wp2_with fail
  refine (shown_any _ HT.out).mono ?_
  rintro e w1 ⟨rfl, hb1⟩
  have HB1 := Lib.hid hb1
  clear hb1
  go_wp2_with fail
  refine (join_any _ _ P (HP.out.below HB1.out)).mono ?_
  rintro e w2 ⟨Aj, cpj, rfl, hcj, hcj2, hbs, hb2⟩
  have HB2 := Lib.hid (HB1.out.trans (hb2.mono HB1.out.size))
  have HJ := Lib.hid hbs
  clear hbs hb2
  go_wp2_with fail
  refine (chunks_any _ _ P (HP.out.below HB2.out)).mono ?_
  rintro e w3 ⟨Ax, cpx, rfl, _, hws, hb3⟩
  have hb4 := hb3.alloc hb3.size (.cells #[.slice Ax (nwords (P.at_ P.nl)) cpx, .int .i64 (P.at_ P.nl)] 27)
  have HX := Lib.hid (Blk.newAt w3 27 #[.slice Ax (nwords (P.at_ P.nl)) cpx, .int .i64 (P.at_ P.nl)] rfl)
  have HWS := Lib.hid (hws.below ((Below.refl _ _).alloc (Nat.le_refl _) (.cells #[.slice Ax (nwords (P.at_ P.nl)) cpx, .int .i64 (P.at_ P.nl)] 27)))
  have HB4 := Lib.hid (HB2.out.trans (hb4.mono HB2.out.size))
  have HJ4 := Lib.hid (HJ.out.bel hb4)
  have hkw : nwords (P.at_ P.nl) ≤ 16384 := by unfold nwords; omega
  clear hws hb3 hb4 HJ HB2 HB1 HP HT
  go_upto_region 4 with (fail)
  generalize P.at_ P.nl = n at *
  generalize P.G = G at *
  generalize w3.heap.size = gx at *
  generalize w3.alloc (.cells #[.slice Ax (nwords n) cpx, .int .i64 n] 27) = w4 at *
  have x0 := HX.out.cell 0
  have x1 := HX.out.cell 1
  simp at x0 x1
  have hlt := HX.out.lt
  have hkeep : ∀ W : World, Below w4.heap.size w4 W → W.cell? ⟨gx, 0, none⟩ = some (.slice Ax (nwords n) cpx) ∧ W.cell? ⟨gx, 1, none⟩ = some (.int .i64 n) := fun W hW => ⟨((HX.out.kept hW).cell 0), ((HX.out.kept hW).cell 1)⟩
  have hbld : ∀ W : World, Below w4.heap.size w4 W → Calls Tryd.prog 12 #[.slice Aj n cpj] W fun e w' => ∃ A1 cp1, e = .returned (.agg #[.slice A1 (nwords n) cp1, .int .i64 n]) ∧ WS w' A1 (nwords n) (mwG G n) ∧ Below w4.heap.size w4 w' ∧ w'.cell? ⟨gx, 0, none⟩ = some (.slice Ax (nwords n) cpx) ∧ w'.cell? ⟨gx, 1, none⟩ = some (.int .i64 n) := fun W hW =>
    (build_any Aj n cpj G W (HJ4.out.bel hW) (by omega) hcj hcj2).mono fun e w' ⟨A1, cp1, he, _, hws, hb⟩ => ⟨A1, cp1, he, hws, hW.trans (hb.mono hW.size), hkeep w' (hW.trans (hb.mono hW.size))⟩
  have hrb : ∀ W : World, Below w4.heap.size w4 W → Calls Tryd.prog 13 #[.slice Aj n cpj] W fun e w' => ∃ A1 cp1, e = .returned (.agg #[.slice A1 (nwords n) cp1, .int .i64 n]) ∧ WS w' A1 (nwords n) (mwG G n) ∧ Below w4.heap.size w4 w' ∧ w'.cell? ⟨gx, 0, none⟩ = some (.slice Ax (nwords n) cpx) ∧ w'.cell? ⟨gx, 1, none⟩ = some (.int .i64 n) := fun W hW =>
    (rbuild_any Aj n cpj G W (HJ4.out.bel hW) (by omega) hcj hcj2).mono fun e w' ⟨A1, cp1, he, _, hws, hb⟩ => ⟨A1, cp1, he, hws, hW.trans (hb.mono hW.size), hkeep w' (hW.trans (hb.mono hW.size))⟩
  have hsm : ∀ (W : World) (A1 : Option Addr) (cp1 : Nat), Below w4.heap.size w4 W → WS W A1 (nwords n) (mwG G n) → Calls Tryd.prog 11 #[.agg #[.slice Ax (nwords n) cpx, .int .i64 n], .agg #[.slice A1 (nwords n) cp1, .int .i64 n]] W fun e w' => e = .returned (.bool true) ∧ Below w4.heap.size w4 w' ∧ w'.cell? ⟨gx, 0, none⟩ = some (.slice Ax (nwords n) cpx) ∧ w'.cell? ⟨gx, 1, none⟩ = some (.int .i64 n) := fun W A1 cp1 hW h1 =>
    (same_any Ax A1 (nwords n) cpx cp1 (mwG G n) n W (HWS.out.below hW) h1 (by omega)).mono fun e w' ⟨he, hb⟩ => ⟨he, hW.trans (hb.mono hW.size), hkeep w' (hW.trans (hb.mono hW.size))⟩
  have HBLD := Lib.hid hbld
  have HRB := Lib.hid hrb
  have HSM := Lib.hid hsm
  clear hkeep hbld hrb hsm HX HWS HJ4 hcj hcj2 hsum hkw
  generalize nwords n = K at *
  generalize mwG G n = mw at *
  go_cut [2] (fun s2 wx => s2 = .bool true ∧ Below w4.heap.size w4 wx)
  case first =>
    go_region_held3 (fun w' => w'.cell? ⟨gx, 0, none⟩ = some (.slice Ax K cpx) ∧ w'.cell? ⟨gx, 1, none⟩ = some (.int .i64 n)) (go_keep)
      (first | (go_at_call 12; refine (HBLD.out _ ?_).mono ?_; (first | assumption | (exact Below.drew (Below.refl _ _))); rintro e w5 ⟨A5, cp5, rfl, hws5, hb5, s50, s51⟩) | (go_at_call 13; refine (HRB.out _ ?_).mono ?_; (first | assumption | (exact Below.drew (Below.refl _ _))); rintro e w6 ⟨A6, cp6, rfl, hws6, hb6, s60, s61⟩) | (go_at_call 11; refine (HSM.out _ _ _ ?_ ?_).mono ?_; assumption; assumption; rintro e w7 ⟨rfl, hb7, s70, s71⟩))
    all_goals
      go_wp2_with fail
      go_meet
      exact ⟨rfl, by assumption⟩
  case rest =>
    obtain ⟨rfl, hbx⟩ := hcut
    have HBX := Lib.hid hbx
    clear hbx
    go_wp2
    try rw [Exit.noGoto_ret]
    go_ret
    exact ⟨rfl, HB4.out.trans (HBX.out.mono HB4.out.size)⟩
end Go.Proofs.YtmbiolhecheplaaDoor
