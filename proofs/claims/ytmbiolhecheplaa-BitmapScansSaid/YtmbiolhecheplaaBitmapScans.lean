/-
  Proved: bitmap.Scan is the reference's Scan, at all bytes and every carry (Rows.BitmapScansSaid). No condition.
-/
import Derived.Test.YtmbiolhecheplaaRows
import Derived.Test.YtmbiolhecheplaaShown
import Derived.WalkKit
import Derived.ProofKit
import Derived.OpenShut
import Derived.ChangeOld
import Derived.Below
import Derived.Lib.SmallJoins
namespace Go.Proofs.Ytmbiolhecheplaa.bitmapScans
open Go.ChangeShapes Go.WideShapes Go.ChangeAt Go.RowKit Go.Joins
set_option linter.unusedVariables false

theorem own : ownKnob Try.prog.godebug = none := by kernel_rfl
theorem laidOut : laidOutB Try.prog = true := by kernel_rfl

theorem scans_same (A : Option Addr) (n cp : Nat) (g : Nat → Int) (o i : Bool) (hn : n ≤ 9223372036854775807) : ∃ (m0 m1 m2 m3 m4 m5 m6 : BitVec 64) (c0 c1 : Bool),
    (∀ W : World, BS W A n g → Calls Try.prog 20 #[.slice A n cp, .agg #[.bool o, .bool i]] W fun e w' => e = .returned (.tuple #[.agg #[.int .u64 (U m0), .int .u64 (U m1), .int .u64 (U m2), .int .u64 (U m3), .int .u64 (U m4), .int .u64 (U m5), .int .u64 (U m6)], .agg #[.bool c0, .bool c1]]) ∧ Below W.heap.size W w') ∧
    (∀ W : World, BS W A n g → Calls Try.prog 21 #[.slice A n cp, .agg #[.bool o, .bool i]] W fun e w' => e = .returned (.tuple #[.agg #[.int .u64 (U m0), .int .u64 (U m1), .int .u64 (U m2), .int .u64 (U m3), .int .u64 (U m4), .int .u64 (U m5), .int .u64 (U m6)], .agg #[.bool c0, .bool c1]]) ∧ Below W.heap.size W w') :=
  ⟨_, _, _, _, _, _, _, _, _, fun W h => (scan_any A n cp g o i W h hn).mono fun _ _ h => h, fun W h => (rscan_any A n cp g o i W h).mono fun _ _ h => h⟩

set_option maxRecDepth 100000 in
set_option maxHeartbeats 1000000 in
theorem walk (w : World) (A : Option Addr) (n cp : Nat) (g : Nat → Int) (hb : BS w A n g) (hn : n ≤ 9223372036854775807) (o i : Bool) :
    Calls Try.prog 7 #[.slice A n cp, .agg #[.bool o, .bool i]] w (TrueIs w) := by
  obtain ⟨m0, m1, m2, m3, m4, m5, m6, c0, c1, h1, h2⟩ := scans_same A n cp g o i hn
  have H1 := Lib.hid h1
  have H2 := Lib.hid h2
  have HB := Lib.hid hb
  clear hb hn h1 h2
  go_enter Try.func7, Try.ntmps7
  go_wp2_with fail
  refine (shown_any _).mono ?_
  rintro e w1 ⟨rfl, hb1⟩
  have hb0 : Below w.heap.size w w1 := ((Below.refl _ _).alloc (Nat.le_refl _) _).trans (hb1.mono (by simp))
  have hk1 := (Blk.new w 33 #[.bool o, .bool i]).kept hb1
  have k0 := hk1.cell 0
  have k1 := hk1.cell 1
  have l1 := hk1.lt
  simp at k0 k1
  have HB0 := Lib.hid hb0
  have HK1 := Lib.hid hk1
  clear hb0 hk1 hb1
  go_wp2_with fail
  refine (H1.out _ (HB.out.below HB0.out)).mono ?_
  rintro e w2 ⟨rfl, hb2⟩
  have hk2 := HK1.out.kept hb2
  have q0 := hk2.cell 0
  have q1 := hk2.cell 1
  have l2 := hk2.lt
  simp at q0 q1
  have HB2 := Lib.hid (HB0.out.trans (hb2.mono HB0.out.size))
  have HK2 := Lib.hid hk2
  clear hk2 hb2 k0 k1
  go_wp2_with fail
  refine (H2.out _ (HB.out.below ?hx)).mono ?_
  case hx => exact (HB2.out.alloc HB2.out.size _).alloc (Nat.le_trans HB2.out.size (by simp)) _
  rintro e w3 ⟨rfl, hb3⟩
  have z1 : Blk w3 w2.heap.size 35 #[.int .u64 (U m0), .int .u64 (U m1), .int .u64 (U m2), .int .u64 (U m3), .int .u64 (U m4), .int .u64 (U m5), .int .u64 (U m6)] := ((Blk.new _ _ _).alloc _).kept hb3
  have z2 : Blk w3 (w2.heap.size + 1) 33 #[.bool c0, .bool c1] := (Blk.newAt _ _ _ (by simp)).kept hb3
  have p0 := z1.cell 0
  have p1 := z1.cell 1
  have p2 := z1.cell 2
  have p3 := z1.cell 3
  have p4 := z1.cell 4
  have p5 := z1.cell 5
  have p6 := z1.cell 6
  have r0 := z2.cell 0
  have r1 := z2.cell 1
  simp at p0 p1 p2 p3 p4 p5 p6 r0 r1
  have d1 := z1.lt
  have d2 := z2.lt
  have d3 : w3.heap.size ≠ w2.heap.size := by omega
  have d4 : w3.heap.size ≠ w2.heap.size + 1 := by omega
  have HB3 := Lib.hid hb3
  clear hb3 z1 z2
  go_wp2
  go_ret
  refine ⟨by simp, ?_⟩
  have h3 : Below w.heap.size w w3 := ((HB2.out.alloc HB2.out.size _).alloc (Nat.le_trans HB2.out.size (by simp)) _).trans (HB3.out.mono (Nat.le_trans HB2.out.size (by simp; omega)))
  have h4 := h3.size
  go_grown

set_option maxRecDepth 100000 in
theorem lifted (os : Os) (started : os.Started) (H : Type) (enc : TypeId × Value → H) :
    ReturnsInHanded {} Try.checked os 7 .any (Rows.bitmapScansSpec.pre6 enc Try.prog Try.f7 Rows.bitmapScansRow.domain false) (Rows.bitmapScansSpec.post enc Try.prog Try.f7 false true false false) := by
  refine returnsInHanded_of_change (C := Try.checked) own started (by kernel_rfl) Try.func7
    (ChangeSpec.witness6 (enc := enc) (C := Try.checked) false ⟨#[], #[.slice none 0 0, .agg #[.bool false, .bool false]], []⟩ 8 (by kernel_rfl) (by kernel_rfl) (by kernel_rfl) (by kernel_rfl)) ?_
  intro W base args ds gs before hval0 hW hcnd _
  have hval : ∀ (j : Nat) t v, Try.f7.params[j]? = some t → args[j]? = some v → Value.okWide Try.prog W .any base t v := hval0
  have hW' := hW
  obtain ⟨p, q, hA0, hV, rfl, hfz, hnd⟩ := hW
  have hA : DataW.TrodAll enc Try.prog W 0 (fun _ => true) true Try.f7.params.toList args.toList ds p := hA0
  rw [Try.params7] at hA hval
  obtain ⟨v0, vs0, d0, ds0, p0, q0, hargs, rfl, rfl, h0, r0⟩ := trodAll_cons hA
  obtain ⟨v1, vs1, d1, ds1, p1, q1, rfl, rfl, rfl, h1, r1⟩ := trodAll_cons r0
  obtain ⟨rfl, rfl, rfl⟩ := trodAll_nil r1
  obtain rfl : args = #[v0, v1] := by cases args; simp_all
  obtain ⟨rfl, rfl⟩ := trodVars_none hV
  have k0 := h0
  have lt0 : ∀ x ∈ p0, x.block < W.heap.size := by obtain ⟨m, hm⟩ := k0; exact DataW.trod_lt m _ _ _ hm
  obtain ⟨A0, len0, cap0, rfl⟩ := okWide_slice Try.underlying22 (hval 0 22 v0 rfl rfl)
  obtain ⟨g0, w0, m0⟩ : ∃ g : Nat → Int, BS W A0 len0 g ∧ len0 ≤ 9223372036854775807 := by
    obtain ⟨fuel, hf⟩ := h0
    rcases open_ints Try.underlying22 Try.underlying5 (by kernel_rfl) hf with ⟨hcs, _⟩ | ⟨x, l, c, zs, hcs, _, hl, hm, hz, _, hcell, hwz⟩
    · simp [Value.cells] at hcs
      obtain ⟨rfl, rfl, rfl⟩ := hcs
      exact ⟨fun _ => 0, .inl rfl, by omega⟩
    · simp [Value.cells] at hcs
      obtain ⟨rfl, rfl, rfl⟩ := hcs
      have hz' : zs.length = cap0 := by simpa using hz
      refine ⟨fun i => zs.getD i 0, ?_, by unfold maxLen at hm; omega⟩
      by_cases h0 : len0 = 0
      · exact .inl h0
      · obtain ⟨b, off, rfl, hc⟩ := ints_at hcell (by omega)
        exact .inr ⟨b, off, rfl, fun i hi => hc i (by omega)⟩
  have k1 := h1
  have lt1 : ∀ x ∈ p1, x.block < W.heap.size := by obtain ⟨m, hm⟩ := k1; exact DataW.trod_lt m _ _ _ hm
  obtain ⟨c1, e1, y1, z1, n1, rfl, rfl, rfl, hy1, hz1⟩ := open_agg2 Try.underlying33 (by kernel_rfl) (by kernel_rfl) (hval 1 33 v1 rfl rfl) h1
  obtain ⟨b1, hb1, rfl⟩ := DataW.trod_bool Try.underlying4 hy1
  obtain ⟨f1, hf1, rfl⟩ := DataW.trod_bool Try.underlying4 hz1
  simp at hb1 hf1
  subst hb1 hf1
  clear hA0 hval0
  refine (walk W A0 len0 cap0 g0 w0 m0 b1 f1).mono fun e W' ⟨he, bel⟩ => ?_
  subst he
  exact ⟨_, rfl, _, _, _, [], _, [], hW', trodAll_mk1 (shut_bool Try.underlying4 _), (trodAll_cons_mk (Below.trod laidOut (by kernel_rfl) (of_decide_eq_true (by kernel_rfl)) k0 bel lt0) (trodAll_cons_mk (Below.trod laidOut (by kernel_rfl) (of_decide_eq_true (by kernel_rfl)) k1 bel lt1) trodAll_mk0)), rfl, bel.frame _, fun h => by cases h⟩

theorem over : Rows.bitmapScansRow.holds Try.pinned (OpenSpec.ofChange Rows.bitmapScansSpec) :=
  OpenClaim.holds_of_wide 7 Try.f7 rfl rfl rfl rfl rfl rfl rfl ⟨rfl, rfl, rfl, rfl, rfl⟩ rfl rfl rfl rfl rfl (by kernel_rfl) Try.func7 (by kernel_rfl)
    (of_decide_eq_true (by kernel_rfl)) (by unfold Func.isWrapper; first | (rw [if_pos (by decide +kernel)]; kernel_rfl) | (rw [if_neg (by decide +kernel)]; exact ⟨rfl, rfl⟩))
    (fun os started H enc _ => lifted os started H enc)
end Go.Proofs.Ytmbiolhecheplaa.bitmapScans
namespace Go.Proofs.Ytmbiolhecheplaa
theorem bitmapScans_holds : Rows.BitmapScansSaid := bitmapScans.over
end Go.Proofs.Ytmbiolhecheplaa
