/-
  Proved: marks stand outside strings, no byte has two, quotes of a string begin it, and from a byte to the next one within changes just at a quote (Rows.BitmapMarksSaid). No condition.
-/
import Derived.Test.YtmbiolhecheplaaRows
import Derived.Test.YtmbiolhecheplaaMarksFacts
import Derived.WalkKit
import Derived.ProofKit
import Derived.OpenShut
import Derived.ChangeOld
import Derived.Below
import Derived.Lib.SmallJoins
namespace Go.Proofs.Ytmbiolhecheplaa.bitmapMarks
open Go.ChangeShapes Go.WideShapes Go.ChangeAt Go.RowKit Go.Joins
set_option linter.unusedVariables false

theorem own : ownKnob Try.prog.godebug = none := by kernel_rfl
theorem laidOut : laidOutB Try.prog = true := by kernel_rfl

attribute [local go_sem] U_and U_or U_beq U_zero U_one U_and1 shr_bit
set_option maxRecDepth 100000 in
set_option maxHeartbeats 1000000 in
theorem walk (w : World) (A : Option Addr) (n cp : Nat) (g : Nat → Int) (hb : BS w A n g) (hn : n ≤ 9223372036854775807) (o i : Bool) :
    Calls Try.prog 10 #[.slice A n cp, .agg #[.bool o, .bool i]] w (TrueIs w) := by
  obtain ⟨m, hm⟩ : ∃ m, m = min 64 n := ⟨_, rfl⟩
  obtain ⟨Q, I, O, C, N, M, S, c0, c1, h1, ⟨r1, r2, r3, r4, r5, r6, r7, r8, r9⟩, hc1⟩ := marks_facts A n cp g o i hn m hm
  have H1 := Lib.hid h1
  have R7 := Lib.hid r7
  have R8 := Lib.hid r8
  have R9 := Lib.hid r9
  have HC1 := Lib.hid hc1
  have HB := Lib.hid hb
  have hs : (n < 64 ∧ n ≤ m ∧ m ≤ n) ∨ (64 < n ∧ 64 ≤ m ∧ m ≤ 64) ∨ (n = 64 ∧ 64 ≤ m ∧ m ≤ 64) := by omega
  clear hb hn h1 r7 r8 r9 hm hc1
  rcases hs with ⟨s1, s2, s3⟩ | ⟨s1, s2, s3⟩ | ⟨s1, s2, s3⟩
  · have t1 : (O ||| C ||| N ||| M ||| S ||| Q ||| I) >>> m = 0#64 := R7.out
    have t2 : ∀ x : BitVec 64, U x / 2 ^ n = U (x >>> n) := fun x => U_shr x n
    obtain rfl : m = n := by omega
    go_enter Try.func10, Try.ntmps10
    go_wp2_with fail
    refine (shown_any _).mono ?_
    rintro e w1 ⟨rfl, hb1⟩
    have hb0 : Below w.heap.size w w1 := ((Below.refl _ _).alloc (Nat.le_refl _) _).trans (hb1.mono (by simp))
    have hk1 := (Blk.new w 33 #[.bool o, .bool i]).kept hb1
    have k0 := hk1.cell 0
    have k1 := hk1.cell 1
    have l1 := hk1.lt
    simp at k0 k1
    have HB0 := Lib.hid hb0
    have HK1 := Lib.hid hk1
    clear hb0 hk1 hb1
    go_wp2_with fail
    refine (H1.out _ (HB.out.below HB0.out)).mono ?_
    rintro e w2 ⟨rfl, hb2⟩
    have hk2 := HK1.out.kept hb2
    have q0 := hk2.cell 0
    have q1 := hk2.cell 1
    have l2 := hk2.lt
    simp at q0 q1
    have HB2 := Lib.hid (HB0.out.trans (hb2.mono HB0.out.size))
    clear hk2 hb2 k0 k1
    go_wp2_with fail
    clear t1 t2 r1 r2 r3 r4 r5 r6
    go_loop [11, 12, 13] (fun was k _ => ∃ j : Nat, j ≤ m ∧ k = .int .i64 j ∧ was = .bool (Lo.si g o i j)) (fun _ k _ => m - (intOf k).toNat)
    case atStart => exact ⟨0, Nat.zero_le _, rfl, rfl⟩
    case round =>
      obtain ⟨j, hj, rfl, rfl⟩ := hrel
      by_cases hlt : j < m
      · have j64 : j < 64 := by omega
        have t2 : ∀ x : BitVec 64, U x / 2 ^ j = U (x >>> j) := fun x => U_shr x j
        have hI := R8.out j hlt
        have hQ := R9.out j hlt
        have hend : Value.bool (Lo.si g o i j ^^ Lo.sq g o j) = .bool (Lo.si g o i (j + 1)) := rfl
        have HE := Lib.hid hend
        clear hend
        generalize Lo.si g o i j = p at *
        generalize Lo.sq g o j = q at *
        have hI' : I[j] = (p ^^ q) := by rw [← BitVec.getLsbD_eq_getElem]; exact hI
        have hQ' : Q[j] = q := by rw [← BitVec.getLsbD_eq_getElem]; exact hQ
        cases p <;> cases q
        all_goals
          simp only [Bool.xor_false, Bool.xor_true, Bool.not_false, Bool.not_true] at HE hI hI'
          go_wp2
          go_round
          case rel => exact ⟨j + 1, by omega, by go_num, HE.out⟩
          case measure => simp [intOf]; omega
      · obtain rfl : j = m := by omega
        have hc1 := HC1.out.symm
        go_wp2
        go_ret
        refine ⟨by simp, ?_⟩
        have h2 := HB2.out
        have h3 := h2.size
        go_grown
  · go_enter Try.func10, Try.ntmps10
    go_wp2_with fail
    refine (shown_any _).mono ?_
    rintro e w1 ⟨rfl, hb1⟩
    have hb0 : Below w.heap.size w w1 := ((Below.refl _ _).alloc (Nat.le_refl _) _).trans (hb1.mono (by simp))
    have hk1 := (Blk.new w 33 #[.bool o, .bool i]).kept hb1
    have k0 := hk1.cell 0
    have k1 := hk1.cell 1
    have l1 := hk1.lt
    simp at k0 k1
    have HB0 := Lib.hid hb0
    have HK1 := Lib.hid hk1
    clear hb0 hk1 hb1
    go_wp2_with fail
    refine (H1.out _ (HB.out.below HB0.out)).mono ?_
    rintro e w2 ⟨rfl, hb2⟩
    have hk2 := HK1.out.kept hb2
    have q0 := hk2.cell 0
    have q1 := hk2.cell 1
    have l2 := hk2.lt
    simp at q0 q1
    have HB2 := Lib.hid (HB0.out.trans (hb2.mono HB0.out.size))
    clear hk2 hb2 k0 k1
    go_wp2_with fail
    clear r1 r2 r3 r4 r5 r6
    go_loop [11, 12, 13] (fun was k _ => ∃ j : Nat, j ≤ m ∧ k = .int .i64 j ∧ was = .bool (Lo.si g o i j)) (fun _ k _ => m - (intOf k).toNat)
    case atStart => exact ⟨0, Nat.zero_le _, rfl, rfl⟩
    case round =>
      obtain ⟨j, hj, rfl, rfl⟩ := hrel
      by_cases hlt : j < m
      · have j64 : j < 64 := by omega
        have t2 : ∀ x : BitVec 64, U x / 2 ^ j = U (x >>> j) := fun x => U_shr x j
        have hI := R8.out j hlt
        have hQ := R9.out j hlt
        have hend : Value.bool (Lo.si g o i j ^^ Lo.sq g o j) = .bool (Lo.si g o i (j + 1)) := rfl
        have HE := Lib.hid hend
        clear hend
        generalize Lo.si g o i j = p at *
        generalize Lo.sq g o j = q at *
        have hI' : I[j] = (p ^^ q) := by rw [← BitVec.getLsbD_eq_getElem]; exact hI
        have hQ' : Q[j] = q := by rw [← BitVec.getLsbD_eq_getElem]; exact hQ
        cases p <;> cases q
        all_goals
          simp only [Bool.xor_false, Bool.xor_true, Bool.not_false, Bool.not_true] at HE hI hI'
          go_wp2
          go_round
          case rel => exact ⟨j + 1, by omega, by go_num, HE.out⟩
          case measure => simp [intOf]; omega
      · obtain rfl : j = m := by omega
        have hc1 := HC1.out.symm
        go_wp2
        go_ret
        refine ⟨by simp, ?_⟩
        have h2 := HB2.out
        have h3 := h2.size
        go_grown
  · subst s1
    go_enter Try.func10, Try.ntmps10
    go_wp2_with fail
    refine (shown_any _).mono ?_
    rintro e w1 ⟨rfl, hb1⟩
    have hb0 : Below w.heap.size w w1 := ((Below.refl _ _).alloc (Nat.le_refl _) _).trans (hb1.mono (by simp))
    have hk1 := (Blk.new w 33 #[.bool o, .bool i]).kept hb1
    have k0 := hk1.cell 0
    have k1 := hk1.cell 1
    have l1 := hk1.lt
    simp at k0 k1
    have HB0 := Lib.hid hb0
    have HK1 := Lib.hid hk1
    clear hb0 hk1 hb1
    go_wp2_with fail
    refine (H1.out _ (HB.out.below HB0.out)).mono ?_
    rintro e w2 ⟨rfl, hb2⟩
    have hk2 := HK1.out.kept hb2
    have q0 := hk2.cell 0
    have q1 := hk2.cell 1
    have l2 := hk2.lt
    simp at q0 q1
    have HB2 := Lib.hid (HB0.out.trans (hb2.mono HB0.out.size))
    clear hk2 hb2 k0 k1
    go_wp2_with fail
    clear r1 r2 r3 r4 r5 r6
    go_loop [11, 12, 13] (fun was k _ => ∃ j : Nat, j ≤ m ∧ k = .int .i64 j ∧ was = .bool (Lo.si g o i j)) (fun _ k _ => m - (intOf k).toNat)
    case atStart => exact ⟨0, Nat.zero_le _, rfl, rfl⟩
    case round =>
      obtain ⟨j, hj, rfl, rfl⟩ := hrel
      by_cases hlt : j < m
      · have j64 : j < 64 := by omega
        have t2 : ∀ x : BitVec 64, U x / 2 ^ j = U (x >>> j) := fun x => U_shr x j
        have hI := R8.out j hlt
        have hQ := R9.out j hlt
        have hend : Value.bool (Lo.si g o i j ^^ Lo.sq g o j) = .bool (Lo.si g o i (j + 1)) := rfl
        have HE := Lib.hid hend
        clear hend
        generalize Lo.si g o i j = p at *
        generalize Lo.sq g o j = q at *
        have hI' : I[j] = (p ^^ q) := by rw [← BitVec.getLsbD_eq_getElem]; exact hI
        have hQ' : Q[j] = q := by rw [← BitVec.getLsbD_eq_getElem]; exact hQ
        cases p <;> cases q
        all_goals
          simp only [Bool.xor_false, Bool.xor_true, Bool.not_false, Bool.not_true] at HE hI hI'
          go_wp2
          go_round
          case rel => exact ⟨j + 1, by omega, by go_num, HE.out⟩
          case measure => simp [intOf]; omega
      · obtain rfl : j = m := by omega
        have hc1 := HC1.out.symm
        go_wp2
        go_ret
        refine ⟨by simp, ?_⟩
        have h2 := HB2.out
        have h3 := h2.size
        go_grown

set_option maxRecDepth 100000 in
theorem lifted (os : Os) (started : os.Started) (H : Type) (enc : TypeId × Value → H) :
    ReturnsInHanded {} Try.checked os 10 .any (Rows.bitmapMarksSpec.pre6 enc Try.prog Try.f10 Rows.bitmapMarksRow.domain false) (Rows.bitmapMarksSpec.post enc Try.prog Try.f10 false true false false) := by
  refine returnsInHanded_of_change (C := Try.checked) own started (by kernel_rfl) Try.func10
    (ChangeSpec.witness6 (enc := enc) (C := Try.checked) false ⟨#[], #[.slice none 0 0, .agg #[.bool false, .bool false]], []⟩ 8 (by kernel_rfl) (by kernel_rfl) (by kernel_rfl) (by kernel_rfl)) ?_
  intro W base args ds gs before hval0 hW hcnd _
  have hval : ∀ (j : Nat) t v, Try.f10.params[j]? = some t → args[j]? = some v → Value.okWide Try.prog W .any base t v := hval0
  have hW' := hW
  obtain ⟨p, q, hA0, hV, rfl, hfz, hnd⟩ := hW
  have hA : DataW.TrodAll enc Try.prog W 0 (fun _ => true) true Try.f10.params.toList args.toList ds p := hA0
  rw [Try.params10] at hA hval
  obtain ⟨v0, vs0, d0, ds0, p0, q0, hargs, rfl, rfl, h0, r0⟩ := trodAll_cons hA
  obtain ⟨v1, vs1, d1, ds1, p1, q1, rfl, rfl, rfl, h1, r1⟩ := trodAll_cons r0
  obtain ⟨rfl, rfl, rfl⟩ := trodAll_nil r1
  obtain rfl : args = #[v0, v1] := by cases args; simp_all
  obtain ⟨rfl, rfl⟩ := trodVars_none hV
  have k0 := h0
  have lt0 : ∀ x ∈ p0, x.block < W.heap.size := by obtain ⟨m, hm⟩ := k0; exact DataW.trod_lt m _ _ _ hm
  obtain ⟨A0, len0, cap0, rfl⟩ := okWide_slice Try.underlying22 (hval 0 22 v0 rfl rfl)
  obtain ⟨g0, w0, m0⟩ : ∃ g : Nat → Int, BS W A0 len0 g ∧ len0 ≤ 9223372036854775807 := by
    obtain ⟨fuel, hf⟩ := h0
    rcases open_ints Try.underlying22 Try.underlying5 (by kernel_rfl) hf with ⟨hcs, _⟩ | ⟨x, l, c, zs, hcs, _, hl, hm, hz, _, hcell, hwz⟩
    · simp [Value.cells] at hcs
      obtain ⟨rfl, rfl, rfl⟩ := hcs
      exact ⟨fun _ => 0, .inl rfl, by omega⟩
    · simp [Value.cells] at hcs
      obtain ⟨rfl, rfl, rfl⟩ := hcs
      have hz' : zs.length = cap0 := by simpa using hz
      refine ⟨fun i => zs.getD i 0, ?_, by unfold maxLen at hm; omega⟩
      by_cases h0 : len0 = 0
      · exact .inl h0
      · obtain ⟨b, off, rfl, hc⟩ := ints_at hcell (by omega)
        exact .inr ⟨b, off, rfl, fun i hi => hc i (by omega)⟩
  have k1 := h1
  have lt1 : ∀ x ∈ p1, x.block < W.heap.size := by obtain ⟨m, hm⟩ := k1; exact DataW.trod_lt m _ _ _ hm
  obtain ⟨c1, e1, y1, z1, n1, rfl, rfl, rfl, hy1, hz1⟩ := open_agg2 Try.underlying33 (by kernel_rfl) (by kernel_rfl) (hval 1 33 v1 rfl rfl) h1
  obtain ⟨b1, hb1, rfl⟩ := DataW.trod_bool Try.underlying4 hy1
  obtain ⟨f1, hf1, rfl⟩ := DataW.trod_bool Try.underlying4 hz1
  simp at hb1 hf1
  subst hb1 hf1
  clear hA0 hval0
  refine (walk W A0 len0 cap0 g0 w0 m0 b1 f1).mono fun e W' ⟨he, bel⟩ => ?_
  subst he
  exact ⟨_, rfl, _, _, _, [], _, [], hW', trodAll_mk1 (shut_bool Try.underlying4 _), (trodAll_cons_mk (Below.trod laidOut (by kernel_rfl) (of_decide_eq_true (by kernel_rfl)) k0 bel lt0) (trodAll_cons_mk (Below.trod laidOut (by kernel_rfl) (of_decide_eq_true (by kernel_rfl)) k1 bel lt1) trodAll_mk0)), rfl, bel.frame _, fun h => by cases h⟩

theorem over : Rows.bitmapMarksRow.holds Try.pinned (OpenSpec.ofChange Rows.bitmapMarksSpec) :=
  OpenClaim.holds_of_wide 10 Try.f10 rfl rfl rfl rfl rfl rfl rfl ⟨rfl, rfl, rfl, rfl, rfl⟩ rfl rfl rfl rfl rfl (by kernel_rfl) Try.func10 (by kernel_rfl)
    (of_decide_eq_true (by kernel_rfl)) (by unfold Func.isWrapper; first | (rw [if_pos (by decide +kernel)]; kernel_rfl) | (rw [if_neg (by decide +kernel)]; exact ⟨rfl, rfl⟩))
    (fun os started H enc _ => lifted os started H enc)
end Go.Proofs.Ytmbiolhecheplaa.bitmapMarks
namespace Go.Proofs.Ytmbiolhecheplaa
theorem bitmapMarks_holds : Rows.BitmapMarksSaid := bitmapMarks.over
end Go.Proofs.Ytmbiolhecheplaa
