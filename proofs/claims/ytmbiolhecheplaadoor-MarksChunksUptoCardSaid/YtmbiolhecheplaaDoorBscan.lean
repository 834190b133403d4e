/-
  bitmap's Scan: what each call returns. For all bytes and every carry; what was there stays as it is.
-/
import Derived.Test.YtmbiolhecheplaaDoorAny
namespace Go.Proofs.YtmbiolhecheplaaDoor
open Go.RowKit

theorem U_and1 (x : BitVec 64) : (bits .and .u64 (U x) 1 == 1) = x.getLsbD 0 := by
  have h : bits .and .u64 (U x) (U 1#64) = U (x &&& 1#64) := U_and x 1#64
  rw [U_one] at h
  rw [h]
  have h2 : (U (x &&& 1#64) == U 1#64) = x.getLsbD 0 := by
    rw [U_beq]
    have e : x &&& 1#64 = Lo.one (x.getLsbD 0) := by
      apply Lo.ext64
      intro i hi
      rw [BitVec.getLsbD_and, Lo.one_lsb, BitVec.getLsbD_one]
      by_cases h0 : i = 0
      · subst h0; simp
      · simp [h0]
    rw [e]
    cases x.getLsbD 0 <;> rfl
  rwa [U_one] at h2
theorem shr_bit (x : BitVec 64) (n : Nat) : (x >>> n).getLsbD 0 = x.getLsbD n := by rw [BitVec.getLsbD_ushiftRight, Nat.add_zero]
theorem U_sub1 (x : BitVec 64) : IntKind.u64.wrap (U x - 1) = U (x - 1#64) := by have := U_sub x 1#64; rwa [U_one] at this
theorem U_pow (n : Nat) (hn : n ≤ 64) : IntKind.u64.wrap (2 ^ n) = U (1#64 <<< n) := by
  have h := U_shl 1#64 n hn
  rwa [U_one, Int.one_mul] at h
theorem U_allOnes (x : BitVec 64) : bits .and .u64 (U x) 18446744073709551615 = U x := by
  have h : bits .and .u64 (U x) (U (BitVec.allOnes 64)) = U (x &&& BitVec.allOnes 64) := U_and x _
  rw [BitVec.and_allOnes] at h
  exact h

theorem U_all2 (x : BitVec 64) : bits .and .u64 (U x) (IntKind.u64.wrap (IntKind.u64.wrap 18446744073709551616 - 1)) = U x := by
  have h : IntKind.u64.wrap (IntKind.u64.wrap 18446744073709551616 - 1) = 18446744073709551615 := by rw [IntKind.wrap_u64, IntKind.wrap_u64]; decide
  rw [h, U_allOnes]

/-- What lies in memory ahead of the five looks for signs. -/
structure ScanAt (w wx : World) (A : Option Addr) (n cp : Nat) (ts tm tc tu : TypeId) (inn : BitVec 64) : Prop where
  below : Below w.heap.size w wx
  sl : Blk wx w.heap.size ts #[.slice A n cp]
  ms : Blk wx (w.heap.size + 1 + 1) tm #[.int .u64 0, .int .u64 0, .int .u64 0, .int .u64 0, .int .u64 0, .int .u64 0, .int .u64 0]
  cs : Blk wx (w.heap.size + 1 + 1 + 1) tc #[.bool false, .bool false]
  inn : Blk wx (w.heap.size + 1 + 1 + 1 + 1) tu #[.int .u64 (U inn)]

attribute [local go_sem] drewN_alloc drewN_setCell U_and U_or U_andNot U_and1 U_sub1 U_all2 shr_bit
set_option maxHeartbeats 4000000 in
theorem scan_less (A : Option Addr) (n cp : Nat) (g : Nat → Int) (o i : Bool) (w : World) (hb : BS w A n g) (hn : n < 64) :
    Calls Tryd.prog 31 #[.slice A n cp, .agg #[.bool o, .bool i]] w (ScanIs n g o i w) := by
  have HB := Lib.hid hb
  clear hb
  have hm : min 64 n = n := by omega
  have r1 := U_pow n (by omega)
  have r2 : ∀ x : BitVec 64, U x / 2 ^ n = U (x >>> n) := fun x => U_shr x n
  have hbits : ∀ (c : Int) (W : World), BS W A n g → Calls Tryd.prog 33 #[.slice A n cp, .int .u8 c] W fun e w' => e = .returned (.int .u64 (U (Lo.bitsM n g c))) ∧ W = w' := fun c W h => by
    have := bits_any A n cp g c W h (by omega)
    rwa [hm] at this
  have HBITS := Lib.hid hbits
  clear hbits
  have HM := Lib.hid hm
  clear hm
  have q1 := Lo.quotes_eq n (by omega) g o
  have q2 := Lo.in_eq n (by omega) g o i
  have q3 : (Lo.escD (Lo.bitsM n g 92) o)[n] = Lo.so g o n := by rw [← BitVec.getLsbD_eq_getElem]; exact Lo.esc_lsb n (by omega) g o n (Nat.le_refl _) hn
  have q4 : (Lo.insD (Lo.qM n g o) i)[n] = Lo.si g o i n := by rw [← BitVec.getLsbD_eq_getElem]; exact Lo.still_eq n hn g o i
  go_enter Tryd.func31, Tryd.ntmps31
  go_wp2
  have hw : Below w.heap.size w (((((w.alloc (.cells #[.slice A n cp] 22)).alloc (.cells #[.bool o, .bool i] 52)).alloc (.cells #[.int .u64 0, .int .u64 0, .int .u64 0, .int .u64 0, .int .u64 0, .int .u64 0, .int .u64 0] 45)).alloc (.cells #[.bool false, .bool false] 52))) := by go_grown
  have HBW := Lib.hid (HB.out.below hw)
  clear hw
  go_quiet ((first | (go_at_call 33; exact quiet_l (HBITS.out _ _ (HBW.out.drewN _))) | (go_at_call 32; exact quiet_l (escaped_any _ _ _))))
  go_wp2_with fail
  refine (HBITS.out _ _ (HBW.out.drewN _)).mono ?_
  rintro e w1 ⟨rfl, rfl⟩
  go_wp2_with fail
  refine (inside_any _ _ _).mono ?_
  rintro e w1 ⟨rfl, rfl⟩
  go_wp2
  go_quiet (fail)
  go_upto_region 9 with (fail)
  go_cut [13] (fun s13 wx => s13 = .func (.func 35) #[] #[.pointer (some ⟨w.heap.size, 0, none⟩), .pointer (some ⟨w.heap.size + 1 + 1 + 1 + 1, 0, none⟩)] ∧ ScanAt w wx A n cp 22 45 52 42 (Lo.iM n g o i))
  case first =>
    go_wp2_with fail
    go_meet
    refine ⟨rfl, ⟨?b0, ?_, ?_, ?_, ?_⟩⟩
    case b0 => exact belowN (by go_grown) _
    · exact (((((Blk.newAt _ _ _ rfl).alloc _).alloc _).alloc _).alloc _).drewN _
    · exact (((Blk.newAt _ _ _ (by simp)).alloc _).alloc _).drewN _
    · exact ((Blk.newAt _ _ _ (by simp)).alloc _).drewN _
    · exact (Blk.newAt _ _ _ (by simp)).drewN _
  case rest =>
    obtain ⟨rfl, hat⟩ := hcut
    have h0 := hat.sl.cell 0
    have h1 := hat.inn.cell 0
    simp at h0 h1
    have HBC := Lib.hid (HB.out.below hat.below)
    have HAT := Lib.hid hat
    have e0 : wc.heap.size ≠ w.heap.size := by have := hat.sl.lt; omega
    have e1 : wc.heap.size ≠ w.heap.size + 1 + 1 + 1 + 1 := by have := hat.inn.lt; omega
    have hany : ∀ (s : ByteArray) (W : World), s.size ≤ 100 → Below wc.heap.size wc W →
        Calls Tryd.prog 35 #[.string s, .pointer (some ⟨w.heap.size, 0, none⟩), .pointer (some ⟨w.heap.size + 1 + 1 + 1 + 1, 0, none⟩)] W (AnyIs (anyD n g (Lo.iM n g o i) s) W) := fun s W hs hb => by
      have k0 : W.cell? ⟨w.heap.size, 0, none⟩ = some (.slice A n cp) := (hb.cell (p := ⟨w.heap.size, 0, none⟩) HAT.out.sl.lt).trans h0
      have k1 : W.cell? ⟨w.heap.size + 1 + 1 + 1 + 1, 0, none⟩ = some (.int .u64 (U (Lo.iM n g o i))) := (hb.cell (p := ⟨w.heap.size + 1 + 1 + 1 + 1, 0, none⟩) HAT.out.inn.lt).trans h1
      have h := any_any s A n cp g (Lo.iM n g o i) _ _ W (HBC.out.below hb) (by omega) hs k0 k1
      rwa [HM.out] at h
    have HANY := Lib.hid hany
    clear hany hat q1 q2 q3 q4 r1 r2
    have hms : #[.int .u64 (U (Lo.qM n g o)), .int .u64 (U (Lo.iM n g o i)), .int .u64 (U (anyD n g (Lo.iM n g o i) ⟨#[91, 123]⟩)), .int .u64 (U (anyD n g (Lo.iM n g o i) ⟨#[93, 125]⟩)), .int .u64 (U (anyD n g (Lo.iM n g o i) ⟨#[58]⟩)), .int .u64 (U (anyD n g (Lo.iM n g o i) ⟨#[44]⟩)), .int .u64 (U (anyD n g (Lo.iM n g o i) ⟨#[32, 9, 10, 13]⟩))] = masks n g o i := by
      rw [any_o n (by omega), any_c n (by omega), any_n n (by omega), any_m n (by omega), any_s n (by omega)]; rfl
    have HMS := Lib.hid hms
    clear hms
    clear HBITS HBW HB HBC
    go_upto_region 10 with (fail)
    go_cut [14] (fun s14 wx => ∃ gb : Nat, s14 = .pointer (some ⟨gb, 0, none⟩) ∧ wc.heap.size ≤ gb ∧ Blk wx gb 45 (masks n g o i) ∧ Below wc.heap.size wc wx)
    case first =>
      go_region_held3 (fun w' => w'.cell? ⟨w.heap.size, 0, none⟩ = some (.slice A n cp) ∧ w'.cell? ⟨w.heap.size + 1 + 1 + 1 + 1, 0, none⟩ = some (.int .u64 (U (Lo.iM n g o i)))) (go_keep)
        (first | (go_at_call 35; refine (HANY.out _ _ ?_ ?_).mono ?_; (with_unfolding_all decide); (first | (with_reducible exact belowN (Below.refl _ _) _) | (with_reducible exact belowN (Below.alloc (Below.refl _ _) (Nat.le_refl _) _) _) | (with_reducible exact Below.drew (Below.refl _ _)) | (with_reducible exact Below.drew (Below.alloc (Below.refl _ _) (Nat.le_refl _) _)) | (with_reducible exact Below.refl _ _)); rintro e w1 ⟨rfl, m, rfl⟩))
      all_goals
        go_wp2_with fail
        go_meet
        exact ⟨_, rfl, Nat.le_refl _, ((Blk.new _ _ _).is HMS.out).drewN _, belowN ((Below.refl _ _).alloc (Nat.le_refl _) _) _⟩
    case rest =>
      obtain ⟨gb, rfl, hgb, bm, hb2⟩ := hcut
      have l4 := HAT.out.inn.lt
      have bms := HAT.out.ms.kept hb2
      have bcs := HAT.out.cs.kept hb2
      have hbw := HAT.out.below.trans (hb2.mono HAT.out.below.size)
      have p0 := bm.cell 0
      have r0 := bms.cell 0
      have f0 := bms.frozen 0
      have p1 := bm.cell 1
      have r1 := bms.cell 1
      have f1 := bms.frozen 1
      have p2 := bm.cell 2
      have r2 := bms.cell 2
      have f2 := bms.frozen 2
      have p3 := bm.cell 3
      have r3 := bms.cell 3
      have f3 := bms.frozen 3
      have p4 := bm.cell 4
      have r4 := bms.cell 4
      have f4 := bms.frozen 4
      have p5 := bm.cell 5
      have r5 := bms.cell 5
      have f5 := bms.frozen 5
      have p6 := bm.cell 6
      have r6 := bms.cell 6
      have f6 := bms.frozen 6
      have s0 := bcs.cell 0
      have s1 := bcs.cell 1
      have t0 := bcs.frozen 0
      have t1 := bcs.frozen 1
      have d2 : gb ≠ w.heap.size + 1 + 1 := by omega
      have d3 : gb ≠ w.heap.size + 1 + 1 + 1 := by omega
      simp only [masks] at p0 p1 p2 p3 p4 p5 p6
      simp at p0 p1 p2 p3 p4 p5 p6 r0 r1 r2 r3 r4 r5 r6 s0 s1
      have HBW2 := Lib.hid hbw
      have BMS := Lib.hid bms
      have BCS := Lib.hid bcs
      clear hbw hb2 bms bcs bm HAT
      go_wp2
      have hbw := HBW2.out
      refine bodyPost_ret (v := .tuple #[.agg (masks n g o i), .agg (carry n g o i)]) (by simp [results, Tryd.results31, go_sem, masks, carry, r0, r1, r2, r3, r4, r5, r6, s0, s1]) rfl ⟨by rw [HM.out], ?_⟩
      go_grown
set_option maxHeartbeats 4000000 in
theorem scan_more (A : Option Addr) (n cp : Nat) (g : Nat → Int) (o i : Bool) (w : World) (hb : BS w A n g) (hn : 64 ≤ n) (hn2 : n ≤ 9223372036854775807) :
    Calls Tryd.prog 31 #[.slice A n cp, .agg #[.bool o, .bool i]] w (ScanIs n g o i w) := by
  have HB := Lib.hid hb
  clear hb
  have hm : min 64 n = 64 := by omega
  have hbits : ∀ (c : Int) (W : World), BS W A n g → Calls Tryd.prog 33 #[.slice A n cp, .int .u8 c] W fun e w' => e = .returned (.int .u64 (U (Lo.bitsM 64 g c))) ∧ W = w' := fun c W h => by
    have := bits_any A n cp g c W h hn2
    rwa [hm] at this
  have HBITS := Lib.hid hbits
  clear hbits
  have HN2 := Lib.hid hn2
  clear hn2
  have HM := Lib.hid hm
  clear hm
  have q1 := Lo.quotes_eq 64 (by omega) g o
  have q2 : Lo.insD (Lo.qM 64 g o) i = Lo.iM 64 g o i := by
    rw [← Lo.in_eq 64 (by omega) g o i, show (1#64 <<< 64) - 1#64 = BitVec.allOnes 64 from rfl, BitVec.and_allOnes]
  have q3 : Lo.esc (Lo.bitsM 64 g 92).getLsbD o 64 = Lo.so g o 64 := Lo.so_of 64 (by omega) g o 64 (by omega)
  have q4 : (i ^^ Lo.par (Lo.qM 64 g o).getLsbD 64) = Lo.si g o i 64 := Lo.si_par 64 (by omega) g o i 64 (by omega)
  go_enter Tryd.func31, Tryd.ntmps31
  go_wp2
  have hw : Below w.heap.size w (((((w.alloc (.cells #[.slice A n cp] 22)).alloc (.cells #[.bool o, .bool i] 52)).alloc (.cells #[.int .u64 0, .int .u64 0, .int .u64 0, .int .u64 0, .int .u64 0, .int .u64 0, .int .u64 0] 45)).alloc (.cells #[.bool false, .bool false] 52))) := by go_grown
  have HBW := Lib.hid (HB.out.below hw)
  clear hw
  go_quiet ((first | (go_at_call 33; exact quiet_l (HBITS.out _ _ (HBW.out.drewN _))) | (go_at_call 32; exact quiet_l (escaped_any _ _ _))))
  go_wp2_with fail
  refine (HBITS.out _ _ (HBW.out.drewN _)).mono ?_
  rintro e w1 ⟨rfl, rfl⟩
  go_wp2_with fail
  refine (inside_any _ _ _).mono ?_
  rintro e w1 ⟨rfl, rfl⟩
  go_upto_region 9 with (fail)
  go_cut [13] (fun s13 wx => s13 = .func (.func 35) #[] #[.pointer (some ⟨w.heap.size, 0, none⟩), .pointer (some ⟨w.heap.size + 1 + 1 + 1 + 1, 0, none⟩)] ∧ ScanAt w wx A n cp 22 45 52 42 (Lo.iM 64 g o i))
  case first =>
    go_wp2_with fail
    go_meet
    refine ⟨rfl, ⟨?b0, ?_, ?_, ?_, ?_⟩⟩
    case b0 => exact belowN (by go_grown) _
    · exact (((((Blk.newAt _ _ _ rfl).alloc _).alloc _).alloc _).alloc _).drewN _
    · exact (((Blk.newAt _ _ _ (by simp)).alloc _).alloc _).drewN _
    · exact ((Blk.newAt _ _ _ (by simp)).alloc _).drewN _
    · exact (Blk.newAt _ _ _ (by simp)).drewN _
  case rest =>
    obtain ⟨rfl, hat⟩ := hcut
    have h0 := hat.sl.cell 0
    have h1 := hat.inn.cell 0
    simp at h0 h1
    have HBC := Lib.hid (HB.out.below hat.below)
    have HAT := Lib.hid hat
    have e0 : wc.heap.size ≠ w.heap.size := by have := hat.sl.lt; omega
    have e1 : wc.heap.size ≠ w.heap.size + 1 + 1 + 1 + 1 := by have := hat.inn.lt; omega
    have hany : ∀ (s : ByteArray) (W : World), s.size ≤ 100 → Below wc.heap.size wc W →
        Calls Tryd.prog 35 #[.string s, .pointer (some ⟨w.heap.size, 0, none⟩), .pointer (some ⟨w.heap.size + 1 + 1 + 1 + 1, 0, none⟩)] W (AnyIs (anyD 64 g (Lo.iM 64 g o i) s) W) := fun s W hs hb => by
      have k0 : W.cell? ⟨w.heap.size, 0, none⟩ = some (.slice A n cp) := (hb.cell (p := ⟨w.heap.size, 0, none⟩) HAT.out.sl.lt).trans h0
      have k1 : W.cell? ⟨w.heap.size + 1 + 1 + 1 + 1, 0, none⟩ = some (.int .u64 (U (Lo.iM 64 g o i))) := (hb.cell (p := ⟨w.heap.size + 1 + 1 + 1 + 1, 0, none⟩) HAT.out.inn.lt).trans h1
      have h := any_any s A n cp g (Lo.iM 64 g o i) _ _ W (HBC.out.below hb) HN2.out hs k0 k1
      rwa [HM.out] at h
    have HANY := Lib.hid hany
    clear hany hat q1 q2 q3 q4
    have hms : #[.int .u64 (U (Lo.qM 64 g o)), .int .u64 (U (Lo.iM 64 g o i)), .int .u64 (U (anyD 64 g (Lo.iM 64 g o i) ⟨#[91, 123]⟩)), .int .u64 (U (anyD 64 g (Lo.iM 64 g o i) ⟨#[93, 125]⟩)), .int .u64 (U (anyD 64 g (Lo.iM 64 g o i) ⟨#[58]⟩)), .int .u64 (U (anyD 64 g (Lo.iM 64 g o i) ⟨#[44]⟩)), .int .u64 (U (anyD 64 g (Lo.iM 64 g o i) ⟨#[32, 9, 10, 13]⟩))] = masks 64 g o i := by
      rw [any_o 64 (by omega), any_c 64 (by omega), any_n 64 (by omega), any_m 64 (by omega), any_s 64 (by omega)]; rfl
    have HMS := Lib.hid hms
    clear hms
    clear HBITS HBW HB HBC
    go_upto_region 10 with (fail)
    go_cut [14] (fun s14 wx => ∃ gb : Nat, s14 = .pointer (some ⟨gb, 0, none⟩) ∧ wc.heap.size ≤ gb ∧ Blk wx gb 45 (masks 64 g o i) ∧ Below wc.heap.size wc wx)
    case first =>
      go_region_held3 (fun w' => w'.cell? ⟨w.heap.size, 0, none⟩ = some (.slice A n cp) ∧ w'.cell? ⟨w.heap.size + 1 + 1 + 1 + 1, 0, none⟩ = some (.int .u64 (U (Lo.iM 64 g o i)))) (go_keep)
        (first | (go_at_call 35; refine (HANY.out _ _ ?_ ?_).mono ?_; (with_unfolding_all decide); (first | (with_reducible exact belowN (Below.refl _ _) _) | (with_reducible exact belowN (Below.alloc (Below.refl _ _) (Nat.le_refl _) _) _) | (with_reducible exact Below.drew (Below.refl _ _)) | (with_reducible exact Below.drew (Below.alloc (Below.refl _ _) (Nat.le_refl _) _)) | (with_reducible exact Below.refl _ _)); rintro e w1 ⟨rfl, m, rfl⟩))
      all_goals
        go_wp2_with fail
        go_meet
        exact ⟨_, rfl, Nat.le_refl _, ((Blk.new _ _ _).is HMS.out).drewN _, belowN ((Below.refl _ _).alloc (Nat.le_refl _) _) _⟩
    case rest =>
      obtain ⟨gb, rfl, hgb, bm, hb2⟩ := hcut
      have l4 := HAT.out.inn.lt
      have bms := HAT.out.ms.kept hb2
      have bcs := HAT.out.cs.kept hb2
      have hbw := HAT.out.below.trans (hb2.mono HAT.out.below.size)
      have p0 := bm.cell 0
      have r0 := bms.cell 0
      have f0 := bms.frozen 0
      have p1 := bm.cell 1
      have r1 := bms.cell 1
      have f1 := bms.frozen 1
      have p2 := bm.cell 2
      have r2 := bms.cell 2
      have f2 := bms.frozen 2
      have p3 := bm.cell 3
      have r3 := bms.cell 3
      have f3 := bms.frozen 3
      have p4 := bm.cell 4
      have r4 := bms.cell 4
      have f4 := bms.frozen 4
      have p5 := bm.cell 5
      have r5 := bms.cell 5
      have f5 := bms.frozen 5
      have p6 := bm.cell 6
      have r6 := bms.cell 6
      have f6 := bms.frozen 6
      have s0 := bcs.cell 0
      have s1 := bcs.cell 1
      have t0 := bcs.frozen 0
      have t1 := bcs.frozen 1
      have d2 : gb ≠ w.heap.size + 1 + 1 := by omega
      have d3 : gb ≠ w.heap.size + 1 + 1 + 1 := by omega
      simp only [masks] at p0 p1 p2 p3 p4 p5 p6
      simp at p0 p1 p2 p3 p4 p5 p6 r0 r1 r2 r3 r4 r5 r6 s0 s1
      have HBW2 := Lib.hid hbw
      have BMS := Lib.hid bms
      have BCS := Lib.hid bcs
      clear hbw hb2 bms bcs bm HAT
      go_wp2
      have hbw := HBW2.out
      refine bodyPost_ret (v := .tuple #[.agg (masks 64 g o i), .agg (carry 64 g o i)]) (by simp [results, Tryd.results31, go_sem, masks, carry, r0, r1, r2, r3, r4, r5, r6, s0, s1]) rfl ⟨by rw [HM.out], ?_⟩
      go_grown
theorem scan_any (A : Option Addr) (n cp : Nat) (g : Nat → Int) (o i : Bool) (w : World) (hb : BS w A n g) (hn : n ≤ 9223372036854775807) :
    Calls Tryd.prog 31 #[.slice A n cp, .agg #[.bool o, .bool i]] w (ScanIs n g o i w) := by
  rcases Nat.lt_or_ge n 64 with h | h
  · exact scan_less A n cp g o i w hb h
  · exact scan_more A n cp g o i w hb h hn
end Go.Proofs.YtmbiolhecheplaaDoor
