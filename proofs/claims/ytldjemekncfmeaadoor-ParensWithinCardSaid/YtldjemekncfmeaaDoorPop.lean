/-
  math/bits.OnesCount64's sums: the ones of 64 bits. Plain laws: no program in sight. No condition.
-/
import Derived.Test.YtldjemekncfmeaaDoorPar
namespace Go.Proofs.YtldjemekncfmeaaDoor.Lp

/-! ### the digits of a number; their sum -/
def dig (w : Nat) : Nat → Nat → Nat
  | 0, _ => 0
  | k + 1, x => x % 2 ^ w + dig w k (x / 2 ^ w)
def small (w c : Nat) : Nat → Nat → Prop
  | 0, _ => True
  | k + 1, x => x % 2 ^ w ≤ c ∧ small w c k (x / 2 ^ w)
def mask (w : Nat) : Nat → Nat
  | 0 => 0
  | k + 1 => (2 ^ w - 1) + 2 ^ (w + w) * mask w k
def keep (w : Nat) : Nat → Nat → Nat
  | 0, _ => 0
  | k + 1, x => x % 2 ^ w + 2 ^ (w + w) * keep w k (x / 2 ^ (w + w))

theorem and_split (n a b c d : Nat) (ha : a < 2 ^ n) (hc : c < 2 ^ n) : (a + 2 ^ n * b) &&& (c + 2 ^ n * d) = (a &&& c) + 2 ^ n * (b &&& d) := by
  have hac : a &&& c < 2 ^ n := Nat.lt_of_le_of_lt Nat.and_le_left ha
  apply Nat.eq_of_testBit_eq
  intro i
  rw [Nat.testBit_and, Nat.add_comm a, Nat.add_comm c, Nat.add_comm (a &&& c), Nat.testBit_two_pow_mul_add _ ha, Nat.testBit_two_pow_mul_add _ hc, Nat.testBit_two_pow_mul_add _ hac]
  split <;> rw [Nat.testBit_and]

theorem keep_mask (w k x : Nat) : x &&& mask w k = keep w k x := by
  induction k generalizing x with
  | zero => simp [mask, keep]
  | succ k ih =>
    have hp : 0 < 2 ^ (w + w) := Nat.two_pow_pos _
    have hx : x = x % 2 ^ (w + w) + 2 ^ (w + w) * (x / 2 ^ (w + w)) := (Nat.mod_add_div x _).symm
    have hle : 2 ^ w ≤ 2 ^ (w + w) := Nat.pow_le_pow_right (by omega) (by omega)
    have h1 : 0 < 2 ^ w := Nat.two_pow_pos w
    rw [keep, ← ih, mask]
    conv => lhs; rw [hx]
    rw [and_split (w + w) _ _ _ _ (Nat.mod_lt _ hp) (by omega), Nat.and_two_pow_sub_one_eq_mod]
    congr 1
    exact Nat.mod_mod_of_dvd x (Nat.pow_dvd_pow 2 (by omega))

/-- two digits made one -/
def fold2 (w k x : Nat) : Nat := keep w k (x / 2 ^ w) + keep w k x

theorem fold2_succ (w k x : Nat) : fold2 w (k + 1) x = ((x / 2 ^ w) % 2 ^ w + x % 2 ^ w) + 2 ^ (w + w) * fold2 w k (x / 2 ^ (w + w)) := by
  unfold fold2
  rw [keep, keep, Nat.div_div_eq_div_mul, Nat.div_div_eq_div_mul, Nat.mul_comm (2 ^ w) (2 ^ (w + w)), Nat.mul_add]
  omega

theorem fold2_ok (w c k x : Nat) (hc : c + c < 2 ^ (w + w)) (hs : small w c (2 * k) x) : dig (w + w) k (fold2 w k x) = dig w (2 * k) x ∧ small (w + w) (c + c) k (fold2 w k x) := by
  induction k generalizing x with
  | zero => exact ⟨rfl, trivial⟩
  | succ k ih =>
    rw [show 2 * (k + 1) = 2 * k + 1 + 1 from by omega] at hs ⊢
    obtain ⟨s1, s2, s3⟩ := hs
    rw [Nat.div_div_eq_div_mul, ← Nat.pow_add] at s3
    obtain ⟨i1, i2⟩ := ih _ s3
    have hlt : (x / 2 ^ w) % 2 ^ w + x % 2 ^ w < 2 ^ (w + w) := by omega
    have hp : 0 < 2 ^ (w + w) := Nat.two_pow_pos _
    have e1 : (((x / 2 ^ w) % 2 ^ w + x % 2 ^ w) + 2 ^ (w + w) * fold2 w k (x / 2 ^ (w + w))) % 2 ^ (w + w) = (x / 2 ^ w) % 2 ^ w + x % 2 ^ w := by
      rw [Nat.add_mul_mod_self_left, Nat.mod_eq_of_lt hlt]
    have e2 : (((x / 2 ^ w) % 2 ^ w + x % 2 ^ w) + 2 ^ (w + w) * fold2 w k (x / 2 ^ (w + w))) / 2 ^ (w + w) = fold2 w k (x / 2 ^ (w + w)) := by
      rw [Nat.add_mul_div_left _ _ hp, Nat.div_eq_of_lt hlt, Nat.zero_add]
    rw [fold2_succ]
    refine ⟨?_, ?_, ?_⟩
    · rw [dig, dig, dig, e1, e2, i1, Nat.div_div_eq_div_mul, ← Nat.pow_add]; omega
    · rw [e1]; omega
    · rw [e2]; exact i2

/-- the third step: one sum ahead of the mask -/
theorem fold4_ok (k x : Nat) (hs : small 4 4 (2 * k + 1) x) : keep 4 k (x / 16 + x) = fold2 4 k x := by
  induction k generalizing x with
  | zero => rfl
  | succ k ih =>
    rw [show 2 * (k + 1) + 1 = (2 * k + 1) + 1 + 1 from by omega] at hs
    obtain ⟨s1, s2, s3⟩ := hs
    rw [Nat.div_div_eq_div_mul] at s3
    have s3' := s3
    obtain ⟨s4, _⟩ := s3
    have := ih _ s3'
    rw [fold2_succ, ← this, keep]
    simp only [show (2 : Nat) ^ 4 = 16 from rfl, show (2 : Nat) ^ (4 + 4) = 256 from rfl, show (16 : Nat) * 16 = 256 from rfl] at *
    have e1 : (x / 16 + x) % 16 = x / 16 % 16 + x % 16 := by omega
    have e2 : (x / 16 + x) / 256 = x / 256 / 16 + x / 256 := by
      have b1 : x / 256 = x / 16 / 16 := by omega
      generalize hu : x / 16 = u at *
      generalize hv : u / 16 = v at *
      have c1 : x = 16 * u + x % 16 := by omega
      have c2 : u = 16 * v + u % 16 := by omega
      rw [b1] at s4 ⊢
      have c3 : v = 16 * (v / 16) + v % 16 := by omega
      generalize v / 16 = t at *
      generalize x % 16 = r0 at *
      generalize u % 16 = r1 at *
      generalize v % 16 = r2 at *
      omega
    rw [e1, e2]

theorem small_one (k x : Nat) : small 1 1 k x := by
  induction k generalizing x with
  | zero => trivial
  | succ k ih => exact ⟨by have : (2:Nat) ^ 1 = 2 := rfl; omega, ih _⟩

theorem dig_snoc (w k x : Nat) : dig w (k + 1) x = dig w k x + x / 2 ^ (w * k) % 2 ^ w := by
  induction k generalizing x with
  | zero => simp [dig]
  | succ k ih => rw [dig, ih, dig, Nat.div_div_eq_div_mul, ← Nat.pow_add, Nat.mul_succ, Nat.add_comm w (w * k)]; omega

theorem dig_cnt (x : BitVec 64) (k : Nat) : dig 1 k x.toNat = cnt x.getLsbD k := by
  induction k with
  | zero => rfl
  | succ k ih =>
    rw [dig_snoc, ih, cnt, BitVec.getLsbD, Nat.testBit_eq_decide_div_mod_eq, Nat.one_mul, Nat.pow_one]
    have := Nat.mod_two_eq_zero_or_one (x.toNat / 2 ^ k)
    rcases this with h | h <;> simp [h]

/-- the last three steps: eight bytes of at most 8 each are added up -/
theorem bytes8 (e0 e1 e2 e3 e4 e5 e6 e7 x : Nat) (h0 : e0 ≤ 8) (h1 : e1 ≤ 8) (h2 : e2 ≤ 8) (h3 : e3 ≤ 8) (h4 : e4 ≤ 8) (h5 : e5 ≤ 8) (h6 : e6 ≤ 8) (h7 : e7 ≤ 8)
    (hx : x = e0 + 256 * (e1 + 256 * (e2 + 256 * (e3 + 256 * (e4 + 256 * (e5 + 256 * (e6 + 256 * e7))))))) :
    (((x + x / 256) + (x + x / 256) / 65536) + ((x + x / 256) + (x + x / 256) / 65536) / 4294967296) % 128 = e0 + (e1 + (e2 + (e3 + (e4 + (e5 + (e6 + e7)))))) := by
  have a1 : x / 256 = e1 + 256 * (e2 + 256 * (e3 + 256 * (e4 + 256 * (e5 + 256 * (e6 + 256 * e7))))) := by omega
  generalize hy : x + x / 256 = y
  have hy' : y = (e0 + e1) + 256 * (e1 + e2) + 65536 * ((e2 + e3) + 256 * (e3 + e4) + 65536 * ((e4 + e5) + 256 * (e5 + e6) + 65536 * ((e6 + e7) + 256 * e7))) := by omega
  clear hy a1 hx
  have a2 : y / 65536 = (e2 + e3) + 256 * (e3 + e4) + 65536 * ((e4 + e5) + 256 * (e5 + e6) + 65536 * ((e6 + e7) + 256 * e7)) := by omega
  generalize hz : y + y / 65536 = z
  have hz' : z = (e0 + e1 + e2 + e3) + 256 * (e1 + e2 + e3 + e4) + 65536 * ((e2 + e3 + e4 + e5) + 256 * (e3 + e4 + e5 + e6)) + 4294967296 * ((e4 + e5 + e6 + e7) + 256 * (e5 + e6 + e7) + 65536 * ((e6 + e7) + 256 * e7)) := by omega
  clear hz a2 hy'
  have a3 : z / 4294967296 = (e4 + e5 + e6 + e7) + 256 * (e5 + e6 + e7) + 65536 * ((e6 + e7) + 256 * e7) := by omega
  rw [a3]
  omega

theorem bytes_sum (x : Nat) (hx : x < 256 * (256 * (256 * (256 * (256 * (256 * (256 * 256))))))) (hs : small 8 8 8 x) :
    (((x + x / 256) + (x + x / 256) / 65536) + ((x + x / 256) + (x + x / 256) / 65536) / 4294967296) % 128 = dig 8 8 x := by
  obtain ⟨h0, h1, h2, h3, h4, h5, h6, h7, _⟩ := hs
  unfold dig dig dig dig dig dig dig dig dig
  simp only [show (2 : Nat) ^ 8 = 256 from rfl] at *
  generalize e1 : x / 256 = x1 at h1 h2 h3 h4 h5 h6 h7 ⊢
  generalize e2 : x1 / 256 = x2 at h2 h3 h4 h5 h6 h7 ⊢
  generalize e3 : x2 / 256 = x3 at h3 h4 h5 h6 h7 ⊢
  generalize e4 : x3 / 256 = x4 at h4 h5 h6 h7 ⊢
  generalize e5 : x4 / 256 = x5 at h5 h6 h7 ⊢
  generalize e6 : x5 / 256 = x6 at h6 h7 ⊢
  generalize e7 : x6 / 256 = x7 at h7 ⊢
  have k7 : x7 < 256 := by omega
  rw [← e1, bytes8 (x % 256) (x1 % 256) (x2 % 256) (x3 % 256) (x4 % 256) (x5 % 256) (x6 % 256) (x7 % 256) x h0 h1 h2 h3 h4 h5 h6 h7 (by omega)]
  omega
end Go.Proofs.YtldjemekncfmeaaDoor.Lp
namespace Go.Proofs.YtldjemekncfmeaaDoor.Lp
def pM0 : BitVec 64 := 6148914691236517205#64
def pM1 : BitVec 64 := 3689348814741910323#64
def pM2 : BitVec 64 := 1085102592571150095#64
def pop1 (x : BitVec 64) : BitVec 64 := ((x >>> 1) &&& pM0) + (x &&& pM0)
def pop2 (x : BitVec 64) : BitVec 64 := ((x >>> 2) &&& pM1) + (x &&& pM1)
def pop3 (x : BitVec 64) : BitVec 64 := ((x >>> 4) + x) &&& pM2
def pop4 (x : BitVec 64) : BitVec 64 := x + (x >>> 8)
def pop5 (x : BitVec 64) : BitVec 64 := x + (x >>> 16)
def pop6 (x : BitVec 64) : BitVec 64 := x + (x >>> 32)
def popS (x : BitVec 64) : BitVec 64 := pop6 (pop5 (pop4 (pop3 (pop2 (pop1 x)))))

theorem pM0_mask : pM0.toNat = mask 1 32 := by decide +kernel
theorem pM1_mask : pM1.toNat = mask 2 16 := by decide +kernel
theorem pM2_mask : pM2.toNat = mask 4 8 := by decide +kernel

theorem pop1_nat (x : BitVec 64) : (pop1 x).toNat = fold2 1 32 x.toNat := by
  unfold pop1 fold2
  rw [BitVec.toNat_add, BitVec.toNat_and, BitVec.toNat_and, BitVec.toNat_ushiftRight, pM0_mask, keep_mask, keep_mask, Nat.shiftRight_eq_div_pow]
  have h1 : keep 1 32 (x.toNat / 2 ^ 1) ≤ 6148914691236517205 := by rw [← keep_mask, ← pM0_mask]; exact Nat.and_le_right
  have h2 : keep 1 32 x.toNat ≤ 6148914691236517205 := by rw [← keep_mask, ← pM0_mask]; exact Nat.and_le_right
  omega

theorem pop2_nat (x : BitVec 64) : (pop2 x).toNat = fold2 2 16 x.toNat ∧ (pop2 x).toNat ≤ 7378697629483820646 := by
  unfold pop2 fold2
  rw [BitVec.toNat_add, BitVec.toNat_and, BitVec.toNat_and, BitVec.toNat_ushiftRight, pM1_mask, keep_mask, keep_mask, Nat.shiftRight_eq_div_pow]
  have h1 : keep 2 16 (x.toNat / 2 ^ 2) ≤ 3689348814741910323 := by rw [← keep_mask, ← pM1_mask]; exact Nat.and_le_right
  have h2 : keep 2 16 x.toNat ≤ 3689348814741910323 := by rw [← keep_mask, ← pM1_mask]; exact Nat.and_le_right
  omega

theorem pop3_nat (x : BitVec 64) (h : x.toNat ≤ 7378697629483820646) (hs : small 4 4 17 x.toNat) : (pop3 x).toNat = fold2 4 8 x.toNat ∧ (pop3 x).toNat ≤ 1085102592571150095 := by
  have e : (pop3 x).toNat = keep 4 8 (x.toNat / 16 + x.toNat) := by
    unfold pop3
    rw [BitVec.toNat_and, BitVec.toNat_add, BitVec.toNat_ushiftRight, pM2_mask, keep_mask, Nat.shiftRight_eq_div_pow]
    congr 1
    omega
  refine ⟨e.trans (fold4_ok 8 _ hs), ?_⟩
  unfold pop3
  rw [BitVec.toNat_and]
  exact Nat.and_le_right

theorem small_more (w c k x : Nat) (hs : small w c k x) (hx : x < 2 ^ (w * k)) : small w c (k + 1) x := by
  induction k generalizing x with
  | zero =>
    have : x = 0 := by simpa using hx
    subst this
    exact ⟨by simp, trivial⟩
  | succ k ih =>
    obtain ⟨s1, s2⟩ := hs
    refine ⟨s1, ih _ s2 ?_⟩
    rw [Nat.mul_succ, Nat.pow_add] at hx
    exact Nat.div_lt_of_lt_mul (by rw [Nat.mul_comm]; exact hx)

theorem popS_cnt (x : BitVec 64) : (popS x).toNat % 128 = cnt x.getLsbD 64 := by
  rw [← dig_cnt]
  unfold popS
  obtain ⟨d1, s1⟩ := fold2_ok 1 1 32 x.toNat (by decide) (small_one _ _)
  rw [← pop1_nat] at d1 s1
  obtain ⟨d2, s2⟩ := fold2_ok 2 2 16 (pop1 x).toNat (by decide) s1
  obtain ⟨n2, b2⟩ := pop2_nat (pop1 x)
  rw [← n2] at d2 s2
  have s2' : small 4 4 17 (pop2 (pop1 x)).toNat := small_more 4 4 16 _ s2 (pop2 (pop1 x)).isLt
  obtain ⟨d3, s3⟩ := fold2_ok 4 4 8 (pop2 (pop1 x)).toNat (by decide) s2
  obtain ⟨n3, b3⟩ := pop3_nat _ b2 s2'
  rw [← n3] at d3 s3
  rw [← d1, ← d2, ← d3]
  generalize pop3 (pop2 (pop1 x)) = y at s3 b3 d3
  have hb := bytes_sum y.toNat y.isLt s3
  rw [← hb]
  clear hb d1 d2 d3 s1 s2 s3 n2 n3 b2 s2'
  have e4 : (pop4 y).toNat = y.toNat + y.toNat / 256 := by
    unfold pop4
    rw [BitVec.toNat_add, BitVec.toNat_ushiftRight, Nat.shiftRight_eq_div_pow]
    omega
  have e5 : (pop5 (pop4 y)).toNat = (pop4 y).toNat + (pop4 y).toNat / 65536 := by
    unfold pop5
    rw [BitVec.toNat_add, BitVec.toNat_ushiftRight, Nat.shiftRight_eq_div_pow]
    omega
  have e6 : (pop6 (pop5 (pop4 y))).toNat = (pop5 (pop4 y)).toNat + (pop5 (pop4 y)).toNat / 4294967296 := by
    unfold pop6
    rw [BitVec.toNat_add, BitVec.toNat_ushiftRight, Nat.shiftRight_eq_div_pow]
    omega
  rw [e6, e5, e4]
end Go.Proofs.YtldjemekncfmeaaDoor.Lp
