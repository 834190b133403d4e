/-
  What the rows' list gives: the table of math/bits lies as the text lays it; a text, an index and a list of pieces as they come in; a world for the witness.
-/
import Derived.Test.YtmbiolhecheplaaDoorCards
import Derived.Test.YtmbiolhecheplaaDoorTie
import Derived.Test.YtmbiolhecheplaaDoorShm
import Derived.WalkKit
import Derived.ProofKit
import Derived.OpenShut
import Derived.SizedLaws
import Derived.Deep.DeepHandedRow
import Derived.Lib.LaidTab
import Derived.Lib.SmallJoins
import Derived.ChangeOld
import Derived.Deep.Slices
import Derived.Deep.Fields
import Derived.Deep.Matrix
import Derived.ChangeSame
namespace Go.Proofs.YtmbiolhecheplaaDoor
open Go.ChangeShapes Go.WideShapes Go.ChangeAt Go.RowKit Go.Joins Go.Deep

theorem own : ownKnob Tryd.prog.godebug = none := by kernel_rfl
theorem laidOut : laidOutB Tryd.prog = true := by kernel_rfl
theorem gTabType : (Tryd.prog.globals[tabG]?).map (·.type) = some 50 := by kernel_rfl
theorem cellsTab : Tryd.prog.cellsOf 50 = 64 := by kernel_rfl
theorem cellsByte : Tryd.prog.cellsOf 5 = 1 := by kernel_rfl

/-- the table's numbers -/
def tabZ : List Int := [0, 1, 56, 2, 57, 49, 28, 3, 61, 58, 42, 50, 38, 29, 17, 4, 62, 47, 59, 36, 45, 43, 51, 22, 53, 39, 33, 30, 24, 18, 12, 5, 63, 55, 48, 27, 60, 41, 37, 16, 46, 35, 44, 21, 52, 32, 23, 11, 54, 26, 40, 15, 34, 20, 31, 10, 25, 14, 19, 9, 13, 8, 7, 6]
theorem tabZ_is : ∀ j, j < 64 → tabZ.getD j 0 = ((Lib.deBruijn64tab.getD j 0 : Nat) : Int) := by decide +kernel
theorem tab_of {W : World} (h : laidMetH Tryd.prog [("math/bits.deBruijn64tab", Rows.laid_math_bits_deBruijn64tab)] W) : Tab W := by
  have ht : Lib.TabIs Tryd.prog W "math/bits.deBruijn64tab" .u8 tabZ := Lib.tabIs_of_head (rest := []) gTab gTabType Tryd.underlying50 Tryd.underlying5 cellsByte cellsTab h
  refine ⟨fun j hj => ?_⟩
  have hj' : j < 64 := hj
  rw [← tabZ_is j hj']
  exact ht.cell gTab j hj'

/-- a world for the witness: the settled one, the table laid -/
noncomputable def laidWorld (os : Os) : World :=
  { World.holding Tryd.prog os ⟨#[], #[], []⟩ with heap := (World.holding Tryd.prog os ⟨#[], #[], []⟩).heap.modify 0 fun
      | .cells _ t frozen => .cells (tabZ.map fun z => Value.int .u8 z).toArray t frozen
      | o => o }

theorem fits_of {k : Int} (h : (Lit.int .i64 k).wf = true) : Fits63 k := by
  refine ⟨?_⟩
  simp [Lit.wf, IntKind.min, IntKind.max, IntKind.signed, IntKind.bits] at h; omega
theorem i64_lo {k : Int} (h : (Lit.int .i64 k).wf = true) : -9223372036854775808 ≤ k := by
  simp [Lit.wf, IntKind.min, IntKind.max, IntKind.signed, IntKind.bits] at h; omega
theorem u64_of {n : Int} (h : (Lit.int .u64 n).wf = true) : n = U (BitVec.ofNat 64 n.toNat) := by
  have hb : 0 ≤ n ∧ n < 18446744073709551616 := by
    simp [Lit.wf, IntKind.min, IntKind.max, IntKind.signed, IntKind.bits] at h; omega
  exact U_of _ hb.1 hb.2
theorem cellsMasks : Tryd.prog.cellsOf 45 = 7 := by kernel_rfl
theorem cellsWord : Tryd.prog.cellsOf 42 = 1 := by kernel_rfl
theorem block_add (a : Addr) (i j : Nat) : (a.add i).add j = a.add (i + j) := by
  unfold Addr.add
  by_cases hi : i = 0 <;> by_cases hj : j = 0 <;> simp [hi, hj, Nat.add_assoc]
theorem lits_len (k : IntKind) (zs : List Int) {H : Type} : (lits (H := H) k zs).length = zs.length := by simp [lits]

section
variable {H : Type} {enc : TypeId × Value → H} {W : World} {base : Nat} {v : Value} {d : DataW H} {p : List MemPlace}
/-- how many places a datum of a slice has -/
def Room (d : DataW H) (cp : Nat) : Prop := (d = .nil ∧ cp = 0) ∨ ∃ es sp, d = .slice es sp ∧ es.length + sp.length = cp
/-- a text that comes in -/
theorem open_text (hv : Value.okWide Tryd.prog W .any base 22 v) (h : DataW.Trod enc Tryd.prog W 0 (fun _ => true) true 22 v d p) :
    ∃ A n cp G, v = .slice A n cp ∧ BS W A n G ∧ n ≤ cp ∧ cp ≤ maxLen ∧ Room d cp := by
  obtain ⟨A, n, cp, rfl⟩ := okWide_slice Tryd.underlying22 hv
  obtain ⟨fuel, hf⟩ := h
  rcases open_ints Tryd.underlying22 Tryd.underlying5 cellsByte hf with ⟨hcs, hx⟩ | ⟨a, len, cap, zs, hcs, _, hl, hm, hz, hx, hcell, _⟩
  · simp [Value.cells] at hcs
    obtain ⟨rfl, rfl, rfl⟩ := hcs
    exact ⟨none, 0, 0, fun _ => 0, rfl, .inl rfl, Nat.le_refl _, Nat.zero_le _, .inl ⟨(Prod.mk.inj hx).1, rfl⟩⟩
  · simp [Value.cells] at hcs
    obtain ⟨rfl, rfl, rfl⟩ := hcs
    have hz' : zs.length = cp := by simpa using hz
    refine ⟨some a, n, cp, fun i => zs.getD i 0, rfl, ?_, hl, hm, .inr ⟨_, _, (Prod.mk.inj hx).1, ?_⟩⟩
    · by_cases h0 : n = 0
      · exact .inl h0
      · obtain ⟨b, off, rfl, hc⟩ := ints_at hcell (by omega)
        exact .inr ⟨b, off, rfl, fun i hi => hc i (by omega)⟩
    · rw [lits_len, lits_len, List.length_take, List.length_drop]; omega
theorem room_fit {P : Program} {t e : TypeId} {cp : Nat} (hu : P.underlying t = some (.slice e)) (hr : Room d cp) (h : (d.weights P t).all (· ≤ reachBytes) = true) : cp * P.bytesOf e ≤ reachBytes := by
  rcases hr with ⟨_, rfl⟩ | ⟨es, sp, rfl, hl⟩
  · simp
  · have := List.all_eq_true.1 h ((es.length + sp.length) * P.bytesOf e) (by simp [DataW.weights, hu])
    rw [hl] at this
    simpa using this
theorem room_bulk {cp : Nat} (hr : Room d cp) : cp ≤ Rows.uptoBulk d := by
  have len : ∀ l : List (DataW H), l.length ≤ Rows.uptoBulkAll l := by
    intro l
    induction l with
    | nil => simp [Rows.uptoBulkAll]
    | cons x r ih =>
      have : 1 ≤ Rows.uptoBulk x := by
        cases x with
        | lit l => cases l <;> simp [Rows.uptoBulk]
        | _ => simp [Rows.uptoBulk]
      simp only [Rows.uptoBulkAll, List.length_cons]; omega
  rcases hr with ⟨_, rfl⟩ | ⟨es, sp, rfl, hl⟩
  · exact Nat.zero_le _
  · have h1 := len es
    have h2 := len sp
    simp only [Rows.uptoBulk]
    omega
/-- a cell's word -/
def wordOf : Option Value → BitVec 64
  | some (.int _ z) => BitVec.ofNat 64 z.toNat
  | _ => 0#64
theorem wordOf_is (z : BitVec 64) : wordOf (some (.int .u64 (U z))) = z := by
  show BitVec.ofNat 64 (U z).toNat = z
  unfold U
  rw [Int.toNat_natCast]; simp
/-- an index that comes in -/
theorem open_index (hv : Value.okWide Tryd.prog W .any base 27 v) (h : DataW.Trod enc Tryd.prog W 0 (fun _ => true) true 27 v d p) :
    ∃ A k cp mw n d0, v = .agg #[.slice A k cp, .int .i64 n] ∧ WS W A k mw ∧ k ≤ cp ∧ Fits63 n ∧ d = .agg [d0, .lit (.int .i64 n)] ∧ Room d0 cp := by
  obtain ⟨v0, v1, y0, y1, fu, rfl, rfl, _, h0, h1⟩ := open_agg2 Tryd.underlying27 (by kernel_rfl) (by kernel_rfl) hv h
  obtain ⟨n, hn, hy1, hwn⟩ := DataW.trod_int Tryd.underlying3 h1
  obtain rfl : v1 = .int .i64 n := by simpa using hn
  rcases open_slice Tryd.underlying25 h0 with ⟨hcs, hx⟩ | ⟨a, len, cap, m, n2, D, Pl, hcs, _, hl, _, hm, hx, hi⟩
  · obtain rfl : v0 = .slice none 0 0 := by simpa using hcs
    exact ⟨none, 0, 0, fun _ _ => 0#64, n, y0.1, rfl, .inl rfl, Nat.le_refl _, fits_of hwn, by rw [hy1], .inl ⟨by rw [hx], rfl⟩⟩
  · obtain rfl : v0 = .slice (some a) len cap := by simpa using hcs
    have hmc : m = cap := by simpa using hm
    subst hmc
    have hcell : ∀ q, q < len → ∀ c, c < 7 → ∃ z : BitVec 64, W.cell? (a.add (q * 7 + c)) = some (.int .u64 (U z)) := by
      intro q hq c hc
      obtain ⟨cs', hcs', ht'⟩ := hi q (by omega)
      obtain ⟨xs, n3, _, _, hlen, hxl, hf⟩ := DataW.trod_struct Tryd.underlying45 ht'
      obtain ⟨_, hcl, hat⟩ := World.cells?_some hcs'
      rw [cellsMasks] at hlen hat
      have get : ∀ f : Field, f.type = 42 → f.offset = c → DataW.trod enc Tryd.prog W 0 (fun _ => true) true n3 f.type ((cs'.drop f.offset).take (Tryd.prog.cellsOf f.type)) = xs[c]? → ∃ z : BitVec 64, W.cell? (a.add (q * 7 + c)) = some (.int .u64 (U z)) := by
        intro f hft hfo hr
        have hxs : xs[c]? = some (xs[c]'(by rw [hxl]; exact hc)) := List.getElem?_eq_getElem (by rw [hxl]; exact hc)
        rw [hft, hfo, cellsWord, hxs] at hr
        obtain ⟨z, hz, _, hw⟩ := DataW.trod_int Tryd.underlying42 hr
        have hz' : cs'[c]? = some (.int .u64 z) := by
          have h1 : ((cs'.drop c).take 1)[0]? = some (.int .u64 z) := by rw [hz]; rfl
          rw [List.getElem?_take, if_pos (by omega), List.getElem?_drop, Nat.add_zero] at h1
          exact h1
        refine ⟨BitVec.ofNat 64 z.toNat, ?_⟩
        rw [← u64_of hw, ← hz', ← hat c (by omega)]
        congr 1
        exact (block_add a (q * 7) c).symm
      have : c = 0 ∨ c = 1 ∨ c = 2 ∨ c = 3 ∨ c = 4 ∨ c = 5 ∨ c = 6 := by omega
      rcases this with rfl | rfl | rfl | rfl | rfl | rfl | rfl
      · exact get _ rfl rfl (hf 0 _ rfl)
      · exact get _ rfl rfl (hf 1 _ rfl)
      · exact get _ rfl rfl (hf 2 _ rfl)
      · exact get _ rfl rfl (hf 3 _ rfl)
      · exact get _ rfl rfl (hf 4 _ rfl)
      · exact get _ rfl rfl (hf 5 _ rfl)
      · exact get _ rfl rfl (hf 6 _ rfl)
    refine ⟨some a, len, m, fun q c => wordOf (W.cell? (a.add (q * 7 + c))), n, y0.1, rfl, ?_, hl, fits_of hwn, by rw [hy1], .inr ⟨_, _, by rw [hx], ?_⟩⟩
    · by_cases h0 : len = 0
      · exact .inl h0
      · obtain ⟨z0, hz0⟩ := hcell 0 (by omega) 0 (by omega)
        obtain ⟨b, off, spot⟩ := a
        have hspot : spot = none := by simpa [Addr.add] using World.cell?_spot hz0
        subst hspot
        refine .inr ⟨b, off, rfl, fun q hq c hc => ?_⟩
        obtain ⟨z, hz⟩ := hcell q hq c hc
        have ha : (⟨b, off, none⟩ : Addr).add (q * 7 + c) = ⟨b, off + q * 7 + c, none⟩ := by rw [Go.WideShapes.add_plain, Nat.add_assoc]
        show W.cell? ⟨b, off + q * 7 + c, none⟩ = some (.int .u64 (U (wordOf (W.cell? ((⟨b, off, none⟩ : Addr).add (q * 7 + c))))))
        rw [hz, wordOf_is, ← ha, hz]
    · rw [List.length_map, List.length_range, List.length_map, List.length_range]; omega
end
end Go.Proofs.YtmbiolhecheplaaDoor
