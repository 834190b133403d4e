/-
  Pieces of a text: what they are joined to; Chunks of the program, Join of the reference: what each call returns. What was there stays as it is.
-/
import Derived.Test.YtmbiolhecheplaaDoorMarks
namespace Go.Proofs.YtmbiolhecheplaaDoor
open Go.RowKit

/-- the pieces: where the list lies, and each piece's place, length, room, bytes -/
structure Pieces where
  A : Option Addr
  nl : Nat
  cp : Nat
  pa : Nat → Option Addr
  pn : Nat → Nat
  pc : Nat → Nat
  pg : Nat → Nat → Int
def sumN (f : Nat → Nat) : Nat → Nat
  | 0 => 0
  | n + 1 => sumN f n + f n
theorem sumN_le (f : Nat → Nat) {a b : Nat} (h : a ≤ b) : sumN f a ≤ sumN f b := by
  induction b with
  | zero => rw [show a = 0 from by omega]; exact Nat.le_refl _
  | succ b ih =>
    by_cases e : a = b + 1
    · rw [e]; exact Nat.le_refl _
    · rw [sumN]; have := ih (by omega); omega
/-- so many bytes ahead of the i-th piece -/
def Pieces.at_ (P : Pieces) (i : Nat) : Nat := sumN P.pn i
/-- the bytes of the first i pieces, and of all -/
def Pieces.join (P : Pieces) : Nat → List Int
  | 0 => []
  | i + 1 => P.join i ++ (List.range (P.pn i)).map (P.pg i)
def Pieces.G (P : Pieces) (k : Nat) : Int := (P.join P.nl).getD k 0
theorem Pieces.join_len (P : Pieces) (i : Nat) : (P.join i).length = P.at_ i := by
  induction i with
  | zero => rfl
  | succ i ih => rw [Pieces.join, List.length_append, ih, List.length_map, List.length_range]; rfl
theorem Pieces.join_get (P : Pieces) (i j : Nat) (hj : j < P.pn i) : ∀ n, i < n → (P.join n)[P.at_ i + j]? = some (P.pg i j) := by
  intro n
  induction n with
  | zero => intro h; omega
  | succ n ih =>
    intro h
    rw [Pieces.join]
    by_cases e : i = n
    · subst e
      rw [List.getElem?_append_right (by rw [P.join_len]; omega), P.join_len, show P.at_ i + j - P.at_ i = j from by omega, List.getElem?_map, List.getElem?_range hj]; rfl
    · have h1 : P.at_ i + j < P.at_ n := by
        have : P.at_ (i + 1) ≤ P.at_ n := sumN_le _ (by omega)
        have h2 : P.at_ (i + 1) = P.at_ i + P.pn i := rfl
        omega
      rw [List.getElem?_append_left (by rw [P.join_len]; exact h1)]
      exact ih (by omega)
theorem Pieces.G_at (P : Pieces) {i j : Nat} (hi : i < P.nl) (hj : j < P.pn i) : P.G (P.at_ i + j) = P.pg i j := by
  unfold Pieces.G
  rw [List.getD_eq_getElem?_getD, P.join_get i j hj _ hi]; rfl
/-- the pieces lie in memory -/
structure PcsAt (w : World) (v : Value) (P : Pieces) : Prop where
  val : v = .slice P.A P.nl P.cp
  top : P.nl = 0 ∨ ∃ b off, P.A = some ⟨b, off, none⟩ ∧ ∀ i, i < P.nl → w.cell? ⟨b, off + i, none⟩ = some (.slice (P.pa i) (P.pn i) (P.pc i))
  row : ∀ i, i < P.nl → BS w (P.pa i) (P.pn i) (P.pg i) ∧ P.pn i ≤ P.pc i ∧ P.pc i ≤ 9223372036854775807
  few : P.nl ≤ 1048576
  sum : P.at_ P.nl ≤ 1048576
theorem PcsAt.below {w w' : World} {v : Value} {P : Pieces} (h : PcsAt w v P) (hb : Below w.heap.size w w') : PcsAt w' v P where
  val := h.val
  top := by
    rcases h.top with h1 | ⟨b, off, hA, hc⟩
    · exact .inl h1
    · exact .inr ⟨b, off, hA, fun i hi => (hb.cell (p := ⟨b, off + i, none⟩) (World.block_lt_of_cell? _ _ (hc i hi))).trans (hc i hi)⟩
  row := fun i hi => ⟨(h.row i hi).1.bel hb, (h.row i hi).2⟩
  few := h.few
  sum := h.sum
theorem PcsAt.part {w : World} {v : Value} {P : Pieces} (h : PcsAt w v P) {i : Nat} (hi : i < P.nl) : P.at_ i + P.pn i ≤ 1048576 ∧ P.at_ (i + 1) = P.at_ i + P.pn i := by
  have h1 : P.at_ (i + 1) ≤ P.at_ P.nl := sumN_le _ (by omega)
  have h2 : P.at_ (i + 1) = P.at_ i + P.pn i := rfl
  exact ⟨by have := h.sum; omega, h2⟩
theorem Took.bel {w0 wr : World} {g : Nat} {G : Nat → Int} {k : Nat} (h : Took w0 wr g G k) : Below w0.heap.size w0 wr := by
  obtain ⟨v, cs, f⟩ := h
  exact f.bel

set_option maxRecDepth 100000 in
set_option maxHeartbeats 2000000 in
theorem chunks_any (w : World) (v : Value) (P : Pieces) (hp : PcsAt w v P) : Calls Tryd.prog 22 #[v] w (IndexIs P.G (P.at_ P.nl) w) := by
  have HP := Lib.hid hp
  obtain rfl := hp.val
  have hfew : (P.nl : Int) ≤ 1048576 := by have := hp.few; omega
  clear hp
  have hz := fil_zero
  go_enter Tryd.func22, Tryd.ntmps22
  go_wp2_with fail
  have hw : Below w.heap.size w (w.alloc (.cells #[.slice none 0 0, .int .i64 0] 27)) := (Below.refl _ _).alloc (Nat.le_refl _) _
  have HP1 := Lib.hid (HP.out.below hw)
  have HW := Lib.hid hw
  have HT := Lib.hid (took_new (w.alloc (.cells #[.slice none 0 0, .int .i64 0] 27)) (w.alloc (.cells #[.slice none 0 0, .int .i64 0] 27)) P.G filZ (H := w.heap.size + 1) (by simp) (Below.refl _ _) rfl rfl rfl rfl rfl rfl)
  have hbox : Blk (w.alloc (.cells #[.slice none 0 0, .int .i64 0] 27)) w.heap.size 27 #[.slice none 0 0, .int .i64 0] := Blk.new _ _ _
  have HBOX := Lib.hid hbox
  have hsz1 : w.heap.size < (w.alloc (.cells #[.slice none 0 0, .int .i64 0] 27)).heap.size := by simp
  clear hw hbox
  generalize w.alloc (.cells #[.slice none 0 0, .int .i64 0] 27) = w1 at *
  go_loopw [8] (fun s8 wr => ∃ i : Nat, s8 = .int .i64 i ∧ i ≤ P.nl ∧ Hid (Took w1 wr (w.heap.size + 1) P.G (P.at_ i))) (fun s8 _ => P.nl - (intOf s8).toNat)
  case atStart => exact ⟨0, rfl, Nat.zero_le _, HT.out⟩
  case round =>
    obtain ⟨i, rfl, hin, ht⟩ := hrel
    have HTI := Lib.hid ht.out
    clear ht
    by_cases hlt : i < P.nl
    · have hiI : (i : Int) < (P.nl : Int) := by omega
      obtain ⟨b, off, hA, hc⟩ := HP1.out.top.resolve_left (by omega)
      have hcell : wr.cell? ⟨b, off + i, none⟩ = some (.slice (P.pa i) (P.pn i) (P.pc i)) := (HTI.out.bel.cell (p := ⟨b, off + i, none⟩) (World.block_lt_of_cell? _ _ (hc i hlt))).trans (hc i hlt)
      rw [hA]
      clear hc hA
      have hrow := HP1.out.row i hlt
      have hpart := HP1.out.part hlt
      have HB := Lib.hid (hrow.1.congr fun j hj => (P.G_at hlt hj).symm)
      have HR := Lib.hid hrow.2
      have HPT := Lib.hid hpart
      clear hrow hpart
      go_wp2_with fail
      refine (take_any w1 wr (w.heap.size + 1) P.G (P.at_ i) (P.pn i) (P.pc i) (P.pa i) HTI.out HB.out HR.out.1 (by have := HPT.out.1; omega) HR.out.2).mono ?_
      rintro e w2 ⟨rfl, ht2⟩
      rw [← HPT.out.2] at ht2
      have HT2 := Lib.hid ht2
      clear ht2 hcell
      go_wp2
      go_roundw
      case rel => exact ⟨i + 1, by go_num, by omega, HT2.out⟩
      case measure => simp [intOf]; omega
    · have hiI : ¬ ((i : Int) < (P.nl : Int)) := by omega
      obtain rfl : i = P.nl := by omega
      go_wp2_with fail
      refine (flush_any w1 wr (w.heap.size + 1) P.G (P.at_ P.nl) HTI.out (by have := HP1.out.sum; omega)).mono ?_
      rintro e w2 ⟨rfl, v, hd⟩
      obtain ⟨A', cp', rfl, hcp', _⟩ := ws_of_own hd.own
      have d67 := hd.c67
      have d68 := hd.c68
      have hbk : Blk w2 w.heap.size 27 #[.slice none 0 0, .int .i64 0] := (hd.bel.block w.heap.size hsz1).trans HBOX.out
      have r0 := hbk.cell 0
      have r1 := hbk.cell 1
      have f0 := hbk.frozen 0
      have f1 := hbk.frozen 1
      simp at r0 r1
      have HD := Lib.hid hd
      clear hd hbk
      go_wp2
      obtain ⟨A2, cp2, e2, _, hws⟩ := ws_of_own (own_setLow (own_setLow HD.out.own (show w.heap.size < w.heap.size + 1 + 1 by omega) 0 (.slice A' (nwords (P.at_ P.nl)) cp')) (show w.heap.size < w.heap.size + 1 + 1 by omega) 1 (.int .i64 (P.at_ P.nl)))
      obtain ⟨rfl, rfl⟩ : A' = A2 ∧ cp' = cp2 := by simpa using e2
      refine bodyPost_ret (v := .agg #[.slice A' (nwords (P.at_ P.nl)) cp', .int .i64 (P.at_ P.nl)]) (by simp [results, Tryd.results22, go_sem, r0, r1]) rfl ⟨A', cp', rfl, hcp', hws, ?_⟩
      have hb2 := HD.out.bel
      exact ((HW.out.trans (hb2.mono HW.out.size)).setCell (Nat.le_refl _) _).setCell (Nat.le_refl _) _
end Go.Proofs.YtmbiolhecheplaaDoor
