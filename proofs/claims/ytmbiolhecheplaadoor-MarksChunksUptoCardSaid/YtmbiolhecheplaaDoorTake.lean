/-
  The filler's take: what a call leaves: the piece's bytes are taken, full words made of them. For all bytes; what was there stays as it is.
-/
import Derived.Test.YtmbiolhecheplaaDoorFlush
namespace Go.Proofs.YtmbiolhecheplaaDoor
open Go.RowKit

/-- a piece that is cut off at its head -/
theorem BS.cut {w : World} {A : Option Addr} {n : Nat} {G : Nat → Int} (h : BS w A n G) {k cp : Nat} (hk : k < n) (hc : n ≤ cp) : BS w (if cp = k then A else A.map (·.add k)) (n - k) (fun i => G (k + i)) := by
  rcases h with h | ⟨b, off, rfl, hc2⟩
  · omega
  · refine .inr ⟨b, off + k, ?_, fun i hi => ?_⟩
    · rw [if_neg (by omega)]
      simp only [Option.map_some, Addr.add]
      split
      · rename_i e; subst e; rfl
      · rfl
    · rw [Nat.add_assoc]; exact hc2 (k + i) (by omega)
theorem BS.congr {w : World} {A : Option Addr} {n : Nat} {G H : Nat → Int} (h : BS w A n G) (e : ∀ i, i < n → G i = H i) : BS w A n H := by
  rcases h with h | ⟨b, off, rfl, hc⟩
  · exact .inl h
  · exact .inr ⟨b, off, rfl, fun i hi => by rw [← e i hi]; exact hc i hi⟩

/-- 'copy' as one step of a region: where all that is known of the world behind it is that the one row has turned -/
theorem step_copy_grown {P : Program} {ops : Array Oper} {o : Oper} {a : Act} {w : World} {K : Act → World → Prop} {Q : Exit → Act → World → Prop} {E : Prop} (hgd : o.guard = none) (d s : Operand) (dT sT : TypeId)
    (ho : o.op = .call { callee := .builtin .copy, args := #[d, s], argTypes := #[dT, sT] }) (elem : TypeId) (hu : P.underlying dT = some (.slice elem)) (hsz : (P.info? elem).map (·.size) = some 1)
    (dLen dCap sLen sCap : Nat) (g off : Nat) (hd : a.eval d = .slice (some ⟨g, off, none⟩) dLen dCap) (ad : Addr) (hs : a.eval s = .slice (some ad) sLen sCap)
    (cur : Array Value) (t : TypeId) (hg : Blk w g t cur) (cs : List Value) (hn : cs.length = Nat.min sLen dLen)
    (hsrc : ∀ j v, cs[j]? = some v → w.cell? (ad.add j) = some v) (hfit : off + cs.length ≤ cur.size) (h1 : ∀ v ∈ cs, v.oneCell' = true)
    (h : ∀ w', Blk w' g t (splice cur.toList off cs).toArray → w.grownBy w' (some g) → K (a.put o.dst (goInt cs.length)) w') :
    if Region.wanted o (yielded ops a.tmps) = true then Oper.wp P o a w K Q else E := by
  have hw : Region.wanted o (yielded ops a.tmps) = true := by simp [Region.wanted, hgd]
  rw [if_pos hw]
  have hrun := run_copy_row (P := P) w dT sT o.type elem g off dLen dCap ad sLen sCap cur t cs hu hsz hg hn hsrc hfit h1
  unfold Oper.wp
  simp [execOp, ho, resolve, invoke, builtin, hd, hs, hrun, Result.andThen]
  refine h _ ?_ ⟨rfl, rfl, rfl, by simp [World.setRow], fun k hk hne => setRow_other w g k _ (fun e => hne (by rw [e]))⟩
  show _ = _
  simpa [splice] using setRow_heap w g cur _ t _ hg

/-- the bytes of a piece, as cells -/
def bytesL (G : Nat → Int) (n : Nat) : List Value := (List.range n).map fun i => .int .u8 (G i)
theorem bytesL_len (G : Nat → Int) (n : Nat) : (bytesL G n).length = n := by simp [bytesL]
theorem bytesL_get (G : Nat → Int) (n j : Nat) (v : Value) (h : (bytesL G n)[j]? = some v) : j < n ∧ v = .int .u8 (G j) := by
  have hj : j < n := by
    have := (List.getElem?_eq_some_iff.1 h).1
    rwa [bytesL_len] at this
  refine ⟨hj, ?_⟩
  simp [bytesL, hj] at h
  exact h.symm
theorem bytesL_one (G : Nat → Int) (n : Nat) : ∀ v ∈ bytesL G n, v.oneCell' = true := by
  intro v hv
  simp [bytesL] at hv
  obtain ⟨j, _, rfl⟩ := hv
  rfl
theorem bytesL_src {w : World} {b off : Nat} {m : Nat} {G : Nat → Int} (hc : ∀ i, i < m → w.cell? ⟨b, off + i, none⟩ = some (.int .u8 (G i))) {n : Nat} (hn : n ≤ m) : ∀ j v, (bytesL G n)[j]? = some v → w.cell? ((⟨b, off, none⟩ : Addr).add j) = some v := by
  intro j v h
  obtain ⟨hj, rfl⟩ := bytesL_get G n j v h
  have : (⟨b, off, none⟩ : Addr).add j = ⟨b, off + j, none⟩ := by
    unfold Addr.add
    split
    · rename_i e; subst e; rfl
    · rfl
  rw [this]
  exact hc j (by omega)
/-- a row behind a copy, cell by cell -/
theorem splice_get {cur : Array Value} {off : Nat} {cs : List Value} (hf : off + cs.length ≤ cur.size) (j : Nat) :
    (splice cur.toList off cs).toArray[j]? = if j < off then cur[j]? else if j < off + cs.length then cs[j - off]? else cur[j]? := by
  rw [List.getElem?_toArray, splice]
  have hl : (cur.toList.take off).length = off := by rw [List.length_take, Array.length_toList]; omega
  by_cases h1 : j < off
  · rw [if_pos h1, List.getElem?_append_left (by rw [hl]; exact h1), List.getElem?_take_of_lt h1, Array.getElem?_toList]
  · rw [if_neg h1, List.getElem?_append_right (by rw [hl]; omega), hl]
    by_cases h2 : j < off + cs.length
    · rw [if_pos h2, List.getElem?_append_left (by omega)]
    · rw [if_neg h2, List.getElem?_append_right (by omega), List.getElem?_drop, Array.getElem?_toList]
      congr 1; omega
section
variable {w0 wr w2 : World} {g : Nat} {G : Nat → Int} {p h q L : Nat} {R : List Value} {v : Value} {cs : Array Value}
/-- the filler behind a copy and a new have -/
theorem FilAt.copied (f : FilAt w0 wr g G p h q L R v cs) (n : Nat) (hn : h + n ≤ 64) (hb : Blk w2 g 54 (splice cs.toList h (bytesL (fun i => G (p + h + i)) n)).toArray) (hg : wr.grownBy w2 (some g)) :
    FilAt w0 (w2.setCell ⟨g, 64, none⟩ (.int .i64 ((h : Int) + n))) g G p (h + n) q L R v ((splice cs.toList h (bytesL (fun i => G (p + h + i)) n)).toArray.setIfInBounds 64 (.int .i64 ((h : Int) + n))) := by
  have hl := bytesL_len (fun i => G (p + h + i)) n
  have hf : h + (bytesL (fun i => G (p + h + i)) n).length ≤ cs.size := by rw [hl, f.size]; omega
  have hz : (splice cs.toList h (bytesL (fun i => G (p + h + i)) n)).toArray.size = 69 := by
    rw [List.size_toArray, length_splice _ _ _ (by rw [Array.length_toList]; exact hf), Array.length_toList, f.size]
  have hfar : ∀ j, 65 ≤ j → j < 69 → ((splice cs.toList h (bytesL (fun i => G (p + h + i)) n)).toArray.setIfInBounds 64 (.int .i64 ((h : Int) + n)))[j]? = cs[j]? := fun j j1 j2 => by
    rw [Array.getElem?_setIfInBounds, if_neg (by omega), splice_get hf, if_neg (by omega), if_neg (by omega)]
  have hown : w2.ownsRow (g + 1) 45 7 v q R := f.own.kept hg (.inr fun e => own_neS f.own e.symm)
  exact {
    bel := Below.setCell ⟨hg.os.trans f.bel.os, hg.tape.trans f.bel.tape, hg.output.trans f.bel.output, Nat.le_trans f.bel.size hg.size, fun b hb' => (hg.block b (Nat.lt_of_lt_of_le hb' f.bel.size) (fun e => by have := f.low; have e2 := Option.some.inj e; omega)).trans (f.bel.block b hb')⟩ f.low _
    low := f.low
    blk := hb.set_ 64 _
    size := by rw [Array.size_setIfInBounds]; exact hz
    buf := fun j hj => by
      rw [Array.getElem?_setIfInBounds, if_neg (by omega), splice_get hf]
      by_cases h1 : j < h
      · rw [if_pos h1]; exact f.buf j h1
      · rw [if_neg h1, if_pos (by omega), bytesL]
        simp [show j - h < n from by omega]
        congr 1; omega
    c64 := by rw [Array.getElem?_setIfInBounds, if_pos rfl, if_pos (by rw [hz]; omega)]; simp
    c65 := (hfar 65 (by omega) (by omega)).trans f.c65
    c66 := (hfar 66 (by omega) (by omega)).trans f.c66
    c67 := (hfar 67 (by omega) (by omega)).trans f.c67
    c68 := (hfar 68 (by omega) (by omega)).trans f.c68
    own := own_setS hown 64 _ }
end

/-- The filler that has taken k bytes of G. -/
def Took (w0 wr : World) (g : Nat) (G : Nat → Int) (k : Nat) : Prop := ∃ v cs, FilAt w0 wr g G (64 * (k / 64)) (k % 64) (k / 64) (64 * (k / 64)) (rowF G (k / 64)) v cs
theorem took_part {w0 wr : World} {g q h : Nat} {G : Nat → Int} {v : Value} {cs : Array Value} (f : FilAt w0 wr g G (64 * q) h q (64 * q) (rowF G q) v cs) (h64 : h < 64) {K : Nat} (e : K = 64 * q + h) : Took w0 wr g G K := by
  subst e
  refine ⟨v, cs, ?_⟩
  rw [show (64 * q + h) / 64 = q from by omega, show (64 * q + h) % 64 = h from by omega]
  exact f
theorem took_full {w0 wr : World} {g q h : Nat} {G : Nat → Int} {v : Value} {cs : Array Value} (f : FilAt w0 wr g G (64 * q + h) 0 (q + 1) (64 * q + h) (rowF G q ++ (wordF G (64 * q) h).toList) v cs) (h64 : h = 64) {K : Nat} (e : K = 64 * q + h) : Took w0 wr g G K := by
  subst h64
  subst e
  refine ⟨v, cs, ?_⟩
  rw [show (64 * q + 64) / 64 = q + 1 from by omega, show (64 * q + 64) % 64 = 0 from by omega, show 64 * (q + 1) = 64 * q + 64 from by omega]
  exact f
theorem byte_info : (Tryd.prog.info? 5).map (·.size) = some 1 := by kernel_rfl
theorem BS.bel {w w' : World} {A : Option Addr} {n : Nat} {g : Nat → Int} (h : BS w A n g) (hb : Below w.heap.size w w') : BS w' A n g :=
  h.keep fun a _ e => (hb.cell (p := a) (World.block_lt_of_cell? _ _ e)).trans e

/-- what is left of a piece behind a copy -/
theorem piece_next {w : World} {b off m j n cp k : Nat} {G : Nat → Int} (h : BS w (some ⟨b, off, none⟩) (m - j) (fun i => G (k + j + i))) (hn : n ≤ m - j) (hcp : m ≤ cp) :
    BS w (if cp - j = n then some ⟨b, off, none⟩ else some ⟨b, off + n, none⟩) (m - (j + n)) (fun i => G (k + (j + n) + i)) := by
  by_cases h0 : m - (j + n) = 0
  · exact .inl h0
  · rcases h with h | ⟨b', off', e, hc⟩
    · omega
    · obtain ⟨rfl, rfl⟩ : b = b' ∧ off = off' := by simpa using e
      rw [if_neg (by omega)]
      refine .inr ⟨b, off + n, rfl, fun i hi => ?_⟩
      show w.cell? ⟨b, off + n + i, none⟩ = some (.int .u8 (G (k + (j + n) + i)))
      rw [show off + n + i = off + (n + i) from by omega, show k + (j + n) + i = k + j + (n + i) from by omega]
      exact hc (n + i) (by omega)
theorem slice_next (A : Option Addr) (m j n cp : Nat) : Value.slice A (m - j - n) (cp - j - n) = .slice A (m - (j + n)) (cp - (j + n)) := by rw [Nat.sub_sub, Nat.sub_sub]

set_option maxRecDepth 100000 in
set_option maxHeartbeats 2000000 in
theorem take_any (w0 wi : World) (g : Nat) (G : Nat → Int) (k m cp : Nat) (A : Option Addr) (hT : Took w0 wi g G k) (hb : BS w0 A m (fun i => G (k + i))) (hcp : m ≤ cp) (hk : k + m ≤ 140737488351232) (hcm : cp ≤ 9223372036854775807) :
    Calls Tryd.prog 23 #[.pointer (some ⟨g, 0, none⟩), .slice A m cp] wi fun e w' => e = .returned (.tuple #[]) ∧ Took w0 w' g G (k + m) := by
  have HT := Lib.hid hT
  have HB := Lib.hid hb
  clear hT hb
  go_enter Tryd.func23, Tryd.ntmps23
  go_wp2
  go_loopw [1] (fun s1 wr => ∃ j A', j ≤ m ∧ s1 = .slice A' (m - j) (cp - j) ∧ BS w0 A' (m - j) (fun i => G (k + j + i)) ∧ Took w0 wr g G (k + j)) (fun s1 _ => match s1 with | .slice _ l _ => l | _ => 0)
  case atStart => exact ⟨0, A, Nat.zero_le _, rfl, HB.out, HT.out⟩
  case round =>
    obtain ⟨j, A', hjm, rfl, hbs, hto⟩ := hrel
    by_cases hj : j < m
    · obtain ⟨b, off, rfl, hsrc⟩ := hbs.resolve_left (by omega)
      have HBS := Lib.hid hbs
      obtain ⟨v, cs, hf⟩ := hto
      have hsrc2 : ∀ i, i < m - j → wr.cell? ⟨b, off + i, none⟩ = some (.int .u8 (G (k + j + i))) := fun i hi => (hf.bel.cell (p := ⟨b, off + i, none⟩) (World.block_lt_of_cell? _ _ (hsrc i hi))).trans (hsrc i hi)
      clear hsrc hbs
      have h64 : (k + j) % 64 < 64 := Nat.mod_lt _ (by omega)
      have hpos : 64 * ((k + j) / 64) + (k + j) % 64 = k + j := by omega
      have HDIV := Lib.hid (Nat.div_add_mod (k + j) 64)
      obtain ⟨h, hh⟩ : ∃ h, h = (k + j) % 64 := ⟨_, rfl⟩
      obtain ⟨q, hq⟩ : ∃ q, q = (k + j) / 64 := ⟨_, rfl⟩
      rw [← hh, ← hq] at hf
      rw [← hh] at h64
      rw [← hh, ← hq] at hpos
      obtain ⟨n, hn⟩ : ∃ n, n = Nat.min (m - j) (64 - h) := ⟨_, rfl⟩
      have hn1 : 0 < n := by rw [hn]; simp [Nat.min_def]; split <;> omega
      have hn2 : n ≤ m - j := by rw [hn]; exact Nat.min_le_left _ _
      have hn3 : h + n ≤ 64 := by rw [hn]; have : Nat.min (m - j) (64 - h) ≤ 64 - h := Nat.min_le_right _ _; omega
      have hsrc3 : ∀ i, i < m - j → wr.drew.cell? ⟨b, off + i, none⟩ = some (.int .u8 (G (64 * q + h + i))) := fun i hi => by rw [hpos]; exact hsrc2 i hi
      have HS3 := Lib.hid (bytesL_src (G := fun i => G (64 * q + h + i)) hsrc3 hn2)
      have HFIT := Lib.hid (show h + (bytesL (fun i => G (64 * q + h + i)) n).length ≤ cs.size by rw [bytesL_len, hf.size]; omega)
      have HLEN := Lib.hid ((bytesL_len (fun i => G (64 * q + h + i)) n).trans hn)
      clear hsrc2 hsrc3
      have HH := Lib.hid hh
      have HQ := Lib.hid hq
      have HP := Lib.hid hpos
      have HF := Lib.hid hf
      have c64 := (hf.blk.cell 64).trans hf.c64
      have hi1 : (0 : Int) ≤ (h : Int) := by omega
      have hi2 : (h : Int) ≤ 64 := by omega
      have hne64 : ¬ 64 = h := by omega
      have hjm2 : (0 : Int) < ((m - j : Nat) : Int) := by omega
      obtain ⟨A2, hA2⟩ : ∃ A2, (if cp - j = n then some (⟨b, off, none⟩ : Addr) else some ⟨b, off + n, none⟩) = A2 := ⟨_, rfl⟩
      have HB2 := Lib.hid (hA2 ▸ piece_next HBS.out hn2 hcp : BS w0 A2 (m - (j + n)) (fun i => G (k + (j + n) + i)))
      clear hn hh hq hpos hf
      go_upto_region 1 with (fail)
      go_cut [4] (fun s4 wx => s4 = .int .i64 n ∧ Blk wx g 54 (splice cs.toList h (bytesL (fun i => G (64 * q + h + i)) n)).toArray ∧ wr.grownBy wx (some g))
      case first =>
        go_region_law (first
          | (refine step_copy_grown rfl (.tmp 15) (.tmp 16) 22 22 rfl 5 Tryd.underlying22 byte_info (64 - h) (64 - h) (m - j) (cp - j) g h rfl ⟨b, off, none⟩ rfl cs 54 HF.out.drew.blk (bytesL (fun i => G (64 * q + h + i)) n)
              HLEN.out HS3.out HFIT.out (bytesL_one _ _) ?_
             intro w2 hb2 hg2))
        all_goals
          go_wp2_with fail
          go_meet
          exact ⟨by rw [bytesL_len], hb2, ⟨hg2.os, hg2.tape, hg2.output, hg2.size, hg2.block⟩⟩
      case rest =>
        obtain ⟨rfl, hb2, hg2⟩ := hcut
        have HFC := Lib.hid (HF.out.copied n hn3 hb2 hg2)
        have d64 : wc.cell? ⟨g, 64, none⟩ = some (.int .i64 h) := by
          rw [hb2.cell 64, splice_get HFIT.out, if_neg (by omega), if_neg (by rw [bytesL_len]; omega)]
          exact HF.out.c64
        have f64 := hb2.frozen 64
        have hs0 : (0 : Int) ≤ (h : Int) + n := by omega
        have hs1 : (h : Int) + n ≤ 64 := by omega
        have hs2 : (n : Int) ≤ ((m - j : Nat) : Int) := by omega
        clear c64 hb2 hg2 HLEN HS3 HFIT HF
        by_cases hfull : h + n = 64
        · have hb64 : ((h : Int) + n == 64) = true := by simp; omega
          go_wp2_with fail
          have hpos := HP.out
          refine (flush_some w0 _ g G (64 * q) (h + n) q (64 * q) _ v _ HFC.out (by omega) (by omega) (by omega) (by omega)).mono ?_
          rintro e w2 ⟨rfl, v2, cs2, hf2⟩
          have hto := took_full (K := k + (j + n)) hf2 hfull (by omega)
          have HTO := Lib.hid hto
          clear hto hf2 hpos
          go_wp2
          exact ⟨⟨j + n, _, by omega, slice_next _ m j n cp, HB2.out, HTO.out⟩, show m - j - n < m - j from by omega⟩
        · have hb64 : ((h : Int) + n == 64) = false := by simp; omega
          go_wp2
          exact ⟨⟨j + n, _, by omega, slice_next _ m j n cp, HB2.out, took_part HFC.out (by omega) (by have := HP.out; omega)⟩, show m - j - n < m - j from by omega⟩
    · have hm0 : ¬ (0 : Int) < ((m - j : Nat) : Int) := by omega
      have HTO := Lib.hid hto
      clear hto hbs
      go_wp2
      go_end0
      obtain rfl : j = m := by omega
      exact ⟨rfl, HTO.out⟩
end Go.Proofs.YtmbiolhecheplaaDoor
