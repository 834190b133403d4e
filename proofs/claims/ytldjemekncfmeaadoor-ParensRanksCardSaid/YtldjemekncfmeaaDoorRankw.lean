/-
  The law ParensRanks: its walk. It returns true, at every argument; what was there stays as it is.
-/
import Derived.Test.YtldjemekncfmeaaDoorRm
namespace Go.Proofs.YtldjemekncfmeaaDoor
open Go.RowKit

theorem IS.far {w wx : World} {base : Nat} {e : TypeId} {A : Option Addr} {m cp B : Nat} {xs : List Value} {h : Nat → Value} (ho : w.ownsRow base e 1 (.slice A m cp) m xs) (hi : IS w A m h) (hB : B ≤ base)
    (hk : ∀ a v, B ≤ a.block → w.cell? a = some v → wx.cell? a = some v) : IS wx A m h := by
  rcases hi with h0 | ⟨b, off, rfl, hc⟩
  · exact .inl h0
  · have := (ho.lt b rfl).1
    exact .inr ⟨b, off, rfl, fun i hi => hk _ _ (by show B ≤ b; omega) (hc i hi)⟩
/-- The vector that New made stands wherever what lies behind the call's begin stands. -/
theorem Made.vec_far {w wr wx : World} {ys : Nat → BitVec 64} {N : Nat} {v1 v2 v3 v4 : Value} (h : Made w wr w.heap.size ys N (nw N) (nw N) v1 v2 v3 v4) (hN : N ≤ 1125899906842624)
    (hk : ∀ a v, w.heap.size ≤ a.block → wr.cell? a = some v → wx.cell? a = some v) : Vec wx (some ⟨w.heap.size, 0, none⟩) N (bitF ys N) := by
  unfold Made at h
  obtain ⟨A1, k1, rfl, s1⟩ := IS.own h.o1
  obtain ⟨A2, k2, rfl, s2⟩ := IS.own h.o2
  obtain ⟨A3, k3, rfl, s3⟩ := IS.own h.o3
  obtain ⟨A4, k4, rfl, s4⟩ := IS.own h.o4
  have c0 := h.blk.cell 0
  have c1 := h.blk.cell 1
  have c2 := h.blk.cell 2
  have c3 := h.blk.cell 3
  have c4 := h.blk.cell 4
  simp at c0 c1 c2 c3 c4
  have hb : w.heap.size ≤ w.heap.size + 1 := by omega
  refine ⟨hN, fun j hj => bitF_beyond ys N j hj, .inr ⟨w.heap.size, A1, A2, A3, A4, k1, k2, k3, k4, wordX ys N, fun q => loE (bitF ys N) (64 * q) (haveN N q), fun q => hiE (bitF ys N) (64 * q) (haveN N q), rfl,
    ⟨hk _ _ (Nat.le_refl _) c0, hk _ _ (Nat.le_refl _) c1, hk _ _ (Nat.le_refl _) c2, hk _ _ (Nat.le_refl _) c3, hk _ _ (Nat.le_refl _) c4, IS.far h.o1 s1 hb hk, IS.far h.o2 s2 hb hk, IS.far h.o3 s3 hb hk, IS.far h.o4 s4 hb hk,
      fun q _ i hi => wordX_bit ys N q i hi, fun q _ j h1 h2 h3 => ?_⟩⟩⟩
  have : j ≤ 64 * q + haveN N q := by unfold haveN; omega
  exact ⟨loE_le _ _ _ _ h1 this, hiE_le _ _ _ _ h1 this⟩

theorem run_append_zero (g cp : Nat) (A : Option Addr) (W : World) (ty : TypeId) :
    (Builtin.append_ #[22, 22] ty #[.slice (some ⟨g, 0, none⟩) 0 0, .slice A 0 cp]).run Tryd.prog W = .ok (.slice (some ⟨g, 0, none⟩) 0 0) W := by
  cases A <;> simp [Builtin.append_, go_sem, storeCells]
theorem wpList_append_zero {w : World} {ops : Array Oper} {rest : List Oper} {o : Oper} {a : Act} {Q : Exit → Act → World → Prop} (hgd : o.guard = none) (s x : Operand)
    (ho : o.op = .call { callee := .builtin .append, args := #[s, x], argTypes := #[22, 22] }) (g cp : Nat) (A : Option Addr) (hs : a.eval s = .slice (some ⟨g, 0, none⟩) 0 0) (hx : a.eval x = .slice A 0 cp)
    (h : wpList Tryd.prog ops Q rest (a.put o.dst (.slice (some ⟨g, 0, none⟩) 0 0)) w) : wpList Tryd.prog ops Q (o :: rest) a w :=
  wpList_plain hgd fun _ hK => by
    have hr := run_append_zero g cp A w o.type
    unfold Oper.wp execOp
    simp only [ho, resolve, invoke, builtin, Sem.run_bind, Sem.run_pure, Result.andThen_ok, List.map_toArray, List.map_cons, List.map_nil, hs, hx, hr]
    exact hK _ _ h

/-- the copy: its block, and what it holds from the k-th on -/
structure OwnSt (w1 wx : World) (g l k : Nat) (cs : Array Value) (ys : Nat → BitVec 64) : Prop where
  far : w1.heap.size ≤ g
  blk : Blk wx g 27 cs
  rows : ∀ j, k ≤ j → j < l → cs[j]? = some (.int .u64 (U (ys j)))
theorem OwnSt.is {w1 wx : World} {g l : Nat} {cs : Array Value} {ys : Nat → BitVec 64} (h : OwnSt w1 wx g l 0 cs ys) : IS wx (some ⟨g, 0, none⟩) l (fun i => .int .u64 (U (ys i))) :=
  .inr ⟨g, 0, rfl, fun i hi => by rw [Nat.zero_add, h.blk.cell i]; exact h.rows i (Nat.zero_le _) hi⟩
theorem OwnSt.of {w1 wx : World} {g cap n l : Nat} {xs : List Value} {ys : Nat → BitVec 64} (h : wx.ownsRow w1.heap.size 27 1 (.slice (some ⟨g, 0, none⟩) n cap) n xs) (hn : n = l) (hx : xs = (List.range l).map fun j => Value.int .u64 (U (ys j))) :
    ∃ cs, OwnSt w1 wx g l 0 cs ys := by
  subst hn hx
  rcases h.2 with ⟨h1, _⟩ | ⟨g', cap', cur, h1, h2, h3, _, _, _, h4⟩
  · cases h1
  · obtain ⟨rfl, rfl⟩ : g = g' ∧ cap = cap' := by simpa using h1
    refine ⟨cur, h2, h3, fun j _ hj => ?_⟩
    have e1 : (cur.toList.take (n * 1))[j]? = some (Value.int .u64 (U (ys j))) := by rw [h4]; simp [hj]
    rw [List.getElem?_take] at e1
    simpa [hj] using e1
theorem OwnSt.set {w1 wx : World} {g l k : Nat} {cs : Array Value} {ys : Nat → BitVec 64} (h : OwnSt w1 wx g l k cs ys) (u : Value) : OwnSt w1 (wx.setCell ⟨g, k, none⟩ u) g l (k + 1) (cs.setIfInBounds k u) ys :=
  ⟨h.far, h.blk.set_ k u, fun j hj hl => by rw [Array.getElem?_setIfInBounds, if_neg (by omega)]; exact h.rows j (by omega) hl⟩
theorem grown_set {w3 wr : World} {g : Nat} (h : w3.grownBy wr (some g)) (i : Nat) (u : Value) : w3.grownBy (wr.setCell ⟨g, i, none⟩ u) (some g) :=
  ⟨h.os, h.tape, h.output, Nat.le_trans h.size (Nat.le_of_eq (by simp [World.setCell])), fun k hk hne => (heap_setCell_other _ _ _ _ (fun e' => hne (by rw [e']))).trans (h.block k hk hne)⟩
theorem below_by {w w3 wr : World} {g : Nat} (hb : Below w.heap.size w w3) (hB : w.heap.size ≤ g) (hg : w3.grownBy wr (some g)) : Below w.heap.size w wr :=
  ⟨hg.os.trans hb.os, hg.tape.trans hb.tape, hg.output.trans hb.output, Nat.le_trans hb.size hg.size, fun b hb' => (hg.block b (Nat.lt_of_lt_of_le hb' hb.size) (fun e' => by simp at e'; omega)).trans (hb.block b hb')⟩
/-- what the call has come to behind the copy -/
structure CopySt (w w1 wx : World) (g l : Nat) (cs : Array Value) (ys : Nat → BitVec 64) : Prop where
  own : OwnSt w1 wx g l 0 cs ys
  bel : Below w.heap.size w wx

set_option maxRecDepth 100000 in
set_option maxHeartbeats 4000000 in
theorem ranks_law (w : World) (hT : Tab w) (A : Option Addr) (l cp : Nat) (ys : Nat → BitVec 64) (hs : IS w A l (fun i => .int .u64 (U (ys i)))) (hl : l ≤ 17592186044416) (n : Int) (_hn : (Lit.int .i64 n).wf = true) (i : Int) (hi : (Lit.int .i64 i).wf = true) :
    Calls Tryd.prog 3 #[.slice A l cp, .int .i64 n, .int .i64 i] w (TrueIs w) := by
  have HT := Lib.hid hT
  have HS := Lib.hid hs
  have HI := Lib.hid hi
  clear hT hs _hn hi
  go_enter Tryd.func3, Tryd.ntmps3
  go_wp2_with fail
  refine (shown_any _ HT.out).mono ?_
  rintro e w1 ⟨rfl, hb1⟩
  have HB1 := Lib.hid hb1
  clear hb1
  by_cases hgr : 12 < l
  · have hd : decide (12 < l) = true := by simp [hgr]
    go_wp2_with fail
    refine (great_any _ _ _ _).mono ?_
    rintro e w2 ⟨rfl, rfl⟩
    rw [hd]
    go_wp2
    try rw [Exit.noGoto_ret]
    go_ret
    exact ⟨rfl, HB1.out⟩
  have hd : decide (12 < l) = false := by simp [hgr]
  go_wp2_with fail
  refine (great_any _ _ _ _).mono ?_
  rintro e w2 ⟨rfl, rfl⟩
  rw [hd]

  go_upto_region 4 with (fail)
  go_cut [8] (fun s8 wx => ∃ g cap cs, s8 = .slice (some ⟨g, 0, none⟩) l cap ∧ CopySt w w1 wx g l cs ys)
  case first =>
    by_cases hl0 : l = 0
    · subst hl0
      go_wp2_with (at_builtin; refine wpList_append_zero rfl (.tmp 16) (.tmp 17) rfl w1.heap.size cp A rfl rfl ?_)
      go_meet
      exact ⟨_, _, _, rfl, ⟨Nat.le_refl _, Blk.newAt _ _ _ (by simp), fun j _ hj => by omega⟩, by first | exact HB1.out.alloc HB1.out.size _ | exact (HB1.out.alloc HB1.out.size _)⟩
    obtain ⟨b, off, rfl, hcells⟩ := HS.out.resolve_left hl0
    obtain ⟨i0, hi, hz0, hz1, hz2⟩ := info_parts u64_info
    have hlit : (w1.alloc (.cells #[] 27)).ownsRow w1.heap.size 27 1 (.slice (some ⟨w1.heap.size, 0, none⟩) 0 0) 0 [] := World.ownsRow_lit w1 #[] 0 (Nat.le_refl _) (by decide) rfl
    have hcell1 : ∀ j u, ((List.range l).map fun j => Value.int .u64 (U (ys j)))[j]? = some u → (w1.alloc (.cells #[] 27)).cell? (Addr.add ⟨b, off, none⟩ j) = some u := by
      intro j u hj
      have hjl : j < l := by
        rcases Nat.lt_or_ge j l with h | h
        · exact h
        · rw [List.getElem?_eq_none (by simpa using h)] at hj; cases hj
      simp [hjl] at hj
      subst hj
      have h2 := (((HB1.out.alloc HB1.out.size (.cells #[] 27))).cell (p := ⟨b, off + j, none⟩) (World.block_lt_of_cell? _ _ (hcells j hjl))).trans (hcells j hjl)
      have ea : Addr.add ⟨b, off, none⟩ j = ⟨b, off + j, none⟩ := by simp [Addr.add]
      rw [ea]
      exact h2
    have HC1 := Lib.hid hcell1
    have HLIT := Lib.hid hlit
    clear hcell1 hlit hcells
    go_wp2_with (at_builtin; refine wpList_append_lies _ rfl (.tmp 16) (.tmp 17) 22 rfl w1.heap.size 27 i0 (.int .u64 0) 1 8 Tryd.underlying22 hi hz0 hz1 hz2 rfl (by decide) _ 0 [] rfl HLIT.out ⟨b, off, none⟩ l cp _ rfl (by simp) HC1.out ?c1 (by omega) ?c2 ?c3 ?c4 _ rfl ?_)
    case c1 => intro u hu; simp at hu; obtain ⟨_, _, rfl⟩ := hu; rfl
    case c2 => unfold maxLen; omega
    case c3 => omega
    case c4 => simp
    intro g cap w2 hown hgrow hat hlt2
    obtain ⟨cs, hst⟩ := OwnSt.of hown rfl rfl
    have hbx : Below w.heap.size w w2 := below_by (HB1.out.alloc HB1.out.size _) HB1.out.size hgrow
    have HST := Lib.hid hst
    have HBX := Lib.hid hbx
    clear hst hbx hown hgrow hat
    go_wp2
    go_meet
    exact ⟨_, _, _, rfl, HST.out, HBX.out⟩
  case rest =>
    obtain ⟨g, cap, cs, rfl, hst⟩ := hcut
    have hbx := hst.bel
    have hfar := hst.own.far
    have hs1 := HB1.out.size
    have hgx := hst.own.blk.lt
    have hnew := new_made (some ⟨g, 0, none⟩) l cap ys n wc hst.own.is hl
    have hmake : ∀ W : World, Below w.heap.size w W → Calls Tryd.prog 12 #[.slice A l cp, .int .i64 n] W (MakeIs (bitF ys (clip n l)) (clip n l) W) :=
      fun W hW => make_any A l cp ys n W (HS.out.keep fun a _ e => (hW.cell (p := a) (World.block_lt_of_cell? _ _ e)).trans e) (by omega)
    have hN := great_size (n := n) (l := l) (by omega)
    generalize clip n l = N at *
    have HNEW := Lib.hid hnew
    have HMAKE := Lib.hid hmake
    have HST := Lib.hid hst
    clear hnew hmake hst hbx hd hgr
    go_wp2_with fail
    refine HNEW.out.mono ?_
    rintro e w3 ⟨v1, v2, v3, v4, rfl, hm⟩
    have HM := Lib.hid hm
    have hb3 : Below w.heap.size w w3 := HST.out.bel.trans (hm.below.mono HST.out.bel.size)
    have hown3 : OwnSt w1 w3 g l 0 cs ys := ⟨hfar, HST.out.own.blk.kept hm.below, HST.out.own.rows⟩
    have HB3 := Lib.hid hb3
    have HO3 := Lib.hid hown3
    clear hm hb3 hown3 HNEW
    go_wp2
    go_loopw [10] (fun s10 wr => ∃ k ds, s10 = .int .i64 (k : Nat) ∧ k ≤ l ∧ OwnSt w1 wr g l k ds ys ∧ w3.grownBy wr (some g)) (fun s10 _ => l - (intOf s10).toNat)
    case atStart => exact ⟨0, cs, rfl, Nat.zero_le _, HO3.out, ⟨rfl, rfl, rfl, Nat.le_refl _, fun _ _ _ => rfl⟩⟩
    case round =>
      obtain ⟨k, ds, rfl, hkl, hok, hgk⟩ := hrel
      have HGK := Lib.hid hgk
      have HOK := Lib.hid hok
      clear hgk
      by_cases hlt : k < l
      · have hlti : (k : Int) < l := by omega
        have e1 : wr.cell? ⟨g, k, none⟩ = some (.int .u64 (U (ys k))) := (hok.blk.cell k).trans (hok.rows k (Nat.le_refl _) hlt)
        have e2 : wr.frozen? ⟨g, k, none⟩ = false := hok.blk.frozen k
        clear hok
        go_wp2
        go_roundw
        case rel => exact ⟨k + 1, _, by go_num, hlt, HOK.out.set _, grown_set HGK.out _ _⟩
        case measure => simp [intOf] <;> omega
      · obtain rfl : k = l := by omega
        clear hok
        have hbr : Below w.heap.size w wr := below_by HB3.out (by omega) HGK.out
        have hvr : Vec wr (some ⟨wc.heap.size, 0, none⟩) N (bitF ys N) := HM.out.vec_far (by omega) fun a v ha e => (HGK.out.cell_far a (World.block_lt_of_cell? _ _ e) (by simp; omega)).trans e
        have htr := HT.out.below hbr
        generalize bitF ys N = f at *
        have HBR := Lib.hid hbr
        have HVR := Lib.hid hvr
        clear hbr hvr HM HST HO3
        go_wp2_with fail
        refine (HMAKE.out _ HBR.out).mono ?_
        rintro e w4 ⟨A', cp', rfl, hr, hb4⟩
        have HR := Lib.hid hr
        have HV := Lib.hid (HVR.out.below hb4)
        have hb5 : Below w.heap.size w w4 := HBR.out.trans (hb4.mono HBR.out.size)
        have HB5 := Lib.hid hb5
        have HT5 := Lib.hid (HT.out.below hb5)
        clear hr hb4 hb5 HVR HBR HMAKE htr
        go_wp2_with fail
        refine (len_any _ N f _ HV.out).mono ?_
        rintro e w' ⟨rfl, rfl⟩
        go_wp2_with fail
        refine (opens_any _ N f _ _ HV.out).mono ?_
        rintro e w' ⟨rfl, rfl⟩
        go_wp2_with fail
        refine (ropens_any _ N _ f _ _ HR.out).mono ?_
        rintro e w' ⟨rfl, rfl⟩
        generalize opB f N i = OB
        go_wp2_with fail
        refine (rank_any _ N f _ _ HV.out).mono ?_
        rintro e w' ⟨rfl, m1, rfl⟩
        go_wp2_with fail
        refine (rrank_any _ N _ f _ _ (HR.out.drewN _) (by omega)).mono ?_
        rintro e w' ⟨rfl, m2, rfl⟩
        generalize rankI f N i = RI
        go_wp2_with fail
        refine (excess_any _ N f _ _ (HV.out.drewN _)).mono ?_
        rintro e w' ⟨rfl, m3, rfl⟩
        go_wp2_with fail
        refine (rexcess_any _ N _ f _ _ (HR.out.drewN _) (by omega)).mono ?_
        rintro e w' ⟨rfl, m4, rfl⟩
        generalize exI f N i = XI
        go_wp2_with fail
        refine (select_any _ N f _ _ (HV.out.drewN _) (HT5.out.drewN _)).mono ?_
        rintro e w' ⟨rfl, m5, rfl⟩
        go_wp2_with fail
        refine (rselect_any _ N _ f _ _ (HR.out.drewN _) hN (fits_of HI.out) HI.out).mono ?_
        rintro e w' ⟨rfl, m6, rfl⟩
        generalize selI f N i = SI
        go_wp2
        try rw [Exit.noGoto_ret]
        go_ret
        exact ⟨rfl, belowN HB5.out _⟩
end Go.Proofs.YtldjemekncfmeaaDoor
