/-
  The reference's Join: what a call returns: the pieces' bytes, one behind the other. For pieces of up to 2^20 bytes together; what was there stays as it is.
-/
import Derived.Test.YtmbiolhecheplaaDoorChunk
import Derived.Test.YtmbiolhecheplaaDoorShm
namespace Go.Proofs.YtmbiolhecheplaaDoor
open Go.RowKit

theorem u8_info : (Tryd.prog.info? 5).map (fun i => (i.zero, i.size, i.bytes)) = some (some (.int .u8 0), 1, 1) := by kernel_rfl
/-- an append of nothing -/
theorem run_append_none (B A : Option Addr) (n c cp : Nat) (W : World) (ty : TypeId) (hc : n ≤ c) :
    (Builtin.append_ #[22, 22] ty #[.slice B n c, .slice A 0 cp]).run Tryd.prog W = .ok (.slice B n c) W := by
  cases A <;> cases B <;> simp [Builtin.append_, go_sem, storeCells, hc]
theorem wpList_append_none {w : World} {ops : Array Oper} {rest : List Oper} {o : Oper} {a : Act} {Q : Exit → Act → World → Prop} (hgd : o.guard = none) (s x : Operand)
    (ho : o.op = .call { callee := .builtin .append, args := #[s, x], argTypes := #[22, 22] }) (B A : Option Addr) (n c cp : Nat) (hc : n ≤ c) (hs : a.eval s = .slice B n c) (hx : a.eval x = .slice A 0 cp)
    (h : wpList Tryd.prog ops Q rest (a.put o.dst (.slice B n c)) w) : wpList Tryd.prog ops Q (o :: rest) a w :=
  wpList_plain hgd fun _ hK => by
    have hr := run_append_none B A n c cp w o.type hc
    unfold Oper.wp execOp
    simp only [ho, resolve, invoke, builtin, Sem.run_bind, Sem.run_pure, Result.andThen_ok, List.map_toArray, List.map_cons, List.map_nil, hs, hx, hr]
    exact hK _ _ h
def joinV (P : Pieces) (i : Nat) : List Value := (P.join i).map (Value.int .u8)
theorem joinV_succ (P : Pieces) (i : Nat) : joinV P (i + 1) = joinV P i ++ bytesL (P.pg i) (P.pn i) := by
  unfold joinV
  rw [Pieces.join, List.map_append, List.map_map]; rfl
theorem own_capped {w : World} {base : Nat} {e : TypeId} {s n : Nat} {v : Value} {xs : List Value} (h : w.ownsRow base e s v n xs) : ∃ A cap, v = .slice A n cap ∧ n ≤ cap := by
  rcases h.2 with ⟨h1, h2⟩ | ⟨g, cap, cur, h1, _, _, h2, _⟩
  · exact ⟨none, 0, by rw [h1, h2], by omega⟩
  · exact ⟨_, _, h1, h2⟩

set_option maxRecDepth 100000 in
set_option maxHeartbeats 2000000 in
theorem join_any (w : World) (v : Value) (P : Pieces) (hp : PcsAt w v P) : Calls Tryd.prog 21 #[v] w fun e w' => ∃ A cp, e = .returned (.slice A (P.at_ P.nl) cp) ∧ P.at_ P.nl ≤ cp ∧ cp ≤ 9223372036854775807 ∧ BS w' A (P.at_ P.nl) P.G ∧ Below w.heap.size w w' := by
  obtain ⟨i0, hi, hz0, hz1, hz2⟩ := info_parts u8_info
  have HP := Lib.hid hp
  obtain rfl := hp.val
  have hfew : (P.nl : Int) ≤ 1048576 := by have := hp.few; omega
  clear hp
  go_enter Tryd.func21, Tryd.ntmps21
  go_wp2
  go_loopw [3, 4] (fun s3 s4 wr => ∃ i : Nat, s4 = .int .i64 i ∧ i ≤ P.nl ∧ wr.ownsRow w.heap.size 5 1 s3 (P.at_ i) (joinV P i) ∧ Below w.heap.size w wr) (fun _ s4 _ => P.nl - (intOf s4).toNat)
  case atStart => exact ⟨0, rfl, Nat.zero_le _, World.ownsRow_nil _ _ _ _, Below.refl _ _⟩
  case round =>
    obtain ⟨i, rfl, hin, hown, hbel⟩ := hrel
    obtain ⟨B, c, rfl, hnc⟩ := own_capped hown
    have HOWN := Lib.hid hown
    have HBE := Lib.hid hbel
    clear hown hbel
    by_cases hlt : i < P.nl
    · have hiI : (i : Int) < (P.nl : Int) := by omega
      obtain ⟨b, off, hA, hc⟩ := HP.out.top.resolve_left (by omega)
      have hcell : wr.cell? ⟨b, off + i, none⟩ = some (.slice (P.pa i) (P.pn i) (P.pc i)) := (HBE.out.cell (p := ⟨b, off + i, none⟩) (World.block_lt_of_cell? _ _ (hc i hlt))).trans (hc i hlt)
      rw [hA]
      clear hc hA
      have hpart := HP.out.part hlt
      have hrow := HP.out.row i hlt
      have HPT := Lib.hid hpart
      have HR := Lib.hid hrow
      have HV := Lib.hid (joinV_succ P i)
      clear hpart hrow
      by_cases h0 : P.pn i = 0
      · rw [h0] at hcell
        have HE := Lib.hid (show P.at_ (i + 1) = P.at_ i by rw [HPT.out.2, h0]; rfl)
        have HV2 := Lib.hid (show joinV P (i + 1) = joinV P i by rw [HV.out, h0]; exact List.append_nil _)
        clear h0
        go_wp2_with (at_builtin; refine wpList_append_none rfl (.tmp 11) (.tmp 15) rfl B (P.pa i) (P.at_ i) c (P.pc i) hnc rfl rfl ?_)
        go_wp2
        go_roundw
        case rel => exact ⟨i + 1, by go_num, by omega, by rw [HE.out, HV2.out]; exact HOWN.out, HBE.out⟩
        case measure => simp [intOf]; omega
      · obtain ⟨b2, off2, hA2, hc2⟩ := HR.out.1.resolve_left h0
        rw [hA2] at hcell
        have hsrc : ∀ j, j < P.pn i → wr.cell? ⟨b2, off2 + j, none⟩ = some (.int .u8 (P.pg i j)) := fun j hj => (HBE.out.cell (p := ⟨b2, off2 + j, none⟩) (World.block_lt_of_cell? _ _ (hc2 j hj))).trans (hc2 j hj)
        have HSRC := Lib.hid (bytesL_src (G := P.pg i) hsrc (Nat.le_refl _))
        have h1 := HPT.out.1
        have hsz := HBE.out.size
        clear hsrc hc2 hA2
        go_wp2_with (at_builtin; refine wpList_append_lies _ rfl (.tmp 11) (.tmp 15) 22 rfl w.heap.size 5 i0 (.int .u8 0) 1 1 Tryd.underlying22 hi hz0 hz1 hz2 rfl (by decide) (.slice B (P.at_ i) c) (P.at_ i) (joinV P i) rfl HOWN.out ⟨b2, off2, none⟩ (P.pn i) (P.pc i) (bytesL (P.pg i) (P.pn i)) rfl ?c0 HSRC.out (bytesL_one _ _) ?c3 ?c4 ?c5 ?c6 _ rfl ?_)
        case c0 => rw [bytesL_len]; omega
        case c3 => omega
        case c4 => unfold maxLen; omega
        case c5 => omega
        case c6 => omega
        intro g' cap' w2 hown2 hgrow hat hlt2
        have hb2 := below_row HBE.out (Nat.le_refl _) HOWN.out hgrow
        rw [← HV.out, ← HPT.out.2] at hown2
        have HO2 := Lib.hid hown2
        have HB2 := Lib.hid hb2
        have HEQ := Lib.hid HPT.out.2
        clear hown2 hgrow hat hb2 hcell
        go_wp2
        go_roundw
        case rel => exact ⟨i + 1, by go_num, by omega, by rw [← HEQ.out]; exact HO2.out, HB2.out⟩
        case measure => simp [intOf]; omega
    · have hiI : ¬ ((i : Int) < (P.nl : Int)) := by omega
      obtain rfl : i = P.nl := by omega
      go_wp2
      go_ret
      have hcap : c ≤ 9223372036854775807 := by
        rcases HOWN.out.2 with ⟨h1, _⟩ | ⟨g, cap, cur, h1, _, _, _, h2, _⟩
        · have := (Value.slice.inj h1).2.2; omega
        · have := (Value.slice.inj h1).2.2; unfold maxLen at h2; omega
      refine ⟨B, c, rfl, hnc, hcap, ?_, HBE.out⟩
      by_cases h0 : P.at_ P.nl = 0
      · exact .inl h0
      · obtain ⟨g, cap, hv, _, _, hc⟩ := own_form HOWN.out (by omega)
        obtain rfl : B = some ⟨g, 0, none⟩ := by simpa using (Value.slice.inj hv).1
        refine .inr ⟨g, 0, rfl, fun k hk => ?_⟩
        rw [Nat.zero_add]
        refine hc k _ ?_
        have hl : k < (P.join P.nl).length := by rw [P.join_len]; exact hk
        rw [joinV, List.getElem?_map, List.getElem?_eq_getElem hl]
        have : P.G k = (P.join P.nl)[k] := by unfold Pieces.G; rw [List.getD_eq_getElem?_getD, List.getElem?_eq_getElem hl]; rfl
        rw [this]; rfl
end Go.Proofs.YtmbiolhecheplaaDoor
