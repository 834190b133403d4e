/-
  The reference's Step: what each call returns. For every byte and every carry; what was there stays as it is.
-/
import Derived.Test.YtmbiolhecheplaaDoorBitb
import Derived.RegionTactic
import Derived.ChangeAlike
import Derived.Below
import Derived.Handy
namespace Go.Proofs.YtmbiolhecheplaaDoor
open Go.RowKit

def nodd (c : Int) (o : Bool) : Bool := !o && c == 92
def nin (c : Int) (o i : Bool) : Bool := if c == 34 && !o then !i else i
def what (c : Int) (o i : Bool) : Int := if c == 34 && !o then 113 else if i then 0 else if c == 91 || c == 123 then 111 else if c == 93 || c == 125 then 99 else if c == 58 || c == 44 then c else if c == 32 || c == 9 || c == 10 || c == 13 then 32 else 0
def StepIs (c : Int) (o i : Bool) (w : World) (e : Ending) (w' : World) : Prop :=
  e = .returned (.tuple #[.int .u8 (what c o i), .bool (nin c o i), .agg #[.bool (nodd c o), .bool (nin c o i)]]) ∧ Below w.heap.size w w'

set_option maxHeartbeats 1000000 in
theorem step_34 (o i : Bool) (w : World) : Calls Tryd.prog 26 #[.int .u8 34, .agg #[.bool o, .bool i]] w (StepIs 34 o i w) := by
  cases o <;> cases i
  · go_enter Tryd.func26, Tryd.ntmps26
    go_wp2
    go_region
    all_goals
      go_wp2
      refine bodyPost_ret (v := .tuple #[.int .u8 113, .bool true, .agg #[.bool false, .bool true]]) (by simp [results, Tryd.results26, go_sem]) rfl ⟨rfl, ?_⟩
      go_grown
  · go_enter Tryd.func26, Tryd.ntmps26
    go_wp2
    go_region
    all_goals
      go_wp2
      refine bodyPost_ret (v := .tuple #[.int .u8 113, .bool false, .agg #[.bool false, .bool false]]) (by simp [results, Tryd.results26, go_sem]) rfl ⟨rfl, ?_⟩
      go_grown
  · go_enter Tryd.func26, Tryd.ntmps26
    go_wp2
    go_region
    all_goals
      go_wp2
      refine bodyPost_ret (v := .tuple #[.int .u8 0, .bool false, .agg #[.bool false, .bool false]]) (by simp [results, Tryd.results26, go_sem]) rfl ⟨rfl, ?_⟩
      go_grown
  · go_enter Tryd.func26, Tryd.ntmps26
    go_wp2
    go_region
    all_goals
      go_wp2
      refine bodyPost_ret (v := .tuple #[.int .u8 0, .bool true, .agg #[.bool false, .bool true]]) (by simp [results, Tryd.results26, go_sem]) rfl ⟨rfl, ?_⟩
      go_grown

set_option maxHeartbeats 1000000 in
theorem step_91 (o i : Bool) (w : World) : Calls Tryd.prog 26 #[.int .u8 91, .agg #[.bool o, .bool i]] w (StepIs 91 o i w) := by
  cases o <;> cases i
  · go_enter Tryd.func26, Tryd.ntmps26
    go_wp2
    go_region
    all_goals
      go_wp2
      refine bodyPost_ret (v := .tuple #[.int .u8 111, .bool false, .agg #[.bool false, .bool false]]) (by simp [results, Tryd.results26, go_sem]) rfl ⟨rfl, ?_⟩
      go_grown
  · go_enter Tryd.func26, Tryd.ntmps26
    go_wp2
    go_region
    all_goals
      go_wp2
      refine bodyPost_ret (v := .tuple #[.int .u8 0, .bool true, .agg #[.bool false, .bool true]]) (by simp [results, Tryd.results26, go_sem]) rfl ⟨rfl, ?_⟩
      go_grown
  · go_enter Tryd.func26, Tryd.ntmps26
    go_wp2
    go_region
    all_goals
      go_wp2
      refine bodyPost_ret (v := .tuple #[.int .u8 111, .bool false, .agg #[.bool false, .bool false]]) (by simp [results, Tryd.results26, go_sem]) rfl ⟨rfl, ?_⟩
      go_grown
  · go_enter Tryd.func26, Tryd.ntmps26
    go_wp2
    go_region
    all_goals
      go_wp2
      refine bodyPost_ret (v := .tuple #[.int .u8 0, .bool true, .agg #[.bool false, .bool true]]) (by simp [results, Tryd.results26, go_sem]) rfl ⟨rfl, ?_⟩
      go_grown

set_option maxHeartbeats 1000000 in
theorem step_123 (o i : Bool) (w : World) : Calls Tryd.prog 26 #[.int .u8 123, .agg #[.bool o, .bool i]] w (StepIs 123 o i w) := by
  cases o <;> cases i
  · go_enter Tryd.func26, Tryd.ntmps26
    go_wp2
    go_region
    all_goals
      go_wp2
      refine bodyPost_ret (v := .tuple #[.int .u8 111, .bool false, .agg #[.bool false, .bool false]]) (by simp [results, Tryd.results26, go_sem]) rfl ⟨rfl, ?_⟩
      go_grown
  · go_enter Tryd.func26, Tryd.ntmps26
    go_wp2
    go_region
    all_goals
      go_wp2
      refine bodyPost_ret (v := .tuple #[.int .u8 0, .bool true, .agg #[.bool false, .bool true]]) (by simp [results, Tryd.results26, go_sem]) rfl ⟨rfl, ?_⟩
      go_grown
  · go_enter Tryd.func26, Tryd.ntmps26
    go_wp2
    go_region
    all_goals
      go_wp2
      refine bodyPost_ret (v := .tuple #[.int .u8 111, .bool false, .agg #[.bool false, .bool false]]) (by simp [results, Tryd.results26, go_sem]) rfl ⟨rfl, ?_⟩
      go_grown
  · go_enter Tryd.func26, Tryd.ntmps26
    go_wp2
    go_region
    all_goals
      go_wp2
      refine bodyPost_ret (v := .tuple #[.int .u8 0, .bool true, .agg #[.bool false, .bool true]]) (by simp [results, Tryd.results26, go_sem]) rfl ⟨rfl, ?_⟩
      go_grown

set_option maxHeartbeats 1000000 in
theorem step_93 (o i : Bool) (w : World) : Calls Tryd.prog 26 #[.int .u8 93, .agg #[.bool o, .bool i]] w (StepIs 93 o i w) := by
  cases o <;> cases i
  · go_enter Tryd.func26, Tryd.ntmps26
    go_wp2
    go_region
    all_goals
      go_wp2
      refine bodyPost_ret (v := .tuple #[.int .u8 99, .bool false, .agg #[.bool false, .bool false]]) (by simp [results, Tryd.results26, go_sem]) rfl ⟨rfl, ?_⟩
      go_grown
  · go_enter Tryd.func26, Tryd.ntmps26
    go_wp2
    go_region
    all_goals
      go_wp2
      refine bodyPost_ret (v := .tuple #[.int .u8 0, .bool true, .agg #[.bool false, .bool true]]) (by simp [results, Tryd.results26, go_sem]) rfl ⟨rfl, ?_⟩
      go_grown
  · go_enter Tryd.func26, Tryd.ntmps26
    go_wp2
    go_region
    all_goals
      go_wp2
      refine bodyPost_ret (v := .tuple #[.int .u8 99, .bool false, .agg #[.bool false, .bool false]]) (by simp [results, Tryd.results26, go_sem]) rfl ⟨rfl, ?_⟩
      go_grown
  · go_enter Tryd.func26, Tryd.ntmps26
    go_wp2
    go_region
    all_goals
      go_wp2
      refine bodyPost_ret (v := .tuple #[.int .u8 0, .bool true, .agg #[.bool false, .bool true]]) (by simp [results, Tryd.results26, go_sem]) rfl ⟨rfl, ?_⟩
      go_grown

set_option maxHeartbeats 1000000 in
theorem step_125 (o i : Bool) (w : World) : Calls Tryd.prog 26 #[.int .u8 125, .agg #[.bool o, .bool i]] w (StepIs 125 o i w) := by
  cases o <;> cases i
  · go_enter Tryd.func26, Tryd.ntmps26
    go_wp2
    go_region
    all_goals
      go_wp2
      refine bodyPost_ret (v := .tuple #[.int .u8 99, .bool false, .agg #[.bool false, .bool false]]) (by simp [results, Tryd.results26, go_sem]) rfl ⟨rfl, ?_⟩
      go_grown
  · go_enter Tryd.func26, Tryd.ntmps26
    go_wp2
    go_region
    all_goals
      go_wp2
      refine bodyPost_ret (v := .tuple #[.int .u8 0, .bool true, .agg #[.bool false, .bool true]]) (by simp [results, Tryd.results26, go_sem]) rfl ⟨rfl, ?_⟩
      go_grown
  · go_enter Tryd.func26, Tryd.ntmps26
    go_wp2
    go_region
    all_goals
      go_wp2
      refine bodyPost_ret (v := .tuple #[.int .u8 99, .bool false, .agg #[.bool false, .bool false]]) (by simp [results, Tryd.results26, go_sem]) rfl ⟨rfl, ?_⟩
      go_grown
  · go_enter Tryd.func26, Tryd.ntmps26
    go_wp2
    go_region
    all_goals
      go_wp2
      refine bodyPost_ret (v := .tuple #[.int .u8 0, .bool true, .agg #[.bool false, .bool true]]) (by simp [results, Tryd.results26, go_sem]) rfl ⟨rfl, ?_⟩
      go_grown

set_option maxHeartbeats 1000000 in
theorem step_58 (o i : Bool) (w : World) : Calls Tryd.prog 26 #[.int .u8 58, .agg #[.bool o, .bool i]] w (StepIs 58 o i w) := by
  cases o <;> cases i
  · go_enter Tryd.func26, Tryd.ntmps26
    go_wp2
    go_region
    all_goals
      go_wp2
      refine bodyPost_ret (v := .tuple #[.int .u8 58, .bool false, .agg #[.bool false, .bool false]]) (by simp [results, Tryd.results26, go_sem]) rfl ⟨rfl, ?_⟩
      go_grown
  · go_enter Tryd.func26, Tryd.ntmps26
    go_wp2
    go_region
    all_goals
      go_wp2
      refine bodyPost_ret (v := .tuple #[.int .u8 0, .bool true, .agg #[.bool false, .bool true]]) (by simp [results, Tryd.results26, go_sem]) rfl ⟨rfl, ?_⟩
      go_grown
  · go_enter Tryd.func26, Tryd.ntmps26
    go_wp2
    go_region
    all_goals
      go_wp2
      refine bodyPost_ret (v := .tuple #[.int .u8 58, .bool false, .agg #[.bool false, .bool false]]) (by simp [results, Tryd.results26, go_sem]) rfl ⟨rfl, ?_⟩
      go_grown
  · go_enter Tryd.func26, Tryd.ntmps26
    go_wp2
    go_region
    all_goals
      go_wp2
      refine bodyPost_ret (v := .tuple #[.int .u8 0, .bool true, .agg #[.bool false, .bool true]]) (by simp [results, Tryd.results26, go_sem]) rfl ⟨rfl, ?_⟩
      go_grown

set_option maxHeartbeats 1000000 in
theorem step_44 (o i : Bool) (w : World) : Calls Tryd.prog 26 #[.int .u8 44, .agg #[.bool o, .bool i]] w (StepIs 44 o i w) := by
  cases o <;> cases i
  · go_enter Tryd.func26, Tryd.ntmps26
    go_wp2
    go_region
    all_goals
      go_wp2
      refine bodyPost_ret (v := .tuple #[.int .u8 44, .bool false, .agg #[.bool false, .bool false]]) (by simp [results, Tryd.results26, go_sem]) rfl ⟨rfl, ?_⟩
      go_grown
  · go_enter Tryd.func26, Tryd.ntmps26
    go_wp2
    go_region
    all_goals
      go_wp2
      refine bodyPost_ret (v := .tuple #[.int .u8 0, .bool true, .agg #[.bool false, .bool true]]) (by simp [results, Tryd.results26, go_sem]) rfl ⟨rfl, ?_⟩
      go_grown
  · go_enter Tryd.func26, Tryd.ntmps26
    go_wp2
    go_region
    all_goals
      go_wp2
      refine bodyPost_ret (v := .tuple #[.int .u8 44, .bool false, .agg #[.bool false, .bool false]]) (by simp [results, Tryd.results26, go_sem]) rfl ⟨rfl, ?_⟩
      go_grown
  · go_enter Tryd.func26, Tryd.ntmps26
    go_wp2
    go_region
    all_goals
      go_wp2
      refine bodyPost_ret (v := .tuple #[.int .u8 0, .bool true, .agg #[.bool false, .bool true]]) (by simp [results, Tryd.results26, go_sem]) rfl ⟨rfl, ?_⟩
      go_grown

set_option maxHeartbeats 1000000 in
theorem step_32 (o i : Bool) (w : World) : Calls Tryd.prog 26 #[.int .u8 32, .agg #[.bool o, .bool i]] w (StepIs 32 o i w) := by
  cases o <;> cases i
  · go_enter Tryd.func26, Tryd.ntmps26
    go_wp2
    go_region
    all_goals
      go_wp2
      refine bodyPost_ret (v := .tuple #[.int .u8 32, .bool false, .agg #[.bool false, .bool false]]) (by simp [results, Tryd.results26, go_sem]) rfl ⟨rfl, ?_⟩
      go_grown
  · go_enter Tryd.func26, Tryd.ntmps26
    go_wp2
    go_region
    all_goals
      go_wp2
      refine bodyPost_ret (v := .tuple #[.int .u8 0, .bool true, .agg #[.bool false, .bool true]]) (by simp [results, Tryd.results26, go_sem]) rfl ⟨rfl, ?_⟩
      go_grown
  · go_enter Tryd.func26, Tryd.ntmps26
    go_wp2
    go_region
    all_goals
      go_wp2
      refine bodyPost_ret (v := .tuple #[.int .u8 32, .bool false, .agg #[.bool false, .bool false]]) (by simp [results, Tryd.results26, go_sem]) rfl ⟨rfl, ?_⟩
      go_grown
  · go_enter Tryd.func26, Tryd.ntmps26
    go_wp2
    go_region
    all_goals
      go_wp2
      refine bodyPost_ret (v := .tuple #[.int .u8 0, .bool true, .agg #[.bool false, .bool true]]) (by simp [results, Tryd.results26, go_sem]) rfl ⟨rfl, ?_⟩
      go_grown

set_option maxHeartbeats 1000000 in
theorem step_9 (o i : Bool) (w : World) : Calls Tryd.prog 26 #[.int .u8 9, .agg #[.bool o, .bool i]] w (StepIs 9 o i w) := by
  cases o <;> cases i
  · go_enter Tryd.func26, Tryd.ntmps26
    go_wp2
    go_region
    all_goals
      go_wp2
      refine bodyPost_ret (v := .tuple #[.int .u8 32, .bool false, .agg #[.bool false, .bool false]]) (by simp [results, Tryd.results26, go_sem]) rfl ⟨rfl, ?_⟩
      go_grown
  · go_enter Tryd.func26, Tryd.ntmps26
    go_wp2
    go_region
    all_goals
      go_wp2
      refine bodyPost_ret (v := .tuple #[.int .u8 0, .bool true, .agg #[.bool false, .bool true]]) (by simp [results, Tryd.results26, go_sem]) rfl ⟨rfl, ?_⟩
      go_grown
  · go_enter Tryd.func26, Tryd.ntmps26
    go_wp2
    go_region
    all_goals
      go_wp2
      refine bodyPost_ret (v := .tuple #[.int .u8 32, .bool false, .agg #[.bool false, .bool false]]) (by simp [results, Tryd.results26, go_sem]) rfl ⟨rfl, ?_⟩
      go_grown
  · go_enter Tryd.func26, Tryd.ntmps26
    go_wp2
    go_region
    all_goals
      go_wp2
      refine bodyPost_ret (v := .tuple #[.int .u8 0, .bool true, .agg #[.bool false, .bool true]]) (by simp [results, Tryd.results26, go_sem]) rfl ⟨rfl, ?_⟩
      go_grown

set_option maxHeartbeats 1000000 in
theorem step_10 (o i : Bool) (w : World) : Calls Tryd.prog 26 #[.int .u8 10, .agg #[.bool o, .bool i]] w (StepIs 10 o i w) := by
  cases o <;> cases i
  · go_enter Tryd.func26, Tryd.ntmps26
    go_wp2
    go_region
    all_goals
      go_wp2
      refine bodyPost_ret (v := .tuple #[.int .u8 32, .bool false, .agg #[.bool false, .bool false]]) (by simp [results, Tryd.results26, go_sem]) rfl ⟨rfl, ?_⟩
      go_grown
  · go_enter Tryd.func26, Tryd.ntmps26
    go_wp2
    go_region
    all_goals
      go_wp2
      refine bodyPost_ret (v := .tuple #[.int .u8 0, .bool true, .agg #[.bool false, .bool true]]) (by simp [results, Tryd.results26, go_sem]) rfl ⟨rfl, ?_⟩
      go_grown
  · go_enter Tryd.func26, Tryd.ntmps26
    go_wp2
    go_region
    all_goals
      go_wp2
      refine bodyPost_ret (v := .tuple #[.int .u8 32, .bool false, .agg #[.bool false, .bool false]]) (by simp [results, Tryd.results26, go_sem]) rfl ⟨rfl, ?_⟩
      go_grown
  · go_enter Tryd.func26, Tryd.ntmps26
    go_wp2
    go_region
    all_goals
      go_wp2
      refine bodyPost_ret (v := .tuple #[.int .u8 0, .bool true, .agg #[.bool false, .bool true]]) (by simp [results, Tryd.results26, go_sem]) rfl ⟨rfl, ?_⟩
      go_grown

set_option maxHeartbeats 1000000 in
theorem step_13 (o i : Bool) (w : World) : Calls Tryd.prog 26 #[.int .u8 13, .agg #[.bool o, .bool i]] w (StepIs 13 o i w) := by
  cases o <;> cases i
  · go_enter Tryd.func26, Tryd.ntmps26
    go_wp2
    go_region
    all_goals
      go_wp2
      refine bodyPost_ret (v := .tuple #[.int .u8 32, .bool false, .agg #[.bool false, .bool false]]) (by simp [results, Tryd.results26, go_sem]) rfl ⟨rfl, ?_⟩
      go_grown
  · go_enter Tryd.func26, Tryd.ntmps26
    go_wp2
    go_region
    all_goals
      go_wp2
      refine bodyPost_ret (v := .tuple #[.int .u8 0, .bool true, .agg #[.bool false, .bool true]]) (by simp [results, Tryd.results26, go_sem]) rfl ⟨rfl, ?_⟩
      go_grown
  · go_enter Tryd.func26, Tryd.ntmps26
    go_wp2
    go_region
    all_goals
      go_wp2
      refine bodyPost_ret (v := .tuple #[.int .u8 32, .bool false, .agg #[.bool false, .bool false]]) (by simp [results, Tryd.results26, go_sem]) rfl ⟨rfl, ?_⟩
      go_grown
  · go_enter Tryd.func26, Tryd.ntmps26
    go_wp2
    go_region
    all_goals
      go_wp2
      refine bodyPost_ret (v := .tuple #[.int .u8 0, .bool true, .agg #[.bool false, .bool true]]) (by simp [results, Tryd.results26, go_sem]) rfl ⟨rfl, ?_⟩
      go_grown

set_option maxHeartbeats 1000000 in
theorem step_92 (o i : Bool) (w : World) : Calls Tryd.prog 26 #[.int .u8 92, .agg #[.bool o, .bool i]] w (StepIs 92 o i w) := by
  cases o <;> cases i
  · go_enter Tryd.func26, Tryd.ntmps26
    go_wp2
    go_region
    all_goals
      go_wp2
      refine bodyPost_ret (v := .tuple #[.int .u8 0, .bool false, .agg #[.bool true, .bool false]]) (by simp [results, Tryd.results26, go_sem]) rfl ⟨rfl, ?_⟩
      go_grown
  · go_enter Tryd.func26, Tryd.ntmps26
    go_wp2
    go_region
    all_goals
      go_wp2
      refine bodyPost_ret (v := .tuple #[.int .u8 0, .bool true, .agg #[.bool true, .bool true]]) (by simp [results, Tryd.results26, go_sem]) rfl ⟨rfl, ?_⟩
      go_grown
  · go_enter Tryd.func26, Tryd.ntmps26
    go_wp2
    go_region
    all_goals
      go_wp2
      refine bodyPost_ret (v := .tuple #[.int .u8 0, .bool false, .agg #[.bool false, .bool false]]) (by simp [results, Tryd.results26, go_sem]) rfl ⟨rfl, ?_⟩
      go_grown
  · go_enter Tryd.func26, Tryd.ntmps26
    go_wp2
    go_region
    all_goals
      go_wp2
      refine bodyPost_ret (v := .tuple #[.int .u8 0, .bool true, .agg #[.bool false, .bool true]]) (by simp [results, Tryd.results26, go_sem]) rfl ⟨rfl, ?_⟩
      go_grown

set_option maxHeartbeats 1000000 in
theorem step_else (c : Int) (o i : Bool) (w : World) (h34 : (c == 34) = false) (h91 : (c == 91) = false) (h123 : (c == 123) = false) (h93 : (c == 93) = false) (h125 : (c == 125) = false) (h58 : (c == 58) = false) (h44 : (c == 44) = false) (h32 : (c == 32) = false) (h9 : (c == 9) = false) (h10 : (c == 10) = false) (h13 : (c == 13) = false) (h92 : (c == 92) = false) : Calls Tryd.prog 26 #[.int .u8 c, .agg #[.bool o, .bool i]] w (StepIs c o i w) := by
  have hw : what c o i = 0 := by simp [what, *]
  have hn : nin c o i = i := by simp [nin, *]
  have ho : nodd c o = false := by simp [nodd, *]
  have hpost : ∀ w', Below w.heap.size w w' → StepIs c o i w (.returned (.tuple #[.int .u8 0, .bool i, .agg #[.bool false, .bool i]])) w' := fun w' hb => ⟨by rw [hw, hn, ho], hb⟩
  have HP := Lib.hid hpost
  clear hpost hw hn ho
  cases o <;> cases i
  · go_enter Tryd.func26, Tryd.ntmps26
    go_wp2
    go_region
    all_goals
      go_wp2
      refine bodyPost_ret (v := .tuple #[.int .u8 0, .bool false, .agg #[.bool false, .bool false]]) (by simp [results, Tryd.results26, go_sem]) rfl (HP.out _ ?_)
      go_grown
  · go_enter Tryd.func26, Tryd.ntmps26
    go_wp2
    go_region
    all_goals
      go_wp2
      refine bodyPost_ret (v := .tuple #[.int .u8 0, .bool true, .agg #[.bool false, .bool true]]) (by simp [results, Tryd.results26, go_sem]) rfl (HP.out _ ?_)
      go_grown
  · go_enter Tryd.func26, Tryd.ntmps26
    go_wp2
    go_region
    all_goals
      go_wp2
      refine bodyPost_ret (v := .tuple #[.int .u8 0, .bool false, .agg #[.bool false, .bool false]]) (by simp [results, Tryd.results26, go_sem]) rfl (HP.out _ ?_)
      go_grown
  · go_enter Tryd.func26, Tryd.ntmps26
    go_wp2
    go_region
    all_goals
      go_wp2
      refine bodyPost_ret (v := .tuple #[.int .u8 0, .bool true, .agg #[.bool false, .bool true]]) (by simp [results, Tryd.results26, go_sem]) rfl (HP.out _ ?_)
      go_grown

theorem step_any (c : Int) (o i : Bool) (w : World) : Calls Tryd.prog 26 #[.int .u8 c, .agg #[.bool o, .bool i]] w (StepIs c o i w) := by
  by_cases h34 : c = 34
  · subst h34; exact step_34 o i w
  by_cases h91 : c = 91
  · subst h91; exact step_91 o i w
  by_cases h123 : c = 123
  · subst h123; exact step_123 o i w
  by_cases h93 : c = 93
  · subst h93; exact step_93 o i w
  by_cases h125 : c = 125
  · subst h125; exact step_125 o i w
  by_cases h58 : c = 58
  · subst h58; exact step_58 o i w
  by_cases h44 : c = 44
  · subst h44; exact step_44 o i w
  by_cases h32 : c = 32
  · subst h32; exact step_32 o i w
  by_cases h9 : c = 9
  · subst h9; exact step_9 o i w
  by_cases h10 : c = 10
  · subst h10; exact step_10 o i w
  by_cases h13 : c = 13
  · subst h13; exact step_13 o i w
  by_cases h92 : c = 92
  · subst h92; exact step_92 o i w
  exact step_else c o i w (beq_eq_false_iff_ne.2 h34) (beq_eq_false_iff_ne.2 h91) (beq_eq_false_iff_ne.2 h123) (beq_eq_false_iff_ne.2 h93) (beq_eq_false_iff_ne.2 h125) (beq_eq_false_iff_ne.2 h58) (beq_eq_false_iff_ne.2 h44) (beq_eq_false_iff_ne.2 h32) (beq_eq_false_iff_ne.2 h9) (beq_eq_false_iff_ne.2 h10) (beq_eq_false_iff_ne.2 h13) (beq_eq_false_iff_ne.2 h92)
end Go.Proofs.YtmbiolhecheplaaDoor
