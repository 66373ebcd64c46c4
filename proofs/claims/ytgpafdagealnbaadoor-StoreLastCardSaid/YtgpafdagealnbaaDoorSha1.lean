/- Walks over sha2's small functions: turn, small, big, block, narrow. -/
import Derived.Test.YtgpafdagealnbaaDoorSha
import Derived.Test.YtgpafdagealnbaaDoorRegion
namespace Go.Proofs.YtgpafdagealnbaaDoor
open Go.RowKit

set_option maxHeartbeats 400000 in
theorem turn32 (x : UInt32) (n : Nat) (hn : n ≤ 32) (w : World) :
    Calls Tryd.prog 103 #[u32v x, .int .i64 n, .int .i64 32] w fun e w' => e = .returned (u32v (rotr x n)) ∧ ∃ n, w' = w.drewN n := by
  have hx := lt32 x
  have h0 : (0 : Int) ≤ n := by omega
  have h1 : (n : Int) ≤ 32 := by omega
  go_enter Tryd.func103, Tryd.ntmps103
  go_wp2
  go_quiet (fail)
  go_wp2
  go_ret
  exact ⟨congrArg (fun t => Ending.returned (.int .u32 t)) (rotr_int x n), _, rfl⟩

set_option maxHeartbeats 400000 in
theorem small32 (x : UInt32) (a b c : Nat) (ha : a ≤ 32) (hb : b ≤ 32) (hc : c ≤ 32) (w : World) :
    Calls Tryd.prog 102 #[u32v x, .agg #[.int .i64 a, .int .i64 b, .int .i64 c], .int .i64 32] w fun e w' => e = .returned (u32v (sm x a b c)) ∧ NB w w' := by
  have h0 : (0 : Int) ≤ c := by omega
  have hx := lt32 x
  go_enter Tryd.func102, Tryd.ntmps102
  go_wp2
  go_quiet ((exact Calls.quiet_of (turn32 _ _ (by assumption) _)))
  go_wp2
  go_ret
  exact ⟨ret_int (sm_int x a b c), ((NB.refl _).alloc _).drewN _⟩

set_option maxHeartbeats 400000 in
theorem big32 (x : UInt32) (a b c : Nat) (ha : a ≤ 32) (hb : b ≤ 32) (hc : c ≤ 32) (w : World) :
    Calls Tryd.prog 99 #[u32v x, .agg #[.int .i64 a, .int .i64 b, .int .i64 c], .int .i64 32] w fun e w' => e = .returned (u32v (bg x a b c)) ∧ NB w w' := by
  have h0 : (0 : Int) ≤ c := by omega
  have hx := lt32 x
  go_enter Tryd.func99, Tryd.ntmps99
  go_wp2
  go_quiet ((exact Calls.quiet_of (turn32 _ _ (by assumption) _)))
  go_wp2
  go_ret
  exact ⟨ret_int (bg_int x a b c), ((NB.refl _).alloc _).drewN _⟩

/-- The shapes of the two digests. -/
def narrowA : Array Value := #[.int .i64 4, .int .i64 32, .int .i64 64, .int .i64 7, .int .i64 18, .int .i64 3, .int .i64 17, .int .i64 19, .int .i64 10, .int .i64 2, .int .i64 13, .int .i64 22, .int .i64 6, .int .i64 11, .int .i64 25]
def wideA : Array Value := #[.int .i64 8, .int .i64 64, .int .i64 80, .int .i64 1, .int .i64 8, .int .i64 7, .int .i64 19, .int .i64 61, .int .i64 6, .int .i64 28, .int .i64 34, .int .i64 39, .int .i64 14, .int .i64 18, .int .i64 41]
def zero15 : Array Value := #[.int .i64 0, .int .i64 0, .int .i64 0, .int .i64 0, .int .i64 0, .int .i64 0, .int .i64 0, .int .i64 0, .int .i64 0, .int .i64 0, .int .i64 0, .int .i64 0, .int .i64 0, .int .i64 0, .int .i64 0]
theorem zero_shape (w : World) : (zeroValue 120).run Tryd.prog w = .ok (.agg zero15) w := by kernel_rfl
theorem size_shape : (Tryd.prog.info? 120).map (·.size) = some 15 := by kernel_rfl
theorem narrow_one : ∀ v ∈ narrowA, v.oneCell' = true := by
  intro v hv
  simp [narrowA] at hv
  rcases hv with h | h | h | h | h | h | h | h | h | h | h | h | h | h | h <;> subst h <;> rfl
theorem wide_one : ∀ v ∈ wideA, v.oneCell' = true := by
  intro v hv
  simp [wideA] at hv
  rcases hv with h | h | h | h | h | h | h | h | h | h | h | h | h | h | h <;> subst h <;> rfl
@[go_sem] theorem narrowA_0 : narrowA[0]? = some (.int .i64 4) := rfl
@[go_sem] theorem narrowA_1 : narrowA[1]? = some (.int .i64 32) := rfl
@[go_sem] theorem narrowA_2 : narrowA[2]? = some (.int .i64 64) := rfl
@[go_sem] theorem narrowA_3 : narrowA[3]? = some (.int .i64 7) := rfl
@[go_sem] theorem narrowA_4 : narrowA[4]? = some (.int .i64 18) := rfl
@[go_sem] theorem narrowA_5 : narrowA[5]? = some (.int .i64 3) := rfl
@[go_sem] theorem narrowA_6 : narrowA[6]? = some (.int .i64 17) := rfl
@[go_sem] theorem narrowA_7 : narrowA[7]? = some (.int .i64 19) := rfl
@[go_sem] theorem narrowA_8 : narrowA[8]? = some (.int .i64 10) := rfl
@[go_sem] theorem narrowA_9 : narrowA[9]? = some (.int .i64 2) := rfl
@[go_sem] theorem narrowA_10 : narrowA[10]? = some (.int .i64 13) := rfl
@[go_sem] theorem narrowA_11 : narrowA[11]? = some (.int .i64 22) := rfl
@[go_sem] theorem narrowA_12 : narrowA[12]? = some (.int .i64 6) := rfl
@[go_sem] theorem narrowA_13 : narrowA[13]? = some (.int .i64 11) := rfl
@[go_sem] theorem narrowA_14 : narrowA[14]? = some (.int .i64 25) := rfl
@[go_sem] theorem wideA_1 : wideA[1]? = some (.int .i64 64) := rfl

set_option maxHeartbeats 400000 in
theorem narrow_any (w : World) :
    Calls Tryd.prog 88 #[] w fun e w' => e = .returned (.agg narrowA) ∧ NB w w' := by
  have hz := zero_shape
  go_enter Tryd.func88, Tryd.ntmps88
  go_wp2_with (refine wpList_store_blk rfl 120 _ _ rfl _ narrowA rfl rfl 120 zero15 (Blk.new _ _ _) 15 rfl rfl size_shape narrow_one ?_)
  refine bodyPost_ret (results_cell_row rfl _ _ _ 120 narrowA (0,0) _ rfl (Blk.setRow (Blk.new _ _ _) _) Tryd.underlying120 rfl size_shape) rfl ?_
  exact ⟨rfl, ((NB.refl _).alloc _).setRow (Nat.le_refl _) _⟩

set_option maxHeartbeats 400000 in
theorem wide_any (w : World) :
    Calls Tryd.prog 89 #[] w fun e w' => e = .returned (.agg wideA) ∧ NB w w' := by
  have hz := zero_shape
  go_enter Tryd.func89, Tryd.ntmps89
  go_wp2_with (refine wpList_store_blk rfl 120 _ _ rfl _ wideA rfl rfl 120 zero15 (Blk.new _ _ _) 15 rfl rfl size_shape wide_one ?_)
  refine bodyPost_ret (results_cell_row rfl _ _ _ 120 wideA (0,0) _ rfl (Blk.setRow (Blk.new _ _ _) _) Tryd.underlying120 rfl size_shape) rfl ?_
  exact ⟨rfl, ((NB.refl _).alloc _).setRow (Nat.le_refl _) _⟩

set_option maxHeartbeats 400000 in
theorem block_narrow (w : World) :
    Calls Tryd.prog 92 #[.agg narrowA] w fun e w' => e = .returned (.int .i64 64) ∧ NB w w' := by
  go_enter Tryd.func92, Tryd.ntmps92
  go_wp2
  go_ret
  exact ⟨rfl, (NB.refl _).alloc _⟩

end Go.Proofs.YtgpafdagealnbaaDoor
