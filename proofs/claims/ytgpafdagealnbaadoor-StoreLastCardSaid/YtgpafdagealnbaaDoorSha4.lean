/- Walks over sha2's begin and tell. -/
import Derived.Test.YtgpafdagealnbaaDoorSha3
namespace Go.Proofs.YtgpafdagealnbaaDoor
open Go.RowKit

def zero8x64 : Array Value := arr 8 fun _ => .int .u64 0
theorem zero_a8x64 (w : World) : (zeroValue 125).run Tryd.prog w = .ok (.agg zero8x64) w := by kernel_rfl
theorem size_a8x64 : (Tryd.prog.info? 125).map (·.size) = some 8 := by kernel_rfl
theorem v8_arr (v : R8) : v8 v = arr 8 fun i => u32v (v.at i) := rfl
/-- The eight words at first. -/
def R8.init : R8 := ⟨H32 0, H32 1, H32 2, H32 3, H32 4, H32 5, H32 6, H32 7⟩
def begA64 : Array Value := arr 8 fun i => .int .u64 (Hc i : Int)
theorem H32_int (i : Nat) : (Hc i : Int) / 4294967296 = ((H32 i).toNat : Int) := by rw [H32_toNat]; simp

set_option maxHeartbeats 400000 in
theorem begin32 (w : World) (hT : Tabs w) :
    Calls Tryd.prog 90 #[.agg narrowA] w fun e w' => e = .returned (.agg (v8 R8.init)) ∧ NB w w' := by
  have hz := zero_a8x32
  go_enter Tryd.func90, Tryd.ntmps90
  go_wp2
  go_loopw [5] (fun t wr => ∃ k : Nat, k ≤ 8 ∧ t = .int .i64 k ∧ Blk wr (w.heap.size + 2) 124 (arr 8 fun i => u32v (if i < k then H32 i else 0)) ∧ Blk wr w.heap.size 120 narrowA ∧ Blk wr (w.heap.size + 1) 124 zero8 ∧ NB w wr) (fun t _ => 8 - (intOf t).toNat)
  case atStart =>
    exact ⟨0, by omega, rfl, Blk.newAt (by simp), ((Blk.newAt rfl).alloc _).alloc _, (Blk.newAt (by simp)).alloc _, (((NB.refl _).alloc _).alloc _).alloc _⟩
  case round =>
    obtain ⟨k, hk, rfl, hB, hA, hO, hnb⟩ := hrel
    by_cases hlt : k < 8
    · have a1 := hA.cell 1
      have dk : wr.cell? ⟨0, k, none⟩ = some (.int .u64 (Hc k : Int)) := (hT.nb hnb).h k hlt
      have hH := Hc_lt k
      have e0 := hB.arr_cell (i := k) hlt
      rw [if_neg (by omega)] at e0
      have f0 := hB.frozen k
      go_wp2
      refine wp_region_tail_ext 9 (by kernel_rfl) (by kernel_rfl) ?_
      simp only [List.take_succ_cons, List.take_zero, List.drop_succ_cons, List.drop_zero]
      repeat (go_big_quiet_step (fail))
      refine wpQuiet_nil ?_
      intro x
      go_wp2
      go_roundw
      case rel =>
        refine ⟨k + 1, by omega, by go_num, ?_, (hA.ext x).far (by simp only; omega) _, (hO.ext x).far (by simp only; omega) _, (hnb.ext x).setCell (by simp only; omega) _⟩
        rw [H32_int]
        have h := (hB.ext x).set_ k (u32v (H32 k))
        rw [arr_set] at h
        rw [arr_congr (g := fun i => if i = k then u32v (H32 k) else u32v (if i < k then H32 i else 0)) fun i _ => by
          by_cases e : i = k
          · subst e; simp
          · by_cases e2 : i < k
            · rw [if_pos (by omega), if_neg e, if_pos e2]
            · rw [if_neg (by omega), if_neg e, if_neg e2]]
        exact h
      case measure => simp [intOf]; omega
    · have hk8 : k = 8 := by omega
      subst hk8
      go_wp2_with (first | (refine wpList_load_blk rfl 124 _ rfl (w.heap.size + 2) rfl 124 _ _ hB Tryd.underlying124 rfl 8 rfl size_a8x32 ?_) | (refine wpList_store_blk rfl 124 _ _ rfl (w.heap.size + 1) _ rfl rfl 124 _ hO 8 rfl rfl size_a8x32 (arr_one fun _ => rfl) ?_))
      refine bodyPost_ret (results_blk rfl _ _ (w.heap.size + 1) 124 _ _ rfl (Blk.setRow hO _) Tryd.underlying124 rfl 8 rfl size_a8x32) rfl ?_
      exact ⟨rfl, hnb.setRow (by omega) _⟩

set_option maxHeartbeats 400000 in
theorem begin64 (w : World) (hT : Tabs w) :
    Calls Tryd.prog 91 #[.agg wideA] w fun e w' => e = .returned (.agg begA64) ∧ NB w w' := by
  have hz := zero_a8x64
  go_enter Tryd.func91, Tryd.ntmps91
  go_wp2
  go_loopw [5] (fun t wr => ∃ k : Nat, k ≤ 8 ∧ t = .int .i64 k ∧ Blk wr (w.heap.size + 2) 125 (arr 8 fun i => .int .u64 (if i < k then (Hc i : Int) else 0)) ∧ Blk wr w.heap.size 120 wideA ∧ Blk wr (w.heap.size + 1) 125 zero8x64 ∧ NB w wr) (fun t _ => 8 - (intOf t).toNat)
  case atStart =>
    exact ⟨0, by omega, rfl, Blk.newAt (by simp), ((Blk.newAt rfl).alloc _).alloc _, (Blk.newAt (by simp)).alloc _, (((NB.refl _).alloc _).alloc _).alloc _⟩
  case round =>
    obtain ⟨k, hk, rfl, hB, hA, hO, hnb⟩ := hrel
    by_cases hlt : k < 8
    · have a1 := hA.cell 1
      have dk : wr.cell? ⟨0, k, none⟩ = some (.int .u64 (Hc k : Int)) := (hT.nb hnb).h k hlt
      have hH := Hc_lt k
      have e0 := hB.arr_cell (i := k) hlt
      rw [if_neg (by omega)] at e0
      have f0 := hB.frozen k
      go_wp2
      refine wp_region_tail_ext 9 (by kernel_rfl) (by kernel_rfl) ?_
      simp only [List.take_succ_cons, List.take_zero, List.drop_succ_cons, List.drop_zero]
      repeat (go_big_quiet_step (fail))
      refine wpQuiet_nil ?_
      intro x
      go_wp2
      go_roundw
      case rel =>
        refine ⟨k + 1, by omega, by go_num, ?_, (hA.ext x).far (by simp only; omega) _, (hO.ext x).far (by simp only; omega) _, (hnb.ext x).setCell (by simp only; omega) _⟩
        have h := (hB.ext x).set_ k (.int .u64 (Hc k : Int))
        rw [arr_set] at h
        rw [arr_congr (g := fun i => if i = k then .int .u64 (Hc k : Int) else .int .u64 (if i < k then (Hc i : Int) else 0)) fun i _ => by
          by_cases e : i = k
          · subst e; simp
          · by_cases e2 : i < k
            · rw [if_pos (by omega), if_neg e, if_pos e2]
            · rw [if_neg (by omega), if_neg e, if_neg e2]]
        exact h
      case measure => simp [intOf]; omega
    · have hk8 : k = 8 := by omega
      subst hk8
      go_wp2_with (first | (refine wpList_load_blk rfl 125 _ rfl (w.heap.size + 2) rfl 125 _ _ hB Tryd.underlying125 rfl 8 rfl size_a8x64 ?_) | (refine wpList_store_blk rfl 125 _ _ rfl (w.heap.size + 1) _ rfl rfl 125 _ hO 8 rfl rfl size_a8x64 (arr_one fun _ => rfl) ?_))
      refine bodyPost_ret (results_blk rfl _ _ (w.heap.size + 1) 125 _ _ rfl (Blk.setRow hO _) Tryd.underlying125 rfl 8 rfl size_a8x64) rfl ?_
      exact ⟨rfl, hnb.setRow (by omega) _⟩
end Go.Proofs.YtgpafdagealnbaaDoor
