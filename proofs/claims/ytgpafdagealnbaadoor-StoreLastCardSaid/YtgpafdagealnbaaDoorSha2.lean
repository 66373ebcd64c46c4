/- Walks over sha2's words and mix. -/
import Derived.Test.YtgpafdagealnbaaDoorSha1
namespace Go.Proofs.YtgpafdagealnbaaDoor
open Go.RowKit

def zero80 : Array Value := arr 80 fun _ => u32v 0
theorem zero_a80 (w : World) : (zeroValue 140).run Tryd.prog w = .ok (.agg zero80) w := by kernel_rfl
theorem size_a80 : (Tryd.prog.info? 140).map (·.size) = some 80 := by kernel_rfl
theorem arr_one {n : Nat} {f : Nat → Value} (h : ∀ i, (f i).oneCell' = true) : ∀ v ∈ arr n f, v.oneCell' = true := by
  intro v hv
  simp only [arr, List.mem_toArray, List.mem_map] at hv
  obtain ⟨i, _, rfl⟩ := hv
  exact h i
set_option maxHeartbeats 1000000 in
theorem words32 (b : List UInt8) (hb : b.length = 64) (g o c : Nat) (hc : 64 ≤ c) (w : World)
    (hcell : ∀ i x, b[i]? = some x → w.cell? ⟨g, o + i, none⟩ = some (.int .u8 (x.toNat : Int))) :
    Calls Tryd.prog 98 #[.agg narrowA, .slice (some ⟨g, o, none⟩) 64 c] w fun e w' => e = .returned (.agg (arr 80 fun i => u32v (if i < 64 then wd b i else 0))) ∧ NB w w' := by
  have hz := zero_a80
  have hg : g < w.heap.size := by
    obtain ⟨x, hx⟩ : ∃ x, b[0]? = some x := ⟨b[0], by simp [hb]⟩
    exact World.block_lt_of_cell? w _ (hcell 0 x hx)
  go_enter Tryd.func98, Tryd.ntmps98
  go_wp2
  go_loopw [10] (fun t wr => ∃ k : Nat, k ≤ 16 ∧ t = .int .i64 k ∧ Blk wr (w.heap.size + 2) 140 (arr 80 fun i => u32v (wpart b k 0 i)) ∧ Blk wr w.heap.size 120 narrowA ∧ Blk wr (w.heap.size + 1) 140 zero80 ∧ NB w wr) (fun t _ => 16 - (intOf t).toNat)
  case atStart =>
    refine ⟨0, by omega, rfl, ?_, ?_, ?_, ?_⟩
    · rw [arr_congr (g := fun _ => u32v 0) fun i _ => by rw [wpart_start]]
      exact Blk.newAt (by simp)
    · exact ((Blk.newAt rfl).alloc _).alloc _
    · exact (Blk.newAt (by simp)).alloc _
    · exact (((NB.refl _).alloc _).alloc _).alloc _
  case round =>
    obtain ⟨k, hk, rfl, hB5, hB2, hB4, hnb⟩ := hrel
    have c0 := hB2.cell 0
    by_cases hlt : k < 16
    · have hk4 : (k + 1) * 4 - k * 4 = 4 := by omega
      obtain ⟨wo, hwo⟩ : ∃ wo : World, wo = wr := ⟨_, rfl⟩
      subst hwo
      go_wp2
      go_loopw [25] (fun t wx => ∃ j : Nat, j ≤ 4 ∧ t = .int .i64 j ∧ Blk wx (w.heap.size + 2) 140 (arr 80 fun i => u32v (wpart b k j i)) ∧ Blk wx w.heap.size 120 narrowA ∧ Blk wx (w.heap.size + 1) 140 zero80 ∧ NB w wx) (fun t _ => 4 - (intOf t).toNat)
      case atStart => exact ⟨0, by omega, rfl, hB5, hB2, hB4, hnb⟩
      case round =>
        obtain ⟨j, hj, rfl, hB5, hB2, hB4, hnb⟩ := hrel
        by_cases hjt : j < 4
        · obtain ⟨x, hx⟩ : ∃ x, b[4 * k + j]? = some x := ⟨b[4 * k + j], by simp⟩
          have hbyte : wr.cell? ⟨g, o + k * 4 + j, none⟩ = some (.int .u8 (x.toNat : Int)) := by
            rw [show o + k * 4 + j = o + (4 * k + j) by omega]
            exact (hnb.cell (p := ⟨g, o + (4 * k + j), none⟩) hg).trans (hcell _ _ hx)
          have hw5 := hB5.arr_cell (i := k) (by omega)
          have hf5 := hB5.frozen k
          have hxr := x.toNat_lt
          have hur := lt32 (wpart b k j k)
          go_wp2
          go_roundw
          case rel =>
            refine ⟨j + 1, by omega, by go_num, ?_, ?_, ?_, ?_⟩
            · rw [push8_int, arr_congr fun i _ => by rw [wpart_push b k j x hx i]]
              have h := hB5.set_ k (u32v (push8 (wpart b k j k) x))
              rw [arr_set] at h
              rw [arr_congr (g := fun i => if i = k then u32v (push8 (wpart b k j k) x) else u32v (wpart b k j i)) fun i _ => by split <;> rfl]
              exact h
            · exact hB2.far (by simp only; omega) _
            · exact hB4.far (by simp only; omega) _
            · exact hnb.setCell (by simp only; omega) _
          case measure => simp [intOf]; omega
        · have hj4 : j = 4 := by omega
          subst hj4
          go_wp2
          go_roundw
          case rel =>
            refine ⟨k + 1, by omega, by go_num, ?_, hB2, hB4, hnb⟩
            rw [arr_congr fun i _ => by rw [← wpart_next b k hlt i]]
            exact hB5
          case measure => simp [intOf]; omega
    · have hk16 : k = 16 := by omega
      subst hk16
      obtain ⟨wo, hwo⟩ : ∃ wo : World, wo = wr := ⟨_, rfl⟩
      subst hwo
      go_wp2
      go_loopw [9] (fun t wx => ∃ k : Nat, 16 ≤ k ∧ k ≤ 64 ∧ t = .int .i64 k ∧ Blk wx (w.heap.size + 2) 140 (arr 80 fun i => u32v (if i < k then wd b i else 0)) ∧ Blk wx w.heap.size 120 narrowA ∧ Blk wx (w.heap.size + 1) 140 zero80 ∧ NB w wx) (fun t _ => 64 - (intOf t).toNat)
      case atStart =>
        refine ⟨16, by omega, by omega, rfl, ?_, hB2, hB4, hnb⟩
        rw [arr_congr (g := fun i => u32v (wpart b 16 0 i)) fun i _ => by unfold wpart; split <;> (try rfl); split <;> rfl]
        exact hB5
      case round =>
        obtain ⟨k, hk, hk', rfl, hB5, hB2, hB4, hnb⟩ := hrel
        have c1 := hB2.cell 1
        have c2 := hB2.cell 2
        by_cases hlt : k < 64
        · have c3 := hB2.cell 3
          have c4 := hB2.cell 4
          have c5 := hB2.cell 5
          have c6 := hB2.cell 6
          have c7 := hB2.cell 7
          have c8 := hB2.cell 8
          have d (m : Nat) (hm : m < k) : wr.cell? ⟨w.heap.size + 2, m, none⟩ = some (u32v (wd b m)) := by
            rw [hB5.arr_cell (by omega), if_pos hm]
          have d16 := d (k - 16) (by omega)
          have d15 := d (k - 15) (by omega)
          have d7 := d (k - 7) (by omega)
          have d2 := d (k - 2) (by omega)
          clear d
          have e16 : wr.cell? ⟨w.heap.size + 2, k, none⟩ = some (u32v 0) := by
            rw [hB5.arr_cell (by omega), if_neg (by omega)]
          have f16 := hB5.frozen k
          go_wp2
          refine wp_region_tail_ext 30 (by kernel_rfl) (by kernel_rfl) ?_
          simp only [List.take_succ_cons, List.take_zero, List.drop_succ_cons, List.drop_zero]
          repeat (go_big_quiet_step ((exact Calls.quiet_ext (small32 _ _ _ _ (by decide) (by decide) (by decide) _))))
          refine wpQuiet_nil ?_
          intro x
          go_wp2
          go_roundw
          case rel =>
            refine ⟨k + 1, by omega, by omega, by go_num, ?_, ?_, ?_, ?_⟩
            · rw [add32_4, ← wd_hi b k hk]
              have h := (hB5.ext x).set_ k (u32v (wd b k))
              rw [arr_set] at h
              rw [arr_congr (g := fun i => if i = k then u32v (wd b k) else u32v (if i < k then wd b i else 0)) fun i _ => by
                by_cases e : i = k
                · subst e; simp
                · by_cases e2 : i < k
                  · rw [if_pos (by omega), if_neg e, if_pos e2]
                  · rw [if_neg (by omega), if_neg e, if_neg e2]]
              exact h
            · exact (hB2.ext x).far (by simp only; omega) _
            · exact (hB4.ext x).far (by simp only; omega) _
            · exact (hnb.ext x).setCell (by simp only; omega) _
          case measure => simp [intOf]; omega
        · have hk64 : k = 64 := by omega
          subst hk64
          go_wp2_with (first | (refine wpList_load_blk rfl 140 _ rfl (w.heap.size + 2) rfl 140 _ _ hB5 Tryd.underlying140 rfl 80 (arr_size _ _) size_a80 ?_) | (refine wpList_store_blk rfl 140 _ _ rfl (w.heap.size + 1) (arr 80 fun i => u32v (if i < 64 then wd b i else 0)) rfl rfl 140 _ hB4 80 (arr_size _ _) (arr_size _ _) size_a80 (arr_one fun _ => rfl) ?_))
          refine bodyPost_ret (results_blk rfl _ _ (w.heap.size + 1) 140 _ _ rfl (Blk.setRow hB4 _) Tryd.underlying140 rfl 80 (arr_size _ _) size_a80) rfl ?_
          exact ⟨rfl, hnb.setRow (by omega) _⟩
end Go.Proofs.YtgpafdagealnbaaDoor
