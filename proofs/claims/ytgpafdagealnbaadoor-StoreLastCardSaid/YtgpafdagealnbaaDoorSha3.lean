/- The walk over sha2's mix. -/
import Derived.Test.YtgpafdagealnbaaDoorSha2
import Derived.Lib.Hide
namespace Go.Proofs.YtgpafdagealnbaaDoor
open Go.RowKit

def zero8 : Array Value := v8 ⟨0, 0, 0, 0, 0, 0, 0, 0⟩
theorem zero_a8x32 (w : World) : (zeroValue 124).run Tryd.prog w = .ok (.agg zero8) w := by kernel_rfl
theorem size_a8x32 : (Tryd.prog.info? 124).map (·.size) = some 8 := by kernel_rfl

set_option maxRecDepth 100000 in
set_option maxHeartbeats 1000000 in
theorem mix32 (hs : R8) (b : List UInt8) (hb : b.length = 64) (g o c : Nat) (hc : 64 ≤ c) (w : World) (hT : Tabs w)
    (hcell : ∀ i x, b[i]? = some x → w.cell? ⟨g, o + i, none⟩ = some (.int .u8 (x.toNat : Int))) :
    Calls Tryd.prog 93 #[.agg narrowA, .agg (v8 hs), .slice (some ⟨g, o, none⟩) 64 c] w fun e w' => e = .returned (.agg (v8 (comp hs b))) ∧ NB w w' := by
  have hz := zero_a80
  have hz8 := zero_a8x32
  have hg : g < w.heap.size := by
    obtain ⟨x, hx⟩ : ∃ x, b[0]? = some x := ⟨b[0], by simp⟩
    exact World.block_lt_of_cell? w _ (hcell 0 x hx)
  go_enter Tryd.func93, Tryd.ntmps93
  go_wp2_with (refine wpList_load_blk rfl 120 _ rfl w.heap.size rfl 120 narrowA _ (((Blk.newAt rfl).alloc _).alloc _) Tryd.underlying120 rfl 15 rfl size_shape ?_)
  refine (words32 b hb g o c hc _ (fun i x hx => (NB.cell_ ((((NB.refl w).alloc _).alloc _).alloc _) hg).trans (hcell i x hx))).mono ?_
  rintro e w1 ⟨rfl, hn1⟩
  obtain ⟨x, rfl⟩ := hn1.ex
  have hA : Blk x.val w.heap.size 120 narrowA := ((((Blk.newAt rfl).alloc _).alloc _)).ext x
  have hH : Blk x.val (w.heap.size + 1) 124 (v8 hs) := ((Blk.newAt (by simp)).alloc _).ext x
  have hO : Blk x.val (w.heap.size + 2) 124 zero8 := (Blk.newAt (by simp)).ext x
  have hnx : NB w x.val := ((((NB.refl w).alloc _).alloc _).alloc _).ext x
  have hsz : w.heap.size + 3 ≤ x.val.heap.size := by have := x.size; simpa using this
  clear hn1
  generalize x.val = w1 at *
  clear x
  have c2 := hA.cell 2
  go_wp2_with (first | (refine wpList_var_blk rfl rfl 140 7 rfl rfl _ rfl (arr 80 fun i => u32v (if i < 64 then wd b i else 0)) zero80 rfl rfl zero_a80 80 (arr_size _ _) (arr_size _ _) size_a80 (arr_one fun _ => rfl) ?_) | (refine wpList_load_blk rfl 124 _ rfl (w.heap.size + 1) rfl 124 (v8 hs) _ (hH.alloc _) Tryd.underlying124 rfl 8 rfl size_a8x32 ?_) | (refine wpList_var_blk rfl rfl 124 8 rfl rfl _ rfl (v8 hs) zero8 rfl rfl zero_a8x32 8 rfl rfl size_a8x32 (v8_one hs) ?_) | fail)
  go_loopw [21] (fun t wr => ∃ k : Nat, k ≤ 64 ∧ t = .int .i64 k ∧ Blk wr (w1.heap.size + 1) 124 (v8 (rounds b k hs)) ∧ Blk wr w1.heap.size 140 (arr 80 fun i => u32v (if i < 64 then wd b i else 0)) ∧ Blk wr w.heap.size 120 narrowA ∧ Blk wr (w.heap.size + 1) 124 (v8 hs) ∧ Blk wr (w.heap.size + 2) 124 zero8 ∧ NB w wr) (fun t _ => 64 - (intOf t).toNat)
  case atStart =>
    exact ⟨0, by omega, rfl, Blk.newAt (by simp), (Blk.newAt rfl).alloc _, (hA.alloc _).alloc _, (hH.alloc _).alloc _, (hO.alloc _).alloc _, (hnx.alloc _).alloc _⟩
  case round =>
    obtain ⟨k, hk, rfl, hV, hW, hA, hH, hO, hnb⟩ := hrel
    generalize hr : rounds b k hs = r at *
    have Hr := Lib.hid hr
    clear hr
    by_cases hlt : k < 64
    · have a1 := hA.cell 1
      have a9 := hA.cell 9
      have a10 := hA.cell 10
      have a11 := hA.cell 11
      have a12 := hA.cell 12
      have a13 := hA.cell 13
      have a14 := hA.cell 14
      have d0 := hV.cell 0
      have d1 := hV.cell 1
      have d2 := hV.cell 2
      have d3 := hV.cell 3
      have d4 := hV.cell 4
      have d5 := hV.cell 5
      have d6 := hV.cell 6
      have d7 := hV.cell 7
      have dk : wr.cell? ⟨1, k, none⟩ = some (.int .u64 (Kc k : Int)) := (hT.nb hnb).k k (by omega)
      have dw : wr.cell? ⟨w1.heap.size, k, none⟩ = some (u32v (wd b k)) := by rw [hW.arr_cell (by omega), if_pos hlt]
      have hKc := Kc_lt k
      go_wp2
      refine wp_region_quiet_ext (by kernel_rfl) (by kernel_rfl) ?_
      repeat (go_big_quiet_step (fail))
      refine wpQuiet_nil ?_
      intro x1
      go_wp2
      refine wp_region_quiet_ext (by kernel_rfl) (by kernel_rfl) ?_
      repeat (go_big_quiet_step ((exact Calls.quiet_ext (big32 _ _ _ _ (by decide) (by decide) (by decide) _))))
      refine wpQuiet_nil ?_
      intro x2
      obtain ⟨y2, hy2⟩ := x1.join x2
      rw [hy2, T1_int]
      clear hy2
      have ht1 := lt32 (T1 r (K32 k) (wd b k))
      go_wp2
      refine wp_region_quiet_ext (by kernel_rfl) (by kernel_rfl) ?_
      repeat (go_big_quiet_step ((exact Calls.quiet_ext (big32 _ _ _ _ (by decide) (by decide) (by decide) _))))
      refine wpQuiet_nil ?_
      intro x3
      obtain ⟨y3, hy3⟩ := y2.join x3
      rw [hy3, T2_int]
      clear hy3
      have ht2 := lt32 (T2 r)
      have hV3 := hV.ext y3
      go_wp2_with (first | (refine wpList_store_blk rfl 124 _ _ rfl (w1.heap.size + 1) (v8 (rnd r (K32 k) (wd b k))) rfl ?hy 124 _ hV3 8 rfl rfl size_a8x32 (v8_one _) ?_) | fail)
      case hy => exact rnd_arr _ _ _
      go_roundw
      case rel =>
        refine ⟨k + 1, by omega, by go_num, ?_, (hW.ext y3).setRow_far (by omega) _, (hA.ext y3).setRow_far (by omega) _, (hH.ext y3).setRow_far (by omega) _, (hO.ext y3).setRow_far (by omega) _, (hnb.ext y3).setRow (by omega) _⟩
        have e : rounds b (k + 1) hs = rnd r (K32 k) (wd b k) := by rw [← Hr.out]; rfl
        rw [e]
        exact hV3.setRow _
      case measure => simp [intOf]; omega
    · have hk64 : k = 64 := by omega
      subst hk64
      have a2 := hA.cell 2
      obtain ⟨wo, hwo⟩ : ∃ wo : World, wo = wr := ⟨_, rfl⟩
      subst hwo
      go_wp2
      go_loopw [102] (fun t wx => ∃ k : Nat, k ≤ 8 ∧ t = .int .i64 k ∧ Blk wx (w1.heap.size + 1) 124 (v8 r) ∧ Blk wx (w.heap.size + 1) 124 (v8 (addk hs r k)) ∧ Blk wx (w.heap.size + 2) 124 zero8 ∧ NB w wx) (fun t _ => 8 - (intOf t).toNat)
      case atStart => exact ⟨0, by omega, rfl, hV, hH, hO, hnb⟩
      case round =>
        obtain ⟨k, hk, rfl, hV, hH, hO, hnb⟩ := hrel
        by_cases hlt : k < 8
        · have d0 := hV.cell k
          have d1 := hH.cell k
          rw [v8_at _ _ hlt] at d0 d1
          rw [addk_at _ _ _ hlt] at d1
          have f1 := hH.frozen k
          have r0 := lt32 (hs.at k)
          have r1 := lt32 (r.at k)
          go_wp2
          refine wp_region_tail_ext 7 (by kernel_rfl) (by kernel_rfl) ?_
          simp only [List.take_succ_cons, List.take_zero, List.drop_succ_cons, List.drop_zero]
          repeat (go_big_quiet_step (fail))
          refine wpQuiet_nil ?_
          intro x
          go_wp2
          go_roundw
          case rel =>
            refine ⟨k + 1, by omega, by go_num, (hV.ext x).far (by simp only; omega) _, ?_, (hO.ext x).far (by simp only; omega) _, (hnb.ext x).setCell (by simp only; omega) _⟩
            rw [add32, ← addk_set hs r k hlt]
            exact (hH.ext x).set_ k _
          case measure => simp [intOf]; omega
        · have hk8 : k = 8 := by omega
          subst hk8
          go_wp2_with (first | (refine wpList_load_blk rfl 124 _ rfl (w.heap.size + 1) rfl 124 _ _ hH Tryd.underlying124 rfl 8 rfl size_a8x32 ?_) | (refine wpList_store_blk rfl 124 _ _ rfl (w.heap.size + 2) (v8 (addk hs r 8)) rfl rfl 124 _ hO 8 rfl rfl size_a8x32 (v8_one _) ?_))
          refine bodyPost_ret (results_blk rfl _ _ (w.heap.size + 2) 124 _ _ rfl (Blk.setRow hO _) Tryd.underlying124 rfl 8 rfl size_a8x32) rfl ?_
          refine ⟨?_, hnb.setRow (by omega) _⟩
          rw [addk_all, ← Hr.out]
          rfl
end Go.Proofs.YtgpafdagealnbaaDoor
