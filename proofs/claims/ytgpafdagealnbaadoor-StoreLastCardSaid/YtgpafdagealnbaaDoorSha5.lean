/- The walk over sha2's tell. -/
import Derived.Test.YtgpafdagealnbaaDoorSha4
import Derived.Test.YtgpafdagealnbaaDoorApp
import Derived.Lib.Hide
namespace Go.Proofs.YtgpafdagealnbaaDoor
open Go.RowKit

theorem make32 (w : World) : (Instr.makeSlice 22 (.int .i64 0) (.int .i64 32)).run Tryd.prog w = .ok (.slice (some ⟨w.heap.size, 0, none⟩) 0 32) (w.alloc (.cells (arr 32 fun _ => .int .u8 0) 5)) := by kernel_rfl
theorem beB_int (x : UInt32) (i : Nat) (h : i < 4) : (x.toNat : Int) / 2 ^ (8 * i) % 256 = ((beB x (3 - i)).toNat : Int) := by
  rw [beB_toNat, show 3 - (3 - i) = i by omega]; simp

set_option maxHeartbeats 1000000 in
theorem tell32 (h : R8) (w : World) :
    Calls Tryd.prog 83 #[.agg narrowA, .agg (v8 h)] w fun e w' => ∃ v, e = .returned v ∧ RB w' w'.heap.size v (tellk h 8) ∧ NB w w' := by
  have hmk := make32
  go_enter Tryd.func83, Tryd.ntmps83
  go_wp2_with (refine wpList_load_blk rfl 124 _ rfl (w.heap.size + 1) rfl 124 (v8 h) _ ((Blk.newAt (by simp)).alloc _) Tryd.underlying124 rfl 8 rfl size_a8x32 ?_)
  go_loopw [5, 14] (fun v t wr => ∃ k : Nat, k ≤ 8 ∧ t = .int .i64 k ∧ OB wr w.heap.size v (tellk h k) ∧ Blk wr w.heap.size 120 narrowA ∧ NB w wr) (fun _ t _ => 8 - (intOf t).toNat)
  case atStart =>
    refine ⟨0, by omega, rfl, ?_, ((Blk.newAt rfl).alloc _).alloc _, (((NB.refl _).alloc _).alloc _).alloc _⟩
    have hm := World.ownsRow_made (e := 5) (size := 1) (base := w.heap.size) ((w.alloc (Obj.cells narrowA 120)).alloc (Obj.cells (v8 h) 124)) (arr 32 fun _ => .int .u8 0) 32 (by simp; omega) (by decide) (by rw [arr_size])
    rw [show ((w.alloc (Obj.cells narrowA 120)).alloc (Obj.cells (v8 h) 124)).heap.size = w.heap.size + 1 + 1 by simp] at hm
    exact hm
  case round =>
    obtain ⟨k, hk, rfl, hown, hA, hnb⟩ := hrel
    by_cases hlt : k < 8
    · have hidx : ∀ W : World, (Instr.index 124 (.agg (v8 h)) (.int .i64 k)).run Tryd.prog W = .ok (u32v (h.at k)) W := by
        intro W
        simp [Instr.index, go_sem, v8_at _ _ hlt]
        intro hc
        omega
      have a0 := hA.cell 0
      have hd : decide ((k : Int) < 8) = true := by simp; omega
      obtain ⟨wo, hwo⟩ : ∃ wo : World, wo = wr := ⟨_, rfl⟩
      subst hwo
      go_wp2
      go_loopw [5, 8] (fun v t wx => ∃ j : Nat, j ≤ 4 ∧ t = .int .i64 ((j : Int) - 1) ∧ OB wx w.heap.size v (tellk h k ++ wb (h.at k) (4 - j)) ∧ Blk wx w.heap.size 120 narrowA ∧ NB w wx) (fun _ t _ => (intOf t + 1).toNat)
      case atStart =>
        refine ⟨4, by omega, rfl, ?_, hA, hnb⟩
        simpa [wb] using hown
      case round =>
        obtain ⟨j, hj, ht, hown, hA, hnb⟩ := hrel
        rcases j with _ | i
        · have ht' : u8 = .int .i64 (-1) := ht
          subst ht'
          go_wp2
          go_roundw
          case rel =>
            refine ⟨k + 1, by omega, by go_num, ?_, hA, hnb⟩
            exact hown
          case measure => simp [intOf]; omega
        · rw [show ((i + 1 : Nat) : Int) - 1 = (i : Int) by omega] at ht
          subst ht
          have hx := lt32 (h.at k)
          have hb := beB_int (h.at k) i (by omega)
          have Hb := Lib.hid hb
          clear hb
          have hl : (tellk h k ++ wb (h.at k) (4 - (i + 1))).length ≤ 32 := by rw [List.length_append, tellk_length, wb_length]; omega
          go_wp2_with (first | (at_builtin; refine append_bytes rfl _ _ rfl w.heap.size _ _ rfl (hown.alloc _) (wr.heap.size + 1) _ [beB (h.at k) (3 - i)] rfl (rb_int _ Hb.out rfl) ?c1 ?c2 ?_) | fail)
          case c1 => simp only [List.length_cons, List.length_nil]; omega
          case c2 => simp; exact Nat.le_of_lt (Nat.lt_succ_of_le hnb.size)
          intro v' w1 ho hg _
          go_wp2
          go_roundw
          case rel =>
            have hnb' := hnb.alloc (Obj.cells #[Value.int IntKind.u8 (((h.at k).toNat : Int) / 2 ^ (8 * i) % 256)] 5)
            refine ⟨i, by omega, by go_num, ?_, (hA.alloc _).grown hg (own_ne hown.out hA (by decide)), ?_⟩
            · rw [show 4 - i = (3 - i) + 1 by omega, wb_succ]
              exact ho
            · exact hnb'.grown hg fun q hq => (hown.out.lt q hq).1
          case measure => simp [intOf]
    · have hk8 : k = 8 := by omega
      subst hk8
      go_wp2
      go_ret
      exact ⟨_, rfl, hown.rb, hnb⟩
end Go.Proofs.YtgpafdagealnbaaDoor
