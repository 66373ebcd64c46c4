/- The walk over sha2's Pad, for 256 digits. -/
import Derived.Test.YtgpafdagealnbaaDoorSha8
namespace Go.Proofs.YtgpafdagealnbaaDoor
open Go.RowKit

/-- How many bytes a text's padding has. -/
def padL (n : Nat) : Nat := 9 + (64 - (n + 9) % 64) % 64
/-- Byte j of a padding, of whose last eight i are laid. -/
def pb (n i j : Nat) : UInt8 := if padL n ≤ j + i then UInt8.ofNat (8 * n / 2 ^ (8 * (padL n - 1 - j))) else if j = 0 then 128 else 0
/-- The padding. -/
def padB (n : Nat) : List UInt8 := (List.range (padL n)).map (pb n 8)
theorem padB_length (n : Nat) : (padB n).length = padL n := by simp [padB]
theorem pb_start (n j : Nat) (h : j < padL n) : pb n 0 j = if j = 0 then 128 else 0 := by unfold pb; rw [if_neg (by omega)]
theorem padL_pos (n : Nat) : 9 ≤ padL n := by unfold padL; omega
theorem padL_le (n : Nat) : padL n ≤ 72 := by unfold padL; omega
theorem pb_next (n i j : Nat) (hi : i < 8) : pb n (i + 1) j = if j = padL n - 1 - i then UInt8.ofNat (8 * n / 2 ^ (8 * i)) else pb n i j := by
  unfold pb
  by_cases e : j = padL n - 1 - i
  · have := padL_pos n
    rw [if_pos e, if_pos (by omega), show padL n - 1 - j = i by omega]
  · rw [if_neg e]
    by_cases h2 : padL n ≤ j + i
    · rw [if_pos h2, if_pos (by omega)]
    · rw [if_neg h2, if_neg (by omega)]

theorem pad_byte (n i : Nat) : (8 * (n : Int)) / 2 ^ (8 * i) % 256 = ((UInt8.ofNat (8 * n / 2 ^ (8 * i))).toNat : Int) := by
  rw [UInt8.toNat_ofNat']; simp
/-- A made row as a block. -/
theorem made_blk {w w' : World} {g L : Nat} (h : w'.ownsRow w.heap.size 5 1 (.slice (some ⟨g, 0, none⟩) L L) L (madeCells #[Value.int .u8 0] L).toList) :
    Blk w' g 5 (arr L fun _ => .int .u8 0) := by
  rcases h.2 with ⟨h1, _⟩ | ⟨g', cap, cur, hv, hb, hg, hn, hm, hs, ht⟩
  · cases h1
  · injection hv with hv _ hc
    injection hv with hv
    injection hv with hv
    subst hv; subst hc
    have hcur : cur = (madeCells #[Value.int .u8 0] L) := by
      have h2 : cur.toList.take (L * 1) = cur.toList := List.take_of_length_le (by simp [hs])
      rw [h2] at ht
      exact Array.toList_inj.1 ht
    have harr : (madeCells #[Value.int .u8 0] L) = arr L fun _ => Value.int .u8 0 := by
      unfold madeCells arr
      apply Array.toList_inj.1
      simp only [Array.toList_map, Array.toList_range]
      apply List.map_congr_left
      intro a _
      simp [Nat.mod_one]
    unfold Blk
    rw [hg, hcur, harr]
theorem info_u8' : ∃ i, Tryd.prog.info? 5 = some i ∧ i.zero = some (.int .u8 0) ∧ i.size = 1 ∧ i.bytes = 1 := info_parts info_u8

set_option maxRecDepth 100000 in
set_option maxHeartbeats 1000000 in
theorem pad256 (n : Nat) (hn : n ≤ 1048576) (w : World) :
    Calls Tryd.prog 82 #[.int .i64 n, .int .i64 256] w fun e w' => ∃ v, e = .returned (.tuple #[v, .int .i64 0]) ∧ RB w' w'.heap.size v (padB n) ∧ NB w w' := by
  have hd1 : decide ((n : Int) < 0) = false := by simp
  have hd2 : decide ((1048576 : Int) < n) = false := by simp; omega
  go_enter Tryd.func82, Tryd.ntmps82
  go_wp2_with fail
  refine (of256 _).mono ?_
  rintro e w1 ⟨rfl, hn1⟩
  have hB1 : Blk (w1.alloc (Obj.cells narrowA 120)) w1.heap.size 120 narrowA := Blk.newAt rfl
  have hn2 : NB w (w1.alloc (Obj.cells narrowA 120)) := hn1.alloc _
  have a0 := hB1.cell 0
  have a1 := hB1.cell 1
  have a2 := hB1.cell 2
  have a3 := hB1.cell 3
  have a4 := hB1.cell 4
  have a5 := hB1.cell 5
  have a6 := hB1.cell 6
  have a7 := hB1.cell 7
  have a8 := hB1.cell 8
  have a9 := hB1.cell 9
  have a10 := hB1.cell 10
  have a11 := hB1.cell 11
  have a12 := hB1.cell 12
  have a13 := hB1.cell 13
  have a14 := hB1.cell 14
  go_wp2_with (first | (refine wpList_var_blk rfl rfl 120 6 rfl rfl _ rfl narrowA zero15 rfl rfl zero_shape 15 rfl rfl size_shape narrow_one ?_) | fail)
  refine (block_narrow _).mono ?_
  rintro e w2 ⟨rfl, hn3⟩
  have hB2 : Blk w2 w1.heap.size 120 narrowA := (hn3.block _ hB1.lt).trans hB1
  have hn4 : NB w w2 := hn2.trans hn3
  have b0 := hB2.cell 0
  have b1 := hB2.cell 1
  have b2 := hB2.cell 2
  have b3 := hB2.cell 3
  have b4 := hB2.cell 4
  have b5 := hB2.cell 5
  have b6 := hB2.cell 6
  have b7 := hB2.cell 7
  have b8 := hB2.cell 8
  have b9 := hB2.cell 9
  have b10 := hB2.cell 10
  have b11 := hB2.cell 11
  have b12 := hB2.cell 12
  have b13 := hB2.cell 13
  have b14 := hB2.cell 14
  obtain ⟨iu, hi1, hi2, hi3, hi4⟩ := info_u8'
  go_wp2
  refine wp_region_tail_ext 9 (by kernel_rfl) (by kernel_rfl) ?_
  simp only [List.take_succ_cons, List.take_zero, List.drop_succ_cons, List.drop_zero]
  repeat (go_big_quiet_step ((go_at_call 92; exact Calls.quiet_ext (block_narrow _))))
  refine wpQuiet_nil ?_
  intro x
  go_wp2_with (first | (refine wpList_make_full _ rfl _ _ 22 rfl w2.heap.size 5 iu (.int .u8 0) 1 Tryd.underlying22 hi1 hi2 hi3 .i64 .i64 _ _ (padL n) rfl rfl ?hL ?hC ?b2 ?b3 ?b4 ?_) | fail)
  case hL => unfold padL; omega
  case hC => unfold padL; omega
  case b2 => rw [hi4]; have := padL_le n; omega
  case b3 => have := padL_le n; simp only [maxLen]; omega
  case b4 => exact x.size
  intro w3 hm hg
  have hB3 := made_blk hm
  have hn5 : NB w w3 := (hn4.ext x).grown hg (fun k hk => by cases hk)
  have hgs : w.heap.size ≤ x.val.heap.size := (hn4.ext x).size
  clear hm hg
  generalize x.val.heap.size = q at *
  have hpl := padL_pos n
  have hpu := padL_le n
  generalize hL : padL n = L at *
  have HL := Lib.hid hL
  clear hL
  have e0 : w3.cell? ⟨q, 0, none⟩ = some (.int .u8 0) := hB3.arr_cell (by omega)
  have f0 := hB3.frozen 0
  go_wp2
  go_loopw [11, 12] (fun i k wr => ∃ m : Nat, m ≤ 8 ∧ i = .int .i64 m ∧ k = .int .i64 ((L : Int) - 1 - m) ∧ Blk wr q 5 (arr L fun j => .int .u8 ((pb n m j).toNat : Int)) ∧ NB w wr) (fun i _ _ => 8 - (intOf i).toNat)
  case atStart =>
    refine ⟨0, by omega, rfl, ?_, ?_, hn5.setCell hgs _⟩
    · simp
    · have h := hB3.set_ 0 (.int .u8 128)
      rw [arr_set] at h
      rw [arr_congr (g := fun j => if j = 0 then .int .u8 128 else .int .u8 0) fun j hj => by
        rw [pb_start n j (by rw [HL.out]; exact hj)]; split <;> rfl]
      exact h
  case round =>
    obtain ⟨m, hm, rfl, rfl, hB, hnb⟩ := hrel
    by_cases hlt : m < 8
    · have hj : L - 1 - m < L := by omega
      have d0 := hB.arr_cell hj
      have g0 := hB.frozen (L - 1 - m)
      have hi1 : (0 : Int) ≤ (L : Int) - 1 - m := by omega
      have hi2 : (L : Int) - 1 - m < L := by omega
      have hi3 : ((L : Int) - 1 - m).toNat = L - 1 - m := by omega
      have hb1 := pad_byte n m
      have Hb1 := Lib.hid hb1
      clear hb1
      go_wp2
      go_roundw
      case rel =>
        refine ⟨m + 1, by omega, by go_num, by congr 1; omega, ?_, hnb.setCell hgs _⟩
        rw [Hb1.out]
        have h := hB.set_ (L - 1 - m) (.int .u8 ((UInt8.ofNat (8 * n / 2 ^ (8 * m))).toNat : Int))
        rw [arr_set] at h
        rw [arr_congr (g := fun j => if j = L - 1 - m then .int .u8 ((UInt8.ofNat (8 * n / 2 ^ (8 * m))).toNat : Int) else .int .u8 ((pb n m j).toNat : Int)) fun j _ => by
          rw [pb_next n m j hlt, HL.out]; split <;> rfl]
        exact h
      case measure => simp [intOf]; omega
    · have hm8 : m = 8 := by omega
      subst hm8
      have hv : RB wr wr.heap.size (.slice (some ⟨q, 0, none⟩) L L) (padB n) := by
        refine ⟨some ⟨q, 0, none⟩, L, by rw [padB_length, HL.out], by rw [padB_length, HL.out]; omega, by omega, fun _ => ⟨q, 0, rfl, hB.lt, fun i b hb => ?_⟩⟩
        have hi : i < L := by
          rcases Nat.lt_or_ge i L with h | h
          · exact h
          · rw [List.getElem?_eq_none (by rw [padB_length, HL.out]; exact h)] at hb; cases hb
        rw [Nat.zero_add, hB.arr_cell hi]
        simp only [padB, HL.out, List.getElem?_map, List.getElem?_range hi, Option.map_some, Option.some.injEq] at hb
        rw [hb]
      go_wp2
      go_ret2
      exact ⟨_, rfl, hv, hnb⟩
end Go.Proofs.YtgpafdagealnbaaDoor
