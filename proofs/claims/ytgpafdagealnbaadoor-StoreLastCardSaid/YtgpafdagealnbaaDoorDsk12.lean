/- The disk: New. -/
import Derived.Test.YtgpafdagealnbaaDoorDsk11
namespace Go.Proofs.YtgpafdagealnbaaDoor
open Go.RowKit

theorem info_sector : (Tryd.prog.info? 59).map (fun i => (i.zero, i.size, i.bytes)) = some (some (.agg (bya 64 fun _ => 0)), 64, 64) := by kernel_rfl
theorem bya_cell_of {N : Nat} {f : Nat → UInt8} {i : Nat} (h : i < N) : (bya N f)[i]? = some (.int .u8 ((f i).toNat : Int)) := arr_get _ h
theorem made_sectors (n : Nat) : madeCells (Value.agg (bya 64 fun _ => 0)).cells (n * 64) = bya (64 * n) fun _ => 0 := by
  apply Array.toList_inj.1
  unfold madeCells
  rw [bya_list, Nat.mul_comm n 64]
  simp only [Array.toList_map, Array.toList_range, bv, List.map_map]
  refine List.map_congr_left fun a _ => ?_
  have hs : (Value.agg (bya 64 fun _ => 0)).cells = bya 64 fun _ => 0 := rfl
  rw [hs, bya_size, getElem!_def, bya_cell_of (Nat.mod_lt _ (by decide))]
  rfl
/-- A byte, or 0. -/
def byteAt (b : List UInt8) (q : Nat) : UInt8 := b.getD q 0
theorem byteAt_out (b : List UInt8) (q : Nat) (h : b.length ≤ q) : byteAt b q = 0 := by
  unfold byteAt
  rw [List.getD_eq_getElem?_getD, List.getElem?_eq_none h]
  rfl
def Dsk.new (b : List UInt8) (n : Nat) : Dsk := ⟨n, fun i => byteAt b i, [], false, 0, 0, false, []⟩
theorem new_step (b : List UInt8) (j q : Nat) : ov (fun q => if q < 64 * j then byteAt b q else 0) (j * 64) ((b.drop (j * 64)).take 64) q = if q < 64 * (j + 1) then byteAt b q else 0 := by
  unfold ov
  simp only [List.length_take, List.length_drop]
  by_cases h1 : j * 64 ≤ q ∧ q < j * 64 + min 64 (b.length - j * 64)
  · unfold byteAt
    rw [if_pos h1, if_pos (by omega), List.getD_eq_getElem?_getD, List.getD_eq_getElem?_getD, List.getElem?_take, if_pos (by omega), List.getElem?_drop, show j * 64 + (q - j * 64) = q by omega]
  · rw [if_neg h1]
    by_cases h2 : q < 64 * j
    · rw [if_pos h2, if_pos (by omega)]
    · rw [if_neg h2]
      split
      · rw [byteAt_out _ _ (by omega)]
      · rfl
def newE (b : List UInt8) (n : Int) : Int := if n < 1 ∨ 16384 < n ∨ 64 * n < b.length then 1 else 0
theorem info_sector' : ∃ i, Tryd.prog.info? 59 = some i ∧ i.zero = some (.agg (bya 64 fun _ => 0)) ∧ i.size = 64 ∧ i.bytes = 64 := info_parts info_sector

set_option maxRecDepth 100000 in
set_option maxHeartbeats 1000000 in
theorem dnew_any (v : Value) (b : List UInt8) (n : Int) (hn : n ≤ 100000) (hb : b.length ≤ 1000000000) (w : World) (hv : RB w w.heap.size v b) :
    Calls Tryd.prog 9 #[v, .int .i64 n] w fun e w' => NB w w' ∧ if newE b n = 0 then ∃ d F, e = .returned (.tuple #[dptr d, .int .i64 0]) ∧ DRep F w' d (Dsk.new b n.toNat) ∧ (∀ k, F k → w.heap.size ≤ k) else e = .returned (.tuple #[.pointer none, .int .i64 1]) := by
  obtain ⟨A, c, rfl, q1, q2, q3⟩ := id hv
  obtain ⟨iu, hi1, hi2, hi3, hi4⟩ := info_sector'
  go_enter Tryd.func9, Tryd.ntmps9
  by_cases h1 : n < 1
  · have d1 : decide (n < 1) = true := decide_eq_true h1
    have he : newE b n = 1 := by unfold newE; rw [if_pos (.inl h1)]
    rw [he]
    go_wp2
    refine bodyPost_ret (results_tmp2 rfl _ _ _) rfl ?_
    exact ⟨NB.refl _, rfl⟩
  · have d1 : decide (n < 1) = false := decide_eq_false h1
    by_cases h2 : n > 16384
    · have d2 : decide (n > 16384) = true := decide_eq_true h2
      have he : newE b n = 1 := by unfold newE; rw [if_pos (.inr (.inl h2))]
      rw [he]
      go_wp2
      refine bodyPost_ret (results_tmp2 rfl _ _ _) rfl ?_
      exact ⟨NB.refl _, rfl⟩
    · have d2 : decide (n > 16384) = false := decide_eq_false h2
      by_cases h3 : (b.length : Int) > n * 64
      · have d3 : decide ((b.length : Int) > n * 64) = true := decide_eq_true h3
        have he : newE b n = 1 := by unfold newE; rw [if_pos (.inr (.inr (by omega)))]
        rw [he]
        go_wp2
        refine bodyPost_ret (results_tmp2 rfl _ _ _) rfl ?_
        exact ⟨NB.refl _, rfl⟩
      · have d3 : decide ((b.length : Int) > n * 64) = false := decide_eq_false h3
        have he : newE b n = 0 := by unfold newE; rw [if_neg (by omega)]
        rw [he]
        obtain ⟨n, rfl⟩ : ∃ m : Nat, n = m := ⟨n.toNat, by omega⟩
        go_wp2_with (first | (refine wpList_make_full _ rfl _ _ 54 rfl w.heap.size 59 iu (.agg (bya 64 fun _ => 0)) 64 Tryd.underlying54 hi1 hi2 hi3 .i64 .i64 _ _ n rfl rfl rfl rfl ?b2 ?b3 ?b4 ?_) | fail)
        case b2 => omega
        case b3 => simp only [maxLen]; omega
        intro w1 hm hg
        have hB1 : Blk w1 w.heap.size 59 (bya (64 * n) fun _ => 0) := by
          have hm : w1.ownsRow w.heap.size 59 64 (.slice (some ⟨w.heap.size, 0, none⟩) n n) n (bya (64 * n) fun _ => 0).toList := by
            rw [← made_sectors]
            exact hm
          rcases hm.2 with ⟨e, _⟩ | ⟨g', cap, cur, hv', _, hg', _, _, hs', ht'⟩
          · cases e
          · injection hv' with e1 _ e3
            injection e1 with e1
            injection e1 with e1
            subst e1; subst e3
            have h2 : cur.toList.take (n * 64) = cur.toList := List.take_of_length_le (by simp [hs'])
            rw [h2] at ht'
            have : cur = bya (64 * n) fun _ => 0 := Array.toList_inj.1 ht'
            rw [← this]
            exact hg'
        have hn1 : NB w w1 := (NB.refl w).grown hg (fun _ e => by cases e)
        have hlt1 : w.heap.size < w1.heap.size := hB1.lt
        clear hm hg
        have hF0 : (fun q => if q < 64 * 0 then byteAt b q else 0) = fun _ => (0 : UInt8) := by
          funext q
          rw [if_neg (by omega)]
        go_wp2
        go_loopw [27] (fun i wr => ∃ j : Nat, j ≤ n ∧ i = .int .i64 j ∧ Blk wr w.heap.size 59 (bya (64 * n) fun q => if q < 64 * j then byteAt b q else 0) ∧ Blk wr w1.heap.size 57 (dcells w.heap.size (Dsk.new b n) (.slice none 0 0) (.slice none 0 0)) ∧ NB w wr) (fun i _ => n - (intOf i).toNat)
        case atStart => exact ⟨0, by omega, rfl, by rw [hF0]; exact hB1.alloc _, Blk.newAt rfl, hn1.alloc _⟩
        case round =>
          obtain ⟨j, hj, rfl, hBr, hBd, hnr⟩ := hrel
          by_cases hlt : j < n
          · have e1 : decide ((j : Int) < (n : Int)) = true := by simpa using hlt
            simp only [dcells, Dsk.new] at hBd
            have c0 := hBd.cell 0
            have c1 := hBd.cell 1
            have c2 := hBd.cell 2
            have c3 := hBd.cell 3
            have c4 := hBd.cell 4
            have c5 := hBd.cell 5
            have c6 := hBd.cell 6
            have hvr : RB wr w.heap.size (.slice A b.length c) b := hv.below hnr
            by_cases hlu : 64 * j < b.length
            · have e2 : decide ((j : Int) * 64 < (b.length : Int)) = true := by simp; omega
              have hq1 : (j : Int) * 64 ≤ b.length := by omega
              obtain ⟨g, o, rfl, hg, hc⟩ := q3 (by omega)
              have hvd := RBP.drop_ hvr (64 * j) hlu g o rfl
              go_wp2
              refine wp_region_tail_ext 10 (by kernel_rfl) (by kernel_rfl) ?_
              simp only [List.take_succ_cons, List.take_zero, List.drop_succ_cons, List.drop_zero]
              repeat (go_big_quiet_step (fail))
              refine wpQuiet_nil ?_
              intro x
              have hBx := hBr.ext x
              have hDx := hBd.ext x
              have hnx := hnr.ext x
              have hmx := hvd.nb x.nb
              rw [Nat.mul_comm 64 j] at hmx
              clear hvd
              generalize x.val = w2 at *
              go_wp2_with (first | (refine wpList_copy_bya rfl _ _ 22 22 rfl 5 Tryd.underlying22 size_u8 w.heap.size (j * 64) 64 _ (64 * n) rfl 59 _ hBx _ _ _ rfl hmx (by omega) ?_) | fail)
              refine ⟨⟨j + 1, by omega, by go_num, ?_, hDx.setRow_far (by omega) _, hnx.setRow (Nat.le_refl _) _⟩, by simp [intOf]; omega⟩
              rw [← bya_congr (f := ov (fun q => if q < 64 * j then byteAt b q else 0) (j * 64) ((b.drop (j * 64)).take 64)) (g := fun q => if q < 64 * (j + 1) then byteAt b q else 0) fun q _ => new_step b j q]
              exact Blk.setRow hBx _
            · have e2 : decide ((j : Int) * 64 < (b.length : Int)) = false := by simp; omega
              go_wp2
              refine ⟨⟨j + 1, by omega, by go_num, ?_, hBd, hnr⟩, by simp [intOf]; omega⟩
              rw [bya_congr (g := fun q => if q < 64 * j then byteAt b q else 0) fun q _ => by
                by_cases hq : q < 64 * j
                · rw [if_pos hq, if_pos (by omega)]
                · rw [if_neg hq]
                  split
                  · rw [byteAt_out _ _ (by omega)]
                  · rfl]
              exact hBr
          · have hjn : j = n := by omega
            subst hjn
            have e1 : decide ((j : Int) < (j : Int)) = false := by simp
            go_wp2
            refine bodyPost_ret (results_tmp2 rfl _ _ _) rfl ?_
            refine ⟨hnr, w1.heap.size, rfl, fun k => k = w.heap.size ∨ k = w1.heap.size, ⟨w.heap.size, .slice none 0 0, .slice none 0 0, ?_⟩, fun k hk => by rcases hk with rfl | rfl <;> omega⟩
            exact
            { wf := ⟨by simp [Dsk.new]; omega, by simp [Dsk.new]; omega, (fun x hx => by cases hx), Nat.zero_le _, Nat.zero_le _, Int.le_refl _, by simp [Dsk.new]⟩
              fd := .inr rfl, fs := .inl rfl, fh := fun k e => (by cases e), fc := fun k e => (by cases e)
              lt := fun k hk => by
                rcases hk with rfl | rfl
                · exact hBr.lt
                · exact hBd.lt
              bd := hBd
              bs := by
                rw [bya_congr (g := fun q => byteAt b q) fun q hq => by rw [if_pos hq]] at hBr
                exact hBr
              hh := World.ownsRow_nil _ _ _ _
              hc := World.ownsRow_nil _ _ _ _ }
end Go.Proofs.YtgpafdagealnbaaDoor
