/- The disk: Save. -/
import Derived.Test.YtgpafdagealnbaaDoorDsk10
namespace Go.Proofs.YtgpafdagealnbaaDoor
open Go.RowKit

/-- Sector number i of bytes. -/
def secOf (b : List UInt8) (i : Nat) : List UInt8 := (List.range 64).map fun q => b.getD (64 * i + q) 0
theorem secOf_length (b : List UInt8) (i : Nat) : (secOf b i).length = 64 := by simp [secOf]
theorem secOf_ov (b : List UInt8) (i : Nat) : (List.range 64).map (fun q => ov (fun _ => 0) 0 ((b.drop (64 * i)).take 64) (0 + q)) = secOf b i := by
  unfold secOf
  refine List.map_congr_left fun q hq => ?_
  have hq := List.mem_range.1 hq
  unfold ov
  simp only [List.length_take, List.length_drop, Nat.zero_add, Nat.zero_le, true_and, Nat.sub_zero]
  by_cases h : q < min 64 (b.length - 64 * i)
  · rw [if_pos h, List.getD_eq_getElem?_getD, List.getD_eq_getElem?_getD, List.getElem?_take, if_pos hq, List.getElem?_drop]
  · rw [if_neg h, List.getD_eq_getElem?_getD, List.getElem?_eq_none (by omega)]
    rfl
/-- Writes to sectors one behind the other, till one fails. -/
def Dsk.saves (D : Dsk) (at_ : Nat) : List (List UInt8) → Int × Dsk
  | [] => (0, D)
  | s :: r => if D.writeE at_ s = 0 then (D.write at_ s).saves (at_ + 1) r else (D.writeE at_ s, D.write at_ s)
def secs (b : List UInt8) : List (List UInt8) := (List.range (needN b.length)).map (secOf b)
theorem secs_length (b : List UInt8) : (secs b).length = needN b.length := by simp [secs]
theorem secs_drop (b : List UInt8) (j : Nat) (hj : j < needN b.length) : (secs b).drop j = secOf b j :: (secs b).drop (j + 1) := by
  rw [List.drop_eq_getElem_cons (by rw [secs_length]; exact hj)]
  simp [secs]
def Dsk.save (D : Dsk) (at_ : Nat) (b : List UInt8) : Int × Dsk := if D.spanE at_ b.length = 0 then D.saves at_ (secs b) else (D.spanE at_ b.length, D)
theorem Dsk.write_n (D : Dsk) (k : Int) (b : List UInt8) : (D.write k b).n = D.n := by
  unfold Dsk.write
  split
  · rfl
  · split
    · rfl
    · split
      · unfold Dsk.lose; split <;> rfl
      · rfl
theorem Dsk.write_few (D : Dsk) (k : Int) (b : List UInt8) : (D.write k b).held.length ≤ D.held.length + 1 := by
  unfold Dsk.write
  split
  · omega
  · split
    · omega
    · split
      · unfold Dsk.lose
        split
        · simp [Dsk.stroke, Dsk.hold]
        · simp [Dsk.puts]
      · simp [Dsk.stroke, Dsk.hold]
theorem RBP.drop_ {w : World} {S : Nat → Prop} {A : Option Addr} {L c : Nat} {l : List UInt8} (h : RBP w S (.slice A L c) l) (k : Nat) (hk : k < l.length) (g o : Nat) (hA : A = some ⟨g, o, none⟩) :
    RBP w S (.slice (some ⟨g, o + k, none⟩) (L - k) (c - k)) (l.drop k) := by
  obtain ⟨A', c', hv, h1, h2, h3⟩ := h
  injection hv with e1 e2 e3
  subst e1; subst e2; subst e3
  refine ⟨_, _, by rw [List.length_drop], by rw [List.length_drop]; omega, by omega, fun h0 => ?_⟩
  obtain ⟨g', o', hA', hg, hc⟩ := h3 (by omega)
  rw [hA] at hA'
  injection hA' with e
  injection e with e1 e2
  subst e1; subst e2
  exact ⟨g, o + k, rfl, hg, fun i b hb => by
    rw [List.getElem?_drop] at hb
    rw [Nat.add_assoc]
    exact hc (k + i) b hb⟩

set_option maxRecDepth 20000 in
set_option maxHeartbeats 1000000 in
theorem dsave_any {F : Nat → Prop} {w : World} {d : Nat} {D : Dsk} (h : DRep F w d D) (hfew : D.held.length ≤ 100000) (at_ : Nat) (hat : at_ ≤ 1000000000) (v : Value) (b : List UInt8) (hb : b.length ≤ 1000000000) (hv : RBP w (fun g => g < w.heap.size ∧ ¬ F g) v b) :
    Calls Tryd.prog 43 #[dptr d, .int .i64 at_, v] w fun e w' => e = .returned (.int .i64 (D.save at_ b).1) ∧ DGo F w d (D.save at_ b).2 w' := by
  have n2 := h.wf.n2
  obtain ⟨A, c, rfl, q1, q2, q3⟩ := id hv
  go_enter Tryd.func43, Tryd.ntmps43
  go_wp2_with fail
  refine (dspan_any h at_ b.length hat hb).mono ?_
  rintro e w1 ⟨rfl, hn1⟩
  by_cases hs : D.spanE at_ b.length = 0
  · rw [hs]
    have hD : D.save at_ b = D.saves at_ (secs b) := by unfold Dsk.save; rw [if_pos hs]
    have hfit : at_ + needN b.length ≤ D.n := by
      unfold Dsk.spanE at hs
      split at hs
      · cases hs
      · split at hs
        · cases hs
        · omega
    have hnb : needN b.length ≤ 16384 := by omega
    have hlb : b.length ≤ 64 * needN b.length := by unfold needN; omega
    have hlu : ∀ j, j < needN b.length → 64 * j < b.length := fun j hj => by unfold needN at hj; omega
    go_wp2_with fail
    refine (dneed_any b.length (by omega) _).mono ?_
    rintro e w2 ⟨rfl, rfl⟩
    go_wp2
    go_loopw [22] (fun i wr => ∃ (j : Nat) (Dj : Dsk) (Fj : Nat → Prop), j ≤ needN b.length ∧ i = .int .i64 j ∧ DRep Fj wr d Dj ∧ (∀ k, Fj k → F k ∨ w.heap.size ≤ k) ∧ Fr w.heap.size F w wr ∧ Dj.n = D.n ∧ Dj.held.length ≤ D.held.length + j ∧
        D.save at_ b = Dj.saves (at_ + j) ((secs b).drop j)) (fun i _ => needN b.length - (intOf i).toNat)
    case atStart => exact ⟨0, D, F, by omega, rfl, h.nb hn1, fun k hk => .inl hk, Fr.of_below hn1, rfl, by omega, by rw [hD]; rfl⟩
    case round =>
      obtain ⟨j, Dj, Fj, hj, rfl, hr, hFj, hfr, hn, hfw, hsv⟩ := hrel
      have hvr : RBP wr (fun g => g < w.heap.size ∧ ¬ F g) (.slice A b.length c) b := hv.keep fun g o hg => hfr.cell hg.1 hg.2
      by_cases hlt : j < needN b.length
      · have d1 : decide ((j : Int) < (needN b.length : Int)) = true := by simpa using hlt
        have h64 := hlu j hlt
        rw [secs_drop b j hlt, Dsk.saves] at hsv
        obtain ⟨g, o, rfl, hg, hc⟩ := q3 (by omega)
        have hq1 : (64 : Int) * j ≤ b.length := by omega
        have hz := zero_sector
        have hvd := hvr.drop_ (64 * j) h64 g o rfl
        go_wp2
        have hn2 : NB wr (wr.alloc (.cells (bya 64 fun _ => 0) 59)) := (NB.refl wr).alloc _
        have hB0 : Blk (wr.alloc (.cells (bya 64 fun _ => 0) 59)) wr.heap.size 59 (bya 64 fun _ => 0) := Blk.newAt rfl
        refine wp_region_tail_ext 5 (by kernel_rfl) (by kernel_rfl) ?_
        simp only [List.take_succ_cons, List.take_zero, List.drop_succ_cons, List.drop_zero]
        repeat (go_big_quiet_step (fail))
        refine wpQuiet_nil ?_
        intro x
        have hBx := hB0.ext x
        have hnx : NB wr x.val := hn2.ext x
        have hmx := hvd.nb hnx
        rw [Nat.mul_comm 64 j] at hmx
        have hlw : wr.heap.size < x.val.heap.size := hBx.lt
        clear hB0 hn2 hvd
        generalize x.val = w1 at *
        go_wp2_with (first | (refine wpList_copy_bya rfl _ _ 22 22 rfl 5 Tryd.underlying22 size_u8 wr.heap.size 0 64 64 64 rfl 59 (fun _ => 0) hBx _ _ _ rfl hmx (by omega) ?_) | fail)
        have hB2 := Blk.setRow hBx (bya 64 (ov (fun _ => 0) 0 ((b.drop (j * 64)).take 64)))
        have hn3 : NB wr (w1.setRow wr.heap.size (bya 64 (ov (fun _ => 0) 0 ((b.drop (j * 64)).take 64)))) := hnx.setRow (Nat.le_refl _) _
        generalize w1.setRow wr.heap.size (bya 64 (ov (fun _ => 0) 0 ((b.drop (j * 64)).take 64))) = w2 at *
        have hr2 := hr.nb hn3
        have hsrc := hB2.rb (fun g => g < w2.heap.size ∧ ¬ Fj g) ⟨hB2.lt, fun hf => by have := hr.lt hf; omega⟩ 0 64 64 (by omega) (by omega) (by omega)
        rw [Nat.mul_comm j 64, secOf_ov] at hsrc
        rw [show ((at_ : Int) + (j : Int)) = ((at_ + j : Nat) : Int) by omega]
        refine (dwrite_any hr2 (by omega) ((at_ + j : Nat) : Int) _ _ hsrc).mono ?_
        rintro e w3 ⟨rfl, F3, hr3, hF3, hf3⟩
        have hf3' : Fr w.heap.size F w w3 := (hfr.nb hfr.size hn3).step hFj (Nat.le_trans hfr.size hn3.size) hf3
        have hF3' : ∀ k, F3 k → F k ∨ w.heap.size ≤ k := fun k hk => by
          rcases hF3 k hk with h1 | h1
          · exact hFj k h1
          · exact .inr (Nat.le_trans hfr.size (Nat.le_trans hn3.size h1))
        generalize Dj.writeE ((at_ + j : Nat) : Int) (secOf b j) = E at *
        by_cases he : E = 0
        · rw [if_pos he] at hsv
          rw [he]
          go_wp2
          exact ⟨⟨j + 1, _, F3, by omega, by go_num, hr3, hF3', hf3', by rw [Dsk.write_n, hn], by have := Dj.write_few ((at_ + j : Nat) : Int) (secOf b j); omega, hsv⟩, by simp [intOf]; omega⟩
        · rw [if_neg he] at hsv
          have d2 : decide (E = 0) = false := decide_eq_false he
          go_wp2
          go_ret
          rw [hsv]
          exact ⟨rfl, F3, hr3, hF3', hf3'⟩
      · have hjl : j = needN b.length := by omega
        subst hjl
        have d1 : decide ((needN b.length : Int) < (needN b.length : Int)) = false := by simp
        rw [List.drop_of_length_le (by rw [secs_length]; exact Nat.le_refl _)] at hsv
        go_wp2
        go_ret
        rw [hsv]
        exact ⟨rfl, Fj, hr, hFj, hfr⟩
  · have hD : D.save at_ b = (D.spanE at_ b.length, D) := by unfold Dsk.save; rw [if_neg hs]
    have d1 : decide (D.spanE at_ b.length = 0) = false := decide_eq_false hs
    go_wp2
    go_ret
    rw [hD]
    exact ⟨rfl, F, h.nb hn1, fun k hk => .inl hk, Fr.of_below hn1⟩
end Go.Proofs.YtgpafdagealnbaaDoor
