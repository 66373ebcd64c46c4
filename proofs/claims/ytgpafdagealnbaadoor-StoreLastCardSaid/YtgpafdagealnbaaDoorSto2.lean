/- The store: Open, Room, place, ready. -/
import Derived.Test.YtgpafdagealnbaaDoorDsk12
import Derived.Test.YtgpafdagealnbaaDoorSto1
namespace Go.Proofs.YtgpafdagealnbaaDoor
open Go.RowKit

abbrev sptr (s : Nat) : Value := .pointer (some ⟨s, 0, none⟩)
/-- The store at block s, on the disk at d. -/
def SBlk (w : World) (s d from_ n : Nat) : Prop := Blk w s 61 #[dptr d, .int .i64 from_, .int .i64 n] ∧ 2 ≤ n ∧ from_ + 2 * n ≤ 16384
theorem SBlk.nb {w w' : World} {s d from_ n : Nat} (h : SBlk w s d from_ n) (hn : NB w w') : SBlk w' s d from_ n := ⟨(hn.block s h.1.lt).trans h.1, h.2⟩
theorem SBlk.fr {F : Nat → Prop} {w w' : World} {s d from_ n : Nat} (h : SBlk w s d from_ n) (hs : ¬ F s) (hf : Fr w.heap.size F w w') : SBlk w' s d from_ n := ⟨h.1.fr hf h.1.lt hs, h.2⟩

theorem sroom_any {w : World} {s d from_ n : Nat} (h : SBlk w s d from_ n) :
    Calls Tryd.prog 17 #[sptr s] w fun e w' => e = .returned (.int .i64 ((64 * (n - 1) : Nat) : Int)) ∧ w = w' := by
  obtain ⟨hB, h1, h2⟩ := h
  have c0 := hB.cell 0
  have c1 := hB.cell 1
  have c2 := hB.cell 2
  go_enter Tryd.func17, Tryd.ntmps17
  go_wp2
  go_ret
  refine ⟨ret_int ?_, rfl⟩
  omega

theorem splace_any {w : World} {s d from_ n : Nat} (h : SBlk w s d from_ n) (k : Nat) (hk : k ≤ 1) :
    Calls Tryd.prog 28 #[sptr s, .int .i64 k] w fun e w' => e = .returned (.int .i64 ((from_ + k * n : Nat) : Int)) ∧ NB w w' := by
  obtain ⟨hB, h1, h2⟩ := h
  have hkn : k * n ≤ 16384 := by
    rcases Nat.le_one_iff_eq_zero_or_eq_one.1 hk with rfl | rfl <;> omega
  have e : wrap64 ((k : Int) * (n : Int)) = ((k * n : Nat) : Int) := by
    rw [← Int.natCast_mul]; unfold wrap64; omega
  have c0 := hB.cell 0
  have c1 := hB.cell 1
  have c2 := hB.cell 2
  go_enter Tryd.func28, Tryd.ntmps28
  go_wp2
  refine wp_region_quiet_ext (by kernel_rfl) (by kernel_rfl) ?_
  repeat (go_big_quiet_step (fail))
  refine wpQuiet_nil ?_
  intro x
  go_wp2
  go_ret
  exact ⟨ret_int (by rw [Int.natCast_add, Int.natCast_mul]), x.nb⟩

theorem sready_any {F : Nat → Prop} {w : World} {s d from_ n : Nat} {D : Dsk} (h : SBlk w s d from_ n) (hD : DRep F w d D) :
    Calls Tryd.prog 26 #[sptr s] w fun e w' => e = .returned (.int .i64 D.err) ∧ w = w' := by
  obtain ⟨hB, h1, h2⟩ := h
  have c0 := hB.cell 0
  have c1 := hB.cell 1
  have c2 := hB.cell 2
  go_enter Tryd.func26, Tryd.ntmps26
  go_wp2_with fail
  refine (dup_any hD).mono ?_
  rintro e w1 ⟨rfl, rfl⟩
  cases hd : D.down
  · go_wp2
    go_ret
    rw [show D.err = 0 by simp [Dsk.err, hd]]
    exact ⟨rfl, rfl⟩
  · go_wp2
    go_ret
    rw [show D.err = 60 by simp [Dsk.err, hd]]
    exact ⟨rfl, rfl⟩

def openE (N : Nat) (from_ n : Int) : Int := if n < 2 ∨ from_ < 0 ∨ (N : Int) < from_ ∨ ((N : Int) - from_) / 2 < n then 1 else 0
theorem size_Store : (Tryd.prog.info? 61).map (·.size) = some 3 := by kernel_rfl
set_option maxHeartbeats 400000 in
theorem sopen_any {F : Nat → Prop} {w : World} {d : Nat} {D : Dsk} (h : DRep F w d D) (from_ n : Int) :
    Calls Tryd.prog 10 #[dptr d, .int .i64 from_, .int .i64 n] w fun e w' => NB w w' ∧ if openE D.n from_ n = 0 then ∃ s, e = .returned (.tuple #[sptr s, .int .i64 0]) ∧ SBlk w' s d from_.toNat n.toNat ∧ w.heap.size ≤ s else e = .returned (.tuple #[.pointer none, .int .i64 1]) := by
  have n2 := h.wf.n2
  go_enter Tryd.func10, Tryd.ntmps10
  by_cases h1 : n < 2
  · have d1 : decide (n < 2) = true := decide_eq_true h1
    have he : openE D.n from_ n = 1 := by unfold openE; rw [if_pos (.inl h1)]
    rw [he]
    go_wp2
    refine bodyPost_ret (results_tmp2 rfl _ _ _) rfl ?_
    exact ⟨NB.refl _, rfl⟩
  · have d1 : decide (n < 2) = false := decide_eq_false h1
    by_cases h2 : from_ < 0
    · have d2 : decide (from_ < 0) = true := decide_eq_true h2
      have he : openE D.n from_ n = 1 := by unfold openE; rw [if_pos (.inr (.inl h2))]
      rw [he]
      go_wp2
      refine bodyPost_ret (results_tmp2 rfl _ _ _) rfl ?_
      exact ⟨NB.refl _, rfl⟩
    · have d2 : decide (from_ < 0) = false := decide_eq_false h2
      go_wp2_with fail
      refine (dsize_any h).mono ?_
      rintro e w1 ⟨rfl, rfl⟩
      by_cases h3 : from_ > (D.n : Int)
      · have d3 : decide (from_ > (D.n : Int)) = true := decide_eq_true h3
        have he : openE D.n from_ n = 1 := by unfold openE; rw [if_pos (.inr (.inr (.inl (by omega))))]
        go_wp2
        refine bodyPost_ret (results_tmp2 rfl _ _ _) rfl ?_
        exact ⟨NB.refl _, rfl⟩
      · have d3 : decide (from_ > (D.n : Int)) = false := decide_eq_false h3
        go_wp2_with fail
        refine (dsize_any h).mono ?_
        rintro e w1 ⟨rfl, rfl⟩
        have hq : ((D.n : Int) - from_).tdiv 2 = ((D.n : Int) - from_) / 2 := Int.tdiv_eq_ediv_of_nonneg (by omega)
        by_cases h4 : n > ((D.n : Int) - from_) / 2
        · have d4 : decide (n > ((D.n : Int) - from_) / 2) = true := decide_eq_true h4
          have he : openE D.n from_ n = 1 := by unfold openE; rw [if_pos (.inr (.inr (.inr (by omega))))]
          go_wp2
          refine bodyPost_ret (results_tmp2 rfl _ _ _) rfl ?_
          exact ⟨NB.refl _, rfl⟩
        · have d4 : decide (n > ((D.n : Int) - from_) / 2) = false := decide_eq_false h4
          have he : openE D.n from_ n = 0 := by unfold openE; rw [if_neg (by omega)]
          go_wp2
          refine bodyPost_ret (results_tmp2 rfl _ _ _) rfl ?_
          obtain ⟨f, rfl⟩ : ∃ m : Nat, from_ = m := ⟨from_.toNat, by omega⟩
          obtain ⟨n, rfl⟩ : ∃ m : Nat, n = m := ⟨n.toNat, by omega⟩
          exact ⟨(NB.refl _).alloc _, _, rfl, ⟨Blk.newAt rfl, by omega, by omega⟩, Nat.le_refl _⟩
end Go.Proofs.YtgpafdagealnbaaDoor
