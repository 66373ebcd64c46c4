/- The disk: span, Load. -/
import Derived.Test.YtgpafdagealnbaaDoorDsk8
namespace Go.Proofs.YtgpafdagealnbaaDoor
open Go.RowKit

def Dsk.spanE (D : Dsk) (at_ n : Nat) : Int := if D.down then 60 else if D.n < at_ ∨ D.n - at_ < needN n then 61 else 0
theorem need_quiet (n : Nat) (hn : n ≤ 4611686018427387904) {w : World} (x : Ext w) : Calls Tryd.prog 65 #[.int .i64 n] x.val fun e w'' => e = .returned (.int .i64 (needN n)) ∧ ∃ y : Ext w, w'' = y.val :=
  Calls.quiet_ext ((dneed_any n hn _).mono fun _ _ ⟨h1, h2⟩ => ⟨h1, h2 ▸ NB.refl _⟩)

set_option maxHeartbeats 400000 in
theorem dspan_any {F : Nat → Prop} {w : World} {d : Nat} {D : Dsk} (h : DRep F w d D) (at_ n : Nat) (hat : at_ ≤ 1000000000) (hn : n ≤ 1000000000) :
    Calls Tryd.prog 64 #[dptr d, .int .i64 at_, .int .i64 n] w fun e w' => e = .returned (.int .i64 (D.spanE at_ n)) ∧ NB w w' := by
  have h0 := h
  obtain ⟨sb, hv, cv, h⟩ := h
  have hB := h.bd
  have hw := h.wf
  have n2 := hw.n2
  unfold Dsk.spanE
  obtain ⟨N, f, held, down, strokes, left, st, choice⟩ := D
  simp only [dcells] at hB n2
  have c0 := hB.cell 0
  have c1 := hB.cell 1
  have c2 := hB.cell 2
  have c3 := hB.cell 3
  have c4 := hB.cell 4
  have c5 := hB.cell 5
  have c6 := hB.cell 6
  have hnb : needN n ≤ 1000000000 := by unfold needN; omega
  go_enter Tryd.func64, Tryd.ntmps64
  go_wp2_with fail
  refine (dready_any h0).mono ?_
  rintro e w1 ⟨rfl, rfl⟩
  unfold Dsk.err
  cases down
  · have h1 : decide ((at_ : Int) < 0) = false := by simp
    by_cases h2 : N < at_
    · have d2 : decide ((at_ : Int) > (N : Int)) = true := by simp; omega
      go_wp2
      refine wp_region_quiet_ext (by kernel_rfl) (by kernel_rfl) ?_
      repeat (go_big_quiet_step ((go_at_call 65; exact need_quiet n (by omega) _)))
      refine wpQuiet_nil ?_
      intro x
      go_wp2
      go_ret
      exact ⟨rfl, x.nb⟩
    · have d2 : decide ((at_ : Int) > (N : Int)) = false := by simp; omega
      by_cases h3 : N - at_ < needN n
      · have d3 : decide ((needN n : Int) > (N : Int) - (at_ : Int)) = true := by simp; omega
        go_wp2
        refine wp_region_quiet_ext (by kernel_rfl) (by kernel_rfl) ?_
        repeat (go_big_quiet_step ((go_at_call 65; exact need_quiet n (by omega) _)))
        refine wpQuiet_nil ?_
        intro x
        go_wp2
        go_ret
        exact ⟨rfl, x.nb⟩
      · have d3 : decide ((needN n : Int) > (N : Int) - (at_ : Int)) = false := by simp; omega
        go_wp2
        refine wp_region_quiet_ext (by kernel_rfl) (by kernel_rfl) ?_
        repeat (go_big_quiet_step ((go_at_call 65; exact need_quiet n (by omega) _)))
        refine wpQuiet_nil ?_
        intro x
        go_wp2
        go_ret
        exact ⟨rfl, x.nb⟩
  · go_wp2
    go_ret
    exact ⟨rfl, NB.refl _⟩
end Go.Proofs.YtgpafdagealnbaaDoor
