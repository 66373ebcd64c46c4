/- Struct and slice literals whose parts are arrays of unknown cells. -/
import Derived.Test.YtgpafdagealnbaaDoorByt
import Derived.Great.BuildSlice
namespace Go.Proofs.YtgpafdagealnbaaDoor
open Go.RowKit

theorem fold_set (vs : List Value) (off : Nat) : ∀ (i : Nat) (cells : Array Value), off + i + vs.length ≤ cells.size →
    ((vs.zipIdx i).foldl (fun cs (x : Value × Nat) => cs.setIfInBounds (off + x.2) x.1) cells).toList = cells.toList.take (off + i) ++ vs ++ cells.toList.drop (off + i + vs.length) := by
  induction vs with
  | nil => intro i cells _; simp
  | cons v r ih =>
    intro i cells h
    rw [List.zipIdx_cons, List.foldl_cons, ih (i + 1) _ (by simp only [List.length_cons, Array.size_setIfInBounds] at h ⊢; omega)]
    simp only [Array.toList_setIfInBounds, List.length_cons] at h ⊢
    have hl : off + i < cells.toList.length := by rw [Array.length_toList]; omega
    rw [show off + (i + 1) = off + i + 1 by omega, List.take_succ_eq_append_getElem (by rw [List.length_set]; exact hl), List.getElem_set_self, List.take_set_of_le (by omega),
      List.drop_set_of_lt (by omega), show off + i + 1 + r.length = off + i + (r.length + 1) by omega]
    simp
theorem fold_set' (c : Array Value) (off : Nat) (cells : Array Value) (h : off + c.size ≤ cells.size) :
    c.zipIdx.foldl (fun cs (x : Value × Nat) => cs.setIfInBounds (off + x.2) x.1) cells = (cells.toList.take off ++ c.toList ++ cells.toList.drop (off + c.size)).toArray := by
  apply Array.toList_inj.1
  have := fold_set c.toList off 0 cells (by rw [Array.length_toList]; omega)
  rw [Nat.add_zero, Array.length_toList] at this
  rw [← this, ← Array.foldl_toList, Array.toList_zipIdx]
theorem fill_one (place : Nat → Option (Nat × Nat)) (cells : Array Value) (i : Nat) (v : Value) (rest : List (Nat × Value)) (off size : Nat) (hp : place i = some (off, size)) (hs : v.cells.size = size) (hb : off + size ≤ cells.size) :
    Instr.fill place cells ((i, v) :: rest) = Instr.fill place (cells.toList.take off ++ v.cells.toList ++ cells.toList.drop (off + size)).toArray rest := by
  subst hs
  simp only [Instr.fill, hp]
  rw [if_neg (by simp; omega)]
  congr 1
  exact fold_set' v.cells off cells hb
section
variable {P : Program}
theorem wp_build_run {op : Oper} {a : Act} {w : World} {K : Act → World → Prop} {Q : Exit → Act → World → Prop} (t : TypeId) (parts : Array (Nat × Operand)) (ho : op.op = .build t parts) (ps : Array (Nat × Value))
    (hp : parts.map (fun x => (x.1, a.eval x.2)) = ps) (v : Value) (hrun : (Instr.build t ps).run P w = .ok v w) (h : K (a.put op.dst v) w) : op.wp P a w K Q := by
  subst hp
  unfold Oper.wp execOp
  simp only [ho, Sem.run_bind, hrun, Sem.run_pure, Result.andThen_ok]
  exact h
theorem wp_buildSlice_run {op : Oper} {a : Act} {w w' : World} {K : Act → World → Prop} {Q : Exit → Act → World → Prop} (t : TypeId) (n : Nat) (parts : Array (Nat × Operand)) (ho : op.op = .buildSlice t n parts) (ps : Array (Nat × Value))
    (hp : parts.map (fun x => (x.1, a.eval x.2)) = ps) (v : Value) (hrun : (Instr.buildSlice t n ps).run P w = .ok v w') (h : K (a.put op.dst v) w') : op.wp P a w K Q := by
  subst hp
  unfold Oper.wp execOp
  simp only [ho, Sem.run_bind, hrun, Sem.run_pure, Result.andThen_ok]
  exact h
end
end Go.Proofs.YtgpafdagealnbaaDoor
