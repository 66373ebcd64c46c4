/- The disk: the cells of the writes that wait; which of them are put; clear. -/
import Derived.Test.YtgpafdagealnbaaDoorDsk3
namespace Go.Proofs.YtgpafdagealnbaaDoor
open Go.RowKit

/-! ### the cells of the writes that wait -/
theorem hcells_nil : hcells [] = [] := rfl
theorem hcells_cons (h : Nat × List UInt8) (r : List (Nat × List UInt8)) : hcells (h :: r) = (.int .i64 (h.1 : Int) :: bv h.2) ++ hcells r := by simp [hcells]
theorem hcells_append (a b : List (Nat × List UInt8)) : hcells (a ++ b) = hcells a ++ hcells b := by simp [hcells]
theorem hcells_one (l : List (Nat × List UInt8)) : ∀ u ∈ hcells l, u.oneCell' = true := by
  intro u hu
  simp only [hcells, List.mem_flatMap, List.mem_cons] at hu
  obtain ⟨h, _, h1 | h1⟩ := hu
  · subst h1; rfl
  · exact bv_one _ u h1
theorem hcells_at (l : List (Nat × List UInt8)) (hl : ∀ h ∈ l, h.2.length = 64) (k : Nat) (hk : k < l.length) :
    (∀ j u, (.int .i64 (l[k].1 : Int) :: bv l[k].2)[j]? = some u → (hcells l)[65 * k + j]? = some u) := by
  induction l generalizing k with
  | nil => simp at hk
  | cons h r ih =>
    intro j u hu
    have h64 : (Value.int .i64 (h.1 : Int) :: bv h.2).length = 65 := by simp [bv_length, hl h (by simp)]
    rw [hcells_cons]
    cases k with
    | zero =>
      simp only [List.getElem_cons_zero] at hu
      have hj : j < 65 := by
        rw [← h64]
        exact (List.getElem?_eq_some_iff.1 hu).1
      rw [Nat.mul_zero, Nat.zero_add, List.getElem?_append_left (by rw [h64]; exact hj)]
      exact hu
    | succ k =>
      simp only [List.getElem_cons_succ] at hu
      rw [List.getElem?_append_right (by rw [h64]; omega), h64, show 65 * (k + 1) + j - 65 = 65 * k + j by omega]
      exact ih (fun x hx => hl x (by simp [hx])) k (by simpa using hk) j u hu
theorem hcells_length (l : List (Nat × List UInt8)) (hl : ∀ h ∈ l, h.2.length = 64) : (hcells l).length = l.length * 65 := by
  induction l with
  | nil => rfl
  | cons h r ih =>
    rw [hcells_cons, List.length_append, ih fun x hx => hl x (by simp [hx])]
    simp only [List.length_cons, bv_length, hl h (by simp)]
    omega

/-! ### which of them are put -/
/-- The bytes, those writes laid over them that are chosen; they count from i on. -/
def lay (f : Nat → UInt8) (sel : Nat → Bool) : Nat → List (Nat × List UInt8) → Nat → UInt8
  | _, [] => f
  | i, h :: r => lay (if sel i then ov f (64 * h.1) h.2 else f) sel (i + 1) r
theorem lay_snoc (f : Nat → UInt8) (sel : Nat → Bool) (i : Nat) (l : List (Nat × List UInt8)) (h : Nat × List UInt8) :
    lay f sel i (l ++ [h]) = if sel (i + l.length) then ov (lay f sel i l) (64 * h.1) h.2 else lay f sel i l := by
  induction l generalizing f i with
  | nil => simp [lay]
  | cons x r ih =>
    rw [List.cons_append, lay, ih, List.length_cons, show i + 1 + r.length = i + (r.length + 1) by omega]
    rfl
theorem lay_take (f : Nat → UInt8) (sel : Nat → Bool) (l : List (Nat × List UInt8)) (k : Nat) (hk : k < l.length) :
    lay f sel 0 (l.take (k + 1)) = if sel k then ov (lay f sel 0 (l.take k)) (64 * l[k].1) l[k].2 else lay f sel 0 (l.take k) := by
  rw [List.take_succ_eq_append_getElem hk, lay_snoc, List.length_take, Nat.zero_add, Nat.min_eq_left (by omega)]

/-! ### clear -/
theorem zeroCells_mem {z : Array Value} {n : Nat} (hz : ∀ u ∈ z, u.oneCell' = true) (h0 : 0 < z.size) : ∀ u ∈ (Builtin.zeroCells z n).toList, u.oneCell' = true := by
  intro u hu
  simp only [Builtin.zeroCells, Array.toList_map, List.mem_map] at hu
  obtain ⟨i, _, rfl⟩ := hu
  have hm : i % z.size < z.size := Nat.mod_lt _ h0
  rw [getElem!_pos z _ hm]
  exact hz _ (Array.getElem_mem hm)
theorem zeroCells_size (z : Array Value) (n : Nat) : (Builtin.zeroCells z n).toList.length = n * z.size := by simp [Builtin.zeroCells]
theorem run_clear_own {P : Program} (w : World) (base : Nat) (t e ty : TypeId) (z : Value) (size : Nat) (ht : P.underlying t = some (.slice e)) (hz : ∀ w, (zeroValue e).run P w = .ok z w) (hzs : z.cells.size = size) (h0 : 0 < size)
    (h1 : ∀ u ∈ z.cells, u.oneCell' = true) (v : Value) (n : Nat) (xs : List Value) (hown : w.ownsRow base e size v n xs) :
    ∃ w' ys, (Builtin.clear_ #[t] ty #[v]).run P w = .ok (.tuple #[]) w' ∧ w'.ownsRow base e size v n ys ∧ w.grownBy w' v.ownBlock ∧ w'.heap.size = w.heap.size := by
  subst hzs
  rcases hown.2 with ⟨rfl, rfl⟩ | ⟨g, cap, cur, rfl, hb, hg, hnc, hcm, hcs, htk⟩
  · exact ⟨w, xs, by simp [Builtin.clear_, run_underlying ht], hown, World.grownBy.refl _ _, rfl⟩
  · cases n with
    | zero => exact ⟨w, xs, by simp [Builtin.clear_, run_underlying ht], hown, World.grownBy.refl _ _, rfl⟩
    | succ n =>
      have hle : (n + 1) * z.cells.size ≤ cap * z.cells.size := Nat.mul_le_mul_right _ hnc
      have hst := run_storeCells_at (P := P) g 0 e (Builtin.zeroCells z.cells (n + 1)).toList 0 cur w hg (by rw [zeroCells_size]; omega) (zeroCells_mem h1 h0)
      generalize hC : (cur.toList.take (0 + 0) ++ (Builtin.zeroCells z.cells (n + 1)).toList ++ cur.toList.drop (0 + 0 + (Builtin.zeroCells z.cells (n + 1)).toList.length)).toArray = C at hst
      refine ⟨w.setRow g C, (Builtin.zeroCells z.cells (n + 1)).toList, by simp [Builtin.clear_, run_underlying ht, hz, hst], ⟨zeroCells_size _ _, .inr ⟨g, cap, C, rfl, hb, setRow_heap w g cur C e (0, 0) hg, hnc, hcm, ?_, ?_⟩⟩, ⟨rfl, rfl, rfl, by rw [size_setRow]; exact Nat.le_refl _, fun k _ hk => setRow_other _ _ _ _ (fun e2 => hk (by rw [e2]; rfl))⟩, size_setRow _ _ _⟩
      · subst hC
        have hzl := zeroCells_size z.cells (n + 1)
        simp only [List.size_toArray, List.length_append, List.length_take, List.length_drop, Array.length_toList] at hzl ⊢
        omega
      · subst hC
        simp only [Nat.zero_add, List.take_zero, List.nil_append]
        rw [List.take_append_of_le_length (by rw [zeroCells_size]; exact Nat.le_refl _), List.take_of_length_le (by rw [zeroCells_size]; exact Nat.le_refl _)]
theorem zero_held (w : World) : (zeroValue 92).run Tryd.prog w = .ok (.agg ((.int .i64 0 :: bv (List.replicate 64 0)).toArray)) w := by kernel_rfl
end Go.Proofs.YtgpafdagealnbaaDoor
