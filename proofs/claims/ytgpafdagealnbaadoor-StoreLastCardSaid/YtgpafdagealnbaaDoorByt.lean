/- Arrays of bytes; the builtin copy into them. -/
import Derived.Test.YtgpafdagealnbaaDoorApp
import Derived.Lib.BufferWrite
namespace Go.Proofs.YtgpafdagealnbaaDoor
open Go.RowKit

/-- An array of N bytes. -/
def bya (N : Nat) (f : Nat → UInt8) : Array Value := arr N fun i => .int .u8 ((f i).toNat : Int)
theorem bya_size (N : Nat) (f : Nat → UInt8) : (bya N f).size = N := arr_size _ _
theorem bya_one (N : Nat) (f : Nat → UInt8) : ∀ v ∈ bya N f, v.oneCell' = true := by
  intro v hv
  simp only [bya, arr, List.mem_toArray, List.mem_map] at hv
  obtain ⟨i, _, rfl⟩ := hv
  rfl
theorem bya_congr {N : Nat} {f g : Nat → UInt8} (h : ∀ i, i < N → f i = g i) : bya N f = bya N g := arr_congr fun i hi => by rw [h i hi]
theorem bya_set (N : Nat) (f : Nat → UInt8) (k : Nat) (b : UInt8) : (bya N f).setIfInBounds k (.int .u8 (b.toNat : Int)) = bya N (fun i => if i = k then b else f i) := by
  unfold bya
  rw [arr_set]
  exact arr_congr fun i _ => by by_cases e : i = k <;> simp [e]
/-- l laid over f from place o on. -/
def ov (f : Nat → UInt8) (o : Nat) (l : List UInt8) (i : Nat) : UInt8 := if o ≤ i ∧ i < o + l.length then l.getD (i - o) 0 else f i
theorem ov_nil (f : Nat → UInt8) (o : Nat) : ov f o [] = f := by
  funext i; unfold ov; rw [if_neg (by simp)]
theorem bya_list (N : Nat) (f : Nat → UInt8) : (bya N f).toList = bv ((List.range N).map f) := by
  simp [bya, arr, bv]
theorem Blk.bya_cell {w : World} {g : Nat} {t : TypeId} {N : Nat} {f : Nat → UInt8} (h : Blk w g t (bya N f)) {i : Nat} (hi : i < N) : w.cell? ⟨g, i, none⟩ = some (.int .u8 ((f i).toNat : Int)) := Blk.arr_cell h hi
/-- A part of an array of bytes, as a slice. -/
theorem Blk.rb {w : World} {g : Nat} {t : TypeId} {N : Nat} {f : Nat → UInt8} (h : Blk w g t (bya N f)) (S : Nat → Prop) (hS : S g) (o n c : Nat) (h1 : o + n ≤ N) (h2 : n ≤ c) (h3 : c ≤ 9223372036854775807) :
    RBP w S (.slice (some ⟨g, o, none⟩) n c) ((List.range n).map fun i => f (o + i)) := by
  refine ⟨_, c, by simp, by simpa using h2, h3, fun _ => ⟨g, o, rfl, hS, fun i b hb => ?_⟩⟩
  have hi : i < n := by
    rcases Nat.lt_or_ge i n with hi | hi
    · exact hi
    · rw [List.getElem?_eq_none (by simpa using hi)] at hb; cases hb
  rw [h.bya_cell (by omega)]
  simp only [List.getElem?_map, List.getElem?_range hi, Option.map_some, Option.some.injEq] at hb
  rw [hb]

/-- The splice as a function. -/
theorem splice_bya (N : Nat) (f : Nat → UInt8) (o : Nat) (l : List UInt8) (h : o + l.length ≤ N) :
    ((bya N f).toList.take o ++ bv l ++ (bya N f).toList.drop (o + l.length)).toArray = bya N (ov f o l) := by
  apply Array.toList_inj.1
  rw [bya_list, bya_list]
  simp only [bv, ← List.map_take, ← List.map_drop, ← List.map_append]
  congr 1
  apply List.ext_getElem?
  intro i
  rw [List.getElem?_append, List.getElem?_append]
  simp only [List.length_append, List.length_take, List.length_map, List.length_range]
  rw [show min o N = o by omega]
  by_cases h1 : i < o
  · rw [if_pos (by omega), if_pos h1]
    simp only [List.getElem?_map, List.getElem?_take, if_pos h1, List.getElem?_range (show i < N by omega), Option.map_some]
    unfold ov
    rw [if_neg (by omega)]
  · by_cases h2 : i < o + l.length
    · rw [if_pos h2, if_neg h1]
      simp only [List.getElem?_map, List.getElem?_range (show i < N by omega), Option.map_some]
      unfold ov
      rw [if_pos ⟨by omega, h2⟩, List.getElem?_eq_getElem (show i - o < l.length by omega), List.getD_eq_getElem?_getD, List.getElem?_eq_getElem (show i - o < l.length by omega)]
      rfl
    · rw [if_neg h2]
      simp only [List.getElem?_map, List.getElem?_drop]
      rw [show o + l.length + (i - (o + l.length)) = i by omega]
      by_cases h3 : i < N
      · simp only [List.getElem?_range h3, Option.map_some]
        unfold ov
        rw [if_neg (by omega)]
      · rw [List.getElem?_eq_none (by simp; omega)]; rfl

section
variable {P : Program} (w : World)
theorem run_copy_bya (dT sT ty elem : TypeId) (hu : P.underlying dT = some (.slice elem)) (hs : (P.info? elem).map (·.size) = some 1) (g o dL dC N : Nat) (t : TypeId) (f : Nat → UInt8) (hB : Blk w g t (bya N f))
    (S : Nat → Prop) (u : Value) (m : List UInt8) (hm : RBP w S u m) (hN : o + dL ≤ N) :
    (Builtin.copy_ #[dT, sT] ty #[.slice (some ⟨g, o, none⟩) dL dC, u]).run P w = .ok (goInt (m.take dL).length) (w.setRow g (bya N (ov f o (m.take dL)))) := by
  obtain ⟨A, c, rfl, h1, h2, h3⟩ := hm
  rcases Nat.eq_zero_or_pos (m.take dL).length with h0 | h0
  · have e : m.take dL = [] := List.eq_nil_of_length_eq_zero h0
    rw [e, ov_nil, setRow_self w g (bya N f) t (0, 0) hB]
    have hmin : Nat.min m.length dL = 0 := by
      have := congrArg List.length e
      rw [List.length_take] at this
      simp at this
      rcases this with h | h
      · subst h; exact Nat.min_zero _
      · subst h; exact Nat.zero_min _
    cases hq : P.info? elem with
    | none => simp [hq] at hs
    | some i =>
      have hi : i.size = 1 := by simpa [hq] using hs
      simp [Builtin.copy_, run_underlying hu, Builtin.lenOf, Builtin.firstCells, sizeOf, typeInfo, hq, hmin, loadCells, loadCellsFrom]
      cases A <;> simp [storeCells]
  · have hpos : 0 < m.length := by
      rw [List.length_take] at h0; omega
    obtain ⟨g', o', rfl, _, hc⟩ := h3 hpos
    have hlen : (bv (m.take dL)).length = Nat.min m.length dL := by rw [bv_length, List.length_take, Nat.min_comm]
    have h := run_copy_row (P := P) w dT sT ty elem g o dL dC ⟨g', o', none⟩ m.length c (bya N f) t (bv (m.take dL)) hu hs hB hlen
      (fun j v hv => by
        rw [addr_add]
        rw [bv_get] at hv
        cases hx : (m.take dL)[j]? with
        | none => simp [hx] at hv
        | some b =>
          simp [hx] at hv
          rw [← hv]
          refine hc j b ?_
          rw [List.getElem?_take] at hx
          split at hx
          · exact hx
          · cases hx)
      (by rw [bya_size, bv_length, List.length_take]; omega) (bv_one _)
    rw [h, bv_length, splice_bya N f o (m.take dL) (by rw [List.length_take]; omega)]

theorem wpList_copy_bya {w : World} {ops : Array Oper} {rest : List Oper} {op : Oper} {a : Act} {Q : Exit → Act → World → Prop} (hgd : op.guard = none) (d s : Operand) (dT sT : TypeId)
    (ho : op.op = .call { callee := .builtin .copy, args := #[d, s], argTypes := #[dT, sT] }) (elem : TypeId) (hu : P.underlying dT = some (.slice elem)) (hsz : (P.info? elem).map (·.size) = some 1)
    (g o dL dC N : Nat) (hd : a.eval d = .slice (some ⟨g, o, none⟩) dL dC) (t : TypeId) (f : Nat → UInt8) (hB : Blk w g t (bya N f))
    (S : Nat → Prop) (u : Value) (m : List UInt8) (hs : a.eval s = u) (hm : RBP w S u m) (hN : o + dL ≤ N)
    (h : wpList P ops Q rest (a.put op.dst (goInt (m.take dL).length)) (w.setRow g (bya N (ov f o (m.take dL))))) : wpList P ops Q (op :: rest) a w := by
  refine wpList_plain hgd fun K hK => ?_
  have hrun := run_copy_bya (P := P) w dT sT op.type elem hu hsz g o dL dC N t f hB S u m hm hN
  unfold Oper.wp execOp
  simp only [ho, resolve, invoke, builtin, Sem.run_bind, Sem.run_pure, Result.andThen_ok, List.map_toArray, List.map_cons, List.map_nil, hd, hs, hrun]
  exact hK _ _ h

theorem wp_copy_bya {w : World} {op : Oper} {a : Act} {K : Act → World → Prop} {Q : Exit → Act → World → Prop} (d s : Operand) (dT sT : TypeId)
    (ho : op.op = .call { callee := .builtin .copy, args := #[d, s], argTypes := #[dT, sT] }) (elem : TypeId) (hu : P.underlying dT = some (.slice elem)) (hsz : (P.info? elem).map (·.size) = some 1)
    (g o dL dC N : Nat) (hd : a.eval d = .slice (some ⟨g, o, none⟩) dL dC) (t : TypeId) (f : Nat → UInt8) (hB : Blk w g t (bya N f))
    (S : Nat → Prop) (u : Value) (m : List UInt8) (hs : a.eval s = u) (hm : RBP w S u m) (hN : o + dL ≤ N)
    (h : K (a.put op.dst (goInt (m.take dL).length)) (w.setRow g (bya N (ov f o (m.take dL))))) : op.wp P a w K Q := by
  have hrun := run_copy_bya (P := P) w dT sT op.type elem hu hsz g o dL dC N t f hB S u m hm hN
  unfold Oper.wp execOp
  simp only [ho, resolve, invoke, builtin, Sem.run_bind, Sem.run_pure, Result.andThen_ok, List.map_toArray, List.map_cons, List.map_nil, hd, hs, hrun]
  exact h
theorem wpList_copy_str {w : World} {ops : Array Oper} {rest : List Oper} {op : Oper} {a : Act} {Q : Exit → Act → World → Prop} (hgd : op.guard = none) (d s : Operand) (dT sT : TypeId)
    (ho : op.op = .call { callee := .builtin .copy, args := #[d, s], argTypes := #[dT, sT] }) (elem : TypeId) (hu : P.underlying dT = some (.slice elem)) (hsz : (P.info? elem).map (·.size) = some 1)
    (g o dL dC N : Nat) (hd : a.eval d = .slice (some ⟨g, o, none⟩) dL dC) (t : TypeId) (f : Nat → UInt8) (hB : Blk w g t (bya N f))
    (u : ByteArray) (hs : a.eval s = .string u) (hle : u.size ≤ dL) (hN : o + u.size ≤ N)
    (h : wpList P ops Q rest (a.put op.dst (goInt u.size)) (w.setRow g (bya N (ov f o u.data.toList)))) : wpList P ops Q (op :: rest) a w := by
  refine wpList_plain hgd fun K hK => ?_
  have hrun := Lib.run_copy_row_string (P := P) w dT sT op.type elem g o dL dC u (bya N f) t hu hsz hB hle (by rw [bya_size]; exact hN)
  have hb : Lib.byteCells u.data.toList = bv u.data.toList := rfl
  have hsz2 : u.size = u.data.toList.length := (Array.length_toList (xs := u.data)).symm
  rw [hb, hsz2, splice_bya N f o u.data.toList (by rw [← hsz2]; exact hN)] at hrun
  unfold Oper.wp execOp
  simp only [ho, resolve, invoke, builtin, Sem.run_bind, Sem.run_pure, Result.andThen_ok, List.map_toArray, List.map_cons, List.map_nil, hd, hs, hrun]
  rw [hsz2] at h
  exact hK _ _ h
end
theorem size_u8 : (Tryd.prog.info? 5).map (·.size) = some 1 := by kernel_rfl
end Go.Proofs.YtgpafdagealnbaaDoor
