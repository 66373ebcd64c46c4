/- Words for worlds and slices of bytes: what every walk of this seat uses. No statement of the seat is proved here. -/
import Derived.Test.YtgpafdagealnbaaDoorRows
import Derived.WalkKit
import Derived.WalkSpells
import Derived.WalkLawsBesides
import Derived.Deep.QuietTactic
import Derived.BigQuiet
import Derived.Deep.RegionHeld3
import Derived.Laws.OwnMore
import Derived.Deep.Draws
import Derived.Laws.Rows
import Derived.Laws.CopyRow
import Derived.Deep.MidRow
namespace Go.Proofs.YtgpafdagealnbaaDoor
open Go.RowKit

/-- Behind w some blocks have been laid and some orders drawn; what was there is as it was. -/
abbrev NB (w W : World) : Prop := Below w.heap.size w W

/-- A world that has grown out of w: a world and its proof. -/
structure Ext (w : World) where
  val : World
  nb : NB w val

theorem NB.ex {w W : World} (h : NB w W) : ∃ x : Ext w, W = x.val := ⟨⟨W, h⟩, rfl⟩
theorem NB.refl (w : World) : NB w w := Below.refl _ _
theorem NB.trans {a b c : World} (h : NB a b) (k : NB b c) : NB a c := Below.trans h (Below.mono k h.size)
instance (w : World) : Nonempty (Ext w) := ⟨⟨w, NB.refl w⟩⟩
theorem NB.ext {w W : World} (h : NB w W) (x : Ext W) : NB w x.val := h.trans x.nb
theorem NB.alloc {w W : World} (h : NB w W) (o : Obj) : NB w (W.alloc o) := Below.alloc h h.size o
theorem NB.drew {w W : World} (h : NB w W) : NB w W.drew := Below.drew h
theorem NB.drewN {w W : World} (h : NB w W) (n : Nat) : NB w (W.drewN n) := ⟨h.os, h.tape, h.output, h.size, h.block⟩
theorem NB.setCell {w W : World} (h : NB w W) {p : Addr} (hp : w.heap.size ≤ p.block) (u : Value) : NB w (W.setCell p u) := Below.setCell h hp u
theorem NB.grown {w W W' : World} {row : Option Nat} (h : NB w W) (hg : W.grownBy W' row) (hr : ∀ k, row = some k → w.heap.size ≤ k) : NB w W' := Below.grown h hg h.size hr

theorem NB.cell_ {w W : World} (h : NB w W) {g i : Nat} (hg : g < w.heap.size) : W.cell? ⟨g, i, none⟩ = w.cell? ⟨g, i, none⟩ := Below.cell (p := ⟨g, i, none⟩) h hg
theorem isSome_cell_lt {w : World} {a : Addr} (h : (w.cell? a).isSome = true) : a.block < w.heap.size := by
  cases hc : w.cell? a with
  | none => simp [hc] at h
  | some v => exact World.block_lt_of_cell? w a hc

@[go_sem] theorem Ext.cell {w : World} (x : Ext w) (a : Addr) (h : (w.cell? a).isSome = true) : x.val.cell? a = w.cell? a :=
  x.nb.cell (isSome_cell_lt h)
@[go_sem] theorem Ext.frozen {w : World} (x : Ext w) (a : Addr) (h : (w.cell? a).isSome = true) : x.val.frozen? a = w.frozen? a :=
  x.nb.frozen (isSome_cell_lt h)
@[go_sem] theorem cell_alloc_is {w : World} (o : Obj) (a : Addr) (h : (w.cell? a).isSome = true) : (w.alloc o).cell? a = w.cell? a :=
  World.cell?_alloc_lt w o a (isSome_cell_lt h)
@[go_sem] theorem frozen_alloc_is {w : World} (o : Obj) (a : Addr) (h : (w.cell? a).isSome = true) : (w.alloc o).frozen? a = w.frozen? a :=
  World.frozen?_alloc_old w o a (Nat.ne_of_lt (isSome_cell_lt h))
theorem Ext.size {w : World} (x : Ext w) : w.heap.size ≤ x.val.heap.size := x.nb.size
theorem Ext.block {w : World} (x : Ext w) {k : Nat} (h : k < w.heap.size) : x.val.heap[k]? = w.heap[k]? := x.nb.block k h

/-- Bytes as cells. -/
def bv (l : List UInt8) : List Value := l.map fun b => .int .u8 (b.toNat : Int)
theorem bv_length (l : List UInt8) : (bv l).length = l.length := by simp [bv]
theorem bv_append (l m : List UInt8) : bv (l ++ m) = bv l ++ bv m := by simp [bv]
theorem bv_get (l : List UInt8) (i : Nat) : (bv l)[i]? = (l[i]?).map fun b => .int .u8 (b.toNat : Int) := by simp [bv]

/-- Block g holds just the cells cs of type t. -/
def Blk (w : World) (g : Nat) (t : TypeId) (cs : Array Value) : Prop := w.heap[g]? = some (.cells cs t (0, 0))

section
variable {w : World} {g : Nat} {t : TypeId} {cs : Array Value}
theorem Blk.lt (h : Blk w g t cs) : g < w.heap.size := by
  rcases Nat.lt_or_ge g w.heap.size with hlt | hge
  · exact hlt
  · unfold Blk at h; rw [Array.getElem?_eq_none hge] at h; cases h
theorem Blk.cell (h : Blk w g t cs) (i : Nat) : w.cell? ⟨g, i, none⟩ = cs[i]? := cell_of_row w g i cs t (0, 0) h
theorem Blk.frozen (h : Blk w g t cs) (i : Nat) : w.frozen? ⟨g, i, none⟩ = false := by
  unfold Blk at h; simp [World.frozen?, h]
theorem Blk.new (w : World) (t : TypeId) (cs : Array Value) : Blk (w.alloc (.cells cs t)) w.heap.size t cs := heap_alloc_new w _
theorem Blk.newAt {w : World} {n : Nat} {t : TypeId} {cs : Array Value} (hn : n = w.heap.size) : Blk (w.alloc (.cells cs t)) n t cs := by subst hn; exact heap_alloc_new w _
theorem Blk.drewN (h : Blk w g t cs) (n : Nat) : Blk (w.drewN n) g t cs := h
theorem Blk.alloc (h : Blk w g t cs) (o : Obj) : Blk (w.alloc o) g t cs := (Below.heap_alloc w o g h.lt).trans h
theorem Blk.ext (h : Blk w g t cs) (x : Ext w) : Blk x.val g t cs := (x.block h.lt).trans h
theorem Blk.set_ (h : Blk w g t cs) (i : Nat) (u : Value) : Blk (w.setCell ⟨g, i, none⟩ u) g t (cs.setIfInBounds i u) := by
  unfold Blk at h ⊢
  simp [World.setCell, Array.getElem?_modify, h]
theorem Blk.far (h : Blk w g t cs) {p : Addr} (hp : g ≠ p.block) (u : Value) : Blk (w.setCell p u) g t cs := (Below.heap_setCell w p u g hp).trans h
theorem Blk.ne_ {g' : Nat} {t' : TypeId} {cs' : Array Value} (h : Blk w g t cs) (h' : Blk w g' t' cs') (hne : t ≠ t') : g ≠ g' := by
  rintro rfl
  unfold Blk at h h'
  rw [h] at h'
  injection h' with h'
  injection h' with _ ht
  exact hne ht
end

/-- The value v is a slice that reads in w as the bytes l; its cells lie in a block that S lets in. -/
def RBP (w : World) (S : Nat → Prop) (v : Value) (l : List UInt8) : Prop :=
  ∃ A c, v = .slice A l.length c ∧ l.length ≤ c ∧ c ≤ 9223372036854775807 ∧
    (0 < l.length → ∃ g o, A = some ⟨g, o, none⟩ ∧ S g ∧ ∀ i b, l[i]? = some b → w.cell? ⟨g, o + i, none⟩ = some (.int .u8 (b.toNat : Int)))
/-- .. below block B. -/
def RB (w : World) (B : Nat) (v : Value) (l : List UInt8) : Prop := RBP w (fun k => k < B) v l

theorem RBP.keep {w w' : World} {S : Nat → Prop} {v : Value} {l : List UInt8} (h : RBP w S v l) (hk : ∀ g o, S g → w'.cell? ⟨g, o, none⟩ = w.cell? ⟨g, o, none⟩) : RBP w' S v l := by
  obtain ⟨A, c, e, h1, h2, h3⟩ := h
  refine ⟨A, c, e, h1, h2, fun hl => ?_⟩
  obtain ⟨g, o, hA, hg, hc⟩ := h3 hl
  exact ⟨g, o, hA, hg, fun i b hb => (hk _ _ hg).trans (hc i b hb)⟩
theorem RBP.mono {w : World} {S S' : Nat → Prop} {v : Value} {l : List UInt8} (h : RBP w S v l) (hS : ∀ g, S g → S' g) : RBP w S' v l := by
  obtain ⟨A, c, e, h1, h2, h3⟩ := h
  refine ⟨A, c, e, h1, h2, fun hl => ?_⟩
  obtain ⟨g, o, hA, hg, hc⟩ := h3 hl
  exact ⟨g, o, hA, hS g hg, hc⟩
/-- What is read lies in blocks that are there. -/
theorem RBP.there {w : World} {S : Nat → Prop} {v : Value} {l : List UInt8} (h : RBP w S v l) : RBP w (fun k => S k ∧ k < w.heap.size) v l := by
  obtain ⟨A, c, e, h1, h2, h3⟩ := h
  refine ⟨A, c, e, h1, h2, fun hl => ?_⟩
  obtain ⟨g, o, hA, hg, hc⟩ := h3 hl
  exact ⟨g, o, hA, ⟨hg, World.block_lt_of_cell? w _ (hc 0 l[0] (by simp [hl]))⟩, hc⟩
theorem RBP.nb {w W : World} {S : Nat → Prop} {v : Value} {l : List UInt8} (h : RBP w S v l) (hn : NB w W) : RBP W S v l :=
  (h.there.keep fun _ _ hg => hn.cell_ hg.2).mono fun _ hg => hg.1
theorem RBP.nil (w : World) (S : Nat → Prop) : RBP w S (.slice none 0 0) [] := ⟨none, 0, rfl, by simp, by omega, fun h => by simp at h⟩
theorem RB.keep {w w' : World} {B : Nat} {v : Value} {l : List UInt8} (h : RB w B v l) (hk : ∀ g o, g < B → w'.cell? ⟨g, o, none⟩ = w.cell? ⟨g, o, none⟩) : RB w' B v l := RBP.keep h hk
theorem RB.more {w : World} {B B' : Nat} {v : Value} {l : List UInt8} (h : RB w B v l) (hB : B ≤ B') : RB w B' v l := RBP.mono h fun _ hg => by omega
theorem RB.below {w w' : World} {B : Nat} {v : Value} {l : List UInt8} (h : RB w B v l) (hb : Below B w w') : RB w' B v l :=
  h.keep fun _ _ hg => hb.cell hg
theorem RB.nil (w : World) (B : Nat) : RB w B (.slice none 0 0) [] := RBP.nil w _
/-- What is read lies below the heap's size. -/
theorem RB.size {w : World} {B : Nat} {v : Value} {l : List UInt8} (h : RB w B v l) : RB w w.heap.size v l := RBP.mono (RBP.there h) fun _ hg => hg.2


theorem ret_int {k : IntKind} {a b : Int} (h : a = b) : Ending.returned (.int k a) = .returned (.int k b) := by rw [h]

/-- n cells by their numbers. -/
def arr (n : Nat) (f : Nat → Value) : Array Value := ((List.range n).map f).toArray
theorem arr_size (n : Nat) (f : Nat → Value) : (arr n f).size = n := by simp [arr]
theorem arr_get {n : Nat} (f : Nat → Value) {i : Nat} (h : i < n) : (arr n f)[i]? = some (f i) := by
  simp [arr, List.getElem?_range h]
theorem arr_congr {n : Nat} {f g : Nat → Value} (h : ∀ i, i < n → f i = g i) : arr n f = arr n g := by
  unfold arr
  congr 1
  exact List.map_congr_left fun i hi => h i (List.mem_range.1 hi)
theorem arr_set {n : Nat} (f : Nat → Value) (i : Nat) (v : Value) : (arr n f).setIfInBounds i v = arr n (fun j => if j = i then v else f j) := by
  apply Array.ext_getElem?
  intro j
  rw [Array.getElem?_setIfInBounds]
  by_cases hj : j < n
  · rw [arr_get _ hj, arr_get _ hj, arr_size]
    by_cases e : i = j
    · subst e; simp [hj]
    · simp [e, Ne.symm e]
  · rw [Array.getElem?_eq_none (by rw [arr_size]; omega), Array.getElem?_eq_none (by rw [arr_size]; omega), arr_size]
    simp only [ite_eq_right_iff]
    intro e
    subst e
    simp [hj]
theorem Blk.arr_cell {w : World} {g : Nat} {t : TypeId} {n : Nat} {f : Nat → Value} (h : Blk w g t (arr n f)) {i : Nat} (hi : i < n) : w.cell? ⟨g, i, none⟩ = some (f i) := by
  rw [h.cell, arr_get _ hi]

/-! ### Whole arrays -/
theorem NB.setRow {w W : World} (h : NB w W) {g : Nat} (hg : w.heap.size ≤ g) (cs : Array Value) : NB w (W.setRow g cs) :=
  ⟨h.os, h.tape, h.output, by rw [size_setRow]; exact h.size, fun k hk => (setRow_other W g k cs (by omega)).trans (h.block k hk)⟩
theorem Blk.setRow {w : World} {g : Nat} {t : TypeId} {cs : Array Value} (h : Blk w g t cs) (cs' : Array Value) : Blk (w.setRow g cs') g t cs' := setRow_heap w g cs cs' t (0, 0) h
theorem Blk.setRow_far {w : World} {g g' : Nat} {t : TypeId} {cs : Array Value} (h : Blk w g t cs) (hne : g ≠ g') (cs' : Array Value) : Blk (w.setRow g' cs') g t cs := (setRow_other w g' g cs' hne).trans h

section
variable {P : Program}
theorem run_storeVar_blk (w : World) (g : Nat) (ty t : TypeId) (cs cs' : Array Value) (hB : Blk w g t cs) (hs : cs'.size = cs.size) (hi : (P.info? ty).map (·.size) = some cs'.size)
    (h1 : ∀ v ∈ cs', v.oneCell' = true) : (storeVar ty ⟨g, 0, none⟩ (.agg cs')).run P w = .ok () (w.setRow g cs') := by
  have h := run_storeCells_at P g 0 t cs'.toList 0 cs w hB (by simp [hs]) (fun v hv => h1 v (by simpa using hv))
  cases hq : P.info? ty with
  | none => simp [hq] at hi
  | some i =>
    have hsz : cs'.size = i.size := by simp [hq] at hi; omega
    simp [storeVar, sizeOf, typeInfo, hq, Value.cells, hsz]
    have e : (cs.toList.take 0 ++ cs'.toList ++ cs.toList.drop (0 + cs'.toList.length)).toArray = cs' := by
      simp [List.drop_eq_nil_of_le, hs]
    simpa [List.drop_eq_nil_of_le, hs] using h

theorem wp_store_blk {op : Oper} {a : Act} {w : World} {K : Act → World → Prop} {Q : Exit → Act → World → Prop} (ty : TypeId) (x y : Operand) (ho : op.op = .store ty x y)
    (g : Nat) (cs' : Array Value) (hx : a.eval x = .pointer (some ⟨g, 0, none⟩)) (hy : a.eval y = .agg cs') (t : TypeId) (cs : Array Value)
    (hB : Blk w g t cs) (hs : cs'.size = cs.size) (hi : (P.info? ty).map (·.size) = some cs'.size) (h1 : ∀ v ∈ cs', v.oneCell' = true)
    (h : K (a.put op.dst undef) (w.setRow g cs')) : op.wp P a w K Q := by
  unfold Oper.wp execOp
  simp only [ho, hx, hy, Instr.storeAt, Instr.sureAddr, Sem.run_bind, Sem.run_pure, Result.andThen_ok, run_storeVar_blk w g ty t cs cs' hB hs hi h1]
  exact h

theorem wpList_store_blk {ops : Array Oper} {rest : List Oper} {op : Oper} {a : Act} {w : World} {Q : Exit → Act → World → Prop} (hgd : op.guard = none) (ty : TypeId) (x y : Operand) (ho : op.op = .store ty x y)
    (g : Nat) (cs' : Array Value) (hx : a.eval x = .pointer (some ⟨g, 0, none⟩)) (hy : a.eval y = .agg cs') (t : TypeId) (cs : Array Value)
    (hB : Blk w g t cs) (n : Nat) (hn' : cs'.size = n) (hn : cs.size = n) (hi : (P.info? ty).map (·.size) = some n) (h1 : ∀ v ∈ cs', v.oneCell' = true)
    (h : wpList P ops Q rest (a.put op.dst undef) (w.setRow g cs')) : wpList P ops Q (op :: rest) a w :=
  wpList_plain hgd fun _ hK => wp_store_blk ty x y ho g cs' hx hy t cs hB (hn'.trans hn.symm) (hn' ▸ hi) h1 (hK _ _ h)

theorem wpList_load_blk {ops : Array Oper} {rest : List Oper} {o : Oper} {a : Act} {w : World} {Q : Exit → Act → World → Prop} (hgd : o.guard = none) (ty : TypeId) (x : Operand) (ho : o.op = .load ty x)
    (g : Nat) (hx : a.eval x = .pointer (some ⟨g, 0, none⟩)) (t : TypeId) (cs : Array Value) (d : TypeDesc) (hg : Blk w g t cs)
    (hu : P.underlying ty = some d) (hd : (match d with | .struct _ | .array _ _ => true | _ => false) = true) (n : Nat) (hn : cs.size = n) (hi : (P.info? ty).map (·.size) = some n)
    (h : wpList P ops Q rest (a.put o.dst (.agg cs)) w) : wpList P ops Q (o :: rest) a w :=
  wpList_load_row hgd ty x ho g hx t cs (0, 0) d hg hu hd (hn ▸ hi) h

theorem results_blk {fn : Func} {p : Tmp} {ty : TypeId} (h : fn.results = #[.cell p ty]) (tmps : Array Value) (w : World) (g : Nat) (t : TypeId) (cs : Array Value) (d : TypeDesc)
    (hp : tmps.getD p undef = .pointer (some ⟨g, 0, none⟩)) (hg : Blk w g t cs)
    (hu : P.underlying ty = some d) (hd : (match d with | .struct _ | .array _ _ => true | _ => false) = true) (n : Nat) (hn : cs.size = n) (hi : (P.info? ty).map (·.size) = some n) :
    (results fn tmps).run P w = .ok (.agg cs) w := results_cell_row h tmps w g t cs (0, 0) d hp hg hu hd (hn ▸ hi)
end


theorem setRow_alloc (w : World) (t : TypeId) (z cs : Array Value) : (w.alloc (.cells z t)).setRow w.heap.size cs = w.alloc (.cells cs t) := by
  have : (w.heap.push (Obj.cells z t)).modify w.heap.size (fun
      | .cells _ elem frozen => .cells cs elem frozen
      | o => o) = w.heap.push (Obj.cells cs t) := by
    apply Array.ext_getElem?
    intro i
    rw [Array.getElem?_modify, Array.getElem?_push, Array.getElem?_push]
    by_cases h : w.heap.size = i
    · subst h; simp
    · rw [if_neg h, if_neg (fun e => h e.symm), if_neg (fun e => h e.symm)]
  exact congrArg (fun hp => ({ w with heap := hp } : World)) this

section
variable {P : Program}
/-- 'v := <an array or a struct>': a new variable that holds it from the first. -/
theorem wpList_var_blk {ops : Array Oper} {rest : List Oper} {o1 o2 : Oper} {a : Act} {w : World} {Q : Exit → Act → World → Prop} (hg1 : o1.guard = none) (hg2 : o2.guard = none)
    (ty : TypeId) (d : Nat) (ho1 : o1.op = .alloc ty) (hd : o1.dst = some d) (y : Operand) (ho2 : o2.op = .store ty (.tmp d) y) (cs z : Array Value)
    (hx : (a.put (some d) (.pointer (some ⟨w.heap.size, 0, none⟩))).eval (.tmp d) = .pointer (some ⟨w.heap.size, 0, none⟩))
    (hy : (a.put (some d) (.pointer (some ⟨w.heap.size, 0, none⟩))).eval y = .agg cs)
    (hz : ∀ w, (zeroValue ty).run P w = .ok (.agg z) w) (n : Nat) (hn' : cs.size = n) (hn : z.size = n) (hi : (P.info? ty).map (·.size) = some n) (h1 : ∀ v ∈ cs, v.oneCell' = true)
    (h : wpList P ops Q rest ((a.put (some d) (.pointer (some ⟨w.heap.size, 0, none⟩))).put o2.dst undef) (w.alloc (.cells cs ty))) : wpList P ops Q (o1 :: o2 :: rest) a w := by
  refine wpList_plain hg1 fun K hK => ?_
  have hrun : (execOp a.eval o1).run P w = .ok (.value (.pointer (some ⟨w.heap.size, 0, none⟩))) (w.alloc (.cells z ty)) := by
    unfold execOp
    simp [ho1, Instr.alloc, hz, newVar, newRow, Value.cells, go_sem]
  unfold Oper.wp
  rw [hrun, Oper.upon_value, hd]
  refine hK _ _ ?_
  refine wpList_store_blk hg2 ty (.tmp d) y ho2 w.heap.size cs hx hy ty z (Blk.new _ _ _) n hn' hn hi h1 ?_
  rw [setRow_alloc]
  exact h
end
end Go.Proofs.YtgpafdagealnbaaDoor
