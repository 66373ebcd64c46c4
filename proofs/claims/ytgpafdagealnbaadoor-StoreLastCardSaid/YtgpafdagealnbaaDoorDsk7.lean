/- The disk: Write. -/
import Derived.Test.YtgpafdagealnbaaDoorDsk6
import Derived.Test.YtgpafdagealnbaaDoorFill
import Derived.Test.YtgpafdagealnbaaDoorRegion4
namespace Go.Proofs.YtgpafdagealnbaaDoor
open Go.RowKit

/-! ### the literals -/
def heldA (k : Int) (b : List UInt8) : Array Value := (.int .i64 k :: bv b).toArray
theorem built_held0 (parts : List (Nat × Value)) : Tryd.prog.built 92 parts = Instr.fill (#[(0, 1), (1, 64)][·]?) (heldA 0 (List.replicate 64 0)) parts := by kernel_rfl
theorem built_held (k : Int) (b : List UInt8) (hb : b.length = 64) : Tryd.prog.built 92 [(0, .int .i64 k), (1, .agg (bv b).toArray)] = some (heldA k b) := by
  have hbl : (bv b).length = 64 := by rw [bv_length, hb]
  rw [built_held0]
  have hzl : (bv (List.replicate 64 0)).length = 64 := by rw [bv_length, List.length_replicate]
  unfold heldA
  generalize bv (List.replicate 64 0) = z at *
  rw [fill_one _ _ _ _ _ 0 1 rfl rfl (by simp), fill_one _ _ _ _ _ 1 64 rfl (by simpa [Value.cells] using hbl) (by simp [hzl, Value.cells])]
  unfold Instr.fill
  simp [Value.cells, hzl]
theorem build_held (k : Int) (b : List UInt8) (hb : b.length = 64) (W : World) : (Instr.build 92 #[(0, .int .i64 k), (1, .agg (bv b).toArray)]).run Tryd.prog W = .ok (.agg (heldA k b)) W :=
  run_build W 92 _ _ (built_held k b hb)
theorem info_held : (Tryd.prog.info? 92).map (fun i => (i.zero, i.size, i.bytes)) = some (some (.agg (heldA 0 (List.replicate 64 0))), 65, 72) := by kernel_rfl
theorem buildSlice_held (k : Int) (b : List UInt8) (hb : b.length = 64) (W : World) : (Instr.buildSlice 55 1 #[(0, .agg (heldA k b))]).run Tryd.prog W = .ok (.slice (some ⟨W.heap.size, 0, none⟩) 1 1) (W.alloc (.cells (heldA k b) 92)) := by
  have hbl : (bv b).length = 64 := by rw [bv_length, hb]
  have hi := info_held
  cases hq : Tryd.prog.info? 92 with
  | none => rw [hq] at hi; cases hi
  | some ie =>
    rw [hq] at hi
    simp only [Option.map_some, Option.some.injEq, Prod.mk.injEq] at hi
    obtain ⟨h1, h2, h3⟩ := hi
    generalize heldA 0 (List.replicate 64 0) = z at *
    refine run_buildSlice W 55 92 1 _ _ ie _ Tryd.underlying55 hq h1 (by rw [h2]; decide) (by rw [h2]; decide) ?_
    rw [fill_one _ _ _ _ _ 0 65 (by simp [h2]) (by simp [Value.cells, heldA, hbl]) (by simp [h2])]
    unfold Instr.fill
    rw [h2]
    simp only [Value.cells, List.take_zero, List.nil_append, Nat.zero_add, Nat.one_mul]
    rw [List.drop_of_length_le (by simp), List.append_nil, Array.toArray_toList]

def Dsk.hold (D : Dsk) (k : Nat) (b : List UInt8) : Dsk := { D with held := D.held ++ [(k, b)] }
def Dsk.writeE (D : Dsk) (k : Int) (b : List UInt8) : Int := if D.atE k ≠ 0 then D.atE k else if b.length ≠ 64 then 1 else if D.goes then 60 else 0
def Dsk.write (D : Dsk) (k : Int) (b : List UInt8) : Dsk :=
  if D.atE k ≠ 0 then D else if b.length ≠ 64 then D else if D.goes then ((D.hold k.toNat b).stroke).lose D.choice else (D.hold k.toNat b).stroke
theorem keeps_helds (w : World) {o : Oper} (n : Nat) (hn : n = 1) (parts : Array (Nat × Operand)) (ho : o.op = .buildSlice 55 n parts) : Keeps Tryd.prog (fun W => ∃ x : Ext w, W = x.val) o := by
  subst hn
  intro a W hW
  obtain ⟨x, rfl⟩ := hW
  have hi := info_held
  cases hq : Tryd.prog.info? 92 with
  | none => rw [hq] at hi; cases hi
  | some ie =>
    rw [hq] at hi
    simp only [Option.map_some, Option.some.injEq, Prod.mk.injEq] at hi
    obtain ⟨h1, h2, h3⟩ := hi
    generalize heldA 0 (List.replicate 64 0) = z at *
    unfold execOp
    simp only [ho]
    generalize (parts.map fun x => (x.1, a.eval x.2)) = ps
    simp [Instr.buildSlice, run_underlying Tryd.underlying55, sizeOf, typeInfo, zeroValue, hq, h1, h2, newRow]
    split
    · simp [keepsUpon]
      exact ⟨⟨_, x.nb.alloc _⟩, rfl⟩
    · simp [keepsUpon]

/-- The literals as the walk meets them. -/
def buildHeld (ps : Array (Nat × Value)) : Sem Value := Instr.build 92 ps
def buildHelds (n : Nat) (ps : Array (Nat × Value)) : Sem Value := Instr.buildSlice 55 n ps
theorem buildHeld_is (ps : Array (Nat × Value)) : Instr.build 92 ps = buildHeld ps := rfl
theorem buildHelds_is (n : Nat) (ps : Array (Nat × Value)) : Instr.buildSlice 55 n ps = buildHelds n ps := rfl
theorem buildHeld_run (k : Int) (b : List UInt8) (hb : b.length = 64) (W : World) : (buildHeld #[(0, .int .i64 k), (1, .agg (bv b).toArray)]).run Tryd.prog W = .ok (.agg (heldA k b)) W := build_held k b hb W
theorem buildHelds_run (k : Int) (b : List UInt8) (hb : b.length = 64) (W : World) : (buildHelds 1 #[(0, .agg (heldA k b))]).run Tryd.prog W = .ok (.slice (some ⟨W.heap.size, 0, none⟩) 1 1) (W.alloc (.cells (heldA k b) 92)) := buildSlice_held k b hb W
attribute [local go_sem ↓] buildHeld_is buildHelds_is
attribute [local go_sem] buildHeld_run buildHelds_run
set_option maxRecDepth 100000 in
set_option maxHeartbeats 1000000 in
theorem dwrite_any {F : Nat → Prop} {w : World} {d : Nat} {D : Dsk} (h : DRep F w d D) (hfew : D.held.length < 1000000) (k : Int) (v : Value) (b : List UInt8) (hv : RBP w (fun g => g < w.heap.size ∧ ¬ F g) v b) :
    Calls Tryd.prog 52 #[dptr d, .int .i64 k, v] w fun e w' => e = .returned (.int .i64 (D.writeE k b)) ∧ DGo F w d (D.write k b) w' := by
  obtain ⟨sb, hv1, cv, h⟩ := h
  have hB := h.bd
  have hw := h.wf
  obtain ⟨A, c, rfl, q1, q2, q3⟩ := id hv
  go_enter Tryd.func52, Tryd.ntmps52
  go_wp2_with fail
  refine (dat_any h.rep k).mono ?_
  rintro e w1 ⟨rfl, rfl⟩
  by_cases he : D.atE k = 0
  · rw [he]
    by_cases hl : b.length = 64
    · obtain ⟨g, o, rfl, ⟨hgl, hgF⟩, hc⟩ := q3 (by omega)
      have hE : ∀ e, D.writeE k b = e ↔ (if D.goes then 60 else 0) = e := fun e => by simp [Dsk.writeE, he, hl]
      have hW : D.write k b = if D.goes then ((D.hold k.toNat b).stroke).lose D.choice else (D.hold k.toNat b).stroke := by simp [Dsk.write, he, hl]
      obtain ⟨k, rfl, hkn⟩ : ∃ kn : Nat, k = kn ∧ kn < D.n := by
        unfold Dsk.atE at he
        split at he
        · cases he
        · split at he
          · cases he
          · exact ⟨k.toNat, by omega, by omega⟩
      have hra : w.rangeAt g o (bv b) := fun j u hu => by
        rw [bv_get] at hu
        cases hb : b[j]? with
        | none => rw [hb] at hu; cases hu
        | some x => rw [hb] at hu; simp at hu; rw [← hu]; exact hc j x hb
      have hd1 : decide ((b.length : Int) = 64) = true := by simp; omega
      simp only [dcells] at hB
      have c0 := hB.cell 0
      have c1 := hB.cell 1
      have c2 := hB.cell 2
      have c3 := hB.cell 3
      have c4 := hB.cell 4
      have c5 := hB.cell 5
      have c6 := hB.cell 6
      clear hc q3
      have hi : (Tryd.prog.info? 59).map (·.size) = some (bv b).length := by rw [bv_length, hl]; exact size_sector
      have harr : ∀ (W : World), (Instr.arrayAt 59 (.slice (some ⟨g, o, none⟩) 64 c)).run Tryd.prog W = .ok (.pointer (some ⟨g, o, none⟩)) W := fun W => by simp [Instr.arrayAt, run_underlying Tryd.underlying59]
      have hS0 : w.cell? ⟨d, 1, none⟩ = some hv1 := c1
      go_wp2
      have hone : ∀ u ∈ (Value.int .i64 k :: bv b), u.oneCell' = true := fun u hu => by
        rcases List.mem_cons.1 hu with rfl | hu
        · rfl
        · exact bv_one b u hu
      have hcx : ∀ x : Ext w, x.val.cell? ⟨d, 1, none⟩ = some hv1 := fun x => (Ext.cell x _ (by rw [hS0]; rfl)).trans hS0
      refine wp_region_start (by kernel_rfl) 15 rfl ?_
      refine wpAny_take (i := 0) (v := dptr d) (fuel := 14) rfl (by kernel_rfl) (by kernel_rfl) (by kernel_rfl) (fun _ _ _ h => h) (Or.inl ⟨rfl, fun _ => rfl⟩) ?_
      refine wpAny_take (i := 1) (v := dptr d) (fuel := 13) rfl (by kernel_rfl) (by kernel_rfl) (by kernel_rfl) (fun _ _ _ h => h) (Or.inl ⟨rfl, fun _ => rfl⟩) ?_
      refine wpAny_take (i := 2) (v := dptr d) (fuel := 12) rfl (by kernel_rfl) (by kernel_rfl) (by kernel_rfl) (fun _ _ _ h => h) (Or.inl ⟨rfl, fun _ => rfl⟩) ?_
      simp only [Act.put, List.setIfInBounds_toArray]
      refine wpAny_take (i := 3) (v := .pointer (some ⟨d, 1, none⟩)) (fuel := 11) rfl (by kernel_rfl) (by kernel_rfl) (by kernel_rfl) (fun _ _ _ h => h) (Or.inl ⟨rfl, fun _ => by go_simp⟩) ?_
      refine wpAny_take (i := 5) (v := .int .i64 k) (fuel := 10) rfl (by kernel_rfl) (by kernel_rfl) (by kernel_rfl) (fun _ _ _ h => h) (Or.inl ⟨rfl, fun _ => rfl⟩) ?_
      refine wpAny_take (i := 6) (v := .slice (some ⟨g, o, none⟩) 64 c) (fuel := 9) rfl (by kernel_rfl) (by kernel_rfl) (by kernel_rfl) (fun _ _ _ h => h) (Or.inl ⟨rfl, fun _ => rfl⟩) ?_
      simp only [Act.put]
      refine wpAny_takeIn (i := 4) (v := hv1) (fuel := 8) (S := fun W => ∃ x : Ext w, W = x.val) rfl (by kernel_rfl) (by kernel_rfl) (by kernel_rfl) (fun _ _ _ h => h) [7, 8, 9, 10] (by kernel_rfl) ?hkeep (ext_drew w) (Or.inl ⟨rfl, fun W hW => by obtain ⟨x, rfl⟩ := hW; have hc1 := hcx x; go_simp⟩) ?_
      case hkeep =>
        intro j hj oj hoj
        simp only [List.mem_cons, List.not_mem_nil, or_false] at hj
        rcases hj with rfl | rfl | rfl | rfl <;> (have hoj' := Option.some.inj hoj; subst hoj')
        · exact keeps_look (fun ρ => Instr.arrayAt 59 (ρ _)) (fun _ => rfl) fun _ => arrayAt_looks _ _
        · exact keeps_look (fun ρ => Instr.loadAt 59 (ρ _)) (fun _ => rfl) fun _ => loadAt_looks _ _
        · exact keeps_look (fun ρ => Instr.build 92 (Array.map (fun (x : Nat × Operand) => (x.1, ρ x.2)) _)) (fun _ => rfl) fun _ => build_looks _ _
        · exact keeps_helds w 1 rfl _ rfl
      refine wpAny_seq_drop 7 rfl (by kernel_rfl) ?_
      simp only [List.drop_succ_cons, List.drop_zero, Act.put]
      have h1 : DRepA F w.drew d D sb hv1 cv := h.keep (Nat.le_refl _) fun _ _ => rfl
      have hra1 : w.drew.rangeAt g o (bv b) := by simpa using hra
      have hn1 : NB w w.drew := (NB.refl w).drew
      clear hcx hra hS0 c0 c1 c2 c3 c4 c5 c6
      have hgl' : g < w.drew.heap.size := hgl
      generalize w.drew = w1 at *
      have h2 : DRepA F (w1.alloc (.cells (heldA k b) 92)) d D sb hv1 cv := h1.keep (by simp) fun j hj => Below.heap_alloc _ _ _ (h1.lt j hj)
      have hrv : RV (w1.alloc (.cells (heldA k b) 92)) (w1.heap.size + 1) 65 (.slice (some ⟨w1.heap.size, 0, none⟩) 1 1) 1 (.int .i64 k :: bv b) := by
        refine ⟨_, _, rfl, by omega, by omega, by simp [bv_length, hl], fun _ => ⟨_, _, rfl, by omega, fun j u hu => ?_⟩⟩
        rw [Nat.zero_add]
        exact (Blk.cell (t := 92) (Blk.newAt rfl) j).trans (by simpa [heldA] using hu)
      go_wp2_with (first
        | (refine wpList_load_mid rfl 59 _ rfl g o rfl (bv b) _ hra1 Tryd.underlying59 rfl hi ?_)
        | (at_builtin; refine wpList_append_rv _ rfl _ _ 55 rfl 0 92 _ 65 72 Tryd.underlying55 info_held rfl (by decide) hv1 D.held.length _ rfl h2.hh (w1.heap.size + 1) 1 _ _ rfl hrv hone (by omega) (by decide) (Nat.zero_le _) ?_)
        | fail)
      intro v' w2 ho hg hx
      have hB2 : Blk w2 d 57 _ := h2.bd.grown hg fun e => (h.ne.2.1 d e.symm).1 rfl
      have hBs2 : Blk w2 sb 59 _ := h2.bs.grown hg fun e => (h.ne.2.1 sb e.symm).2 rfl
      have hc2 := own_below (w' := w2) h2.hc fun j e => hg.block j (h2.lt j (h2.fc j e)) (h.ne.2.2 j e).2.2
      have hfr2 : Fr w.heap.size F w w2 := Fr.grown (((Fr.refl w.heap.size F w).nb (Nat.le_refl _) hn1).alloc hn1.size _) hg (Nat.le_trans hn1.size (by simp)) (fun j e => .inl (h.fh j e))
      have hnd : ∀ j, v'.ownBlock = some j → j ≠ d := fun j e e2 => own_ne ho hB2 (by decide) (by rw [e, e2])
      obtain ⟨A', c', rfl⟩ := own_form ho
      have h3 : DRepA (fun j => F j ∨ (Value.slice A' (D.held.length + 1) c').ownBlock = some j) (w2.setCell ⟨d, 1, none⟩ (.slice A' (D.held.length + 1) c')) d (D.hold k b) sb (.slice A' (D.held.length + 1) c') cv :=
        { wf := ⟨hw.n1, hw.n2, (fun x hx => by
              rcases List.mem_append.1 hx with hx | hx
              · exact hw.held x hx
              · rw [List.mem_singleton] at hx
                subst hx
                exact ⟨hkn, hl⟩), by simp [Dsk.hold]; omega, hw.choice, hw.l1, hw.l2⟩
          fd := .inl h.fd, fs := .inl h.fs, fh := fun j e => .inr e, fc := fun j e => .inl (h.fc j e)
          lt := fun j hj => by
            rw [heap_len]
            rcases hj with hj | hj
            · exact Nat.lt_of_lt_of_le (h2.lt j hj) hg.size
            · exact (ho.lt j hj).2
          bd := hB2.setCell_is rfl, bs := (heap_far h.ne.1).trans hBs2
          hh := by
            have := own_below (w' := w2.setCell ⟨d, 1, none⟩ (.slice A' (D.held.length + 1) c')) ho fun j e => heap_far (hnd j e)
            simpa [Dsk.hold, hcells_append, hcells_cons, hcells_nil] using this
          hc := own_below hc2 fun j e => heap_far (h.ne.2.2 j e).1 }
      have hfr3 : Fr w.heap.size F w (w2.setCell ⟨d, 1, none⟩ (.slice A' (D.held.length + 1) c')) := hfr2.setCell (p := ⟨d, 1, none⟩) (.inl h.fd) _
      have hF3 : ∀ j, (F j ∨ (Value.slice A' (D.held.length + 1) c').ownBlock = some j) → F j ∨ w.heap.size ≤ j := fun j hj => by
        rcases hj with hj | hj
        · exact .inl hj
        · rcases hx with e | ⟨q, e, hq⟩
          · exact .inl (h.fh j (e ▸ hj))
          · rw [e] at hj
            injection hj with hj
            subst hj
            exact .inr (Nat.le_trans hn1.size (Nat.le_trans (by simp) hq))
      have f0 := hB2.frozen 1
      have c0 := hB2.cell 0
      have c1 := hB2.cell 1
      have c2 := hB2.cell 2
      have c3 := hB2.cell 3
      have c4 := hB2.cell 4
      have c5 := hB2.cell 5
      have c6 := hB2.cell 6
      clear hx
      go_wp2_with fail
      refine NoPanic.normal ?_
      generalize w2.setCell ⟨d, 1, none⟩ (.slice A' (D.held.length + 1) c') = w3 at *
      obtain ⟨F3, hF3, h3⟩ : ∃ F3 : Nat → Prop, (∀ j, F3 j → F j ∨ w.heap.size ≤ j) ∧ DRepA F3 w3 d (D.hold k b) sb (.slice A' (D.held.length + 1) c') cv := ⟨_, hF3, h3⟩
      clear c0 c1 c2 c3 c4 c5 c6 f0 hB2 hBs2 hc2 hfr2 ho hg hnd
      go_wp2_with fail
      refine (dgoes_any h3).mono ?_
      rintro e w4 ⟨rfl, h4, hf4⟩
      have hgo' : (D.hold k b).goes = D.goes := rfl
      rw [hgo']
      cases hgo : D.goes
      · go_wp2
        go_ret
        rw [(hE 0).2 (by rw [hgo]; rfl), hW, hgo]
        exact ⟨rfl, DGo.of hF3 hfr3 ⟨F3, h4.rep, fun j hj => .inl hj, hf4⟩⟩
      · have hB4 := h4.bd
        simp only [dcells] at hB4
        have d0 := hB4.cell 0
        have d1 := hB4.cell 1
        have d2 := hB4.cell 2
        have d3 := hB4.cell 3
        have d4 := hB4.cell 4
        have d5 := hB4.cell 5
        have d6 := hB4.cell 6
        go_wp2_with fail
        refine (dlose_any h4 cv D.choice h.wf.choice ((own_bp h4.hc).mono fun j e => ⟨h4.lt j (h4.fc j e), (h4.ne.2.2 j e).2.1⟩)).mono ?_
        rintro e w5 ⟨rfl, hg5⟩
        go_wp2
        go_ret
        rw [(hE 60).2 (by rw [hgo]; rfl), hW, hgo]
        exact ⟨rfl, DGo.of hF3 hfr3 (DGo.of (fun j hj => .inl hj) hf4 hg5)⟩
    · have hd1 : decide ((b.length : Int) = 64) = false := by simp; omega
      go_wp2
      go_ret
      rw [show D.writeE k b = 1 by simp [Dsk.writeE, he, hl], show D.write k b = D by simp [Dsk.write, he, hl]]
      exact ⟨rfl, h.rep.go⟩
  · have hd1 : decide (D.atE k = 0) = false := decide_eq_false he
    go_wp2
    go_ret
    rw [show D.writeE k b = D.atE k by simp [Dsk.writeE, he], show D.write k b = D by simp [Dsk.write, he]]
    exact ⟨rfl, h.rep.go⟩
end Go.Proofs.YtgpafdagealnbaaDoor
