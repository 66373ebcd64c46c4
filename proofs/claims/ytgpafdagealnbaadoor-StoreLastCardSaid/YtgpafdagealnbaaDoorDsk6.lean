/- The disk: Lose, Flush. -/
import Derived.Test.YtgpafdagealnbaaDoorDsk5
namespace Go.Proofs.YtgpafdagealnbaaDoor
open Go.RowKit

/-- A slice of bools in blocks S. -/
def BP (w : World) (S : Nat → Prop) (v : Value) (l : List Bool) : Prop :=
  ∃ A c, v = .slice A l.length c ∧ l.length ≤ c ∧ c ≤ 9223372036854775807 ∧ (0 < l.length → ∃ g o, A = some ⟨g, o, none⟩ ∧ S g ∧ ∀ j b, l[j]? = some b → w.cell? ⟨g, o + j, none⟩ = some (.bool b))
theorem BP.keep {w w' : World} {S : Nat → Prop} {v : Value} {l : List Bool} (h : BP w S v l) (hk : ∀ g o, S g → w'.cell? ⟨g, o, none⟩ = w.cell? ⟨g, o, none⟩) : BP w' S v l := by
  obtain ⟨A, c, hv, h1, h2, h3⟩ := h
  refine ⟨A, c, hv, h1, h2, fun h0 => ?_⟩
  obtain ⟨g, o, hA, hS, hc⟩ := h3 h0
  exact ⟨g, o, hA, hS, fun j b hb => (hk g _ hS).trans (hc j b hb)⟩
theorem BP.mono {w : World} {S S' : Nat → Prop} {v : Value} {l : List Bool} (h : BP w S v l) (hS : ∀ g, S g → S' g) : BP w S' v l := by
  obtain ⟨A, c, hv, h1, h2, h3⟩ := h
  exact ⟨A, c, hv, h1, h2, fun h0 => let ⟨g, o, hA, hg, hc⟩ := h3 h0; ⟨g, o, hA, hS g hg, hc⟩⟩
theorem own_bp {w : World} {base : Nat} {v : Value} {l : List Bool} (h : w.ownsRow base 4 1 v l.length (l.map .bool)) : BP w (fun k => v.ownBlock = some k) v l := by
  obtain ⟨A, c, rfl⟩ := own_form h
  rcases h.2 with ⟨e, e2⟩ | ⟨g, cap, cur, e, _, hg, h1, h2, _⟩
  · injection e with e _ e3
    subst e; subst e3
    exact ⟨_, _, rfl, by omega, by omega, fun h0 => by omega⟩
  · injection e with e _ e3
    subst e; subst e3
    refine ⟨_, _, rfl, h1, by simpa [maxLen] using h2, fun _ => ⟨g, 0, rfl, rfl, fun j b hb => ?_⟩⟩
    have := h.cells rfl j (.bool b) (by simp [hb])
    rwa [addr_add] at this
theorem BP.bl {w : World} {S : Nat → Prop} {v : Value} {l : List Bool} (h : BP w S v l) : BL w v l := by
  obtain ⟨A, c, rfl, h1, h2, h3⟩ := h
  refine ⟨A, c, rfl, h1, h2, by simp, fun h0 => ?_⟩
  obtain ⟨g, o, hA, hS, hc⟩ := h3 h0
  refine ⟨g, o, hA, ?_, fun j u hu => ?_⟩
  · exact isSome_cell_lt (a := ⟨g, o + 0, none⟩) (by rw [hc 0 l[0] (by simp [h0])]; rfl)
  · rw [List.getElem?_map] at hu
    cases hb : l[j]? with
    | none => rw [hb] at hu; cases hu
    | some b => rw [hb] at hu; simp at hu; rw [← hu]; exact hc j b hb

theorem callFunc_enters {P : Program} {f : FuncId} {fn : Func} (hf : P.funcs[f]? = some fn) (hn : (fn.name == "runtime.NumGoroutine") = false) (hb : fn.body.isNone = false) (args : Array Value) (W : World) : (callFunc f args).run P W = .ok (.enter f args) W := by
  have h1 : fn.name ≠ "runtime.NumGoroutine" := by simpa using hn
  obtain ⟨c, hc⟩ : ∃ c, fn.body = some c := by
    cases h : fn.body with
    | none => rw [h] at hb; cases hb
    | some c => exact ⟨c, rfl⟩
  simp [callFunc, hf, h1, hc]
theorem dlosef_any (k : Nat) (bx : Nat) (v : Value) (S : Nat → Prop) (l : List Bool) (hl : l.length ≤ 4096) (hk : k ≤ 1000000) (w : World) (hb : w.cell? ⟨bx, 0, none⟩ = some v) (hv : BP w S v l) :
    Calls Tryd.prog 40 #[.int .i64 k, .pointer (some ⟨bx, 0, none⟩)] w fun e w' => e = .returned (.bool (l.getD k false)) ∧ w = w' := by
  obtain ⟨A, c, rfl, h1, h2, h3⟩ := hv
  go_enter Tryd.func40, Tryd.ntmps40
  by_cases hlt : k < l.length
  · obtain ⟨g, o, rfl, _, hc⟩ := h3 (by omega)
    have hcell := hc k l[k] (List.getElem?_eq_getElem hlt)
    have hd : decide ((k : Int) < (l.length : Int)) = true := by simpa using hlt
    have e : l.getD k false = l[k] := by rw [List.getD_eq_getElem?_getD, List.getElem?_eq_getElem hlt]; rfl
    rw [e]
    clear hc h3 e
    generalize l[k] = b at *
    go_wp2
    go_ret
    exact ⟨rfl, rfl⟩
  · have hd : decide ((k : Int) < (l.length : Int)) = false := by simpa using hlt
    have e : l.getD k false = false := by rw [List.getD_eq_getElem?_getD, List.getElem?_eq_none (by omega)]; rfl
    rw [e]
    go_wp2
    go_ret
    exact ⟨rfl, rfl⟩

theorem dflushf_any (k : Nat) (w : World) : Calls Tryd.prog 38 (#[.int .i64 k] ++ #[]) w fun e w' => e = .returned (.bool true) ∧ w = w' := by
  go_enter Tryd.func38, Tryd.ntmps38
  go_wp2
  go_ret
  exact ⟨rfl, rfl⟩

def Dsk.lose (D : Dsk) (l : List Bool) : Dsk := if D.down then D else { D.puts (fun k => l.getD k false) with down := true }
def Dsk.flushE (D : Dsk) : Int := if D.down then 60 else if D.goes then 60 else 0
def Dsk.flush (D : Dsk) : Dsk := if D.down then D else if D.goes then D.stroke.lose D.choice else D.stroke.puts fun _ => true

set_option maxHeartbeats 400000 in
theorem dlose_any {F : Nat → Prop} {w : World} {d : Nat} {D : Dsk} {sb : Nat} {hv cv : Value} (h : DRepA F w d D sb hv cv) (v : Value) (l : List Bool) (hl : l.length ≤ 4096) (hv : BP w (fun g => g < w.heap.size ∧ g ≠ sb) v l) :
    Calls Tryd.prog 21 #[dptr d, v] w fun e w' => e = .returned (.tuple #[]) ∧ DGo F w d (D.lose l) w' := by
  have hmf : ∀ (fn : Fn) (first cap : Array Value) (w : World), (Instr.makeFunc fn first cap).run Tryd.prog w = .ok (.func fn first cap) w := fun _ _ _ _ => rfl
  obtain ⟨A, c, rfl, q1, q2, q3⟩ := id hv
  go_enter Tryd.func21, Tryd.ntmps21
  go_wp2_with fail
  have hn1 : NB w (w.alloc (.cells #[.slice A l.length c] 46)) := (NB.refl w).alloc _
  have hK : DRepA F (w.alloc (.cells #[.slice A l.length c] 46)) d D _ _ _ := h.keep hn1.size fun k hk => hn1.block k (h.lt k hk)
  refine (dup_any hK.rep).mono ?_
  rintro e w1 ⟨rfl, rfl⟩
  cases hdn : D.down
  · have hbx : Blk (w.alloc (.cells #[.slice A l.length c] 46)) w.heap.size 46 #[.slice A l.length c] := Blk.newAt rfl
    have hcb := hbx.cell 0
    have hfb := hbx.frozen 0
    go_wp2_with fail
    refine (puts_any hK 40 #[.pointer (some ⟨w.heap.size, 0, none⟩)] (fun k => l.getD k false) (callFunc_enters Tryd.func40 (by kernel_rfl) (by kernel_rfl)) ?_).mono ?_
    · intro k W hk hF
      have hs : ∀ g o, g < w.heap.size → g ≠ _ → W.cell? ⟨g, o, none⟩ = w.cell? ⟨g, o, none⟩ := fun g o h1 h2 =>
        (hF.cell (Nat.lt_of_lt_of_le h1 hn1.size) h2).trans (NB.cell_ hn1 h1)
      have hne : w.heap.size ≠ sb := fun e => by
        have := h.lt sb h.fs
        omega
      refine dlosef_any k w.heap.size (.slice A l.length c) (fun g => g < w.heap.size ∧ g ≠ sb) l hl (Nat.le_trans (Nat.le_of_lt hk) h.wf.few) W ?_ (hv.keep fun g o hg => hs g o hg.1 hg.2)
      exact (hF.cell hbx.lt hne).trans hcb
    · rintro e w2 ⟨rfl, hgo⟩
      obtain ⟨F', ⟨sb2, hv2, cv2, h2⟩, hF', hf2⟩ := DGo.of (F := F) (w := w) (fun k hk => .inl hk) (Fr.of_below hn1) hgo
      have hB2 := h2.bd
      simp only [dcells] at hB2
      have f0 := hB2.frozen 2
      have d0 := hB2.cell 0
      have d1 := hB2.cell 1
      have d2 := hB2.cell 2
      have d3 := hB2.cell 3
      have d4 := hB2.cell 4
      have d5 := hB2.cell 5
      have d6 := hB2.cell 6
      go_wp2
      go_end0
      refine ⟨rfl, F', ⟨sb2, hv2, cv2, ?_⟩, hF', hf2.step hF' hf2.size ((Fr.refl w2.heap.size F' w2).setCell (p := ⟨d, 2, none⟩) (.inl h2.fd) _)⟩
      unfold Dsk.lose
      rw [hdn, if_neg (by decide)]
      exact h2.block heap_len (hB2.setCell_is rfl) (fun k hk => heap_far hk) rfl rfl rfl rfl h2.wf.l1 h2.wf.l2
  · go_wp2
    refine bodyPost_ret (results_none rfl _ _ _) rfl ?_
    refine ⟨rfl, ?_⟩
    unfold Dsk.lose
    rw [hdn, if_pos rfl]
    exact ⟨F, hK.rep, fun k hk => .inl hk, Fr.of_below hn1⟩

set_option maxHeartbeats 400000 in
theorem dflush_any {F : Nat → Prop} {w : World} {d : Nat} {D : Dsk} (h : DRep F w d D) :
    Calls Tryd.prog 18 #[dptr d] w fun e w' => e = .returned (.int .i64 D.flushE) ∧ DGo F w d D.flush w' := by
  obtain ⟨sb, hv, cv, h⟩ := h
  go_enter Tryd.func18, Tryd.ntmps18
  go_wp2_with fail
  refine (dready_any h.rep).mono ?_
  rintro e w1 ⟨rfl, rfl⟩
  unfold Dsk.err
  cases hdn : D.down
  · go_wp2_with fail
    refine (dgoes_any h).mono ?_
    rintro e w1 ⟨rfl, h1, hf1⟩
    cases hgo : D.goes
    · go_wp2_with fail
      refine (puts_any h1 38 #[] (fun _ => true) (callFunc_enters Tryd.func38 (by kernel_rfl) (by kernel_rfl)) fun k W _ _ => dflushf_any k W).mono ?_
      rintro e w2 ⟨rfl, hg⟩
      go_wp2
      go_ret
      rw [show D.flushE = 0 by simp [Dsk.flushE, hdn, hgo], show D.flush = D.stroke.puts fun _ => true by simp [Dsk.flush, hdn, hgo]]
      exact ⟨rfl, DGo.of (fun k hk => .inl hk) hf1 hg⟩
    · have hB1 := h1.bd
      simp only [dcells] at hB1
      have d0 := hB1.cell 0
      have d1 := hB1.cell 1
      have d2 := hB1.cell 2
      have d3 := hB1.cell 3
      have d4 := hB1.cell 4
      have d5 := hB1.cell 5
      have d6 := hB1.cell 6
      go_wp2_with fail
      refine (dlose_any h1 cv D.choice h.wf.choice ((own_bp h1.hc).mono fun k e => ⟨h1.lt k (h1.fc k e), (h1.ne.2.2 k e).2.1⟩)).mono ?_
      rintro e w2 ⟨rfl, hg⟩
      go_wp2
      go_ret
      rw [show D.flushE = 60 by simp [Dsk.flushE, hdn, hgo], show D.flush = D.stroke.lose D.choice by simp [Dsk.flush, hdn, hgo]]
      exact ⟨rfl, DGo.of (fun k hk => .inl hk) hf1 hg⟩
  · go_wp2
    go_ret
    rw [show D.flushE = 60 by simp [Dsk.flushE, hdn], show D.flush = D by simp [Dsk.flush, hdn]]
    exact ⟨rfl, h.rep.go⟩
end Go.Proofs.YtgpafdagealnbaaDoor
