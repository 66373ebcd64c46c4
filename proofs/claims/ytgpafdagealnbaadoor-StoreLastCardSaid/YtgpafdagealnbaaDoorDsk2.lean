/- The disk: goes, Start, Set, Up; the places where it changes. -/
import Derived.Test.YtgpafdagealnbaaDoorDsk1
namespace Go.Proofs.YtgpafdagealnbaaDoor
open Go.RowKit

/-- Cells of the disk's own block are set: the rest stands. -/
theorem DRepA.block {F : Nat → Prop} {w w' : World} {d : Nat} {D D' : Dsk} {sb : Nat} {hv cv : Value} (h : DRepA F w d D sb hv cv) (hs : w'.heap.size = w.heap.size) (hb : Blk w' d 57 (dcells sb D' hv cv))
    (ho : ∀ k, k ≠ d → w'.heap[k]? = w.heap[k]?) (hn : D'.n = D.n) (hf : D'.f = D.f) (hh : D'.held = D.held) (hc : D'.choice = D.choice) (hl1 : 0 ≤ D'.left) (hl2 : D'.left ≤ 9223372036854775807) : DRepA F w' d D' sb hv cv := by
  have h1 : sb ≠ d := fun e => by
    have := h.bs.ne_ h.bd (by decide)
    exact this e
  have h2 : ∀ k, hv.ownBlock = some k → k ≠ d := fun k e e2 => own_ne h.hh h.bd (by decide) (by rw [e, e2])
  have h3 : ∀ k, cv.ownBlock = some k → k ≠ d := fun k e e2 => own_ne h.hc h.bd (by decide) (by rw [e, e2])
  exact
  { wf := ⟨hn ▸ h.wf.n1, hn ▸ h.wf.n2, by rw [hn, hh]; exact h.wf.held, by rw [hh]; exact h.wf.few, by rw [hc]; exact h.wf.choice, hl1, hl2⟩
    fd := h.fd, fs := h.fs, fh := h.fh, fc := h.fc, lt := fun k hF => hs ▸ h.lt k hF
    bd := hb, bs := by rw [hn, hf]; exact (ho sb h1).trans h.bs
    hh := by rw [hh]; exact own_below h.hh fun k e => ho k (h2 k e)
    hc := by rw [hc]; exact own_below h.hc fun k e => ho k (h3 k e) }
theorem heap_far {w : World} {d i : Nat} {u : Value} {k : Nat} (h : k ≠ d) : (w.setCell ⟨d, i, none⟩ u).heap[k]? = w.heap[k]? := Below.heap_setCell w ⟨d, i, none⟩ u k h
theorem heap_len {w : World} {d i : Nat} {u : Value} : (w.setCell ⟨d, i, none⟩ u).heap.size = w.heap.size := World.size_setCell w _ _

theorem dgoes_any {F : Nat → Prop} {w : World} {d : Nat} {D : Dsk} {sb : Nat} {hv cv : Value} (h : DRepA F w d D sb hv cv) :
    Calls Tryd.prog 36 #[dptr d] w fun e w' => e = .returned (.bool D.goes) ∧ DRepA F w' d D.stroke sb hv cv ∧ Fr w.heap.size F w w' := by
  have hB := h.bd
  have hfd := h.fd
  have hw := h.wf
  obtain ⟨n, f, held, down, strokes, left, st, choice⟩ := D
  have l1 := hw.l1
  have l2 := hw.l2
  simp only [dcells] at hB l1 l2
  have f0 := hB.frozen 3
  have f1 := hB.frozen 4
  unfold Dsk.goes
  have c0 := hB.cell 0
  have c1 := hB.cell 1
  have c2 := hB.cell 2
  have c3 := hB.cell 3
  have c4 := hB.cell 4
  have c5 := hB.cell 5
  have c6 := hB.cell 6
  have hF : ∀ u, Fr w.heap.size F w (w.setCell ⟨d, 3, none⟩ u) := fun u => (Fr.refl w.heap.size F w).setCell (p := ⟨d, 3, none⟩) (.inl hfd) u
  go_enter Tryd.func36, Tryd.ntmps36
  cases st
  · go_wp2
    go_ret
    exact ⟨rfl, h.block heap_len (hB.setCell_is rfl) (fun k hk => heap_far hk) rfl rfl rfl rfl l1 l2, hF _⟩
  · by_cases hl : left > 0
    · have d1 : decide (left > 0) = true := decide_eq_true hl
      go_wp2
      go_ret
      refine ⟨by simp [hl], h.block (heap_len.trans heap_len) ?_ (fun k hk => (heap_far hk).trans (heap_far hk)) rfl rfl rfl rfl (by simp [Dsk.stroke, hl]; omega) (by simp [Dsk.stroke, hl]; omega), (hF _).setCell (p := ⟨d, 4, none⟩) (.inl hfd) _⟩
      refine Blk.setCell_is (hB.setCell_is rfl) ?_
      simp [dcells, Dsk.stroke, hl]
    · have d1 : decide (left > 0) = false := decide_eq_false hl
      go_wp2
      go_ret
      refine ⟨by simp, h.block heap_len (hB.setCell_is ?_) (fun k hk => heap_far hk) rfl rfl rfl rfl (by simp [Dsk.stroke]; omega) (by simp [Dsk.stroke]; omega), hF _⟩
      simp [dcells, Dsk.stroke]
      omega

def Dsk.start (D : Dsk) : Dsk := { D with down := false, set := false, choice := [] }
theorem dstart_any {F : Nat → Prop} {w : World} {d : Nat} {D : Dsk} (h : DRep F w d D) :
    Calls Tryd.prog 22 #[dptr d] w fun e w' => e = .returned (.tuple #[]) ∧ DRep F w' d D.start ∧ Fr w.heap.size F w w' := by
  obtain ⟨sb, hv, cv, h⟩ := h
  have hB := h.bd
  have hfd := h.fd
  have hw := h.wf
  have h1 : sb ≠ d := fun e => h.bs.ne_ h.bd (by decide) e
  have h2 : ∀ k, hv.ownBlock = some k → k ≠ d := fun k e e2 => own_ne h.hh h.bd (by decide) (by rw [e, e2])
  obtain ⟨n, f, held, down, strokes, left, st, choice⟩ := D
  simp only [dcells] at hB
  have f0 := hB.frozen 2
  have f1 := hB.frozen 5
  have f2 := hB.frozen 6
  have c0 := hB.cell 0
  have c1 := hB.cell 1
  have c2 := hB.cell 2
  have c3 := hB.cell 3
  have c4 := hB.cell 4
  have c5 := hB.cell 5
  have c6 := hB.cell 6
  go_enter Tryd.func22, Tryd.ntmps22
  go_wp2
  go_end0
  refine ⟨rfl, ⟨sb, hv, .slice none 0 0, ?_⟩, (((Fr.refl w.heap.size F w).setCell (p := ⟨d, 2, none⟩) (.inl hfd) _).setCell (p := ⟨d, 5, none⟩) (.inl hfd) _).setCell (p := ⟨d, 6, none⟩) (.inl hfd) _⟩
  have ho : ∀ k, k ≠ d → (((w.setCell ⟨d, 2, none⟩ (.bool false)).setCell ⟨d, 5, none⟩ (.bool false)).setCell ⟨d, 6, none⟩ (.slice none 0 0)).heap[k]? = w.heap[k]? := fun k hk => ((heap_far hk).trans (heap_far hk)).trans (heap_far hk)
  have hs : (((w.setCell ⟨d, 2, none⟩ (.bool false)).setCell ⟨d, 5, none⟩ (.bool false)).setCell ⟨d, 6, none⟩ (.slice none 0 0)).heap.size = w.heap.size := (heap_len.trans heap_len).trans heap_len
  exact
  { wf := ⟨hw.n1, hw.n2, hw.held, hw.few, by simp [Dsk.start], hw.l1, hw.l2⟩
    fd := h.fd, fs := h.fs, fh := h.fh, fc := fun k e => (by cases e), lt := fun k hF => hs ▸ h.lt k hF
    bd := ((hB.setCell_is rfl).setCell_is rfl).setCell_is rfl, bs := (ho sb h1).trans h.bs
    hh := own_below h.hh fun k e => ho k (h2 k e)
    hc := World.ownsRow_nil _ _ _ _ }
end Go.Proofs.YtgpafdagealnbaaDoor
