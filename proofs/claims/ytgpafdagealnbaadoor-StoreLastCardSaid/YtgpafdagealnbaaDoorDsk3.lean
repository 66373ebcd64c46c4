/- The disk: Set. -/
import Derived.Test.YtgpafdagealnbaaDoorDsk2
namespace Go.Proofs.YtgpafdagealnbaaDoor
open Go.RowKit

theorem Fr.step {B B1 : Nat} {F F1 : Nat → Prop} {w w1 w2 : World} (h : Fr B F w w1) (hF : ∀ k, F1 k → F k ∨ B ≤ k) (hB : B ≤ B1) (k : Fr B1 F1 w1 w2) : Fr B F w w2 :=
  h.trans (k.mono hB fun i hi hf => (hF i hf).resolve_right (by omega))
/-- The disk at d has become D'; it may lie in new blocks besides. -/
def DGo (F : Nat → Prop) (w : World) (d : Nat) (D' : Dsk) (w' : World) : Prop := ∃ F', DRep F' w' d D' ∧ (∀ k, F' k → F k ∨ w.heap.size ≤ k) ∧ Fr w.heap.size F w w'
theorem DRep.go {F : Nat → Prop} {w : World} {d : Nat} {D : Dsk} (h : DRep F w d D) : DGo F w d D w := ⟨F, h, fun _ hk => .inl hk, Fr.refl _ _ _⟩
theorem DRepA.rep {F : Nat → Prop} {w : World} {d : Nat} {D : Dsk} {sb : Nat} {hv cv : Value} (h : DRepA F w d D sb hv cv) : DRep F w d D := ⟨sb, hv, cv, h⟩
theorem DGo.of {F F1 : Nat → Prop} {w w1 w2 : World} {d : Nat} {D2 : Dsk} (hF : ∀ k, F1 k → F k ∨ w.heap.size ≤ k) (hf : Fr w.heap.size F w w1) (k : DGo F1 w1 d D2 w2) : DGo F w d D2 w2 := by
  obtain ⟨F2, h2, hF2, hf2⟩ := k
  refine ⟨F2, h2, fun i hi => ?_, hf.step hF hf.size hf2⟩
  rcases hF2 i hi with h | h
  · exact hF i h
  · exact .inr (Nat.le_trans hf.size h)
theorem DRepA.more {F F' : Nat → Prop} {w : World} {d : Nat} {D : Dsk} {sb : Nat} {hv cv : Value} (h : DRepA F w d D sb hv cv) (hF : ∀ k, F k → F' k) (hl : ∀ k, F' k → k < w.heap.size) : DRepA F' w d D sb hv cv :=
  { wf := h.wf, fd := hF _ h.fd, fs := hF _ h.fs, fh := fun k e => hF k (h.fh k e), fc := fun k e => hF k (h.fc k e), lt := hl, bd := h.bd, bs := h.bs, hh := h.hh, hc := h.hc }

/-- A slice of bools. -/
abbrev BL (w : World) (v : Value) (l : List Bool) : Prop := RV w w.heap.size 1 v l.length (l.map .bool)
theorem info_bool : (Tryd.prog.info? 4).map (fun i => (i.zero, i.size, i.bytes)) = some (some (.bool false), 1, 1) := by kernel_rfl

def Dsk.setE (n : Int) (l : List Bool) : Int := if n < 0 then 1 else if 4096 < l.length then 2 else 0
def Dsk.setD (D : Dsk) (n : Int) (l : List Bool) : Dsk := if n < 0 then D else if 4096 < l.length then D else { D with set := true, left := n, choice := l }
theorem bool_one (l : List Bool) : ∀ u ∈ l.map Value.bool, u.oneCell' = true := by
  intro u hu
  rw [List.mem_map] at hu
  obtain ⟨x, _, rfl⟩ := hu
  rfl
theorem own_base {w : World} {base base' : Nat} {e : TypeId} {size n : Nat} {v : Value} {xs : List Value} (h : w.ownsRow base e size v n xs) (hb : base' ≤ base) : w.ownsRow base' e size v n xs := by
  refine ⟨h.1, ?_⟩
  rcases h.2 with hn | ⟨g, cap, cur, hv, hg, rest⟩
  · exact .inl hn
  · exact .inr ⟨g, cap, cur, hv, by omega, rest⟩
theorem own_form {w : World} {base : Nat} {e : TypeId} {size n : Nat} {v : Value} {xs : List Value} (h : w.ownsRow base e size v n xs) : ∃ A c, v = .slice A n c := by
  rcases h.2 with ⟨rfl, rfl⟩ | ⟨g, cap, _, rfl, _⟩
  · exact ⟨_, _, rfl⟩
  · exact ⟨_, _, rfl⟩
set_option maxHeartbeats 400000 in
theorem dset_any {F : Nat → Prop} {w : World} {d : Nat} {D : Dsk} (h : DRep F w d D) (n : Int) (hn : n ≤ 9223372036854775807) (v : Value) (l : List Bool) (hv : BL w v l) :
    Calls Tryd.prog 19 #[dptr d, .int .i64 n, v] w fun e w' => e = .returned (.int .i64 (Dsk.setE n l)) ∧ DGo F w d (D.setD n l) w' := by
  obtain ⟨sb, hv1, cv, h⟩ := h
  have hB := h.bd
  have hfd := h.fd
  have hw := h.wf
  have h1 : sb ≠ d := fun e => h.bs.ne_ h.bd (by decide) e
  have h2 : ∀ k, hv1.ownBlock = some k → k ≠ d := fun k e e2 => own_ne h.hh h.bd (by decide) (by rw [e, e2])
  obtain ⟨A, cp, rfl, _, _, _, _⟩ := id hv
  go_enter Tryd.func19, Tryd.ntmps19
  by_cases hn0 : n < 0
  · have d1 : decide (n < 0) = true := decide_eq_true hn0
    go_wp2
    go_ret
    unfold Dsk.setE Dsk.setD
    rw [if_pos hn0, if_pos hn0]
    exact ⟨rfl, h.rep.go⟩
  · have d1 : decide (n < 0) = false := decide_eq_false hn0
    by_cases hl : 4096 < l.length
    · have d2 : decide ((l.length : Int) > 4096) = true := by simp; omega
      go_wp2
      go_ret
      unfold Dsk.setE Dsk.setD
      rw [if_neg (show ¬ n < 0 by omega), if_neg (show ¬ n < 0 by omega), if_pos (show 4096 < l.length by omega), if_pos (show 4096 < l.length by omega)]
      exact ⟨rfl, h.rep.go⟩
    · have d2 : decide ((l.length : Int) > 4096) = false := by simp; omega
      have hnil := World.ownsRow_nil w w.heap.size 4 1
      go_wp2_with (first | (at_builtin; refine wpList_append_rv w rfl _ _ 46 rfl w.heap.size 4 (.bool false) 1 1 Tryd.underlying46 info_bool rfl (by decide) (.slice none 0 0) 0 [] rfl hnil w.heap.size l.length _ (l.map .bool) rfl hv (bool_one l) (by omega) (by decide) (Nat.le_refl _) ?_) | fail)
      intro v' w1 ho hg hx
      have hf1 : Fr w.heap.size F w w1 := (Fr.refl w.heap.size F w).grown hg (Nat.le_refl _) (fun k hk => by cases hk)
      have hk1 : ∀ k, F k → w1.heap[k]? = w.heap[k]? := fun k hk => hg.block k (h.lt k hk) (by simp [Value.ownBlock])
      have h' := h.keep hf1.size hk1
      have hB' := h'.bd
      have h4 : ∀ k, v'.ownBlock = some k → w.heap.size ≤ k ∧ k < w1.heap.size := fun k e => ho.lt k e
      have h3 : ∀ k, v'.ownBlock = some k → k ≠ d := fun k e e2 => by
        have := (h4 k e).1
        have := h.lt d h.fd
        omega
      clear hB hx
      obtain ⟨A', c', rfl⟩ := own_form ho
      obtain ⟨n0, f, held, down, strokes, left, st, choice⟩ := D
      simp only [dcells] at hB'
      have f0 := hB'.frozen 5
      have f1 := hB'.frozen 4
      have f2 := hB'.frozen 6
      have c0 := hB'.cell 0
      have c1 := hB'.cell 1
      have c2 := hB'.cell 2
      have c3 := hB'.cell 3
      have c4 := hB'.cell 4
      have c5 := hB'.cell 5
      have c6 := hB'.cell 6
      go_wp2
      go_ret
      unfold Dsk.setE Dsk.setD
      rw [if_neg (show ¬ n < 0 by omega), if_neg (show ¬ n < 0 by omega), if_neg (show ¬ 4096 < l.length by omega), if_neg (show ¬ 4096 < l.length by omega)]
      refine ⟨rfl, fun k => F k ∨ (Value.slice A' l.length c').ownBlock = some k, ⟨sb, hv1, .slice A' l.length c', ?_⟩, fun k hk => hk.imp id fun e => (h4 k e).1, ((hf1.setCell (p := ⟨d, 5, none⟩) (.inl hfd) _).setCell (p := ⟨d, 4, none⟩) (.inl hfd) _).setCell (p := ⟨d, 6, none⟩) (.inl hfd) _⟩
      have ho' : ∀ k, k ≠ d → (((w1.setCell ⟨d, 5, none⟩ (.bool true)).setCell ⟨d, 4, none⟩ (.int .i64 n)).setCell ⟨d, 6, none⟩ (.slice A' l.length c')).heap[k]? = w1.heap[k]? := fun k hk => ((heap_far hk).trans (heap_far hk)).trans (heap_far hk)
      have hs : (((w1.setCell ⟨d, 5, none⟩ (.bool true)).setCell ⟨d, 4, none⟩ (.int .i64 n)).setCell ⟨d, 6, none⟩ (.slice A' l.length c')).heap.size = w1.heap.size := (heap_len.trans heap_len).trans heap_len
      exact
      { wf := ⟨hw.n1, hw.n2, hw.held, hw.few, (by simp only; omega), (by simp only; omega), hn⟩
        fd := .inl h.fd, fs := .inl h.fs, fh := fun k e => .inl (h.fh k e), fc := fun k e => .inr e, lt := fun k hF => hs ▸ (hF.elim (fun hF => h'.lt k hF) fun e => (h4 k e).2)
        bd := ((hB'.setCell_is rfl).setCell_is rfl).setCell_is rfl, bs := (ho' sb h1).trans h'.bs
        hh := own_below h'.hh fun k e => ho' k (h2 k e)
        hc := own_base (own_below ho fun k e => ho' k (h3 k e)) (Nat.zero_le _) }
end Go.Proofs.YtgpafdagealnbaaDoor
