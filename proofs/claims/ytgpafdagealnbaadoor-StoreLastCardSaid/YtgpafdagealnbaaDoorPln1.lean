/- The disk and its steps, in plain Lean: what saved and flushed bytes come to, whenever the power goes. No program stands in this text. -/
import Derived.Test.YtgpafdagealnbaaDoorDsk12
import Derived.Test.YtgpafdagealnbaaDoorAr
namespace Go.Proofs.YtgpafdagealnbaaDoor
open Go.RowKit

theorem ov_in (f : Nat → UInt8) (o : Nat) (l : List UInt8) (i : Nat) (h1 : o ≤ i) (h2 : i < o + l.length) : ov f o l i = l.getD (i - o) 0 := by unfold ov; rw [if_pos ⟨h1, h2⟩]
theorem ov_out (f : Nat → UInt8) (o : Nat) (l : List UInt8) (i : Nat) (h : ¬ (o ≤ i ∧ i < o + l.length)) : ov f o l i = f i := by unfold ov; rw [if_neg h]

/-- Sectors laid one behind the other. -/
def layL (f : Nat → UInt8) : Nat → List (List UInt8) → Nat → UInt8
  | _, [] => f
  | at_, s :: r => layL (ov f (64 * at_) s) (at_ + 1) r
theorem layL_out (f : Nat → UInt8) (at_ : Nat) (L : List (List UInt8)) (hL : ∀ s ∈ L, s.length = 64) (i : Nat) (h : ¬ (64 * at_ ≤ i ∧ i < 64 * (at_ + L.length))) : layL f at_ L i = f i := by
  induction L generalizing f at_ with
  | nil => rfl
  | cons s r ih =>
    have hs := hL s (by simp)
    simp only [List.length_cons] at h
    rw [layL, ih _ _ (fun x hx => hL x (by simp [hx])) (by omega), ov_out _ _ _ _ (by rw [hs]; omega)]
theorem layL_in (f : Nat → UInt8) (at_ : Nat) (L : List (List UInt8)) (hL : ∀ s ∈ L, s.length = 64) (j q : Nat) (hj : j < L.length) (hq : q < 64) : layL f at_ L (64 * (at_ + j) + q) = (L.getD j []).getD q 0 := by
  induction L generalizing f at_ j with
  | nil => simp at hj
  | cons s r ih =>
    have hs := hL s (by simp)
    rw [layL]
    cases j with
    | zero =>
      rw [layL_out _ _ _ (fun x hx => hL x (by simp [hx])) _ (by omega), ov_in _ _ _ _ (by omega) (by rw [hs]; omega), show 64 * (at_ + 0) + q - 64 * at_ = q by omega]
      rfl
    | succ j =>
      rw [show at_ + (j + 1) = at_ + 1 + j by omega, ih _ _ (fun x hx => hL x (by simp [hx])) j (by simpa using hj)]
      rfl
theorem secs_64 (b : List UInt8) : ∀ s ∈ secs b, s.length = 64 := by
  intro s hs
  simp only [secs, List.mem_map] at hs
  obtain ⟨i, _, rfl⟩ := hs
  exact secOf_length _ _
theorem secs_getD (b : List UInt8) (j : Nat) (hj : j < needN b.length) : (secs b).getD j [] = secOf b j := by
  rw [List.getD_eq_getElem?_getD, secs, List.getElem?_map, List.getElem?_range hj]
  rfl
theorem secOf_getD (b : List UInt8) (j q : Nat) (hq : q < 64) : (secOf b j).getD q 0 = byteAt b (64 * j + q) := by
  rw [List.getD_eq_getElem?_getD, secOf, List.getElem?_map, List.getElem?_range hq]
  rfl
theorem lay_bytes (f : Nat → UInt8) (at_ : Nat) (b : List UInt8) (i : Nat) : layL f at_ (secs b) i = if 64 * at_ ≤ i ∧ i < 64 * (at_ + needN b.length) then byteAt b (i - 64 * at_) else f i := by
  split
  · rename_i h
    obtain ⟨j, q, hq, hi⟩ : ∃ j q, q < 64 ∧ i = 64 * (at_ + j) + q := ⟨i / 64 - at_, i % 64, by omega, by omega⟩
    subst hi
    rw [layL_in _ _ _ (secs_64 b) j q (by rw [secs_length]; omega) hq, secs_getD _ _ (by omega), secOf_getD _ _ _ hq]
    congr 1
    omega
  · rename_i h
    exact layL_out _ _ _ (secs_64 b) _ (by rw [secs_length]; exact h)

/-! ### writes that wait -/
def seqL : Nat → List (List UInt8) → List (Nat × List UInt8)
  | _, [] => []
  | at_, s :: r => (at_, s) :: seqL (at_ + 1) r
theorem seqL_mem (at_ : Nat) (L : List (List UInt8)) (x : Nat × List UInt8) (h : x ∈ seqL at_ L) : at_ ≤ x.1 ∧ x.1 < at_ + L.length ∧ x.2 = L.getD (x.1 - at_) [] := by
  induction L generalizing at_ with
  | nil => cases h
  | cons s r ih =>
    rw [seqL, List.mem_cons] at h
    rcases h with rfl | h
    · simp
    · obtain ⟨h1, h2, h3⟩ := ih _ h
      refine ⟨by omega, by simp only [List.length_cons]; omega, ?_⟩
      rw [h3, show x.1 - at_ = (x.1 - (at_ + 1)) + 1 by omega, List.getD_cons_succ]
theorem lay_true (f : Nat → UInt8) (i j : Nat) (l : List (Nat × List UInt8)) : lay f (fun _ => true) i l = lay f (fun _ => true) j l := by
  induction l generalizing f i j with
  | nil => rfl
  | cons h r ih => exact ih _ _ _
theorem lay_append (f : Nat → UInt8) (i : Nat) (a b : List (Nat × List UInt8)) : lay f (fun _ => true) i (a ++ b) = lay (lay f (fun _ => true) i a) (fun _ => true) 0 b := by
  induction a generalizing f i with
  | nil => exact lay_true _ _ _ _
  | cons h r ih => exact ih _ _
theorem lay_seqL (f : Nat → UInt8) (i at_ : Nat) (L : List (List UInt8)) : lay f (fun _ => true) i (seqL at_ L) = layL f at_ L := by
  induction L generalizing f i at_ with
  | nil => rfl
  | cons s r ih => exact ih _ _ _
/-- Each sector is as it was, or as one of these writes says. -/
def SelF (f f' : Nat → UInt8) (W : List (Nat × List UInt8)) : Prop := ∀ k, (∀ i, i < 64 → f' (64 * k + i) = f (64 * k + i)) ∨ ∃ b, (k, b) ∈ W ∧ ∀ i, i < 64 → f' (64 * k + i) = b.getD i 0
theorem lay_sel (f : Nat → UInt8) (sel : Nat → Bool) (i0 : Nat) (W : List (Nat × List UInt8)) (hW : ∀ h ∈ W, h.2.length = 64) : SelF f (lay f sel i0 W) W := by
  induction W generalizing f i0 with
  | nil => exact fun k => .inl fun _ _ => rfl
  | cons h r ih =>
    intro k
    have h64 := hW h (by simp)
    rw [lay]
    rcases ih (if sel i0 then ov f (64 * h.1) h.2 else f) (i0 + 1) (fun x hx => hW x (by simp [hx])) k with h1 | ⟨b, hb, h1⟩
    · cases hs : sel i0
      · rw [hs, if_neg (by decide)] at h1
        exact .inl h1
      · rw [hs, if_pos rfl] at h1
        rw [if_pos rfl]
        by_cases hk : h.1 = k
        · subst hk
          refine .inr ⟨h.2, by simp, fun i hi => ?_⟩
          rw [h1 i hi, ov_in _ _ _ _ (by omega) (by rw [h64]; omega), show 64 * h.1 + i - 64 * h.1 = i by omega]
        · refine .inl fun i hi => ?_
          rw [h1 i hi, ov_out _ _ _ _ (by rw [h64]; omega)]
    · exact .inr ⟨b, by simp [hb], h1⟩

/-! ### the disk's steps -/
theorem Dsk.stroke_f (D : Dsk) : D.stroke.f = D.f := rfl
theorem Dsk.lose_up (D : Dsk) (h : D.down = false) (l : List Bool) : D.lose l = { D.puts (fun k => l.getD k false) with down := true } := by unfold Dsk.lose; rw [h, if_neg (by decide)]
theorem Dsk.goes_set (D : Dsk) (h : D.set = false) : D.goes = false := by unfold Dsk.goes; rw [h]; rfl
theorem Dsk.atE_up (D : Dsk) (h : D.down = false) (k : Nat) (hk : k < D.n) : D.atE k = 0 := by
  unfold Dsk.atE; rw [h, if_neg (by decide), if_neg (by omega)]
theorem Dsk.writeE_up (D : Dsk) (h : D.down = false) (k : Nat) (hk : k < D.n) (b : List UInt8) (hb : b.length = 64) : D.writeE k b = if D.goes then 60 else 0 := by
  unfold Dsk.writeE; rw [D.atE_up h k hk]; simp [hb]
theorem Dsk.write_up (D : Dsk) (h : D.down = false) (k : Nat) (hk : k < D.n) (b : List UInt8) (hb : b.length = 64) : D.write k b = if D.goes then ((D.hold k b).stroke).lose D.choice else (D.hold k b).stroke := by
  unfold Dsk.write; rw [D.atE_up h k hk]; simp [hb]

/-- What a run of strokes leaves: all is done and W waits, or the power went, and some of W were done. -/
structure Ran (D D' : Dsk) (e : Int) (W : List (Nat × List UInt8)) : Prop where
  n : D'.n = D.n
  done : e = 0 ∧ D'.down = false ∧ D'.f = D.f ∧ D'.held = W ∧ D'.set = D.set ∧ D'.choice = D.choice ∨ e = 60 ∧ D'.down = true ∧ D'.held = [] ∧ SelF D.f D'.f W ∧ D.set = true

theorem saves_ran (L : List (List UInt8)) (D : Dsk) (at_ : Nat) (hd : D.down = false) (hn : at_ + L.length ≤ D.n) (hL : ∀ s ∈ L, s.length = 64) (hW : ∀ h ∈ D.held, h.2.length = 64) :
    Ran D (D.saves at_ L).2 (D.saves at_ L).1 (D.held ++ seqL at_ L) := by
  induction L generalizing D at_ with
  | nil => exact ⟨rfl, .inl ⟨rfl, hd, rfl, by simp [Dsk.saves, seqL], rfl, rfl⟩⟩
  | cons s r ih =>
    have hs := hL s (by simp)
    simp only [List.length_cons] at hn
    rw [Dsk.saves, D.writeE_up hd at_ (by omega) s hs, D.write_up hd at_ (by omega) s hs]
    cases hg : D.goes
    · simp only [Bool.false_eq_true, if_false, if_true]
      obtain ⟨h1, h2⟩ := ih (D.hold at_ s).stroke (at_ + 1) hd (by simp only [Dsk.hold, Dsk.stroke]; omega) (fun x hx => hL x (by simp [hx])) (fun h hh => by
        simp only [Dsk.hold, Dsk.stroke, List.mem_append, List.mem_singleton] at hh
        rcases hh with hh | rfl
        · exact hW h hh
        · exact hs)
      have e : (D.hold at_ s).stroke.held ++ seqL (at_ + 1) r = D.held ++ seqL at_ (s :: r) := by simp [Dsk.hold, Dsk.stroke, seqL]
      rw [e] at h2
      exact ⟨h1, h2⟩
    · simp only [if_true]
      rw [if_neg (by decide), Dsk.lose_up (D.hold at_ s).stroke hd]
      refine ⟨rfl, .inr ⟨rfl, rfl, rfl, ?_, ?_⟩⟩
      · have hW' : ∀ h ∈ D.held ++ [(at_, s)], h.2.length = 64 := fun h hh => by
          simp only [List.mem_append, List.mem_singleton] at hh
          rcases hh with hh | rfl
          · exact hW h hh
          · exact hs
        have := lay_sel D.f (fun k => D.choice.getD k false) 0 (D.held ++ [(at_, s)]) hW'
        intro k
        rcases this k with h | ⟨b, hb, h⟩
        · exact .inl h
        · refine .inr ⟨b, ?_, h⟩
          rw [seqL]
          rcases List.mem_append.1 hb with hb | hb
          · exact List.mem_append.2 (.inl hb)
          · exact List.mem_append.2 (.inr (List.mem_cons.2 (.inl (List.mem_singleton.1 hb))))
      · by_cases hset : D.set = true
        · exact hset
        · rw [D.goes_set (by simpa using hset)] at hg
          cases hg

theorem save_ran (D : Dsk) (at_ : Nat) (b : List UInt8) (hd : D.down = false) (hn : at_ + needN b.length ≤ D.n) (hW : ∀ h ∈ D.held, h.2.length = 64) :
    Ran D (D.save at_ b).2 (D.save at_ b).1 (D.held ++ seqL at_ (secs b)) := by
  have hs : D.spanE at_ b.length = 0 := by unfold Dsk.spanE; rw [hd, if_neg (by decide), if_neg (by omega)]
  unfold Dsk.save
  rw [if_pos hs]
  exact saves_ran _ D at_ hd (by rw [secs_length]; exact hn) (secs_64 b) hW

/-- Bytes are saved and flushed. -/
def Dsk.step (D : Dsk) (at_ : Nat) (b : List UInt8) : Int × Dsk := if (D.save at_ b).1 = 0 then ((D.save at_ b).2.flushE, (D.save at_ b).2.flush) else D.save at_ b

/-- What a step leaves. -/
structure Stepped (D D' : Dsk) (e : Int) (at_ : Nat) (b : List UInt8) : Prop where
  n : D'.n = D.n
  held : D'.held = []
  done : e = 0 ∧ D'.down = false ∧ D'.f = layL D.cur at_ (secs b) ∧ D'.set = D.set ∧ D'.choice = D.choice ∨ e = 60 ∧ D'.down = true ∧ SelF D.f D'.f (D.held ++ seqL at_ (secs b)) ∧ D.set = true

theorem flush_ran (D : Dsk) (hd : D.down = false) (hW : ∀ h ∈ D.held, h.2.length = 64) : D.flush.n = D.n ∧ D.flush.held = [] ∧
    (D.flushE = 0 ∧ D.flush.down = false ∧ D.flush.f = D.cur ∧ D.flush.set = D.set ∧ D.flush.choice = D.choice ∨ D.flushE = 60 ∧ D.flush.down = true ∧ SelF D.f D.flush.f D.held ∧ D.set = true) := by
  cases hg : D.goes
  · rw [show D.flushE = 0 by simp [Dsk.flushE, hd, hg], show D.flush = D.stroke.puts fun _ => true by simp [Dsk.flush, hd, hg]]
    exact ⟨rfl, rfl, .inl ⟨rfl, hd, rfl, rfl, rfl⟩⟩
  · rw [show D.flushE = 60 by simp [Dsk.flushE, hd, hg], show D.flush = D.stroke.lose D.choice by simp [Dsk.flush, hd, hg], Dsk.lose_up D.stroke hd]
    refine ⟨rfl, rfl, .inr ⟨rfl, rfl, lay_sel D.f _ 0 D.held hW, ?_⟩⟩
    by_cases hset : D.set = true
    · exact hset
    · rw [D.goes_set (by simpa using hset)] at hg
      cases hg

theorem step_ran (D : Dsk) (at_ : Nat) (b : List UInt8) (hd : D.down = false) (hn : at_ + needN b.length ≤ D.n) (hW : ∀ h ∈ D.held, h.2.length = 64) :
    Stepped D (D.step at_ b).2 (D.step at_ b).1 at_ b := by
  obtain ⟨h1, h2⟩ := save_ran D at_ b hd hn hW
  unfold Dsk.step
  rcases h2 with ⟨e0, hd', hf, hh, hs, hc⟩ | ⟨e6, hd', hh, hf, hs⟩
  · rw [if_pos e0]
    obtain ⟨g1, g2, g3⟩ := flush_ran (D.save at_ b).2 hd' (fun x hx => by
      rw [hh, List.mem_append] at hx
      rcases hx with hx | hx
      · exact hW x hx
      · obtain ⟨q1, q2, q3⟩ := seqL_mem _ _ _ hx
        rw [secs_length] at q2
        rw [q3, secs_getD _ _ (by omega), secOf_length])
    refine ⟨g1.trans h1, g2, ?_⟩
    rcases g3 with ⟨a1, a2, a3, a4, a5⟩ | ⟨a1, a2, a3, a4⟩
    · refine .inl ⟨a1, a2, ?_, a4.trans hs, a5.trans hc⟩
      rw [a3]
      show lay (D.save at_ b).2.f (fun _ => true) 0 (D.save at_ b).2.held = _
      rw [hf, hh, lay_append, lay_seqL]
      rfl
    · refine .inr ⟨a1, a2, ?_, hs.symm.trans a4⟩
      rw [hf, hh] at a3
      exact a3
  · rw [if_neg (by rw [e6]; decide)]
    exact ⟨h1, hh, .inr ⟨e6, hd', hf, hs⟩⟩
end Go.Proofs.YtgpafdagealnbaaDoor
