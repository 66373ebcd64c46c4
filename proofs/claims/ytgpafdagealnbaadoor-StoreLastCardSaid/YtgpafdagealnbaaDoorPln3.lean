/- The store over a disk, in plain Lean: what a put comes to for the newest record. No program stands in this text. -/
import Derived.Test.YtgpafdagealnbaaDoorPln2
namespace Go.Proofs.YtgpafdagealnbaaDoor
open Go.RowKit

theorem newestF_lt (x y : Nat × List UInt8) (h : x.1 < y.1) : newestF (some x) (some y) = (1, y.1, y.2) := if_pos h
theorem newestF_ge (x y : Nat × List UInt8) (h : ¬ x.1 < y.1) : newestF (some x) (some y) = (0, x.1, x.2) := if_neg h
theorem one_ne {p : Prop} (h : (1 : Int) = 0) : p := absurd h (by decide)
theorem neg_ne {p : Prop} (h : (-1 : Int) = 0) : p := absurd h (by decide)
theorem newestF_up (a0 a1 : Option (Nat × List UInt8)) (b : List UInt8) :
    ((newestF a0 a1).1 = 0 → newestF a0 (some ((newestF a0 a1).2.1 + 1, b)) = (1, (newestF a0 a1).2.1 + 1, b)) ∧
    ((newestF a0 a1).1 ≠ 0 → newestF (some ((newestF a0 a1).2.1 + 1, b)) a1 = (0, (newestF a0 a1).2.1 + 1, b)) := by
  rcases a0 with _ | x <;> rcases a1 with _ | y
  · exact ⟨fun h => neg_ne h, fun _ => rfl⟩
  · exact ⟨fun h => one_ne h, fun _ => newestF_ge (y.1 + 1, b) y (show ¬ y.1 + 1 < y.1 by omega)⟩
  · exact ⟨fun _ => newestF_lt x (x.1 + 1, b) (show x.1 < x.1 + 1 by omega), fun h => absurd rfl h⟩
  · by_cases hlt : x.1 < y.1
    · rw [newestF_lt x y hlt]
      exact ⟨fun h => one_ne h, fun _ => newestF_ge (y.1 + 1, b) y (show ¬ y.1 + 1 < y.1 by omega)⟩
    · rw [newestF_ge x y hlt]
      exact ⟨fun _ => newestF_lt x (x.1 + 1, b) (show x.1 < x.1 + 1 by omega), fun h => absurd rfl h⟩
theorem newestF_gone (a0 a1 : Option (Nat × List UInt8)) :
    ((newestF a0 a1).1 = 0 → newestF a0 none = newestF a0 a1) ∧ ((newestF a0 a1).1 ≠ 0 → newestF none a1 = newestF a0 a1) := by
  rcases a0 with _ | x <;> rcases a1 with _ | y
  · exact ⟨fun _ => rfl, fun _ => rfl⟩
  · exact ⟨fun h => one_ne h, fun _ => rfl⟩
  · exact ⟨fun _ => rfl, fun h => absurd rfl h⟩
  · by_cases hlt : x.1 < y.1
    · rw [newestF_lt x y hlt]
      exact ⟨fun h => one_ne h, fun _ => rfl⟩
    · rw [newestF_ge x y hlt]
      exact ⟨fun _ => rfl, fun h => absurd rfl h⟩

/-- What a put leaves. -/
def tooLong (D : Dsk) (from_ n : Nat) (b : List UInt8) : Prop := 64 * (n - 1) < b.length ∨ (D.newest from_ n).2.1 = 18446744073709551615
/-- The newest record behind a put that was done. -/
def Dsk.putNew (D : Dsk) (from_ n : Nat) (b : List UInt8) : Int × Nat × List UInt8 := (if (D.newest from_ n).1 = 0 then 1 else 0, (D.newest from_ n).2.1 + 1, b)
structure PutRes (D D' : Dsk) (e : Int) (from_ n : Nat) (b : List UInt8) : Prop where
  sz : D'.n = D.n
  done : e = 2 ∧ D' = D ∧ tooLong D from_ n b ∨
    e = 0 ∧ ¬ tooLong D from_ n b ∧ D'.down = false ∧ D'.held = [] ∧ D'.set = D.set ∧ D'.choice = D.choice ∧ (∀ i, ¬ (64 * from_ ≤ i ∧ i < 64 * (from_ + 2 * n)) → D'.f i = D.cur i) ∧ D'.newest from_ n = D.putNew from_ n b ∨
    e = 60 ∧ ¬ tooLong D from_ n b ∧ D'.down = true ∧ D'.held = [] ∧ D.set = true ∧ (D.held = [] → (∀ i, ¬ (64 * from_ ≤ i ∧ i < 64 * (from_ + 2 * n)) → D'.f i = D.f i) ∧ (D'.newest from_ n = D.newest from_ n ∨ D'.newest from_ n = D.putNew from_ n b))

theorem newest_all (P : Nat × List UInt8 → Prop) (D : Dsk) (from_ n : Nat) (h0 : P (0, [])) (h : ∀ k x, D.area from_ n k = some x → P x) : P (D.newest from_ n).2 := by
  unfold Dsk.newest
  rcases newest_cases (P := P) (D.area from_ n 0) (D.area from_ n 1) (fun x hx => h 0 x hx) (fun x hx => h 1 x hx) with ⟨h, _⟩ | ⟨x, _, h, hx⟩ | ⟨x, _, h, hx⟩ <;> rw [h]
  · exact h0
  · exact hx
  · exact hx
theorem newest_lt (D : Dsk) (from_ n : Nat) : (D.newest from_ n).2.1 < 18446744073709551616 :=
  newest_all (fun x => x.1 < 18446744073709551616) D from_ n (Nat.lt_of_lt_of_le (Nat.zero_lt_one) (by omega)) fun _ x hx => (area_pos (g := x.1) (r := x.2) hx).2.1
theorem newest_room (D : Dsk) (from_ n : Nat) : (D.newest from_ n).2.2.length ≤ 64 * (n - 1) :=
  newest_all (fun x => x.2.length ≤ 64 * (n - 1)) D from_ n (Nat.zero_le _) fun _ x hx => (area_pos (g := x.1) (r := x.2) hx).2.2

theorem put_res (D : Dsk) (from_ n : Nat) (b : List UInt8) (hd : D.down = false) (hW : ∀ h ∈ D.held, h.2.length = 64) (h2 : 2 ≤ n) (hfit : from_ + 2 * n ≤ D.n) (hn : n ≤ 16384) : PutRes D (D.put from_ n b).2 (D.put from_ n b).1 from_ n b := by
  have hlt := newest_lt D from_ n
  unfold Dsk.put
  rw [hd, if_neg (by decide)]
  by_cases hl : 64 * (n - 1) < b.length ∨ (D.newest from_ n).2.1 = 18446744073709551615
  · rw [if_pos hl]
    exact ⟨rfl, .inl ⟨rfl, rfl, hl⟩⟩
  · rw [if_neg hl]
    have hnl : ¬ tooLong D from_ n b := hl
    have hto : D.toOf from_ n + n ≤ D.n := by unfold Dsk.toOf; split <;> omega
    have hb : b.length ≤ 64 * (n - 1) := by omega
    obtain ⟨p1, p2, p3⟩ := putAt_leaves D (D.toOf from_ n) n ((D.newest from_ n).2.1 + 1) b hd hW h2 hto hb (by omega) (by omega) (by omega)
    generalize D.putAt (D.toOf from_ n) ((D.newest from_ n).2.1 + 1) b = R at *
    obtain ⟨e, D'⟩ := R
    simp only at p1 p2 p3 ⊢
    have hcur : D'.cur = D'.f := cur_flat D' p2
    -- the other area and the outside
    have far : ∀ f : Nat → UInt8, (∀ i, ¬ (64 * D.toOf from_ n ≤ i ∧ i < 64 * (D.toOf from_ n + n)) → D'.f i = f i) → ∀ i, ¬ (64 * from_ ≤ i ∧ i < 64 * (from_ + 2 * n)) → D'.f i = f i := fun f h i hi => h i (by unfold Dsk.toOf; split <;> omega)
    have new_of : ∀ t, areaF D'.f (D.toOf from_ n) (64 * (n - 1)) = t → (∀ i, ¬ (64 * D.toOf from_ n ≤ i ∧ i < 64 * (D.toOf from_ n + n)) → D'.f i = D.cur i) →
        ((D.newest from_ n).1 = 0 → D'.newest from_ n = newestF (D.area from_ n 0) t) ∧ ((D.newest from_ n).1 ≠ 0 → D'.newest from_ n = newestF t (D.area from_ n 1)) := by
      intro t ht ho
      constructor
      · intro h0
        have e1 : D.toOf from_ n = from_ + n := by unfold Dsk.toOf; rw [if_pos h0]
        rw [e1] at ht ho
        unfold Dsk.newest Dsk.area
        rw [hcur, show from_ + 1 * n = from_ + n by omega, ht, areaF_congr (f := D'.f) (g := D.cur) (p := from_ + 0 * n) (n := n) (by omega) fun i q1 q2 => ho i (by omega)]
      · intro h0
        have e1 : D.toOf from_ n = from_ := by unfold Dsk.toOf; rw [if_neg h0]
        rw [e1] at ht ho
        unfold Dsk.newest Dsk.area
        rw [hcur, show from_ + 0 * n = from_ by omega, ht, areaF_congr (f := D'.f) (g := D.cur) (p := from_ + 1 * n) (n := n) (by omega) fun i q1 q2 => ho i (by omega)]
    have put_new : areaF D'.f (D.toOf from_ n) (64 * (n - 1)) = some ((D.newest from_ n).2.1 + 1, b) → (∀ i, ¬ (64 * D.toOf from_ n ≤ i ∧ i < 64 * (D.toOf from_ n + n)) → D'.f i = D.cur i) → D'.newest from_ n = D.putNew from_ n b := by
      intro ht ho
      have hu := newestF_up (D.area from_ n 0) (D.area from_ n 1) b
      obtain ⟨q1, q2⟩ := new_of _ ht ho
      unfold Dsk.putNew
      by_cases h0 : (D.newest from_ n).1 = 0
      · rw [q1 h0, if_pos h0]
        exact hu.1 h0
      · rw [q2 h0, if_neg h0]
        exact hu.2 h0
    refine ⟨p1, .inr ?_⟩
    rcases p3 with ⟨a1, a2, a3, a4, a5, a6⟩ | ⟨a1, a2, a3, a4⟩
    · exact .inl ⟨a1, hnl, a2, p2, a3, a4, far _ a5, put_new a6 a5⟩
    · refine .inr ⟨a1, hnl, a2, p2, a3, fun hh => ?_⟩
      obtain ⟨b1, b2⟩ := a4 hh
      have hc0 : D.cur = D.f := cur_flat D hh
      have b1' : ∀ i, ¬ (64 * D.toOf from_ n ≤ i ∧ i < 64 * (D.toOf from_ n + n)) → D'.f i = D.cur i := by rw [hc0]; exact b1
      refine ⟨far _ b1, ?_⟩
      rcases b2 with ht | ht | ht
      · left
        obtain ⟨q1, q2⟩ := new_of _ ht b1'
        by_cases h0 : (D.newest from_ n).1 = 0
        · have e1 : D.toOf from_ n = from_ + n := by unfold Dsk.toOf; rw [if_pos h0]
          rw [q1 h0, e1, ← hc0]
          unfold Dsk.newest Dsk.area
          rw [show from_ + 1 * n = from_ + n by omega]
        · have e1 : D.toOf from_ n = from_ := by unfold Dsk.toOf; rw [if_neg h0]
          rw [q2 h0, e1, ← hc0]
          unfold Dsk.newest Dsk.area
          rw [show from_ + 0 * n = from_ by omega]
      · left
        have hg := newestF_gone (D.area from_ n 0) (D.area from_ n 1)
        obtain ⟨q1, q2⟩ := new_of _ ht b1'
        by_cases h0 : (D.newest from_ n).1 = 0
        · rw [q1 h0]; exact hg.1 h0
        · rw [q2 h0]; exact hg.2 h0
      · exact .inr (put_new ht b1')
end Go.Proofs.YtgpafdagealnbaaDoor
