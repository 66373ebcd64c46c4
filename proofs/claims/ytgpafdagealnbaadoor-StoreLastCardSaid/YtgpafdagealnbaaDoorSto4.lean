/- The store: newest, Newest, Get. -/
import Derived.Test.YtgpafdagealnbaaDoorPln2
import Derived.Test.YtgpafdagealnbaaDoorSto3
namespace Go.Proofs.YtgpafdagealnbaaDoor
open Go.RowKit

def upd (st : Int × Nat × List UInt8) (k : Nat) : Option (Nat × List UInt8) → Int × Nat × List UInt8
  | none => st
  | some x => if st.2.1 < x.1 then ((k : Int), x.1, x.2) else st
def stN (A : Nat → Option (Nat × List UInt8)) : Nat → Int × Nat × List UInt8
  | 0 => (-1, 0, [])
  | k + 1 => upd (stN A k) k (A k)
theorem upd_lt (st : Int × Nat × List UInt8) (k : Nat) (x : Nat × List UInt8) (h : st.2.1 < x.1) : upd st k (some x) = ((k : Int), x.1, x.2) := if_pos h
theorem upd_ge (st : Int × Nat × List UInt8) (k : Nat) (x : Nat × List UInt8) (h : ¬ st.2.1 < x.1) : upd st k (some x) = st := if_neg h
theorem stN_newest (A : Nat → Option (Nat × List UInt8)) (h : ∀ k x, A k = some x → x.1 ≠ 0) : stN A 2 = newestF (A 0) (A 1) := by
  show upd (upd (-1, 0, []) 0 (A 0)) 1 (A 1) = _
  cases h0 : A 0 with
  | none =>
    show upd (-1, 0, []) 1 (A 1) = _
    cases h1 : A 1 with
    | none => rfl
    | some y =>
      have := h 1 y h1
      exact upd_lt _ _ _ (show 0 < y.1 by omega)
  | some x =>
    have hx := h 0 x h0
    rw [upd_lt _ _ _ (show 0 < x.1 by omega)]
    cases h1 : A 1 with
    | none => rfl
    | some y =>
      by_cases hlt : x.1 < y.1
      · rw [upd_lt _ _ _ hlt, newestF, if_pos hlt]; rfl
      · rw [upd_ge _ _ _ hlt, newestF, if_neg hlt]; rfl

section
variable {F : Nat → Prop} {w : World} {s d from_ n : Nat} {D : Dsk}
theorem sarea_none (h : SBlk w s d from_ n) (hD : DRep F w d D) (hT : Tabs w) (hd : D.down = false) (hfit : from_ + 2 * n ≤ D.n) (k : Nat) (hk : k ≤ 1) (hA : D.area from_ n k = none) :
    Calls Tryd.prog 42 #[sptr s, .int .i64 k] w fun e w' => e = .returned (.tuple #[.int .u64 0, .slice none 0 0, .bool false]) ∧ NB w w' := by
  refine (sarea_any h hD hT hd hfit k hk).mono ?_
  rintro e w' ⟨h1, h2⟩
  unfold Dsk.area at hA
  rw [hA] at h2
  exact ⟨h2, h1⟩
theorem sarea_some (h : SBlk w s d from_ n) (hD : DRep F w d D) (hT : Tabs w) (hd : D.down = false) (hfit : from_ + 2 * n ≤ D.n) (k : Nat) (hk : k ≤ 1) (g : Nat) (r : List UInt8) (hA : D.area from_ n k = some (g, r)) :
    Calls Tryd.prog 42 #[sptr s, .int .i64 k] w fun e w' => ∃ v, e = .returned (.tuple #[.int .u64 g, v, .bool true]) ∧ RBP w' (fun q => w.heap.size ≤ q ∧ q < w'.heap.size) v r ∧ NB w w' := by
  refine (sarea_any h hD hT hd hfit k hk).mono ?_
  rintro e w' ⟨h1, h2⟩
  unfold Dsk.area at hA
  rw [hA] at h2
  obtain ⟨v, h3, h4⟩ := h2
  exact ⟨v, h3, h4, h1⟩

set_option maxHeartbeats 1000000 in
theorem snewest_any (h : SBlk w s d from_ n) (hD : DRep F w d D) (hT : Tabs w) (hd : D.down = false) (hfit : from_ + 2 * n ≤ D.n) :
    Calls Tryd.prog 27 #[sptr s] w fun e w' => ∃ v, e = .returned (.tuple #[.int .i64 (D.newest from_ n).1, .int .u64 (D.newest from_ n).2.1, v]) ∧ RBP w' (fun q => w.heap.size ≤ q ∧ q < w'.heap.size) v (D.newest from_ n).2.2 ∧ NB w w' := by
  have hnew : stN (D.area from_ n) 2 = D.newest from_ n := stN_newest _ fun k x hx => (area_pos (g := x.1) (r := x.2) hx).1
  have Hnew := Lib.hid hnew
  clear hnew
  go_enter Tryd.func27, Tryd.ntmps27
  go_wp2
  go_loopw [5, 6, 7, 12] (fun a m v i wr => ∃ j : Nat, j ≤ 2 ∧ i = .int .i64 j ∧ a = .int .i64 (stN (D.area from_ n) j).1 ∧ m = .int .u64 (stN (D.area from_ n) j).2.1 ∧ RBP wr (fun q => w.heap.size ≤ q ∧ q < wr.heap.size) v (stN (D.area from_ n) j).2.2 ∧ NB w wr) (fun _ _ _ i _ => 2 - (intOf i).toNat)
  case atStart => exact ⟨0, by omega, rfl, rfl, rfl, RBP.nil _ _, NB.refl _⟩
  case round =>
    obtain ⟨j, hj, rfl, rfl, rfl, hv, hn⟩ := hrel
    by_cases hlt : j < 2
    · have d1 : decide ((j : Int) < 2) = true := by simp; omega
      have hst : stN (D.area from_ n) (j + 1) = upd (stN (D.area from_ n) j) j (D.area from_ n j) := rfl
      have Hst := Lib.hid hst
      clear hst
      generalize hS : stN (D.area from_ n) j = S at *
      have HS := Lib.hid hS
      clear hS
      obtain ⟨sa, sm, sr⟩ := S
      simp only at hv ⊢
      cases hA : D.area from_ n j with
      | none =>
        rw [hA] at Hst
        have hA' := Lib.hid hA
        clear hA
        go_wp2_with fail
        refine (sarea_none (h.nb hn) (hD.nb hn) (hT.nb hn) hd hfit j (by omega) hA'.out).mono ?_
        rintro e w2 ⟨rfl, hn2⟩
        go_wp2
        have hs2 := hn2.size
        refine ⟨⟨j + 1, by omega, by go_num, by rw [Hst.out]; rfl, by rw [Hst.out]; rfl, ?_, hn.trans hn2⟩, by simp [intOf]; omega⟩
        rw [Hst.out]
        exact (hv.nb hn2).mono fun q hq => ⟨hq.1, by omega⟩
      | some x =>
        obtain ⟨g, r⟩ := x
        rw [hA] at Hst
        have hA' := Lib.hid hA
        clear hA
        have hss := hn.size
        by_cases hg : sm < g
        · have d2 : decide (sm < g) = true := decide_eq_true hg
          go_wp2_with fail
          refine (sarea_some (h.nb hn) (hD.nb hn) (hT.nb hn) hd hfit j (by omega) g r hA'.out).mono ?_
          rintro e w2 ⟨v2, rfl, hv2, hn2⟩
          have hs2 := hn2.size
          go_wp2
          have hu : upd (sa, sm, sr) j (some (g, r)) = ((j : Int), g, r) := by simp [upd, hg]
          refine ⟨⟨j + 1, by omega, by go_num, by rw [Hst.out, hu], by rw [Hst.out, hu], ?_, hn.trans hn2⟩, by simp [intOf]; omega⟩
          rw [Hst.out, hu]
          exact hv2.mono fun q hq => ⟨by omega, by omega⟩
        · have d2 : decide (sm < g) = false := decide_eq_false hg
          go_wp2_with fail
          refine (sarea_some (h.nb hn) (hD.nb hn) (hT.nb hn) hd hfit j (by omega) g r hA'.out).mono ?_
          rintro e w2 ⟨v2, rfl, hv2, hn2⟩
          have hs2 := hn2.size
          go_wp2
          have hu : upd (sa, sm, sr) j (some (g, r)) = (sa, sm, sr) := by simp [upd, hg]
          refine ⟨⟨j + 1, by omega, by go_num, by rw [Hst.out, hu], by rw [Hst.out, hu], ?_, hn.trans hn2⟩, by simp [intOf]; omega⟩
          rw [Hst.out, hu]
          exact (hv.nb hn2).mono fun q hq => ⟨hq.1, by omega⟩
    · have hj2 : j = 2 := by omega
      subst hj2
      rw [Hnew.out] at *
      go_wp2
      refine bodyPost_ret (results_tmp3 rfl _ _ _) rfl ?_
      exact ⟨_, rfl, hv, hn⟩

/-- What Newest and Get answer. -/
def newestE (x : Int × Nat × List UInt8) : Int := if x.1 < 0 then 70 else 0
theorem newest_sign (D : Dsk) (from_ n : Nat) : (D.newest from_ n).1 = -1 ∧ (D.newest from_ n).2.1 = 0 ∧ (D.newest from_ n).2.2 = [] ∨ 0 ≤ (D.newest from_ n).1 := by
  unfold Dsk.newest
  rcases newest_cases (P := fun _ => True) (D.area from_ n 0) (D.area from_ n 1) (fun _ _ => trivial) (fun _ _ => trivial) with ⟨h, _⟩ | ⟨x, _, h, _⟩ | ⟨x, _, h, _⟩ <;> rw [h]
  · exact .inl ⟨rfl, rfl, rfl⟩
  · exact .inr (Int.le_refl 0)
  · exact .inr (show (0 : Int) ≤ 1 by decide)

/-- What Newest and Get leave. -/
def NewPost (D : Dsk) (from_ n : Nat) (w : World) (e : Ending) (w' : World) : Prop := NB w w' ∧ (D.down = true → e = .returned (.tuple #[.int .i64 0, .int .u64 0, .int .i64 60])) ∧ (D.down = false →
      ((D.newest from_ n).1 < 0 → e = .returned (.tuple #[.int .i64 0, .int .u64 0, .int .i64 70])) ∧
      (0 ≤ (D.newest from_ n).1 → e = .returned (.tuple #[.int .i64 (D.newest from_ n).1, .int .u64 (D.newest from_ n).2.1, .int .i64 0])))
def GetPost (D : Dsk) (from_ n : Nat) (w : World) (e : Ending) (w' : World) : Prop := NB w w' ∧ (D.down = true → e = .returned (.tuple #[.slice none 0 0, .int .i64 60])) ∧ (D.down = false →
      ((D.newest from_ n).1 < 0 → e = .returned (.tuple #[.slice none 0 0, .int .i64 70])) ∧
      (0 ≤ (D.newest from_ n).1 → ∃ v, e = .returned (.tuple #[v, .int .i64 0]) ∧ RBP w' (fun q => w.heap.size ≤ q ∧ q < w'.heap.size) v (D.newest from_ n).2.2))

set_option maxHeartbeats 400000 in
theorem snewestE_any (h : SBlk w s d from_ n) (hD : DRep F w d D) (hT : Tabs w) (hfit : from_ + 2 * n ≤ D.n) :
    Calls Tryd.prog 12 #[sptr s] w (NewPost D from_ n w) := by
  go_enter Tryd.func12, Tryd.ntmps12
  go_wp2_with fail
  refine (sready_any h hD).mono ?_
  rintro e w1 ⟨rfl, rfl⟩
  cases hd : D.down
  · rw [show D.err = 0 by simp [Dsk.err, hd]]
    go_wp2_with fail
    refine (snewest_any h hD hT hd hfit).mono ?_
    rintro e w2 ⟨v, rfl, hv, hn⟩
    generalize hN : D.newest from_ n = N at *
    have HN := Lib.hid hN
    have Hd := Lib.hid hd
    clear hN hd
    obtain ⟨a, g, r⟩ := N
    simp only at hv ⊢
    by_cases ha : a < 0
    · have d1 : decide (a < 0) = true := decide_eq_true ha
      go_wp2
      refine bodyPost_ret (results_tmp3 rfl _ _ _) rfl ?_
      refine ⟨hn, fun e => absurd (Hd.out.symm.trans e) (by decide), fun _ => ?_⟩
      rw [HN.out]
      exact ⟨fun _ => rfl, fun e => absurd ha (Int.not_lt.2 e)⟩
    · have d1 : decide (a < 0) = false := decide_eq_false ha
      go_wp2
      refine bodyPost_ret (results_tmp3 rfl _ _ _) rfl ?_
      refine ⟨hn, fun e => absurd (Hd.out.symm.trans e) (by decide), fun _ => ?_⟩
      rw [HN.out]
      exact ⟨fun e => absurd e (Int.not_lt.2 ha), fun _ => rfl⟩
  · rw [show D.err = 60 by simp [Dsk.err, hd]]
    have Hd := Lib.hid hd
    clear hd
    go_wp2
    refine bodyPost_ret (results_tmp3 rfl _ _ _) rfl ?_
    exact ⟨NB.refl _, fun _ => rfl, fun e => absurd (Hd.out.symm.trans e) (by decide)⟩

set_option maxHeartbeats 400000 in
theorem sget_any (h : SBlk w s d from_ n) (hD : DRep F w d D) (hT : Tabs w) (hfit : from_ + 2 * n ≤ D.n) :
    Calls Tryd.prog 11 #[sptr s] w (GetPost D from_ n w) := by
  go_enter Tryd.func11, Tryd.ntmps11
  go_wp2_with fail
  refine (sready_any h hD).mono ?_
  rintro e w1 ⟨rfl, rfl⟩
  cases hd : D.down
  · rw [show D.err = 0 by simp [Dsk.err, hd]]
    go_wp2_with fail
    refine (snewest_any h hD hT hd hfit).mono ?_
    rintro e w2 ⟨v, rfl, hv, hn⟩
    generalize hN : D.newest from_ n = N at *
    have HN := Lib.hid hN
    have Hd := Lib.hid hd
    clear hN hd
    obtain ⟨a, g, r⟩ := N
    simp only at hv ⊢
    by_cases ha : a < 0
    · have d1 : decide (a < 0) = true := decide_eq_true ha
      go_wp2
      refine bodyPost_ret (results_tmp2 rfl _ _ _) rfl ?_
      refine ⟨hn, fun e => absurd (Hd.out.symm.trans e) (by decide), fun _ => ?_⟩
      rw [HN.out]
      exact ⟨fun _ => rfl, fun e => absurd ha (Int.not_lt.2 e)⟩
    · have d1 : decide (a < 0) = false := decide_eq_false ha
      go_wp2
      refine bodyPost_ret (results_tmp2 rfl _ _ _) rfl ?_
      refine ⟨hn, fun e => absurd (Hd.out.symm.trans e) (by decide), fun _ => ?_⟩
      rw [HN.out]
      exact ⟨fun e => absurd e (Int.not_lt.2 ha), fun _ => ⟨_, rfl, hv⟩⟩
  · rw [show D.err = 60 by simp [Dsk.err, hd]]
    have Hd := Lib.hid hd
    clear hd
    go_wp2
    refine bodyPost_ret (results_tmp2 rfl _ _ _) rfl ?_
    exact ⟨NB.refl _, fun _ => rfl, fun e => absurd (Hd.out.symm.trans e) (by decide)⟩
end
end Go.Proofs.YtgpafdagealnbaaDoor
