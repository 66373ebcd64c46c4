/- The disk: Load. -/
import Derived.Test.YtgpafdagealnbaaDoorDsk9
namespace Go.Proofs.YtgpafdagealnbaaDoor
open Go.RowKit

theorem range_snoc (g : Nat → UInt8) (j : Nat) : (List.range (64 * j)).map g ++ (List.range 64).map (fun i => g (64 * j + i)) = (List.range (64 * (j + 1))).map g := by
  rw [show 64 * (j + 1) = 64 * j + 64 by omega, List.range_add, List.map_append, List.map_map]
  rfl
theorem own_fresh {w : World} {base : Nat} {v : Value} {l : List UInt8} (h : OB w base v l) : RBP w (fun g => base ≤ g ∧ g < w.heap.size) v l := by
  obtain ⟨A, c, hv, h1, h2, h3⟩ := h.rb
  refine ⟨A, c, hv, h1, h2, fun h0 => ?_⟩
  obtain ⟨g, o, hA, hg, hc⟩ := h3 h0
  refine ⟨g, o, hA, ⟨?_, hg⟩, hc⟩
  have := (World.ownsRow.lt h g (by rw [hv, hA]; rfl)).1
  exact this
theorem RBP.prefix_ {w : World} {S : Nat → Prop} {A : Option Addr} {L c n : Nat} {l : List UInt8} (h : RBP w S (.slice A L c) l) (hn : n ≤ l.length) : RBP w S (.slice A n n) (l.take n) := by
  obtain ⟨A', c', hv, h1, h2, h3⟩ := h
  injection hv with e1 e2 e3
  subst e1
  refine ⟨A, n, by rw [List.length_take, Nat.min_eq_left hn], by rw [List.length_take]; omega, by omega, fun h0 => ?_⟩
  obtain ⟨g, o, hA, hg, hc⟩ := h3 (by rw [List.length_take] at h0; omega)
  refine ⟨g, o, hA, hg, fun i b hb => hc i b ?_⟩
  rw [List.getElem?_take] at hb
  split at hb
  · exact hb
  · cases hb

/-- Bytes over several sectors. -/
def Dsk.bytesAt (D : Dsk) (at_ n : Nat) : List UInt8 := (List.range n).map fun i => D.cur (64 * at_ + i)
theorem Dsk.bytesAt_length (D : Dsk) (at_ n : Nat) : (D.bytesAt at_ n).length = n := by simp [Dsk.bytesAt]

set_option maxRecDepth 20000 in
set_option maxHeartbeats 1000000 in
theorem dload_any {F : Nat → Prop} {w : World} {d : Nat} {D : Dsk} (h : DRep F w d D) (at_ n : Nat) (hat : at_ ≤ 1000000000) (hn : n ≤ 1000000000) :
    Calls Tryd.prog 63 #[dptr d, .int .i64 at_, .int .i64 n] w fun e w' => (∃ v, e = .returned (.tuple #[v, .int .i64 (D.spanE at_ n)]) ∧ (D.spanE at_ n = 0 → RBP w' (fun g => w.heap.size ≤ g ∧ g < w'.heap.size) v (D.bytesAt at_ n))) ∧ NB w w' := by
  have n2 := h.wf.n2
  go_enter Tryd.func63, Tryd.ntmps63
  go_wp2_with fail
  refine (dready_any h).mono ?_
  rintro e w1 ⟨rfl, rfl⟩
  cases hd : D.down
  · rw [show D.err = 0 by simp [Dsk.err, hd]]
    have hn0 : decide ((n : Int) < 0) = false := by simp
    go_wp2_with fail
    refine (dspan_any h at_ n hat hn).mono ?_
    rintro e w1 ⟨rfl, hn1⟩
    by_cases hs : D.spanE at_ n = 0
    · rw [hs]
      have hfit : at_ + needN n ≤ D.n := by
        unfold Dsk.spanE at hs
        rw [hd, if_neg (by decide)] at hs
        split at hs
        · cases hs
        · omega
      have hnn : n ≤ 64 * needN n := by unfold needN; omega
      have hnb : needN n ≤ 16384 := by omega
      go_wp2_with fail
      refine (dneed_any n (by omega) _).mono ?_
      rintro e w2 ⟨rfl, rfl⟩
      go_wp2
      go_loopw [10, 30] (fun v i wr => ∃ j : Nat, j ≤ needN n ∧ i = .int .i64 j ∧ OB wr w.heap.size v (D.bytesAt at_ (64 * j)) ∧ NB w wr) (fun _ i _ => needN n - (intOf i).toNat)
      case atStart => exact ⟨0, by omega, rfl, OB.nil _ _, hn1⟩
      case round =>
        obtain ⟨j, hj, rfl, ho, hnr⟩ := hrel
        by_cases hlt : j < needN n
        · have d1 : decide ((j : Int) < (needN n : Int)) = true := by simpa using hlt
          go_wp2_with fail
          rw [show ((at_ : Int) + (j : Int)) = ((at_ + j : Nat) : Int) by omega]
          refine (dread_any (h.nb hnr) (at_ + j) (by omega) hd).mono ?_
          rintro e w2 ⟨v2, rfl, hv2, hn2⟩
          have ho2 : OB w2 w.heap.size _ (D.bytesAt at_ (64 * j)) := own_below ho fun q e => hn2.block q (ho.lt q e).2
          have hr2 : RB w2 w2.heap.size v2 (secL D.cur (at_ + j)) := hv2.mono fun q hq => hq.2
          have hsz := hn2.size
          have hsz1 := hnr.size
          have hjoin : D.bytesAt at_ (64 * j) ++ secL D.cur (at_ + j) = D.bytesAt at_ (64 * (j + 1)) := by
            unfold Dsk.bytesAt secL
            rw [← range_snoc]
            congr 1
            exact List.map_congr_left fun i _ => by rw [show 64 * (at_ + j) + i = 64 * at_ + (64 * j + i) by omega]
          go_wp2_with (first | (at_builtin; refine append_bytes rfl _ _ rfl w.heap.size _ _ rfl ho2 w2.heap.size v2 _ rfl hr2 ?c1 ?c2 ?_) | fail)
          case c1 => rw [D.bytesAt_length, secL_length]; omega
          case c2 => omega
          intro v' w3 ho3 hg3 _
          go_wp2
          refine ⟨⟨j + 1, by omega, by go_num, ho3, (hnr.trans hn2).own ho2 (Nat.le_refl _) hg3⟩, by simp [intOf]; omega⟩
        · have hjl : j = needN n := by omega
          subst hjl
          have d1 : decide ((needN n : Int) < (needN n : Int)) = false := by simp
          have hfr := own_fresh ho
          have hlen := D.bytesAt_length at_ (64 * needN n)
          obtain ⟨A, c, rfl⟩ := own_form ho
          have hpre := hfr.prefix_ (n := n) (by rw [hlen]; exact hnn)
          have htk : (D.bytesAt at_ (64 * needN n)).take n = D.bytesAt at_ n := by
            unfold Dsk.bytesAt
            rw [← List.map_take, List.take_range, Nat.min_eq_left hnn]
          rw [htk] at hpre
          have hq1 : (n : Int) ≤ ((64 * needN n : Nat) : Int) := by omega
          obtain ⟨_, c2, hc2, hc3, hc4, _⟩ := hfr
          injection hc2 with hc5 hc6 hc7
          rw [hlen] at hc3
          subst hc7
          subst hc5
          clear ho hc6
          rw [hlen] at *
          go_wp2
          refine bodyPost_ret (results_tmp2 rfl _ _ _) rfl ?_
          exact ⟨⟨_, rfl, hpre⟩, hnr⟩
    · have d1 : decide (D.spanE at_ n = 0) = false := decide_eq_false hs
      go_wp2
      refine bodyPost_ret (results_tmp2 rfl _ _ _) rfl ?_
      exact ⟨⟨_, rfl, fun e => absurd e hs⟩, hn1⟩
  · rw [show D.err = 60 by simp [Dsk.err, hd]]
    go_wp2
    refine bodyPost_ret (results_tmp2 rfl _ _ _) rfl ?_
    have hs : D.spanE at_ n = 60 := by simp [Dsk.spanE, hd]
    rw [hs]
    exact ⟨⟨_, rfl, fun e => by cases e⟩, NB.refl _⟩
end Go.Proofs.YtgpafdagealnbaaDoor
