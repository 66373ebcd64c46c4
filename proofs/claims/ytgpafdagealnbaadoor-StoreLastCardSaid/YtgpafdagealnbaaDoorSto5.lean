/- The store: step, Put. -/
import Derived.Test.YtgpafdagealnbaaDoorSto4
namespace Go.Proofs.YtgpafdagealnbaaDoor
open Go.RowKit

section
variable {F : Nat → Prop} {w : World} {s d from_ n : Nat} {D : Dsk}
/-- The tables lie in none of these blocks. -/
def TF (F : Nat → Prop) : Prop := ¬ F 1 ∧ ¬ F 0
theorem Tabs.go {w' : World} (h : Tabs w) (hF : TF F) (hf : Fr w.heap.size F w w') : Tabs w' := Tabs.fr h hf ⟨h.lt.1, hF.1⟩ ⟨h.lt.2, hF.2⟩
theorem TF.go {F' : Nat → Prop} (hT : Tabs w) (h : TF F) (hF : ∀ k, F' k → F k ∨ w.heap.size ≤ k) : TF F' :=
  ⟨fun e => (hF _ e).elim h.1 fun e => by have := hT.lt.1; omega, fun e => (hF _ e).elim h.2 fun e => by have := hT.lt.2; omega⟩
theorem not_go {F' : Nat → Prop} {k : Nat} (h : ¬ F k) (hk : k < w.heap.size) (hF : ∀ k, F' k → F k ∨ w.heap.size ≤ k) : ¬ F' k :=
  fun e => (hF _ e).elim h fun e => by omega

set_option maxHeartbeats 400000 in
theorem sstep_any (h : SBlk w s d from_ n) (hD : DRep F w d D) (hs : ¬ F s) (hfew : D.held.length ≤ 100000) (at_ : Nat) (hat : at_ ≤ 1000000000) (v : Value) (b : List UInt8) (hb : b.length ≤ 1000000000) (hv : RBP w (fun g => g < w.heap.size ∧ ¬ F g) v b) :
    Calls Tryd.prog 29 #[sptr s, .int .i64 at_, v] w fun e w' => e = .returned (.int .i64 (D.step at_ b).1) ∧ DGo F w d (D.step at_ b).2 w' := by
  obtain ⟨A, cp, rfl, _⟩ := id hv
  have hB := h.1
  have c0 := hB.cell 0
  have c1 := hB.cell 1
  have c2 := hB.cell 2
  go_enter Tryd.func29, Tryd.ntmps29
  go_wp2_with fail
  refine (dsave_any hD hfew at_ hat _ b hb hv).mono ?_
  rintro e w1 ⟨rfl, hg⟩
  have hE0 : (D.save at_ b).1 = 0 → D.step at_ b = ((D.save at_ b).2.flushE, (D.save at_ b).2.flush) := fun h => by unfold Dsk.step; rw [if_pos h]
  have hE1 : (D.save at_ b).1 ≠ 0 → D.step at_ b = D.save at_ b := fun h => by unfold Dsk.step; rw [if_neg h]
  have HE0 := Lib.hid hE0
  have HE1 := Lib.hid hE1
  clear hE0 hE1
  generalize hX : D.save at_ b = X at *
  obtain ⟨e1, D1⟩ := X
  simp only at hg ⊢
  clear hX
  by_cases h0 : e1 = 0
  · subst h0
    obtain ⟨F1, hD1, hF1, hf1⟩ := hg
    have hs1 := not_go hs hB.lt hF1
    have h1 := h.fr hs hf1
    have hB1 := h1.1
    clear c0 c1 c2
    have c0 := hB1.cell 0
    have c1 := hB1.cell 1
    have c2 := hB1.cell 2
    go_wp2_with fail
    refine (dflush_any hD1).mono ?_
    rintro e w2 ⟨rfl, hg2⟩
    go_wp2
    go_ret
    rw [HE0.out (by first | rfl | trivial)]
    exact ⟨rfl, DGo.of hF1 hf1 hg2⟩
  · have d1 : (e1 == 0) = false := beq_eq_false_iff_ne.2 h0
    have d2 : decide (e1 = 0) = false := decide_eq_false h0
    go_wp2
    go_ret
    rw [HE1.out h0]
    exact ⟨rfl, hg⟩

theorem splace0 (h : SBlk w s d from_ n) : Calls Tryd.prog 28 #[sptr s, .int .i64 0] w fun e w' => e = .returned (.int .i64 (from_ : Int)) ∧ NB w w' :=
  (splace_any h 0 (by omega)).mono fun _ _ ⟨h1, h2⟩ => ⟨by rw [h1]; simp, h2⟩
theorem splace1 (h : SBlk w s d from_ n) : Calls Tryd.prog 28 #[sptr s, .int .i64 1] w fun e w' => e = .returned (.int .i64 ((from_ + n : Nat) : Int)) ∧ NB w w' :=
  (splace_any h 1 (by omega)).mono fun _ _ ⟨h1, h2⟩ => ⟨by rw [h1]; simp, h2⟩
/-- The three steps of a put, behind the newest. -/
theorem headF_list (g : Nat) (b : List UInt8) : (List.range 64).map (headF g b) = headB g b := by
  rw [List.map_congr_left fun i hi => (headB_F g b i (List.mem_range.1 hi)).symm]
  exact map_getD _ 64 (headB_length _ _)

set_option maxRecDepth 100000 in
set_option maxHeartbeats 1000000 in
theorem sput_any (h : SBlk w s d from_ n) (hD : DRep F w d D) (hT : Tabs w) (hTF : TF F) (hfit : from_ + 2 * n ≤ D.n) (hs : ¬ F s) (hfew : D.held.length ≤ 100000) (v : Value) (b : List UInt8) (hb : b.length ≤ 1000000000) (hv : RBP w (fun g => g < w.heap.size ∧ ¬ F g) v b) :
    Calls Tryd.prog 14 #[sptr s, v] w fun e w' => e = .returned (.int .i64 (D.put from_ n b).1) ∧ DGo F w d (D.put from_ n b).2 w' := by
  obtain ⟨A, cp, rfl, _⟩ := id hv
  have hz : ∀ w, (zeroValue 65).run Tryd.prog w = .ok (.agg (bya 64 fun _ => 0)) w := zero_head
  have hn2 := h.2
  have hwf := hD.wf.held
  go_enter Tryd.func14, Tryd.ntmps14
  go_wp2_with fail
  refine (sready_any h hD).mono ?_
  rintro e w1 ⟨rfl, rfl⟩
  cases hd : D.down
  · rw [show D.err = 0 by simp [Dsk.err, hd]]
    go_wp2_with fail
    refine (snewest_any h hD hT hd hfit).mono ?_
    rintro e w1 ⟨v1, rfl, _, hn1⟩
    have h1 := h.nb hn1
    have hD1 := hD.nb hn1
    have hT1 := hT.nb hn1
    have hv1 : RBP w1 (fun g => g < w1.heap.size ∧ ¬ F g) (.slice A b.length cp) b := (hv.nb hn1).mono fun g hg => ⟨Nat.lt_of_lt_of_le hg.1 hn1.size, hg.2⟩
    have hf1 : Fr w.heap.size F w w1 := Fr.of_below hn1
    have hs1 : s < w1.heap.size := h1.1.lt
    have hlt : (D.newest from_ n).2.1 < 18446744073709551616 := by
      unfold Dsk.newest
      rcases newest_cases (P := fun x => x.1 < 18446744073709551616) (D.area from_ n 0) (D.area from_ n 1) (fun x hx => (area_pos (g := x.1) (r := x.2) hx).2.1) (fun x hx => (area_pos (g := x.1) (r := x.2) hx).2.1) with ⟨h, _⟩ | ⟨x, _, h, hx⟩ | ⟨x, _, h, hx⟩ <;> rw [h]
      · decide
      · exact hx
      · exact hx
    have hp2 : 64 * (n - 1) < b.length ∨ (D.newest from_ n).2.1 = 18446744073709551615 → D.put from_ n b = (2, D) := fun h => by unfold Dsk.put; rw [hd, if_neg (by decide), if_pos h]
    have hp3 : ¬ (64 * (n - 1) < b.length ∨ (D.newest from_ n).2.1 = 18446744073709551615) → D.put from_ n b = D.putAt (D.toOf from_ n) ((D.newest from_ n).2.1 + 1) b := fun h => by unfold Dsk.put; rw [hd, if_neg (by decide), if_neg h]
    have hto : D.toOf from_ n = if (D.newest from_ n).1 = 0 then from_ + n else from_ := rfl
    have hton : D.toOf from_ n + n ≤ D.n := by rw [hto]; split <;> omega
    generalize hT0 : D.toOf from_ n = to at *
    generalize hN : D.newest from_ n = N at *
    obtain ⟨at_, g, r⟩ := N
    simp only at hlt hp2 hp3 hto ⊢
    have Hd := Lib.hid hd
    have Hp2 := Lib.hid hp2
    have Hp3 := Lib.hid hp3
    have Hto := Lib.hid hto
    clear hd hp2 hp3 hto hT0 hN
    go_wp2_with fail
    refine (sroom_any h1).mono ?_
    rintro e w2 ⟨rfl, rfl⟩
    by_cases hl : 64 * (n - 1) < b.length
    · have d1 : decide ((b.length : Int) > ((64 * (n - 1) : Nat) : Int)) = true := by simp; omega
      go_wp2
      go_ret
      rw [Hp2.out (.inl hl)]
      exact ⟨rfl, F, hD1, fun k hk => .inl hk, hf1⟩
    · have d1 : decide ((b.length : Int) > ((64 * (n - 1) : Nat) : Int)) = false := by simp; omega
      by_cases hg : g = 18446744073709551615
      · have d2 : ((g : Int) == 18446744073709551615) = true := by rw [hg]; rfl
        have hp := Hp2.out (.inr hg)
        have Hp := Lib.hid hp
        clear hp hg
        go_wp2
        go_ret
        rw [Hp.out]
        exact ⟨rfl, F, hD1, fun k hk => .inl hk, hf1⟩
      · have d2 : ((g : Int) == 18446744073709551615) = false := beq_eq_false_iff_ne.2 (by omega)
        have hp := Hp3.out (by omega)
        have Hp := Lib.hid hp
        have hg2 : g + 1 < 18446744073709551616 := by omega
        have Hg2 := Lib.hid hg2
        have hg1 : g ≤ 18446744073709551614 := by omega
        have Hlt := Lib.hid hlt
        clear hp hg hg2 hlt
        have hz64 : (List.replicate 64 (0 : UInt8)).length = 64 := List.length_replicate
        have hst1 := step_ran D to (List.replicate 64 0) Hd.out (by rw [hz64, need_64]; omega) (fun x hx => (hwf x hx).2)
        have hq1 : (D.step to (List.replicate 64 0)).1 ≠ 0 → D.put from_ n b = D.step to (List.replicate 64 0) := fun h => by rw [Hp.out]; unfold Dsk.putAt; rw [if_neg h]
        have hq2 : (D.step to (List.replicate 64 0)).1 = 0 → ((D.step to (List.replicate 64 0)).2.step (to + 1) b).1 ≠ 0 → D.put from_ n b = (D.step to (List.replicate 64 0)).2.step (to + 1) b := fun h h2 => by rw [Hp.out]; unfold Dsk.putAt; rw [if_pos h, if_neg h2]
        have hq3 : (D.step to (List.replicate 64 0)).1 = 0 → ((D.step to (List.replicate 64 0)).2.step (to + 1) b).1 = 0 → D.put from_ n b = ((D.step to (List.replicate 64 0)).2.step (to + 1) b).2.step to (headB (g + 1) b) := fun h h2 => by rw [Hp.out]; unfold Dsk.putAt; rw [if_pos h, if_pos h2]
        have hto2 : at_ = 0 ∧ to = from_ + n ∨ at_ ≠ 0 ∧ to = from_ := by
          have := Hto.out
          split at this
          · rename_i h; exact .inl ⟨h, this⟩
          · rename_i h; exact .inr ⟨h, this⟩
        have hlow : to ≤ 1000000 := by omega
        have Hst1 := Lib.hid hst1
        have Hq1 := Lib.hid hq1
        have Hq2 := Lib.hid hq2
        have Hq3 := Lib.hid hq3
        have hDn : ∀ D1 : Dsk, D1.n = D.n → to + 1 + needN b.length ≤ D1.n ∧ to + 1 ≤ D1.n := fun D1 h => by unfold needN; omega
        have HDn := Lib.hid hDn
        have hb2 : b.length ≤ 1048000 := by omega
        clear hst1 hq1 hq2 hq3 hDn hz64 Hp
        rcases hto2 with ⟨hat, hto2⟩ | ⟨hat, hto2⟩
        rotate_left
        · have dat : (at_ == 0) = false := beq_eq_false_iff_ne.2 hat
          have Hto2 := Lib.hid hto2
          have Hat := Lib.hid hat
          clear hto2 hat
          go_wp2_with fail
          refine (splace0 h1).mono ?_
          rintro e w2 ⟨rfl, hn2⟩
          rw [← Hto2.out]
          have h3 := h1.nb hn2
          have hD3 := hD1.nb hn2
          have hn3 := hn1.trans hn2
          have hT3 := hT.nb hn3
          have hf3 : Fr w.heap.size F w w2 := Fr.of_below hn3
          have hv3 : RBP w2 (fun g => g < w.heap.size ∧ ¬ F g) (.slice A b.length cp) b := hv.there.keep (fun g o hg => hn3.cell_ hg.2) |>.mono fun g hg => hg.1
          have hs3 : s < w2.heap.size := h3.1.lt
          clear hn2
          go_wp2_with fail
          have hB0 : Blk (w2.alloc (.cells (bya 64 fun _ => 0) 65)) w2.heap.size 65 (bya 64 fun _ => 0) := Blk.newAt rfl
          have h4 : SBlk (w2.alloc (.cells (bya 64 fun _ => 0) 65)) s d from_ n := h3.nb ((NB.refl w2).alloc _)
          have hD4 : DRep F (w2.alloc (.cells (bya 64 fun _ => 0) 65)) d D := hD3.nb ((NB.refl w2).alloc _)
          have hT4 := hT3.nb ((NB.refl w2).alloc (.cells (bya 64 fun _ => 0) 65))
          have hf4 : Fr w.heap.size F w (w2.alloc (.cells (bya 64 fun _ => 0) 65)) := hf3.alloc hf3.size _
          have hnF : ¬ F w2.heap.size := fun e => by have := hD3.lt e; omega
          have hsrc := hB0.rb (fun g => g < (w2.alloc (.cells (bya 64 fun _ => 0) 65)).heap.size ∧ ¬ F g) ⟨hB0.lt, hnF⟩ 0 64 64 (by omega) (by omega) (by omega)
          rw [show (List.range 64).map (fun i => (fun _ : Nat => (0 : UInt8)) (0 + i)) = List.replicate 64 0 from rfl] at hsrc
          clear hB0
          generalize w2.alloc (.cells (bya 64 fun _ => 0) 65) = w4 at *
          refine (sstep_any h4 hD4 hs hfew to (by omega) _ _ (by rw [List.length_replicate]; omega) hsrc).mono ?_
          rintro e w5 ⟨rfl, hg5⟩
          clear hsrc
          generalize hX : D.step to (List.replicate 64 0) = X at *
          obtain ⟨e1, D1⟩ := X
          simp only at hg5 ⊢
          clear hX
          obtain ⟨F5, hD5, hF5, hf5⟩ := hg5
          have hfw5 := hf4.step (fun k hk => .inl hk) hf4.size hf5
          have hFw5 : ∀ k, F5 k → F k ∨ w.heap.size ≤ k := fun k hk => (hF5 k hk).imp id fun e => Nat.le_trans hf4.size e
          by_cases he1 : e1 = 0
          · subst he1
            obtain ⟨hDn1, hDh1, _⟩ := Hst1.out
            simp only at hDn1 hDh1
            obtain ⟨hfit1, hfit2⟩ := HDn.out D1 hDn1
            have hs5 := not_go hs h4.1.lt hF5
            have h5 := h4.fr hs hf5
            have hT5 := hT4.go hTF hf5
            have hTF5 := hTF.go hT4 hF5
            have hv5 : RBP w5 (fun g => g < w5.heap.size ∧ ¬ F5 g) (.slice A b.length cp) b := ((hv3.keep (w' := w5) fun g o hg => by
              rw [hfw5.cell hg.1 hg.2, hn3.cell_ hg.1]).mono fun g hg => ⟨Nat.lt_of_lt_of_le hg.1 hfw5.size, fun e => by
                rcases hFw5 g e with h | h
                · exact hg.2 h
                · have := hg.1; omega⟩)
            have hfew1 : D1.held.length ≤ 100000 := by rw [hDh1]; exact Nat.zero_le _
            have hDh1' := Lib.hid hDh1
            have hDn1' := Lib.hid hDn1
            clear hDh1 hDn1
            go_wp2_with fail
            rw [show ((to : Int) + 1) = ((to + 1 : Nat) : Int) by omega]
            refine (sstep_any h5 hD5 hs5 hfew1 (to + 1) (by omega) _ _ hb hv5).mono ?_
            rintro e w6 ⟨rfl, hg6⟩
            generalize hX : D1.step (to + 1) b = X at *
            obtain ⟨e2, D2⟩ := X
            simp only at hg6 ⊢
            obtain ⟨F6, hD6, hF6, hf6⟩ := hg6
            have hfw6 := hfw5.step hFw5 hfw5.size hf6
            have hFw6 : ∀ k, F6 k → F k ∨ w.heap.size ≤ k := fun k hk => (hF6 k hk).elim (fun h => hFw5 k h) fun e => .inr (Nat.le_trans hfw5.size e)
            by_cases he2 : e2 = 0
            · subst he2
              have hst2 : D2.held = [] := by
                have := (step_ran D1 (to + 1) b (by
                  rcases Hst1.out.done with h | h
                  · exact h.2.1
                  · have := h.1; cases this) hfit1 (fun x hx => by rw [hDh1'.out] at hx; cases hx)).held
                rw [hX] at this
                exact this
              have hs6 := not_go hs5 h5.1.lt hF6
              have h6 := h5.fr hs5 hf6
              have hT6 := hT5.go hTF5 hf6
              have hTF6 := hTF5.go hT5 hF6
              have hv6 : RBP w6 (fun g => g < w6.heap.size) (.slice A b.length cp) b := ((hv3.keep (w' := w6) fun g o hg => by
                rw [hfw6.cell hg.1 hg.2, hn3.cell_ hg.1]).mono fun g hg => Nat.lt_of_lt_of_le hg.1 hfw6.size)
              have hfew2 : D2.held.length ≤ 100000 := by rw [hst2]; exact Nat.zero_le _
              clear hst2 hX
              go_wp2_with fail
              rw [show ((g : Int) + 1) = ((g + 1 : Nat) : Int) by omega]
              refine (headOf_any (g + 1) Hg2.out _ b w6 hT6 hv6 hb2).mono ?_
              rintro e w7 ⟨rfl, hn7⟩
              have h7 := h6.nb hn7
              have hD7 := hD6.nb hn7
              have hfw7 := hfw6.nb hfw6.size hn7
              go_wp2_with (first | (refine wpList_var_blk rfl rfl 65 13 rfl rfl _ rfl (bya 64 (headF (g + 1) b)) (bya 64 fun _ => 0) rfl rfl zero_head 64 (bya_size _ _) (bya_size _ _) size_head (bya_one _ _) ?_) | fail)
              have hB8 : Blk (w7.alloc (.cells (bya 64 (headF (g + 1) b)) 65)) w7.heap.size 65 (bya 64 (headF (g + 1) b)) := Blk.newAt rfl
              have hn8 : NB w7 (w7.alloc (.cells (bya 64 (headF (g + 1) b)) 65)) := (NB.refl w7).alloc _
              have hnF6 : ¬ F6 w7.heap.size := fun e => by have := hD7.lt e; omega
              have hsrc := hB8.rb (fun g' => g' < (w7.alloc (.cells (bya 64 (headF (g + 1) b)) 65)).heap.size ∧ ¬ F6 g') ⟨hB8.lt, hnF6⟩ 0 64 64 (by omega) (by omega) (by omega)
              rw [show (List.range 64).map (fun i => headF (g + 1) b (0 + i)) = headB (g + 1) b by simp only [Nat.zero_add]; exact headF_list _ _] at hsrc
              have h8 := h7.nb hn8
              have hD8 := hD7.nb hn8
              have hfw8 := hfw7.nb hfw7.size hn8
              clear hB8
              generalize w7.alloc (.cells (bya 64 (headF (g + 1) b)) 65) = w8 at *
              refine (sstep_any h8 hD8 hs6 hfew2 to (by omega) _ _ (by rw [headB_length]; omega) hsrc).mono ?_
              rintro e w9 ⟨rfl, hg9⟩
              go_wp2
              go_ret
              rw [Hq3.out (by first | rfl | trivial) (by first | rfl | trivial)]
              exact ⟨rfl, DGo.of hFw6 hfw8 hg9⟩
            · have de2 : (e2 == 0) = false := beq_eq_false_iff_ne.2 he2
              have hq := Hq2.out (by first | rfl | trivial) he2
              have Hq := Lib.hid hq
              clear hq hX
              go_wp2
              go_ret
              rw [Hq.out]
              exact ⟨rfl, F6, hD6, hFw6, hfw6⟩
          · have de1 : (e1 == 0) = false := beq_eq_false_iff_ne.2 he1
            have hq := Hq1.out he1
            have Hq := Lib.hid hq
            clear hq
            go_wp2
            go_ret
            rw [Hq.out]
            exact ⟨rfl, F5, hD5, hFw5, hfw5⟩
        · subst hat
          have Hto2 := Lib.hid hto2
          clear hto2
          go_wp2_with fail
          refine (splace0 h1).mono ?_
          rintro e w2 ⟨rfl, hn2⟩
          go_wp2_with fail
          refine (splace1 (h1.nb hn2)).mono ?_
          rintro e w3 ⟨rfl, hn2'⟩
          rw [← Hto2.out]
          have h3 := (h1.nb hn2).nb hn2'
          have hD3 := (hD1.nb hn2).nb hn2'
          have hn3 := (hn1.trans hn2).trans hn2'
          have hT3 := hT.nb hn3
          have hf3 : Fr w.heap.size F w w3 := Fr.of_below hn3
          have hv3 : RBP w3 (fun g => g < w.heap.size ∧ ¬ F g) (.slice A b.length cp) b := hv.there.keep (fun g o hg => hn3.cell_ hg.2) |>.mono fun g hg => hg.1
          have hs3 : s < w3.heap.size := h3.1.lt
          clear hn2 hn2'
          go_wp2_with fail
          have hB0 : Blk (w3.alloc (.cells (bya 64 fun _ => 0) 65)) w3.heap.size 65 (bya 64 fun _ => 0) := Blk.newAt rfl
          have h4 : SBlk (w3.alloc (.cells (bya 64 fun _ => 0) 65)) s d from_ n := h3.nb ((NB.refl w3).alloc _)
          have hD4 : DRep F (w3.alloc (.cells (bya 64 fun _ => 0) 65)) d D := hD3.nb ((NB.refl w3).alloc _)
          have hT4 := hT3.nb ((NB.refl w3).alloc (.cells (bya 64 fun _ => 0) 65))
          have hf4 : Fr w.heap.size F w (w3.alloc (.cells (bya 64 fun _ => 0) 65)) := hf3.alloc hf3.size _
          have hnF : ¬ F w3.heap.size := fun e => by have := hD3.lt e; omega
          have hsrc := hB0.rb (fun g => g < (w3.alloc (.cells (bya 64 fun _ => 0) 65)).heap.size ∧ ¬ F g) ⟨hB0.lt, hnF⟩ 0 64 64 (by omega) (by omega) (by omega)
          rw [show (List.range 64).map (fun i => (fun _ : Nat => (0 : UInt8)) (0 + i)) = List.replicate 64 0 from rfl] at hsrc
          clear hB0
          generalize w3.alloc (.cells (bya 64 fun _ => 0) 65) = w4 at *
          refine (sstep_any h4 hD4 hs hfew to (by omega) _ _ (by rw [List.length_replicate]; omega) hsrc).mono ?_
          rintro e w5 ⟨rfl, hg5⟩
          clear hsrc
          generalize hX : D.step to (List.replicate 64 0) = X at *
          obtain ⟨e1, D1⟩ := X
          simp only at hg5 ⊢
          clear hX
          obtain ⟨F5, hD5, hF5, hf5⟩ := hg5
          have hfw5 := hf4.step (fun k hk => .inl hk) hf4.size hf5
          have hFw5 : ∀ k, F5 k → F k ∨ w.heap.size ≤ k := fun k hk => (hF5 k hk).imp id fun e => Nat.le_trans hf4.size e
          by_cases he1 : e1 = 0
          · subst he1
            obtain ⟨hDn1, hDh1, _⟩ := Hst1.out
            simp only at hDn1 hDh1
            obtain ⟨hfit1, hfit2⟩ := HDn.out D1 hDn1
            have hs5 := not_go hs h4.1.lt hF5
            have h5 := h4.fr hs hf5
            have hT5 := hT4.go hTF hf5
            have hTF5 := hTF.go hT4 hF5
            have hv5 : RBP w5 (fun g => g < w5.heap.size ∧ ¬ F5 g) (.slice A b.length cp) b := ((hv3.keep (w' := w5) fun g o hg => by
              rw [hfw5.cell hg.1 hg.2, hn3.cell_ hg.1]).mono fun g hg => ⟨Nat.lt_of_lt_of_le hg.1 hfw5.size, fun e => by
                rcases hFw5 g e with h | h
                · exact hg.2 h
                · have := hg.1; omega⟩)
            have hfew1 : D1.held.length ≤ 100000 := by rw [hDh1]; exact Nat.zero_le _
            have hDh1' := Lib.hid hDh1
            have hDn1' := Lib.hid hDn1
            clear hDh1 hDn1
            go_wp2_with fail
            rw [show ((to : Int) + 1) = ((to + 1 : Nat) : Int) by omega]
            refine (sstep_any h5 hD5 hs5 hfew1 (to + 1) (by omega) _ _ hb hv5).mono ?_
            rintro e w6 ⟨rfl, hg6⟩
            generalize hX : D1.step (to + 1) b = X at *
            obtain ⟨e2, D2⟩ := X
            simp only at hg6 ⊢
            obtain ⟨F6, hD6, hF6, hf6⟩ := hg6
            have hfw6 := hfw5.step hFw5 hfw5.size hf6
            have hFw6 : ∀ k, F6 k → F k ∨ w.heap.size ≤ k := fun k hk => (hF6 k hk).elim (fun h => hFw5 k h) fun e => .inr (Nat.le_trans hfw5.size e)
            by_cases he2 : e2 = 0
            · subst he2
              have hst2 : D2.held = [] := by
                have := (step_ran D1 (to + 1) b (by
                  rcases Hst1.out.done with h | h
                  · exact h.2.1
                  · have := h.1; cases this) hfit1 (fun x hx => by rw [hDh1'.out] at hx; cases hx)).held
                rw [hX] at this
                exact this
              have hs6 := not_go hs5 h5.1.lt hF6
              have h6 := h5.fr hs5 hf6
              have hT6 := hT5.go hTF5 hf6
              have hTF6 := hTF5.go hT5 hF6
              have hv6 : RBP w6 (fun g => g < w6.heap.size) (.slice A b.length cp) b := ((hv3.keep (w' := w6) fun g o hg => by
                rw [hfw6.cell hg.1 hg.2, hn3.cell_ hg.1]).mono fun g hg => Nat.lt_of_lt_of_le hg.1 hfw6.size)
              have hfew2 : D2.held.length ≤ 100000 := by rw [hst2]; exact Nat.zero_le _
              clear hst2 hX
              go_wp2_with fail
              rw [show ((g : Int) + 1) = ((g + 1 : Nat) : Int) by omega]
              refine (headOf_any (g + 1) Hg2.out _ b w6 hT6 hv6 hb2).mono ?_
              rintro e w7 ⟨rfl, hn7⟩
              have h7 := h6.nb hn7
              have hD7 := hD6.nb hn7
              have hfw7 := hfw6.nb hfw6.size hn7
              go_wp2_with (first | (refine wpList_var_blk rfl rfl 65 13 rfl rfl _ rfl (bya 64 (headF (g + 1) b)) (bya 64 fun _ => 0) rfl rfl zero_head 64 (bya_size _ _) (bya_size _ _) size_head (bya_one _ _) ?_) | fail)
              have hB8 : Blk (w7.alloc (.cells (bya 64 (headF (g + 1) b)) 65)) w7.heap.size 65 (bya 64 (headF (g + 1) b)) := Blk.newAt rfl
              have hn8 : NB w7 (w7.alloc (.cells (bya 64 (headF (g + 1) b)) 65)) := (NB.refl w7).alloc _
              have hnF6 : ¬ F6 w7.heap.size := fun e => by have := hD7.lt e; omega
              have hsrc := hB8.rb (fun g' => g' < (w7.alloc (.cells (bya 64 (headF (g + 1) b)) 65)).heap.size ∧ ¬ F6 g') ⟨hB8.lt, hnF6⟩ 0 64 64 (by omega) (by omega) (by omega)
              rw [show (List.range 64).map (fun i => headF (g + 1) b (0 + i)) = headB (g + 1) b by simp only [Nat.zero_add]; exact headF_list _ _] at hsrc
              have h8 := h7.nb hn8
              have hD8 := hD7.nb hn8
              have hfw8 := hfw7.nb hfw7.size hn8
              clear hB8
              generalize w7.alloc (.cells (bya 64 (headF (g + 1) b)) 65) = w8 at *
              refine (sstep_any h8 hD8 hs6 hfew2 to (by omega) _ _ (by rw [headB_length]; omega) hsrc).mono ?_
              rintro e w9 ⟨rfl, hg9⟩
              go_wp2
              go_ret
              rw [Hq3.out (by first | rfl | trivial) (by first | rfl | trivial)]
              exact ⟨rfl, DGo.of hFw6 hfw8 hg9⟩
            · have de2 : (e2 == 0) = false := beq_eq_false_iff_ne.2 he2
              have hq := Hq2.out (by first | rfl | trivial) he2
              have Hq := Lib.hid hq
              clear hq hX
              go_wp2
              go_ret
              rw [Hq.out]
              exact ⟨rfl, F6, hD6, hFw6, hfw6⟩
          · have de1 : (e1 == 0) = false := beq_eq_false_iff_ne.2 he1
            have hq := Hq1.out he1
            have Hq := Lib.hid hq
            clear hq
            go_wp2
            go_ret
            rw [Hq.out]
            exact ⟨rfl, F5, hD5, hFw5, hfw5⟩
  · rw [show D.err = 60 by simp [Dsk.err, hd]]
    have hp : D.put from_ n b = (60, D) := by unfold Dsk.put; rw [hd, if_pos rfl]
    have Hp := Lib.hid hp
    clear hp hd
    go_wp2
    go_ret
    rw [Hp.out]
    exact ⟨rfl, hD.go⟩
end
end Go.Proofs.YtgpafdagealnbaaDoor
