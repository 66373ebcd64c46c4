/- The store: area. -/
import Derived.Test.YtgpafdagealnbaaDoorSto2
import Derived.Test.YtgpafdagealnbaaDoorAr
import Derived.Test.YtgpafdagealnbaaDoorQld
import Derived.Stop.BytesEq
namespace Go.Proofs.YtgpafdagealnbaaDoor
open Go.RowKit

set_option maxRecDepth 100000 in
theorem equalIn_bya (f g : Nat → UInt8) (W : World) : (Op.equalIn 10000 65 (.agg (bya 64 f)) (.agg (bya 64 g))).run Tryd.prog W = .ok (decide ((List.range 64).map f = (List.range 64).map g)) W := by
  have h := run_equalIn_bytes (P := Tryd.prog) W 9998 65 5 64 Tryd.underlying65 Tryd.underlying5 (fun w => by kernel_rfl) ((List.range 64).map f) ((List.range 64).map g) (by simp) (by simp)
  have e : ∀ f : Nat → UInt8, (((List.range 64).map f).map Extern.Stop.cell).toArray = bya 64 f := fun f => by
    apply Array.toList_inj.1
    rw [bya_list]
    rfl
  rw [e, e] at h
  rw [h]
  congr 1
  rw [Bool.eq_iff_iff]
  simp
theorem place_quiet {w0 : World} {s d from_ n : Nat} (k : Nat) (hk : k ≤ 1) (x : Ext w0) (h : SBlk x.val s d from_ n) : Calls Tryd.prog 28 #[sptr s, .int .i64 k] x.val fun e w'' => e = .returned (.int .i64 ((from_ + k * n : Nat) : Int)) ∧ ∃ y : Ext w0, w'' = y.val :=
  Calls.quiet_ext (splace_any h k hk)

set_option maxRecDepth 20000 in
set_option maxHeartbeats 1000000 in
theorem sarea_any {F : Nat → Prop} {w : World} {s d from_ n : Nat} {D : Dsk} (h : SBlk w s d from_ n) (hD : DRep F w d D) (hT : Tabs w) (hd : D.down = false) (hfit : from_ + 2 * n ≤ D.n) (k : Nat) (hk : k ≤ 1) :
    Calls Tryd.prog 42 #[sptr s, .int .i64 k] w fun e w' => NB w w' ∧ match areaF D.cur (from_ + k * n) (64 * (n - 1)) with
      | none => e = .returned (.tuple #[.int .u64 0, .slice none 0 0, .bool false])
      | some gr => ∃ v, e = .returned (.tuple #[.int .u64 gr.1, v, .bool true]) ∧ RBP w' (fun q => w.heap.size ≤ q ∧ q < w'.heap.size) v gr.2 := by
  have h0 := h
  obtain ⟨hB, n1, n2⟩ := h
  have hkn : k * n + n ≤ 2 * n := by
    rcases Nat.le_one_iff_eq_zero_or_eq_one.1 hk with rfl | rfl <;> omega
  have hp : from_ + k * n < D.n := by omega
  have c0 := hB.cell 0
  have c1 := hB.cell 1
  have c2 := hB.cell 2
  generalize hR : areaF D.cur (from_ + k * n) (64 * (n - 1)) = R
  have HR := Lib.hid hR
  clear hR
  go_enter Tryd.func42, Tryd.ntmps42
  go_wp2
  refine wp_region_mid 7 (by kernel_rfl) (by kernel_rfl) rfl rfl ?_
  simp only [List.take_succ_cons, List.take_zero]
  repeat (go_big_quiet_step ((go_at_call 28; exact place_quiet k hk _ (h0.nb (Ext.nb _)))))
  refine wpQuiet_nil ?_
  intro x K hK
  generalize hpq : from_ + k * n = p at *
  go_wp2_with fail
  refine (dread_any (hD.nb x.nb) p hp hd).mono ?_
  rintro e w2 ⟨v, rfl, hv, hn2⟩
  refine hK _ _ ?_
  clear hK K
  repeat (go_big_quiet_step (fail))
  refine wpQuiet_nil ?_
  intro y
  have hn3 : NB w y.val := (x.nb.trans hn2).ext y
  have hv3 := hv.nb y.nb
  clear hv hn2
  generalize y.val = w3 at *
  obtain ⟨A, c, rfl, q1, q2, q3⟩ := id hv3
  rw [secL_length] at q1 q3
  obtain ⟨g, o, rfl, hg, hc⟩ := q3 (by omega)
  have hra : w3.rangeAt g o (bv (secL D.cur p)) := fun j u hu => by
    rw [bv_get] at hu
    cases hb : (secL D.cur p)[j]? with
    | none => rw [hb] at hu; cases hu
    | some b => rw [hb] at hu; simp at hu; rw [← hu]; exact hc j b hb
  clear hc q3
  have harr : ∀ (W : World), (Instr.arrayAt 65 (.slice (some ⟨g, o, none⟩) 64 c)).run Tryd.prog W = .ok (.pointer (some ⟨g, o, none⟩)) W := fun W => by simp [Instr.arrayAt, run_underlying Tryd.underlying65]
  rw [secL_length]
  have hsz : (bv (secL D.cur p)).toArray.size = 64 := by rw [List.size_toArray, bv_length, secL_length]
  go_wp2_with (first
    | (refine wpList_load_mid rfl 65 _ rfl g o rfl (bv (secL D.cur p)) _ hra Tryd.underlying65 rfl (by rw [bv_length, secL_length]; exact size_head) ?_)
    | (refine wpList_var_blk rfl rfl 65 9 rfl rfl _ rfl (bv (secL D.cur p)).toArray (bya 64 fun _ => 0) rfl rfl zero_head 64 hsz (bya_size _ _) size_head (fun u hu => bv_one (secL D.cur p) u (by simpa using hu)) ?_)
    | fail)
  have hBh : Blk (w3.alloc (.cells (bv (secL D.cur p)).toArray 65)) w3.heap.size 65 (bya 64 fun i => D.cur (64 * p + i)) := by
    rw [bya_sec]
    exact Blk.newAt rfl
  have hn4 : NB w (w3.alloc (.cells (bv (secL D.cur p)).toArray 65)) := hn3.alloc _
  have hsz3 : w3.heap.size < (w3.alloc (.cells (bv (secL D.cur p)).toArray 65)).heap.size := hBh.lt
  clear hra harr hv3
  generalize hw4 : w3.alloc (.cells (bv (secL D.cur p)).toArray 65) = w4 at *
  have hs3 : w.heap.size ≤ w3.heap.size := hn3.size
  clear hw4 hn3 hg
  generalize w3.heap.size = hb at *
  simp only [Act.put, List.setIfInBounds_toArray, List.set_cons_zero, List.set_cons_succ]
  refine wp_region_quiet_ext (by kernel_rfl) (by kernel_rfl) ?_
  have hr1 : RBP w4 (fun _ => True) (.slice (some ⟨hb, 4, none⟩) 8 60) _ := hBh.rb _ trivial 4 8 60 (by omega) (by omega) (by omega)
  have hr2 : RBP w4 (fun _ => True) (.slice (some ⟨hb, 12, none⟩) 4 52) _ := hBh.rb _ trivial 12 4 52 (by omega) (by omega) (by omega)
  have hq1 : ∀ z : Ext w4, Calls Tryd.prog 62 #[.slice (some ⟨hb, 4, none⟩) 8 60] z.val fun e w'' => e = .returned (.int .u64 (numAt D.cur (64 * p + 4) 8)) ∧ ∃ y : Ext w4, w'' = y.val := fun z =>
    Calls.quiet_ext ((number_any _ _ _ z.val (hr1.nb z.nb)).mono fun _ _ ⟨e1, e2⟩ => ⟨by rw [e1]; simp [numAt, Nat.add_assoc], e2 ▸ NB.refl _⟩)
  have hq2 : ∀ z : Ext w4, Calls Tryd.prog 62 #[.slice (some ⟨hb, 12, none⟩) 4 52] z.val fun e w'' => e = .returned (.int .u64 (numAt D.cur (64 * p + 12) 4)) ∧ ∃ y : Ext w4, w'' = y.val := fun z =>
    Calls.quiet_ext ((number_any _ _ _ z.val (hr2.nb z.nb)).mono fun _ _ ⟨e1, e2⟩ => ⟨by rw [e1]; simp [numAt, Nat.add_assoc], e2 ▸ NB.refl _⟩)
  repeat (go_big_quiet_step ((first | with_reducible exact hq1 _ | with_reducible exact hq2 _)))
  refine wpQuiet_nil ?_
  intro z
  have HR2 := Lib.hid (HR.out.symm)
  clear HR hq1 hq2 hr1 hr2
  have hlt1 := numB_lt ((List.range 8).map fun i => D.cur (64 * p + 4 + i))
  have hlt2 := numAt4_lt D.cur (64 * p + 12)
  change numAt D.cur (64 * p + 4) 8 < _ at hlt1
  obtain ⟨G, hG⟩ : ∃ G, G = numAt D.cur (64 * p + 4) 8 := ⟨_, rfl⟩
  obtain ⟨M, hM⟩ : ∃ M, M = numAt D.cur (64 * p + 12) 4 := ⟨_, rfl⟩
  rw [← hG] at hlt1 ⊢
  rw [← hM] at hlt2 ⊢
  have HG := Lib.hid hG
  have HM := Lib.hid hM
  clear hG hM
  have hBz := hBh.ext z
  have hnz := hn4.ext z
  have hsz := z.size
  clear hBh
  generalize z.val = w5 at *
  by_cases hg0 : G = 0
  · subst hg0
    have hRn : R = none := by
      rw [HR2.out]
      unfold areaF
      rw [← HG.out]
      rfl
    subst hRn
    go_wp2
    refine bodyPost_ret (results_tmp3 rfl _ _ _) rfl ?_
    exact ⟨hnz, rfl⟩
  · have d1 : ((G : Int) == 0) = false := beq_eq_false_iff_ne.2 (by omega)
    go_wp2_with fail
    refine (sroom_any (h0.nb hnz)).mono ?_
    rintro e w6 ⟨rfl, rfl⟩
    have hroom2 : 64 * (n - 1) ≤ 1048000 := by omega
    have hneed : M ≤ 64 * (n - 1) → p + 1 + needN M ≤ D.n := fun h => by unfold needN; omega
    generalize 64 * (n - 1) = room at *
    by_cases hroom : room < M
    · have hRn : R = none := by
        rw [HR2.out]
        unfold areaF
        rw [← HG.out, ← HM.out]
        simp only
        rw [if_pos (.inr hroom)]
      subst hRn
      have d2 : decide ((M : Int) > (room : Int)) = true := by simp; omega
      go_wp2
      refine bodyPost_ret (results_tmp3 rfl _ _ _) rfl ?_
      exact ⟨hnz, rfl⟩
    · have d2 : decide ((M : Int) > (room : Int)) = false := by simp; omega
      have hneed := hneed (by omega)
      have hMr : M ≤ room := by omega
      clear d2
      have d3 : decide (room < M) = false := decide_eq_false hroom
      have hB5 := (h0.nb hnz).1
      clear c0 c1 c2
      have c0 := hB5.cell 0
      have c1 := hB5.cell 1
      have c2 := hB5.cell 2
      go_wp2
      refine wp_region_mid 10 (by kernel_rfl) (by kernel_rfl) rfl rfl ?_
      simp only [List.take_succ_cons, List.take_zero]
      repeat (go_big_quiet_step ((go_at_call 28; exact place_quiet k hk _ ((h0.nb hnz).nb (Ext.nb _)))))
      refine wpQuiet_nil ?_
      intro x K hK
      rw [hpq]
      go_wp2_with fail
      rw [show ((p : Int) + 1) = ((p + 1 : Nat) : Int) by omega]
      have hsp : D.spanE (p + 1) M = 0 := by
        unfold Dsk.spanE
        rw [hd, if_neg (by decide), if_neg (by omega)]
      refine (dload_any (hD.nb (hnz.trans x.nb)) (p + 1) M (by omega) (by omega)).mono ?_
      rintro e w7 ⟨⟨v, rfl, hv⟩, hn7⟩
      rw [hsp]
      have hv7 := hv hsp
      clear hv
      refine hK _ _ ?_
      clear hK K
      repeat (go_big_quiet_step (fail))
      refine wpQuiet_nil ?_
      intro y
      have hn8 : NB w5 y.val := (x.nb.trans hn7).ext y
      have hv8 := hv7.nb y.nb
      have hB8 : Blk y.val hb 65 _ := (hn8.block _ hBz.lt).trans hBz
      have hn9 : NB w y.val := hnz.trans hn8
      have hs7 : w5.heap.size ≤ x.val.heap.size := x.size
      have hs9 : w.heap.size ≤ x.val.heap.size := Nat.le_trans hnz.size hs7
      have hv9 : RBP y.val (fun q => w.heap.size ≤ q ∧ q < y.val.heap.size) v (D.bytesAt (p + 1) M) := (hv8.there).mono fun q hq => ⟨by omega, hq.2⟩
      clear hv7 hn7 hn8 hv8
      generalize y.val = w8 at *
      go_wp2_with fail
      have hq3 : ∀ z : Ext w8, Calls Tryd.prog 30 #[.int .u64 G, v] z.val fun e w'' => e = .returned (.agg (bya 64 (headF G (D.bytesAt (p + 1) M)))) ∧ ∃ y : Ext w8, w'' = y.val := fun z =>
        Calls.quiet_ext (headOf_any G hlt1 v (D.bytesAt (p + 1) M) z.val (hT.nb (hn9.trans z.nb)) (RBP.rb (hv9.nb z.nb)) (by rw [Dsk.bytesAt_length]; omega))
      refine wp_region_quiet_ext (by kernel_rfl) (by kernel_rfl) ?_
      repeat (go_big_quiet_step (fail))
      refine wpQuiet_loadW rfl 65 _ rfl _ _ rfl (fun w' hw' => by obtain ⟨x, rfl⟩ := hw'; exact (run_loadAt_blk x.val hb 65 65 _ _ (hB8.ext x) Tryd.underlying65 rfl (by rw [bya_size]; exact size_head))) ?_
      simp only [Act.put, List.setIfInBounds_toArray, List.set_cons_zero, List.set_cons_succ]
      have heq := equalIn_bya (fun i => D.cur (64 * p + i)) (headF G (D.bytesAt (p + 1) M))
      have hHl := (HR2.out : R = areaF D.cur p room)
      by_cases hh : (List.range 64).map (fun i => D.cur (64 * p + i)) = (List.range 64).map (headF G (D.bytesAt (p + 1) M))
      · have hRs : R = some (G, D.bytesAt (p + 1) M) := by
          rw [hHl]
          unfold areaF
          rw [← HG.out, ← HM.out]
          simp only
          rw [if_neg (by omega)]
          exact if_pos hh
        rw [decide_eq_true hh] at heq
        subst hRs
        clear hh hHl HR2
        repeat (go_big_quiet_step ((with_reducible exact hq3 _)))
        refine wpQuiet_nil ?_
        intro z
        have hv10 := hv9.nb z.nb
        have hsz := z.size
        clear hq3 heq
        go_wp2
        refine bodyPost_ret (results_tmp3 rfl _ _ _) rfl ?_
        exact ⟨hn9.ext z, _, rfl, hv10.mono fun q hq => ⟨hq.1, by omega⟩⟩
      · have hRs : R = none := by
          rw [hHl]
          unfold areaF
          rw [← HG.out, ← HM.out]
          simp only
          rw [if_neg (by omega)]
          exact if_neg hh
        rw [decide_eq_false hh] at heq
        subst hRs
        clear hh hHl HR2
        repeat (go_big_quiet_step ((with_reducible exact hq3 _)))
        refine wpQuiet_nil ?_
        intro z
        clear hq3 heq
        go_wp2
        refine bodyPost_ret (results_tmp3 rfl _ _ _) rfl ?_
        exact ⟨hn9.ext z, rfl⟩
end Go.Proofs.YtgpafdagealnbaaDoor
