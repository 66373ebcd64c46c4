/- The walk over sha2's Sum. -/
import Derived.Test.YtgpafdagealnbaaDoorSha9
import Derived.Test.YtgpafdagealnbaaDoorRegion2
namespace Go.Proofs.YtgpafdagealnbaaDoor
open Go.RowKit

/-- Sha256. -/
def sha256 (t : List UInt8) : List UInt8 := tellk (runk R8.init (t ++ padB t.length) ((t ++ padB t.length).length / 64)) 8
theorem sha256_length (t : List UInt8) : (sha256 t).length = 32 := tellk_length _ _

set_option maxRecDepth 100000 in
set_option maxHeartbeats 1000000 in
theorem hsum_any (B g : Nat) (text : List UInt8) (w : World) (hT : Tabs w) (hBs : 1 < B ∧ 0 < B) (hBw : B ≤ w.heap.size) (hH : HRep B w g text) (hlen : text.length ≤ 1048576) :
    Calls Tryd.prog 68 #[.pointer (some ⟨g, 0, none⟩)] w fun e w' => ∃ v, e = .returned v ∧ RB w' w'.heap.size v (sha256 text) ∧ NB w w' := by
  go_enter Tryd.func68, Tryd.ntmps68
  go_wp2_with fail
  refine (hcopy_any B g text w hBw hH hlen).mono ?_
  rintro e w1 ⟨g1, rfl, hH1, hn1⟩
  obtain ⟨hBg, r, hB, hr⟩ := hH1
  have hl2 : (text.drop (64 * (text.length / 64))).length ≤ 1048576 := by rw [List.length_drop]; omega
  generalize hx : text.drop (64 * (text.length / 64)) = X at *
  have Hx := Lib.hid hx
  clear hx
  have c0 := hB.cell 0
  have c15 := hB.cell 15
  obtain ⟨A, c, rfl⟩ := hr.slice
  go_wp2
  refine wp_region_mid 10 (by kernel_rfl) (by kernel_rfl) rfl rfl ?_
  simp only [List.take_succ_cons, List.take_zero]
  repeat (go_big_quiet_step (fail))
  refine wpQuiet_nil ?_
  intro x K hK
  go_wp2_with fail
  refine (pad256 text.length hlen _).mono ?_
  rintro e w2 ⟨v, rfl, hv, hn2⟩
  refine hK _ _ ?_
  clear hK K
  have hnx : NB w1 w2 := x.nb.trans hn2
  have hsz : w.heap.size ≤ w2.heap.size := (hn1.trans hnx).size
  repeat (go_big_quiet_step (fail))
  refine wpQuiet_nil ?_
  intro y
  have hB3 : Blk y.val g1 127 (hashA text.length _ (runk R8.init text (text.length / 64))) := ((hnx.trans y.nb).block _ hB.lt).trans hB
  have hr3 := (hr.kept (row := none) ⟨(hnx.trans y.nb).os, (hnx.trans y.nb).tape, (hnx.trans y.nb).output, (hnx.trans y.nb).size, fun k hk _ => (hnx.trans y.nb).block k hk⟩ (by cases (Value.slice A _ c).ownBlock <;> simp))
  have hn3 : NB w y.val := (hn1.trans hnx).trans y.nb
  have hv3 : RB y.val y.val.heap.size v (padB text.length) := RBP.rb (RBP.nb hv y.nb)
  have hT3 : Tabs y.val := hT.nb hn3
  have hg1 : g1 < y.val.heap.size := hB3.lt
  clear hsz
  generalize y.val = w3 at *
  have d0 := hB3.cell 0
  have d16 := hB3.cell 16
  have hl3 : (padB text.length).length ≤ 72 := by rw [padB_length]; exact padL_le _
  go_wp2_with (first
    | (at_builtin; refine append_bytes rfl _ _ rfl w.heap.size _ _ rfl hr3 w3.heap.size _ (padB text.length) rfl hv3 ?c1 hn3.size ?_) | fail)
  case c1 => omega
  intro v1 w4 ho hg _
  have hB4 := hB3.grown hg (own_ne hr3.out hB3 (by decide))
  have hn4 : NB w w4 := hn3.own hr3.out (Nat.le_refl _) hg
  have hT4 : Tabs w4 := hT.nb hn4
  go_wp2_with fail
  refine (take_any g1 _ _ _ v1 _ (fun k => k ≠ g1) (by simp) w4 hT4 hB4 (ho.rbp hB4 (by decide)) (by have := hT.lt; omega) (by have := hT.lt; omega)).mono ?_
  rintro e w5 ⟨v2, rfl, _, hB5, hF5⟩
  have hn5 : NB w w5 := Below.trans hn4 (hF5.below hn4.size (fun k hk e => by omega))
  rw [← Hx.out, runk_write] at hB5
  generalize hR : runk R8.init (text ++ padB text.length) ((text ++ padB text.length).length / 64) = R at *
  have HR := Lib.hid hR
  clear hR
  have d0 := hB5.cell 0
  have d1 := hB5.cell 1
  have d2 := hB5.cell 2
  have d3 := hB5.cell 3
  have d4 := hB5.cell 4
  have d5 := hB5.cell 5
  have d6 := hB5.cell 6
  have d7 := hB5.cell 7
  have d8 := hB5.cell 8
  have d9 := hB5.cell 9
  have d10 := hB5.cell 10
  have d11 := hB5.cell 11
  have d12 := hB5.cell 12
  have d13 := hB5.cell 13
  have d14 := hB5.cell 14
  have d15 := hB5.cell 15
  have d16 := hB5.cell 16
  have d17 := hB5.cell 17
  have d18 := hB5.cell 18
  have d19 := hB5.cell 19
  have d20 := hB5.cell 20
  have d21 := hB5.cell 21
  have d22 := hB5.cell 22
  have d23 := hB5.cell 23
  have d24 := hB5.cell 24
  have d25 := hB5.cell 25
  have d26 := hB5.cell 26
  have d27 := hB5.cell 27
  have d28 := hB5.cell 28
  have d29 := hB5.cell 29
  have d30 := hB5.cell 30
  have d31 := hB5.cell 31
  have d32 := hB5.cell 32
  go_wp2
  refine wp_region_mid 8 (by kernel_rfl) (by kernel_rfl) rfl rfl ?_
  simp only [List.take_succ_cons, List.take_zero]
  repeat (go_big_quiet_step (fail))
  refine wpQuiet_nil ?_
  intro x K hK
  go_wp2_with fail
  refine (tell32 R _).mono ?_
  rintro e w6 ⟨v3, rfl, hv3, hn6⟩
  refine hK _ _ ?_
  clear hK K
  repeat (go_big_quiet_step (fail))
  refine wpQuiet_nil ?_
  intro z
  go_wp2
  go_ret
  have hv4 : RB z.val z.val.heap.size v3 (sha256 text) := by
    unfold sha256
    rw [HR.out]
    exact RBP.rb (RBP.nb hv3 z.nb)
  exact ⟨_, rfl, hv4, ((hn5.trans x.nb).trans hn6).trans z.nb⟩
end Go.Proofs.YtgpafdagealnbaaDoor
