/- Walks over the reference's sha2: Sum, Hash256. -/
import Derived.Test.YtgpafdagealnbaaDoorRsh4
import Derived.Test.YtgpafdagealnbaaDoorRegion4
namespace Go.Proofs.YtgpafdagealnbaaDoor
open Go.RowKit

theorem zero_Words (w : World) : (zeroValue 94).run Tryd.prog w = .ok (.agg #[.int .u64 0, .int .u64 0]) w := by kernel_rfl
theorem build_W64 (w : World) : (Instr.build 94 #[(1, .int .u64 64)]).run Tryd.prog w = .ok (.agg #[.int .u64 0, .int .u64 64]) w := by kernel_rfl
theorem build_W32 (w : World) : (Instr.build 94 #[(0, .int .u64 4294967296), (1, .int .u64 32)]).run Tryd.prog w = .ok (.agg #[.int .u64 4294967296, .int .u64 32]) w := by kernel_rfl
theorem two_one (a b : Int) (k : IntKind) : ∀ v ∈ #[Value.int k a, Value.int k b], v.oneCell' = true := by
  intro v hv
  simp at hv
  rcases hv with h | h <;> subst h <;> rfl
/-- The value reads as eight words. -/
def H8 (w : World) (v : Value) (r : R8) : Prop := ∃ g c, v = .slice (some ⟨g, 0, none⟩) 8 c ∧ 8 ≤ c ∧ c ≤ 9223372036854775807 ∧ ∀ i, i < 8 → w.cell? ⟨g, i, none⟩ = some (u64v (r.at i))
theorem H8.cells {w : World} {g c : Nat} {r : R8} (h : H8 w (.slice (some ⟨g, 0, none⟩) 8 c) r) : ∀ i, i < 8 → w.cell? ⟨g, i, none⟩ = some (u64v (r.at i)) := by
  obtain ⟨g', c', e, _, _, h3⟩ := h
  cases e
  exact h3
theorem H8.nb {w W : World} {v : Value} {r : R8} (h : H8 w v r) (hn : NB w W) : H8 W v r := by
  obtain ⟨g, c, e, h1, h2, hc⟩ := h
  exact ⟨g, c, e, h1, h2, fun i hi => (hn.cell_ (isSome_cell_lt (a := ⟨g, i, none⟩) (by rw [hc i hi]; rfl))).trans (hc i hi)⟩
theorem H8.blk {w : World} {g : Nat} {r : R8} (h : Blk w g 25 (v8u r)) : H8 w (.slice (some ⟨g, 0, none⟩) 8 8) r :=
  ⟨g, 8, rfl, by omega, by omega, fun i hi => by rw [h.cell, v8u_at r i hi]⟩
/-- The first i words of a sum. -/
def addl (h v : R8) (i : Nat) : List UInt32 := (List.range i).map fun j => h.at j + v.at j
theorem addl_succ (h v : R8) (i : Nat) : addl h v (i + 1) = addl h v i ++ [h.at i + v.at i] := by simp [addl, List.range_succ]
theorem addl_length (h v : R8) (i : Nat) : (addl h v i).length = i := by simp [addl]
theorem addv_at (h v : R8) (i : Nat) (hi : i < 8) : (addv h v).at i = h.at i + v.at i := by
  match i, hi with
  | 0, _ => rfl
  | 1, _ => rfl
  | 2, _ => rfl
  | 3, _ => rfl
  | 4, _ => rfl
  | 5, _ => rfl
  | 6, _ => rfl
  | 7, _ => rfl
theorem H8.own {w : World} {base : Nat} {v : Value} {h u : R8} (ho : w.ownsRow base 25 1 v (addl h u 8).length (uw (addl h u 8))) : H8 w v (addv h u) := by
  rw [addl_length] at ho
  rcases ho.2 with ⟨_, e⟩ | ⟨g, c, cur, e, _, _, h1, h2, _⟩
  · cases e
  · refine ⟨g, c, e, h1, by simpa [maxLen] using h2, fun i hi => ?_⟩
    have := ho.cells (g := g) (by rw [e]; rfl) i (u64v ((addv h u).at i)) (by
      rw [uw_get, addl, List.getElem?_map, List.getElem?_range hi, addv_at h u i hi]
      rfl)
    rwa [addr_add, Nat.zero_add] at this
theorem wrapHc (k : Nat) : IntKind.u64.wrap ((Hc k : Int) / 4294967296) = ((H32 k).toNat : Int) := by
  rw [H32_toNat]
  have := Hc_lt k
  simp [IntKind.wrap, IntKind.bits, IntKind.signed]
  omega
def stF (i j : Nat) : Value := if j < i then u64v (H32 j) else .int .u64 (Hc j : Int)
theorem RBP.take_ {w : World} {S : Nat → Prop} {A : Option Addr} {L c n : Nat} {l : List UInt8} (h : RBP w S (.slice A L c) l) (hn : n ≤ l.length) : RBP w S (.slice A n c) (l.take n) := by
  obtain ⟨A', c', hv, h1, h2, h3⟩ := h
  injection hv with e1 e2 e3
  subst e1; subst e3
  refine ⟨A, c, by rw [List.length_take, Nat.min_eq_left hn], by rw [List.length_take]; omega, by omega, fun h0 => ?_⟩
  obtain ⟨g, o, hA, hg, hc⟩ := h3 (by rw [List.length_take] at h0; omega)
  exact ⟨g, o, hA, hg, fun i b hb => hc i b (take_get hb)⟩

set_option maxRecDepth 20000 in
set_option maxHeartbeats 4000000 in
theorem rsum_any (v : Value) (l : List UInt8) (hl : l.length ≤ 1048576) (w : World) (hv : RB w w.heap.size v l) :
    Calls Tryd.prog 41 #[v, .int .i64 256] w fun e w' => ∃ v, e = .returned (.tuple #[v, .int .i64 0]) ∧ RB w' w'.heap.size v (sha256 l) ∧ NB w w' := by
  have hd0 : decide ((l.length : Int) > 1048576) = false := by simp; omega
  obtain ⟨A, c, rfl, _⟩ := id hv
  have hb1 := build_W64
  have hb2 := build_W32
  have hBw : ∀ W : World, Blk (W.alloc (.cells #[.int .u64 0, .int .u64 64] 94)) W.heap.size 94 #[.int .u64 0, .int .u64 64] := fun W => Blk.newAt rfl
  go_enter Tryd.func41, Tryd.ntmps41
  go_wp2_with (first
    | (refine wpList_var_blk rfl rfl 94 6 rfl rfl _ rfl #[.int .u64 0, .int .u64 64] #[.int .u64 0, .int .u64 0] rfl rfl zero_Words 2 rfl rfl size_Words (two_one _ _ _) ?_)
    | (refine wpList_store_blk rfl 94 _ _ rfl w.heap.size wwA rfl rfl 94 _ (hBw _) 2 rfl rfl size_Words (two_one _ _ _) ?_)
    | fail)
  have hBW : Blk ((w.alloc (.cells #[.int .u64 0, .int .u64 64] 94)).setRow w.heap.size wwA) w.heap.size 94 wwA := Blk.setRow (hBw w) _
  have hnW : NB w ((w.alloc (.cells #[.int .u64 0, .int .u64 64] 94)).setRow w.heap.size wwA) := ((NB.refl w).alloc _).setRow (Nat.le_refl _) _
  clear hBw hb1 hb2
  generalize (w.alloc (.cells #[.int .u64 0, .int .u64 64] 94)).setRow w.heap.size wwA = w1 at *
  refine (rpad_any l.length hl w1).mono ?_
  rintro e w2 ⟨vp, rfl, hvp, hn2⟩
  have hnW2 := hnW.trans hn2
  have hB2 : Blk w2 w.heap.size 94 wwA := (hn2.block _ hBW.lt).trans hBW
  have hv2 : RB w2 w2.heap.size (.slice A l.length c) l := RBP.rb (RBP.nb hv hnW2)
  have hpl : (padB l.length).length ≤ 72 := by rw [padB_length]; exact padL_le _
  clear hnW hBW hn2
  go_wp2_with (first | (at_builtin; refine append_bytes rfl _ _ rfl w.heap.size _ [] rfl (OB.nil _ _) w2.heap.size _ _ rfl hv2 ?c1 ?c2 ?_) | fail)
  case c1 => simp; omega
  case c2 => exact hnW2.size
  intro v3 w3 ho3 hg3 hx3
  have hn3 : NB w w3 := hnW2.own (OB.nil w2 w.heap.size).out (Nat.le_refl _) hg3
  have hB3 : Blk w3 w.heap.size 94 wwA := hB2.grown hg3 (by simp [Value.ownBlock])
  have hvp3 : RB w3 w3.heap.size vp (padB l.length) := RBP.rb (hvp.keep fun g o hg => World.cell?_of_block (hg3.block g hg (by simp [Value.ownBlock])))
  clear hx3 hg3
  go_wp2_with (first | (at_builtin; refine append_bytes rfl _ _ rfl w.heap.size _ _ rfl ho3 w3.heap.size _ _ rfl hvp3 ?d1 ?d2 ?_) | fail)
  case d1 => omega
  case d2 => exact hn3.size
  intro v4 w4 ho4 hg4 hx4
  have hn4 : NB w w4 := hn3.own ho3.out (Nat.le_refl _) hg4
  have hB4 : Blk w4 w.heap.size 94 wwA := hB3.grown hg4 (own_ne ho3.out hB3 (by decide))
  clear hx4 hg4 ho3 hvp3 hB3 hn3 hvp hB2 hnW2 hv2
  go_wp2_with fail
  refine (rconstants_any w4).mono ?_
  rintro e w5 ⟨rfl, rfl⟩
  go_wp2_with fail
  refine (rstarts_any _).mono ?_
  rintro e w6 ⟨rfl, rfl⟩
  have hK : Blk ((w4.alloc (.cells (arr 80 fun i => .int .u64 (Kc i : Int)) 25)).alloc (.cells (arr 8 fun i => .int .u64 (Hc i : Int)) 25)) w4.heap.size 25 (arr 80 fun i => .int .u64 (Kc i : Int)) := (Blk.newAt rfl).alloc _
  have hH : Blk ((w4.alloc (.cells (arr 80 fun i => .int .u64 (Kc i : Int)) 25)).alloc (.cells (arr 8 fun i => .int .u64 (Hc i : Int)) 25)) (w4.heap.size + 1) 25 (arr 8 (stF 0)) := by
    rw [arr_congr (f := stF 0) (g := fun i => .int .u64 (Hc i : Int)) fun i _ => by unfold stF; rw [if_neg (by omega)]]
    exact Blk.newAt (by simp)
  have hn5 : NB w ((w4.alloc (.cells (arr 80 fun i => .int .u64 (Kc i : Int)) 25)).alloc (.cells (arr 8 fun i => .int .u64 (Hc i : Int)) 25)) := (hn4.alloc _).alloc _
  have hB5 : Blk ((w4.alloc (.cells (arr 80 fun i => .int .u64 (Kc i : Int)) 25)).alloc (.cells (arr 8 fun i => .int .u64 (Hc i : Int)) 25)) w.heap.size 94 wwA := (hB4.alloc _).alloc _
  have ho5 : OB ((w4.alloc (.cells (arr 80 fun i => .int .u64 (Kc i : Int)) 25)).alloc (.cells (arr 8 fun i => .int .u64 (Hc i : Int)) 25)) w.heap.size v4 (l ++ padB l.length) := (ho4.alloc _).alloc _
  have hs4 : w.heap.size ≤ w4.heap.size := hn4.size
  have hlen : (l ++ padB l.length).length = l.length + padL l.length := by rw [List.length_append, padB_length]
  have hmod : (l.length + padL l.length) % 64 = 0 := by unfold padL; omega
  have hsha : sha256 l = tellk (runk R8.init (l ++ padB l.length) ((l ++ padB l.length).length / 64)) 8 := rfl
  have Hsha := Lib.hid hsha
  clear hsha hn4 hB4 ho4
  have hlen2 : (l ++ padB l.length).length % 64 = 0 ∧ (l ++ padB l.length).length ≤ 1048700 := by have := padL_le l.length; omega
  clear hlen hmod
  generalize l ++ padB l.length = T at *
  rw [show (w4.alloc (.cells (arr 80 fun i => .int .u64 (Kc i : Int)) 25)).heap.size = w4.heap.size + 1 by simp]
  generalize (w4.alloc (.cells (arr 80 fun i => .int .u64 (Kc i : Int)) 25)).alloc (.cells (arr 8 fun i => .int .u64 (Hc i : Int)) 25) = w6 at *
  generalize hgk : w4.heap.size = gk at *
  have Hlen2 := Lib.hid hlen2
  clear hlen2 hgk
  obtain ⟨A4, c4, rfl⟩ := ho5.slice
  go_wp2
  go_loopw [12] (fun i wr => ∃ k : Nat, k ≤ 8 ∧ i = .int .i64 k ∧ Blk wr (gk + 1) 25 (arr 8 (stF k)) ∧ Blk wr gk 25 (arr 80 fun i => .int .u64 (Kc i : Int)) ∧ OB wr w.heap.size (.slice A4 T.length c4) T ∧ Blk wr w.heap.size 94 wwA ∧ NB w wr) (fun i _ => 8 - (intOf i).toNat)
  case atStart => exact ⟨0, by omega, rfl, hH, hK, ho5, hB5, hn5⟩
  case round =>
    obtain ⟨k, hk, rfl, hH, hK, ho, hB, hn⟩ := hrel
    by_cases hlt : k < 8
    · have d1 : decide ((k : Int) < 8) = true := by simp; omega
      have hc := hH.arr_cell hlt
      have hst : stF k k = .int .u64 (Hc k : Int) := by unfold stF; rw [if_neg (by omega)]
      rw [hst] at hc
      have hf := hH.frozen k
      have hB' := hB
      unfold wwA at hB'
      have e0 := hB'.cell 0
      have e1 := hB'.cell 1
      clear hst
      go_wp2
      rw [wrapHc]
      have hne : w.heap.size ≠ gk + 1 := fun e => by
        rw [e] at hB
        exact Blk.ne_ hB hH (by decide) rfl
      refine ⟨⟨k + 1, by omega, by go_num, hH.setCell_is ?_, hK.far (p := ⟨gk + 1, k, none⟩) (by simp) _, OB.setCell ho hH (by decide) _, hB.far (p := ⟨gk + 1, k, none⟩) hne _, hn.setCell (p := ⟨gk + 1, k, none⟩) (by simp; omega) _⟩, by simp [intOf]; omega⟩
      rw [arr_set]
      refine arr_congr fun j hj => ?_
      unfold stF
      by_cases e : j = k
      · subst e; rw [if_pos rfl, if_pos (by omega)]
      · rw [if_neg e]
        by_cases e2 : j < k
        · rw [if_pos e2, if_pos (by omega)]
        · rw [if_neg e2, if_neg (by omega)]
    · have hk8 : k = 8 := by omega
      subst hk8
      rw [show ((8 : Nat) : Int) = (8 : Int) from rfl]
      have d1 : decide ((8 : Int) < 8) = false := by decide
      have hH8 : Blk wr (gk + 1) 25 (v8u R8.init) := by
        have e : arr 8 (stF 8) = v8u R8.init := rfl
        rw [← e]; exact hH
      have hB' := hB
      unfold wwA at hB'
      have e0 := hB'.cell 0
      have e1 := hB'.cell 1
      clear hH hB5 hn5 ho5
      go_wp2
      clear e0 e1 hB'
      have hr8 := H8.blk hH8
      clear hH8
      go_loopw [11, 13] (fun h f wr => ∃ q : Nat, 64 * q ≤ T.length ∧ f = .int .i64 (64 * (q : Int)) ∧ H8 wr h (runk R8.init T q) ∧ Blk wr gk 25 (arr 80 fun i => .int .u64 (Kc i : Int)) ∧ OB wr w.heap.size (.slice A4 T.length c4) T ∧ Blk wr w.heap.size 94 wwA ∧ NB w wr) (fun _ f _ => T.length - (intOf f).toNat)
      case atStart => exact ⟨0, by omega, rfl, hr8, hK, ho, hB, hn⟩
      case round =>
        clear hr8 hK ho hB hn
        obtain ⟨q, hq, rfl, hr8, hK, ho, hB, hn⟩ := hrel
        by_cases hlt : 64 * q < T.length
        · have hm := Hlen2.out.1
          have hT2 := Hlen2.out.2
          have hq64 : 64 * q + 64 ≤ T.length := by omega
          have d2 : decide (64 * (q : Int) < (T.length : Int)) = true := by simp; omega
          clear hm
          obtain ⟨gr, cr, rfl, hr1, hr2, _⟩ := id hr8
          have hrb := ho.rb
          obtain ⟨_, cq, hq1, hq2, hq3, _⟩ := id hrb
          injection hq1 with hqa _ hqc
          subst hqa
          subst hqc
          obtain ⟨ga, rfl⟩ : ∃ ga, A4 = some ⟨ga, 0, none⟩ := by
            rcases ho.2 with ⟨e, e2⟩ | ⟨g, cap, cur, e, _⟩
            · omega
            · injection e with e
              exact ⟨g, e⟩
          have hcut : RBP wr (fun k => k < wr.heap.size) (.slice (some ⟨ga, 64 * q, none⟩) 64 (c4 - 64 * q)) ((T.drop (64 * q)).take 64) := by
            have h1 := hrb.cut (64 * q) (by omega)
            rw [if_neg (by omega), Nat.zero_add] at h1
            exact h1.take_ (by rw [List.length_drop]; omega)
          have z1 : (0 : Int) ≤ 64 * (q : Int) := by omega
          have z2 : 64 * (q : Int) + 64 ≤ (T.length : Int) := by omega
          have z3 : (64 * (q : Int)).toNat = 64 * q := by omega
          have z4 : (64 * (q : Int) + 64).toNat = 64 * q + 64 := by omega
          have z5 : IntKind.i64.wrap (64 * (q : Int) + 64) = 64 * (q : Int) + 64 := IntWalk.i64_in _ (by omega)
          have z6 : 64 * (q : Int) + 64 ≤ (c4 : Int) := by omega
          have z7 : ¬ (c4 = 64 * q) := by omega
          go_wp2
          refine wp_region_mid 8 (by kernel_rfl) (by kernel_rfl) rfl rfl ?_
          simp only [List.take_succ_cons, List.take_zero]
          repeat (first
            | go_big_quiet_step (fail)
            | (refine wpQuiet_loadW rfl 94 _ rfl _ _ rfl (fun w' hw' => by obtain ⟨x, rfl⟩ := hw'; exact run_load_ww _ _ (hB.ext x)) ?_; simp only [Act.put, List.setIfInBounds_toArray, List.set_cons_zero, List.set_cons_succ]))
          refine wpQuiet_nil ?_
          intro x K hK'
          have hblen : ((T.drop (64 * q)).take 64).length = 64 := by rw [List.length_take, List.length_drop]; omega
          have hrun : runk R8.init T (q + 1) = addv (runk R8.init T q) (rounds ((T.drop (64 * q)).take 64) 64 (runk R8.init T q)) := rfl
          have Hrun := Lib.hid hrun
          have Hblen := Lib.hid hblen
          clear hrun hblen z1 z2 z3 z4 z5 z6 z7
          generalize (T.drop (64 * q)).take 64 = X at *
          generalize hRq : runk R8.init T q = Rq at *
          have HRq := Lib.hid hRq
          clear hRq
          go_wp2_with fail
          refine (rexpand_any X Hblen.out _ _ _ (hcut.nb x.nb)).mono ?_
          rintro e w7 ⟨vx, rfl, hox, hn7⟩
          refine hK' _ _ ?_
          clear hK' K hcut
          repeat (go_big_quiet_step (fail))
          refine wpQuiet_nil ?_
          intro y
          have hny : NB wr y.val := (x.nb.trans hn7).ext y
          have hox8 := own_ext hox y
          have hK8 : Blk y.val gk 25 _ := (hny.block _ hK.lt).trans hK
          have hB8 : Blk y.val w.heap.size 94 wwA := (hny.block _ hB.lt).trans hB
          have ho8 : OB y.val w.heap.size (.slice (some ⟨ga, 0, none⟩) T.length c4) T := own_below ho fun k e => hny.block k (ho.lt k e).2
          have hr8' := hr8.nb hny
          have hn8 : NB w y.val := hn.trans hny
          clear hox hn7 hrb hr8 hK ho hB hny
          generalize y.val = w8 at *
          obtain ⟨gx, cx, rfl⟩ : ∃ gx cx, vx = .slice (some ⟨gx, 0, none⟩) 64 cx := by
            rcases hox8.2 with ⟨_, e2⟩ | ⟨g, cap, cur, e, _⟩
            · cases e2
            · exact ⟨g, cap, e⟩
          generalize x.val.heap.size = bx at *
          go_wp2
          obtain ⟨wo, hwo⟩ : ∃ wo : World, wo = w8 := ⟨_, rfl⟩
          go_loopw [15, 16] (fun v t wr => ∃ k : Nat, k ≤ 64 ∧ t = .int .i64 k ∧ H8 wr v (rounds X k Rq) ∧ NB w8 wr) (fun _ t _ => 64 - (intOf t).toNat)
          case atStart => exact ⟨0, by omega, rfl, hr8', NB.refl _⟩
          case round =>
            obtain ⟨k, hk, rfl, hv, hnr⟩ := hrel
            by_cases hk64 : k < 64
            · have d3 : decide ((k : Int) < 64) = true := by simp; omega
              obtain ⟨gv, cv, rfl, hv1, hv2, hv3⟩ := hv
              have hxk : wr.cell? ⟨gx, k, none⟩ = some (u64v (wd X k)) := by
                have h1 := (own_word (l := sched X 64) (by rw [sched_length]; exact hox8) k (by rw [sched_length]; exact hk64)).2
                rw [sched_getD X 64 k hk64] at h1
                exact (hnr.cell_ (isSome_cell_lt (a := ⟨gx, k, none⟩) (by rw [h1]; rfl))).trans h1
              have hKk : wr.cell? ⟨gk, k, none⟩ = some (.int .u64 (Kc k : Int)) := (hnr.cell_ hK8.lt).trans (hK8.arr_cell (by omega))
              have hBr : Blk wr w.heap.size 94 wwA := (hnr.block _ hB8.lt).trans hB8
              have hrs : rounds X (k + 1) Rq = rnd (rounds X k Rq) (K32 k) (wd X k) := rfl
              have Hrs := Lib.hid hrs
              clear hrs
              generalize rounds X k Rq = V at *
              generalize wd X k = xk at *
              go_wp2
              refine wp_region_mid 10 (by kernel_rfl) (by kernel_rfl) rfl rfl ?_
              simp only [List.take_succ_cons, List.take_zero]
              repeat (first
                | go_big_quiet_step (fail)
                | (refine wpQuiet_loadW rfl 94 _ rfl _ _ rfl (fun w' hw' => by obtain ⟨x, rfl⟩ := hw'; exact run_load_ww _ _ (hBr.ext x)) ?_; simp only [Act.put, List.setIfInBounds_toArray, List.set_cons_zero, List.set_cons_succ]))
              refine wpQuiet_nil ?_
              intro x K hK'
              have hvx : ∀ i, i < 8 → x.val.cell? ⟨gv, 0 + i, none⟩ = some (u64v (V.at i)) := fun i hi => by
                rw [Nat.zero_add]
                exact (x.nb.cell_ (isSome_cell_lt (a := ⟨gv, i, none⟩) (by rw [hv3 i hi]; rfl))).trans (hv3 i hi)
              go_wp2_with fail
              refine (rround_any V k xk gv 0 cv x.val (hvx 0 (by omega)) (hvx 1 (by omega)) (hvx 2 (by omega)) (hvx 3 (by omega)) (hvx 4 (by omega)) (hvx 5 (by omega)) (hvx 6 (by omega)) (hvx 7 (by omega))).mono ?_
              rintro e w9 ⟨gn, rfl, hgn, hBn, hn9⟩
              refine hK' _ _ ?_
              clear hK' K hvx hv3 hxk hKk hBr
              repeat (go_big_quiet_step (fail))
              refine wpQuiet_nil ?_
              intro y
              have hny : NB wr y.val := (x.nb.trans hn9).ext y
              have hBy := hBn.ext y
              clear hn9
              go_wp2
              refine ⟨⟨k + 1, by omega, by go_num, ?_, hnr.trans hny⟩, by simp [intOf]; omega⟩
              rw [Hrs.out]
              exact H8.blk hBy
            · have hk64' : k = 64 := by omega
              subst hk64'
              rw [show ((64 : Nat) : Int) = (64 : Int) from rfl]
              have d3 : decide ((64 : Int) < 64) = false := by decide
              have hr9 := hr8'.nb hnr
              have hK9 : Blk wr gk 25 _ := (hnr.block _ hK8.lt).trans hK8
              have hB9 : Blk wr w.heap.size 94 wwA := (hnr.block _ hB8.lt).trans hB8
              have ho9 : OB wr w.heap.size (.slice (some ⟨ga, 0, none⟩) T.length c4) T := own_below ho8 fun k e => hnr.block k (ho8.lt k e).2
              have hn9 : NB w wr := hn8.trans hnr
              clear hr8' hK8 hB8 ho8 hn8 hnr hox8 hwo
              generalize rounds X 64 Rq = V at *
              obtain ⟨gv, cv, rfl, hv1, hv2, hv3⟩ := hv
              have hr3 := H8.cells hr9
              go_wp2
              obtain ⟨w9, hw9⟩ : ∃ w9 : World, w9 = wr := ⟨_, rfl⟩
              subst hw9
              go_loopw [17, 18] (fun v t wx => ∃ i : Nat, i ≤ 8 ∧ t = .int .i64 i ∧ wx.ownsRow w9.heap.size 25 1 v (addl Rq V i).length (uw (addl Rq V i)) ∧ NB w9 wx) (fun _ t _ => 8 - (intOf t).toNat)
              case atStart => exact ⟨0, by omega, rfl, World.ownsRow_nil _ _ _ _, NB.refl _⟩
              case round =>
                obtain ⟨i, hi, rfl, hoi, hni⟩ := hrel
                by_cases hi8 : i < 8
                · have d4 : decide ((i : Int) < 8) = true := by simp; omega
                  have hci : wr.cell? ⟨gr, i, none⟩ = some (u64v (Rq.at i)) := (hni.cell_ (isSome_cell_lt (a := ⟨gr, i, none⟩) (by rw [hr3 i hi8]; rfl))).trans (hr3 i hi8)
                  have hvi : wr.cell? ⟨gv, i, none⟩ = some (u64v (V.at i)) := (hni.cell_ (isSome_cell_lt (a := ⟨gv, i, none⟩) (by rw [hv3 i hi8]; rfl))).trans (hv3 i hi8)
                  have hBi : Blk wr w.heap.size 94 wwA := (hni.block _ hB9.lt).trans hB9
                  have hsl : addl Rq V (i + 1) = addl Rq V i ++ [Rq.at i + V.at i] := addl_succ _ _ _
                  have hll : (addl Rq V i).length ≤ 1000000 := by rw [addl_length]; omega
                  have Hsl := Lib.hid hsl
                  clear hsl
                  generalize addl Rq V i = L at *
                  have lr := lt32 (Rq.at i)
                  have lv := lt32 (V.at i)
                  generalize Rq.at i = xr at *
                  generalize V.at i = xv at *
                  have zz : IntKind.u64.wrap ((xr.toNat : Int) + (xv.toNat : Int)) = ((xr.toNat + xv.toNat : Nat) : Int) := by unfold IntKind.wrap; simp [IntKind.bits, IntKind.signed] <;> omega
                  have hX : (((xr.toNat + xv.toNat) % 4294967296 : Nat) : Int) = ((xr + xv).toNat : Int) := by rw [UInt32.toNat_add]
                  generalize xr + xv = xs at *
                  generalize xr.toNat + xv.toNat = N at *
                  have hq : ∀ (z : Ext wr), Calls Tryd.prog 60 #[.agg wwA, .int .u64 N] z.val fun e w'' => e = .returned (u64v xs) ∧ ∃ q : Ext wr, w'' = q.val := fun z => Calls.quiet_ext ((rcut_any N z.val).mono fun _ _ ⟨h1, h2⟩ => ⟨by rw [h1]; exact ret_int hX, h2⟩)
                  clear hX
                  go_wp2
                  refine wp_region_one_tail (v0 := u17) 12 (by kernel_rfl) (by kernel_rfl) rfl (Or.inl ⟨rfl, fun _ => rfl⟩) ?_
                  simp only [List.take_succ_cons, List.take_zero, List.drop_succ_cons, List.drop_zero, Act.put, List.setIfInBounds_toArray, List.set_cons_zero, List.set_cons_succ]
                  repeat (first
                    | go_big_quiet_step ((with_reducible exact hq _))
                    | (refine wpQuiet_loadW rfl 94 _ rfl _ _ rfl (fun w' hw' => by obtain ⟨x, rfl⟩ := hw'; exact run_load_ww _ _ (hBi.ext x)) ?_; simp only [Act.put, List.setIfInBounds_toArray, List.set_cons_zero, List.set_cons_succ]))
                  refine wpQuiet_nil ?_
                  intro z Q2 hQ2
                  have hoz := own_ext hoi z
                  have hnz := hni.ext z
                  clear hq hci hvi zz
                  generalize z.val = wz at *
                  go_wp2_with (first | (at_builtin; refine append_word rfl _ _ rfl w9.heap.size _ _ rfl (World.ownsRow.alloc hoz _) _ _ xs rfl (rv_word _ rfl rfl) hll ?e3 ?_) | fail)
                  case e3 => simp; exact Nat.le_succ_of_le hnz.size
                  intro v' w10 ho10 hg10
                  have hn10 : NB w9 w10 := (hnz.alloc _).grown hg10 fun q hq => (hoz.lt q hq).1
                  rw [← Hsl.out] at ho10
                  go_wp2
                  refine ⟨⟨i + 1, by omega, by go_num, ?_, hn10⟩, by simp [intOf]; omega⟩
                  have hl' : L.length + 1 = (addl Rq V (i + 1)).length := by rw [Hsl.out]; simp
                  rw [← hl']
                  exact ho10
                · have hi8' : i = 8 := by omega
                  subst hi8'
                  have d4 : decide ((8 : Int) < 8) = false := by decide
                  have hnew := H8.own hoi
                  rw [← Hrun.out] at hnew
                  have hKf : Blk wr gk 25 _ := (hni.block _ hK9.lt).trans hK9
                  have hBf : Blk wr w.heap.size 94 wwA := (hni.block _ hB9.lt).trans hB9
                  have hof : OB wr w.heap.size (.slice (some ⟨ga, 0, none⟩) T.length c4) T := own_below ho9 fun k e => hni.block k (ho9.lt k e).2
                  have hnf : NB w wr := hn9.trans hni
                  clear hr3 hv3 hr9 hK9 hB9 ho9 hn9 hni hoi
                  go_wp2
                  refine ⟨⟨q + 1, by omega, ?_, hnew, hKf, hof, hBf, hnf⟩, by simp [intOf]; omega⟩
                  congr 1
        · have hqe : T.length / 64 = q := by have := Hlen2.out.1; omega
          have hT2 := Hlen2.out.2
          have d2 : decide (64 * (q : Int) < (T.length : Int)) = false := by simp; omega
          have Hqe := Lib.hid hqe
          clear hqe
          rw [Hqe.out] at Hsha
          generalize hRq : runk R8.init T q = Rq at *
          have HRq := Lib.hid hRq
          clear hRq ho hK
          obtain ⟨gr, cr, rfl, hr1, hr2, _⟩ := id hr8
          have hr3 := H8.cells hr8
          have hB' := hB
          unfold wwA at hB'
          have e0 := hB'.cell 0
          have e1 := hB'.cell 1
          go_wp2
          clear e0 e1
          obtain ⟨w9, hw9⟩ : ∃ w9 : World, w9 = wr := ⟨_, rfl⟩
          subst hw9
          have hr9 := hr3
          have hB9 := hB
          have hn9 := hn
          clear hr3 hB hn hr8 hB'
          go_loopw [19, 20] (fun v t wx => ∃ k : Nat, k ≤ 8 ∧ t = .int .i64 k ∧ OB wx w9.heap.size v (tellk Rq k) ∧ NB w9 wx) (fun _ t _ => 8 - (intOf t).toNat)
          case atStart => exact ⟨0, by omega, rfl, OB.nil _ _, NB.refl _⟩
          case round =>
            obtain ⟨k, hk, rfl, hown, hnb⟩ := hrel
            by_cases hlt8 : k < 8
            · have d5 : decide ((k : Int) < 8) = true := by simp; omega
              have hB' : Blk wr w.heap.size 94 wwA := (hnb.block _ hB9.lt).trans hB9
              unfold wwA at hB'
              have e0 := hB'.cell 0
              have e1 := hB'.cell 1
              obtain ⟨wo, hwo⟩ : ∃ wo : World, wo = wr := ⟨_, rfl⟩
              subst hwo
              go_wp2
              clear e0 e1 hB'
              go_loopw [19, 21] (fun v t wx => ∃ j : Nat, j ≤ 4 ∧ t = .int .i64 (8 * (j : Int) - 8) ∧ OB wx w9.heap.size v (tellk Rq k ++ wb (Rq.at k) (4 - j)) ∧ NB w9 wx) (fun _ t _ => (intOf t + 8).toNat)
              case atStart =>
                refine ⟨4, by omega, rfl, ?_, hnb⟩
                simpa [wb] using hown
              case round =>
                obtain ⟨j, hj, ht, hown, hnb⟩ := hrel
                rcases j with _ | i
                · have ht' : u21 = .int .i64 (-8) := ht
                  subst ht'
                  go_wp2
                  exact ⟨⟨k + 1, by omega, by go_num, hown, hnb⟩, by simp [intOf]; omega⟩
                · rw [show 8 * ((i + 1 : Nat) : Int) - 8 = 8 * (i : Int) by omega] at ht
                  subst ht
                  have hx := lt32 (Rq.at k)
                  have hc : wr.cell? ⟨gr, k, none⟩ = some (u64v (Rq.at k)) := (hnb.cell_ (isSome_cell_lt (a := ⟨gr, k, none⟩) (by rw [hr9 k hlt8]; rfl))).trans (hr9 k hlt8)
                  have hb := beB_int (Rq.at k) i (by omega)
                  have Hb := Lib.hid hb
                  clear hb
                  have hl2 : (tellk Rq k ++ wb (Rq.at k) (4 - (i + 1))).length ≤ 32 := by rw [List.length_append, tellk_length, wb_length]; omega
                  go_wp2_with (first | (at_builtin; refine append_bytes rfl _ _ rfl w9.heap.size _ _ rfl (hown.alloc _) (wr.heap.size + 1) _ [beB (Rq.at k) (3 - i)] rfl (rb_int _ Hb.out rfl) ?f1 ?f2 ?_) | fail)
                  case f1 => simp only [List.length_cons, List.length_nil]; omega
                  case f2 => simp; exact Nat.le_of_lt (Nat.lt_succ_of_le hnb.size)
                  intro v' w1 ho hg _
                  have hnb' := hnb.alloc (Obj.cells #[Value.int IntKind.u8 (((Rq.at k).toNat : Int) / 2 ^ (8 * i) % 256)] 5)
                  have hn1 : NB w9 w1 := hnb'.grown hg fun q hq => (hown.out.lt q hq).1
                  go_wp2
                  refine ⟨⟨i, by omega, by congr 1, ?_, hn1⟩, by simp [intOf]; omega⟩
                  rw [show 4 - i = (3 - i) + 1 by omega, wb_succ]
                  exact ho
            · have hk8 : k = 8 := by omega
              subst hk8
              have d5 : decide ((8 : Int) < 8) = false := by decide
              have hrb := hown.rb
              rw [← Hsha.out] at hrb
              go_wp2
              refine bodyPost_ret (results_tmp2 rfl _ _ _) rfl ?_
              exact ⟨_, rfl, hrb, hn9.trans hnb⟩

set_option maxHeartbeats 400000 in
theorem rhash_any (v : Value) (l : List UInt8) (hl : l.length ≤ 1048576) (w : World) (hv : RB w w.heap.size v l) :
    Calls Tryd.prog 24 #[v] w fun e w' => ∃ v, e = .returned v ∧ RB w' w'.heap.size v (sha256 l) ∧ NB w w' := by
  obtain ⟨A, c, rfl, _⟩ := id hv
  go_enter Tryd.func24, Tryd.ntmps24
  go_wp2_with fail
  refine (rsum_any _ l hl _ hv).mono ?_
  rintro e w1 ⟨v1, rfl, hv1, hn1⟩
  go_wp2
  go_ret
  exact ⟨_, rfl, hv1, hn1⟩
end Go.Proofs.YtgpafdagealnbaaDoor
