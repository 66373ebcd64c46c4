/- Walks over the reference's sha2: expand. -/
import Derived.Test.YtgpafdagealnbaaDoorRsh2
namespace Go.Proofs.YtgpafdagealnbaaDoor
open Go.RowKit

/-! ### a word of four bytes -/
def numL (l : List UInt8) : Nat := l.foldl (fun n c => n * 256 + c.toNat) 0
theorem numL_snoc (l : List UInt8) (c : UInt8) : numL (l ++ [c]) = numL l * 256 + c.toNat := by simp [numL]
theorem numL_lt_from (l : List UInt8) (a m : Nat) (h : a < 256 ^ m) : l.foldl (fun n c => n * 256 + c.toNat) a < 256 ^ (m + l.length) := by
  induction l generalizing a m with
  | nil => exact h
  | cons c r ih =>
    have hc := c.toNat_lt
    rw [List.foldl_cons, List.length_cons, show m + (r.length + 1) = (m + 1) + r.length by omega]
    refine ih _ _ ?_
    rw [Nat.pow_succ]
    omega
theorem numL_lt (l : List UInt8) : numL l < 256 ^ l.length := by
  have := numL_lt_from l 0 0 (by decide)
  rwa [Nat.zero_add] at this
theorem push8_from (l : List UInt8) (x : UInt32) (a : Nat) (h : x.toNat = a % 4294967296) : (l.foldl push8 x).toNat = l.foldl (fun n c => n * 256 + c.toNat) a % 4294967296 := by
  induction l generalizing x a with
  | nil => exact h
  | cons c r ih =>
    rw [List.foldl_cons, List.foldl_cons]
    refine ih _ _ ?_
    rw [push8_toNat, h]
    omega
theorem push8_fold (l : List UInt8) : (l.foldl push8 0).toNat = numL l % 4294967296 := push8_from l 0 0 rfl
theorem be32_num (b : List UInt8) (t : Nat) (h : 4 * t + 4 ≤ b.length) : (be32 b t).toNat = numL ((b.drop (4 * t)).take 4) := by
  unfold be32
  rw [push8_fold]
  have := numL_lt ((b.drop (4 * t)).take 4)
  rw [List.length_take, List.length_drop, show min 4 (b.length - 4 * t) = 4 by omega] at this
  have h4 : (256 : Nat) ^ 4 = 4294967296 := by decide
  omega

theorem info_u64 : (Tryd.prog.info? 25).map (fun i => (i.zero, i.size, i.bytes)) = some (some (.int .u64 0), 1, 8) := by kernel_rfl
theorem rv_word {w : World} (x : UInt32) {c : Int} (hc : c = (x.toNat : Int)) {n : Nat} (hn : n = w.heap.size) : RV (w.alloc (.cells #[.int .u64 c] 25)) (w.heap.size + 1) 1 (.slice (some ⟨n, 0, none⟩) 1 1) 1 (uw [x]) := by
  subst hc; subst hn
  refine ⟨_, 1, rfl, by omega, by omega, rfl, fun _ => ⟨w.heap.size, 0, rfl, by omega, fun j u hu => ?_⟩⟩
  rw [Nat.zero_add]
  exact (Blk.cell (t := 25) (Blk.newAt rfl) j).trans (by simpa [uw] using hu)
theorem append_word {w : World} {ops : Array Oper} {rest : List Oper} {o : Oper} {a : Act} {Q : Exit → Act → World → Prop} (hgd : o.guard = none) (s x : Operand)
    (ho : o.op = .call { callee := .builtin .append, args := #[s, x], argTypes := #[96, 96] })
    (base : Nat) (v : Value) (l : List UInt32) (hs : a.eval s = v) (hown : w.ownsRow base 25 1 v l.length (uw l))
    (B : Nat) (u : Value) (y : UInt32) (hx : a.eval x = u) (hr : RV w B 1 u 1 (uw [y]))
    (h63 : l.length ≤ 1000000) (hbase : base ≤ w.heap.size)
    (h : ∀ v' w', w'.ownsRow base 25 1 v' (l ++ [y]).length (uw (l ++ [y])) → w.grownBy w' v.ownBlock → wpList Tryd.prog ops Q rest (a.put o.dst v') w') : wpList Tryd.prog ops Q (o :: rest) a w := by
  refine wpList_append_rv w hgd s x 96 ho base 25 (.int .u64 0) 1 8 Tryd.underlying96 info_u64 rfl (by decide) v l.length (uw l) hs hown B 1 u (uw [y]) hx hr (uw_one _) (by omega) (by decide) hbase ?_
  intro v' w' h1 h2 _
  exact h v' w' (by rw [List.length_append, uw_append]; exact h1) h2
theorem own_word {w : World} {base : Nat} {l : List UInt32} {g : Nat} {o c : Nat} (h : w.ownsRow base 25 1 (.slice (some ⟨g, o, none⟩) l.length c) l.length (uw l)) (i : Nat) (hi : i < l.length) : o = 0 ∧ w.cell? ⟨g, i, none⟩ = some (u64v (l.getD i 0)) := by
  have h2 := h.2
  rcases h2 with ⟨e, _⟩ | ⟨g', cap, cur, e, _⟩
  · cases e
  · injection e with e
    injection e with e
    injection e with e1 e2
    subst e1; subst e2
    refine ⟨rfl, ?_⟩
    have := h.cells (g := g) rfl i (u64v (l.getD i 0)) (by rw [uw_get, List.getD_eq_getElem?_getD, List.getElem?_eq_getElem hi]; rfl)
    rwa [addr_add, Nat.zero_add] at this

theorem small_quiet {w0 : World} (x : UInt32) (a b c : Nat) (ha : a ≤ 32) (hb : b ≤ 32) (hc : c ≤ 32) (y : Ext w0) : Calls Tryd.prog 76 #[.agg wwA, u64v x, .int .u64 a, .int .u64 b, .int .u64 c] y.val fun e w'' => e = .returned (u64v (sm x a b c)) ∧ ∃ z : Ext w0, w'' = z.val :=
  Calls.quiet_ext (rsmall_any x a b c ha hb hc _)
set_option maxRecDepth 20000 in
set_option maxHeartbeats 2000000 in
theorem rexpand_any (b : List UInt8) (hb : b.length = 64) (S : Nat → Prop) (v : Value) (w : World) (hv : RBP w S v b) :
    Calls Tryd.prog 58 #[.agg wwA, v] w fun e w' => ∃ v', e = .returned v' ∧ w'.ownsRow w.heap.size 25 1 v' 64 (uw (sched b 64)) ∧ NB w w' := by
  obtain ⟨A, c, rfl, q1, q2, q3⟩ := hv
  obtain ⟨g, o, rfl, hS, hc⟩ := q3 (by omega)
  clear q3
  rw [hb]
  unfold wwA
  go_enter Tryd.func58, Tryd.ntmps58
  go_wp2
  have hB0 : Blk (w.alloc (.cells wwA 94)) w.heap.size 94 wwA := Blk.newAt rfl
  have hn0 : NB w (w.alloc (.cells wwA 94)) := (NB.refl w).alloc _
  go_loopw [6, 7] (fun v t wr => ∃ k : Nat, k ≤ 16 ∧ t = .int .i64 k ∧ wr.ownsRow w.heap.size 25 1 v (sched b k).length (uw (sched b k)) ∧ Blk wr w.heap.size 94 wwA ∧ NB w wr) (fun _ t _ => 16 - (intOf t).toNat)
  case atStart => exact ⟨0, by omega, rfl, World.ownsRow_nil _ _ _ _, hB0, hn0⟩
  case round =>
    obtain ⟨k, hk, rfl, ho, hB, hn⟩ := hrel
    by_cases hlt : k < 16
    · have d1 : decide ((k : Int) < 16) = true := by simp; omega
      obtain ⟨wo, hwo⟩ : ∃ wo : World, wo = wr := ⟨_, rfl⟩
      subst hwo
      go_wp2
      go_loopw [8, 9] (fun x i wx => ∃ j : Nat, j ≤ 4 ∧ i = .int .i64 j ∧ x = .int .u64 (numL ((b.drop (4 * k)).take j) : Int) ∧ wx = wo) (fun _ i _ => 4 - (intOf i).toNat)
      case atStart => exact ⟨0, by omega, rfl, rfl, rfl⟩
      case round =>
        obtain ⟨j, hj, rfl, rfl, hwx⟩ := hrel
        subst hwx
        by_cases hj4 : j < 4
        · have d2 : decide ((j : Int) < 4) = true := by simp; omega
          have hi : k * 4 + j < b.length := by omega
          have hcell : wr.cell? ⟨g, o + (k * 4 + j), none⟩ = some (.int .u8 ((b[k * 4 + j]).toNat : Int)) := (hn.cell_ (isSome_cell_lt (by rw [hc _ _ (List.getElem?_eq_getElem hi)]; rfl))).trans (hc _ _ (List.getElem?_eq_getElem hi))
          have hsn : numL ((b.drop (4 * k)).take (j + 1)) = numL ((b.drop (4 * k)).take j) * 256 + (b[k * 4 + j]).toNat := by
            have hh : j < (b.drop (4 * k)).length := by rw [List.length_drop]; omega
            rw [List.take_succ_eq_append_getElem hh, numL_snoc, List.getElem_drop]
            simp only [show 4 * k + j = k * 4 + j by omega]
          have hlt2 := numL_lt ((b.drop (4 * k)).take j)
          rw [List.length_take, List.length_drop] at hlt2
          have hb8 : (b[k * 4 + j]).toNat < 256 := (b[k * 4 + j]).toNat_lt
          have hle : numL ((b.drop (4 * k)).take j) ≤ 16777216 := Nat.le_trans (Nat.le_of_lt hlt2) (Nat.le_trans (Nat.pow_le_pow_right (by decide) (show min j (b.length - 4 * k) ≤ 3 by omega)) (by decide))
          have Hsn := Lib.hid hsn
          clear hsn hlt2
          generalize numL ((b.drop (4 * k)).take j) = N at *
          generalize b[k * 4 + j] = bb at *
          have hq1 : (k : Int) * 4 + j < 64 := by omega
          go_wp2
          refine ⟨⟨j + 1, by omega, by go_num, ?_, by first | rfl | trivial⟩, by simp [intOf]; omega⟩
          rw [Hsn.out]; simp
        · have hj4' : j = 4 := by omega
          subst hj4'
          have d2 : decide ((4 : Int) < 4) = false := by decide
          have hx : (numL ((b.drop (4 * k)).take 4) : Int) = ((be32 b k).toNat : Int) := by rw [be32_num b k (by omega)]
          have hs : sched b (k + 1) = sched b k ++ [be32 b k] := by rw [sched, if_pos hlt]
          have hl : (sched b k).length ≤ 1000000 := by rw [sched_length]; omega
          have Hs := Lib.hid hs
          have Hx := Lib.hid hx
          clear hs hx
          generalize sched b k = L at *
          generalize numL ((b.drop (4 * k)).take 4) = N at *
          go_wp2_with (first | (at_builtin; refine append_word rfl _ _ rfl w.heap.size _ _ rfl (World.ownsRow.alloc ho _) _ _ (be32 b k) rfl (rv_word _ Hx.out rfl) hl ?c2 ?_) | fail)
          case c2 => simp; exact Nat.le_succ_of_le hn.size
          intro v' w1 ho1 hg1
          have hn1 : NB w w1 := (hn.alloc _).grown hg1 fun q hq => (ho.lt q hq).1
          have hB1 : Blk w1 w.heap.size 94 wwA := (hB.alloc _).grown hg1 (own_ne ho hB (by decide))
          rw [← Hs.out] at ho1
          go_wp2
          go_roundw
          case rel =>
            refine ⟨k + 1, by omega, by go_num, ?_, hB1, hn1⟩
            have hl' : L.length + 1 = (sched b (k + 1)).length := by rw [Hs.out]; simp
            rw [← hl']
            exact ho1
          case measure => simp [intOf]; omega
    · have hk16 : k = 16 := by omega
      subst hk16
      rw [show ((16 : Nat) : Int) = (16 : Int) from rfl]
      have d1 : decide ((16 : Int) < 16) = false := by decide
      clear hc
      have hB' := hB
      unfold wwA at hB'
      have e0 := hB'.cell 0
      have e1 := hB'.cell 1
      go_wp2
      go_loopw [6, 11, 12] (fun v t x wr => ∃ k : Nat, 16 ≤ k ∧ k ≤ 64 ∧ t = .int .i64 k ∧ wr.ownsRow w.heap.size 25 1 v (sched b k).length (uw (sched b k)) ∧ Blk wr w.heap.size 94 wwA ∧ NB w wr) (fun _ t _ _ => 64 - (intOf t).toNat)
      case atStart => exact ⟨16, by omega, by omega, rfl, ho, hB, hn⟩
      case round =>
        obtain ⟨k, hk, hk2, rfl, ho, hB, hn⟩ := hrel
        by_cases hlt : k < 64
        · have d2 : decide ((k : Int) < 64) = true := by simp; omega
          have hform : ∃ g2 c2, u6 = .slice (some ⟨g2, 0, none⟩) (sched b k).length c2 := by
            rcases ho.2 with ⟨_, e⟩ | ⟨g2, c2, cur, e, _⟩
            · rw [sched_length] at e; omega
            · exact ⟨g2, c2, e⟩
          obtain ⟨g2, c2, rfl⟩ := hform
          have w16 := (own_word ho (k - 16) (by rw [sched_length]; omega)).2
          have w7 := (own_word ho (k - 7) (by rw [sched_length]; omega)).2
          have w15 := (own_word ho (k - 15) (by rw [sched_length]; omega)).2
          have w2 := (own_word ho (k - 2) (by rw [sched_length]; omega)).2
          have hs : sched b (k + 1) = sched b k ++ [(sched b k).getD (k - 16) 0 + sm ((sched b k).getD (k - 15) 0) 7 18 3 + (sched b k).getD (k - 7) 0 + sm ((sched b k).getD (k - 2) 0) 17 19 10] := by rw [sched, if_neg (by omega)]
          have hl : (sched b k).length = k := sched_length _ _
          have Hs := Lib.hid hs
          clear hs
          generalize sched b k = L at *
          have hL1 := Lib.hid hl
          have hL2 : k ≤ L.length := by omega
          have hL3 : L.length ≤ 1000000 := by omega
          clear hl
          have l16 := lt32 (L.getD (k - 16) 0)
          have l7 := lt32 (L.getD (k - 7) 0)
          have l15 := lt32 (sm (L.getD (k - 15) 0) 7 18 3)
          have l2 := lt32 (sm (L.getD (k - 2) 0) 17 19 10)
          generalize L.getD (k - 16) 0 = x16 at *
          generalize L.getD (k - 7) 0 = x7 at *
          generalize hx15 : L.getD (k - 15) 0 = x15 at *
          generalize hx2 : L.getD (k - 2) 0 = x2 at *
          have Hx15 := Lib.hid hx15
          have Hx2 := Lib.hid hx2
          clear hx15 hx2
          have i16 : IntKind.i64.wrap ((k : Int) - 16) = (k : Int) - 16 := IntWalk.i64_in _ (by omega)
          have i7 : IntKind.i64.wrap ((k : Int) - 7) = (k : Int) - 7 := IntWalk.i64_in _ (by omega)
          have i15 : IntKind.i64.wrap ((k : Int) - 15) = (k : Int) - 15 := IntWalk.i64_in _ (by omega)
          have i2 : IntKind.i64.wrap ((k : Int) - 2) = (k : Int) - 2 := IntWalk.i64_in _ (by omega)
          have t16 : ((k : Int) - 16).toNat = k - 16 := by omega
          have t7 : ((k : Int) - 7).toNat = k - 7 := by omega
          have t15 : ((k : Int) - 15).toNat = k - 15 := by omega
          have t2 : ((k : Int) - 2).toNat = k - 2 := by omega
          have n16 : 0 ≤ (k : Int) - 16 := by omega
          have n7 : 0 ≤ (k : Int) - 7 := by omega
          have n15 : 0 ≤ (k : Int) - 15 := by omega
          have n2 : 0 ≤ (k : Int) - 2 := by omega
          have u16 : (k : Int) - 16 < (L.length : Int) := by omega
          have u7 : (k : Int) - 7 < (L.length : Int) := by omega
          have u15 : (k : Int) - 15 < (L.length : Int) := by omega
          have u2 : (k : Int) - 2 < (L.length : Int) := by omega
          go_wp2
          refine wp_region_quiet_ext (by kernel_rfl) (by kernel_rfl) ?_
          repeat (go_big_quiet_step (fail))
          refine wpQuiet_nil ?_
          intro y
          have hBy := hB.ext y
          have hny := hn.ext y
          have hoy := own_ext ho y
          have w15' := (own_word hoy (k - 15) (by omega)).2
          have w2' := (own_word hoy (k - 2) (by omega)).2
          rw [Hx15.out] at w15'
          rw [Hx2.out] at w2'
          clear w16 w7 w15 w2 i16 i7 t16 t7 n16 n7 u16 u7
          have hBy' := hBy
          unfold wwA at hBy'
          clear e0 e1
          have e0 := hBy'.cell 0
          have e1 := hBy'.cell 1
          have hq1 : ∀ z : Ext y.val, Calls Tryd.prog 76 #[.agg wwA, u64v x15, .int .u64 7, .int .u64 18, .int .u64 3] z.val fun e w'' => e = .returned (u64v (sm x15 7 18 3)) ∧ ∃ q : Ext y.val, w'' = q.val := fun z => small_quiet x15 7 18 3 (by decide) (by decide) (by decide) z
          have hq2 : ∀ z : Ext y.val, Calls Tryd.prog 76 #[.agg wwA, u64v x2, .int .u64 17, .int .u64 19, .int .u64 10] z.val fun e w'' => e = .returned (u64v (sm x2 17 19 10)) ∧ ∃ q : Ext y.val, w'' = q.val := fun z => small_quiet x2 17 19 10 (by decide) (by decide) (by decide) z
          unfold wwA at hq1 hq2
          go_wp2
          refine wp_region_quiet_ext (by kernel_rfl) (by kernel_rfl) ?_
          repeat (first
            | go_big_quiet_step ((first | with_reducible exact hq1 _ | with_reducible exact hq2 _))
            | (refine wpQuiet_loadW rfl 94 _ rfl _ _ rfl (fun w' hw' => by obtain ⟨x, rfl⟩ := hw'; exact run_load_ww _ _ (hBy.ext x)) ?_; simp only [Act.put, List.setIfInBounds_toArray, List.set_cons_zero, List.set_cons_succ]))
          refine wpQuiet_nil ?_
          intro z
          have hBz := hBy.ext z
          have hnz := hny.ext z
          have hoz := own_ext hoy z
          clear hq1 hq2 w15' w2' i15 i2 t15 t2 n15 n2 u15 u2 e0 e1 hBy hBy' hoy hny
          generalize z.val = w3 at *
          go_wp2_with (first
            | (refine wpList_load_blk rfl 94 _ rfl w.heap.size rfl 94 _ _ hBz Tryd.underlying94 rfl 2 rfl size_Words ?_) | fail)
          rw [show ((x16.toNat : Int) + (x7.toNat : Int) + ((sm x15 7 18 3).toNat : Int) + ((sm x2 17 19 10).toNat : Int)) = ((x16.toNat + x7.toNat + (sm x15 7 18 3).toNat + (sm x2 17 19 10).toNat : Nat) : Int) by omega]
          refine (rcut_any _ _).mono ?_
          rintro e w4 ⟨rfl, hn4⟩
          have hX : (((x16.toNat + x7.toNat + (sm x15 7 18 3).toNat + (sm x2 17 19 10).toNat) % 4294967296 : Nat) : Int) = ((x16 + sm x15 7 18 3 + x7 + sm x2 17 19 10).toNat : Int) := by
            rw [UInt32.toNat_add, UInt32.toNat_add, UInt32.toNat_add]; omega
          generalize x16 + sm x15 7 18 3 + x7 + sm x2 17 19 10 = X at *
          generalize (x16.toNat + x7.toNat + (sm x15 7 18 3).toNat + (sm x2 17 19 10).toNat) % 4294967296 = N at *
          have HX := Lib.hid hX
          clear hX
          have ho4 : w4.ownsRow w.heap.size 25 1 (.slice (some ⟨g2, 0, none⟩) L.length c2) L.length (uw L) := own_below hoz fun q e => hn4.block q (hoz.lt q e).2
          have hB4 : Blk w4 w.heap.size 94 wwA := (hn4.block _ hBz.lt).trans hBz
          have hn5 := hnz.trans hn4
          clear hoz hBz
          go_wp2_with (first | (at_builtin; refine append_word rfl _ _ rfl w.heap.size _ _ rfl (World.ownsRow.alloc ho4 _) _ _ X rfl (rv_word _ HX.out rfl) hL3 ?c3 ?_) | fail)
          case c3 => simp; exact Nat.le_succ_of_le hn5.size
          intro v' w5 ho5 hg5
          have hn6 : NB w w5 := (hn5.alloc _).grown hg5 fun q hq => (ho4.lt q hq).1
          have hB5 : Blk w5 w.heap.size 94 wwA := (hB4.alloc _).grown hg5 (own_ne ho4 hB4 (by decide))
          rw [← Hs.out] at ho5
          go_wp2
          go_roundw
          case rel =>
            refine ⟨k + 1, by omega, by omega, by go_num, ?_, hB5, hn6⟩
            have hl' : L.length + 1 = (sched b (k + 1)).length := by rw [Hs.out]; simp
            rw [← hl']
            exact ho5
          case measure => simp [intOf]; omega
        · have hk64 : k = 64 := by omega
          subst hk64
          have d2 : decide ((64 : Int) < 64) = false := by decide
          rw [sched_length] at ho
          go_wp2
          go_ret
          exact ⟨_, rfl, ho, hn⟩
end Go.Proofs.YtgpafdagealnbaaDoor
