/- Appending so many zero bytes ('append(b, make([]byte, n)...)') to bytes of the call's own. -/
import Derived.Test.YtgpafdagealnbaaDoorRsh5
import Derived.Lib.AppendZeros
import Derived.Test.YtgpafdagealnbaaDoorDsk3
namespace Go.Proofs.YtgpafdagealnbaaDoor
open Go.RowKit

theorem zeroCells_u8 (m : Nat) : (Builtin.zeroCells #[Value.int .u8 0] m).toList = bv (List.replicate m 0) := by
  apply List.ext_getElem?
  intro i
  simp only [Builtin.zeroCells, Array.toList_map, bv, List.map_replicate]
  rw [List.getElem?_replicate]
  by_cases h : i < m
  · rw [if_pos h]
    simp [h, Nat.mod_one]
  · rw [if_neg h]
    simp [h]
theorem run_append_zeros (w : World) (base : Nat) (ty : TypeId) (v : Value) (l : List UInt8) (m : Nat) (hm : 0 < m) (hl0 : 0 < l.length) (hl : l.length + m ≤ 1000000000) (hown : OB w base v l) (hb : base ≤ w.heap.size) :
    ∃ v' w', (Builtin.append_ #[22, 3] ty #[v, .int .i64 m]).run Tryd.prog w = .ok v' w' ∧ OB w' base v' (l ++ List.replicate m 0) ∧ w.grownBy w' v.ownBlock := by
  obtain ⟨i, hi, hz, hsize, hby⟩ := info_parts info_u8
  have hw : IntKind.i64.wrap (m : Int) = m := by rw [IntKind.wrap_i64]; omega
  have h48i : ¬ (281474976710656 < (m : Int) * (i.bytes : Int)) := by rw [hby]; omega
  have hneg : ¬ ((m : Int) < 0) := by omega
  have hzl := zeroCells_u8 m
  rcases hown.2 with ⟨_, e⟩ | ⟨g, cap, cur, rfl, hbg, hg, hnc, hcm, hcs, htk⟩
  · omega
  · have hst := run_storeCells_at Tryd.prog g l.length 5 (bv (List.replicate m 0)) 0 cur w hg
    have hlr : (bv (List.replicate m (0 : UInt8))).length = m := by rw [bv_length, List.length_replicate]
    by_cases hroom : l.length + m ≤ cap
    · have hst := hst (by rw [hlr]; omega) (bv_one _)
      simp only [Nat.add_zero, hlr] at hst
      refine ⟨.slice (some ⟨g, 0, none⟩) (l.length + m) cap, w.setRow g (cur.toList.take l.length ++ bv (List.replicate m 0) ++ cur.toList.drop (l.length + m)).toArray, ?_, ⟨?_, .inr ⟨g, cap, _, by rw [List.length_append, List.length_replicate], hbg, setRow_heap w g cur _ 5 (0, 0) hg, by rw [List.length_append, List.length_replicate]; omega, hcm, ?_, ?_⟩⟩, ?_⟩
      · have hz1 : (Value.int IntKind.u8 0).cells = #[Value.int .u8 0] := rfl
        have hm0 : ¬ m = 0 := by omega
        simp [Builtin.append_, run_underlying Tryd.underlying22, run_underlying Tryd.underlying3, sizeOf, typeInfo, zeroValue, hi, hz, hz1, asInt, asIntOf, hw, hroom, hsize, hm0, hneg, h48i, hzl, Addr.add_lit, hst]
        try omega
      · rw [bv_length]; omega
      · simp [hlr]; omega
      · rw [bv_append, List.length_append, List.length_replicate, Nat.mul_one]
        have h1 : cur.toList.take l.length = bv l := by rw [Nat.mul_one] at htk; exact htk
        rw [h1]
        have h2 : (bv l ++ bv (List.replicate m 0)).length = l.length + m := by rw [List.length_append, hlr, bv_length]
        rw [List.take_append_of_le_length (by rw [h2]; exact Nat.le_refl _), List.take_of_length_le (by rw [h2]; exact Nat.le_refl _)]
      · exact ⟨rfl, rfl, rfl, by rw [size_setRow]; exact Nat.le_refl _, fun k _ hk => setRow_other _ _ _ _ (fun e2 => hk (by rw [e2]; rfl))⟩
    · have hz1 : (Value.int IntKind.u8 0).cells = #[Value.int .u8 0] := rfl
      have hm0 : ¬ m = 0 := by omega
      have h63' : ¬ (9223372036854775807 < ((l.length : Int) + (m : Int))) := by omega
      have hge := grownCap_ge w (l.length + m) cap 5
      have h48' : ¬ (281474976710656 < Builtin.nextslicecap (l.length + m) cap * i.bytes) := by
        have := growslice_fits (need := l.length + m) (old := cap) (by omega) (show (l.length + m) * i.bytes ≤ 140737488355328 by rw [hby]; omega)
        omega
      have hfo := run_firstCells_some (P := Tryd.prog) w.drew i.size l.length ⟨g, 0, none⟩ l.length cap (bv l) (by rw [bv_length, hsize, Nat.mul_one]) (fun j u hu => by
        have := hown.out.cells (g := g) rfl j u hu
        simpa using this)
      rw [hsize] at hfo
      have hcm2 : grownCap w (l.length + m) cap 5 ≤ maxLen := grownCap_le_maxLen w _ _ _ (by simp only [maxLen]; omega)
      refine ⟨.slice (some ⟨w.heap.size, 0, none⟩) (l.length + m) (grownCap w (l.length + m) cap 5), w.drew.alloc (.cells ((bv l).toArray ++ Builtin.zeroCells #[Value.int .u8 0] m ++ Builtin.zeroCells #[Value.int .u8 0] (grownCap w (l.length + m) cap 5 - (l.length + m))) 5), ?_, ⟨?_, .inr ⟨w.heap.size, _, _, by rw [List.length_append, List.length_replicate], hb, heap_alloc_new w.drew _, by rw [List.length_append, List.length_replicate]; exact hge, ?_, ?_, ?_⟩⟩, ?_⟩
      · simp [Builtin.append_, run_underlying Tryd.underlying22, run_underlying Tryd.underlying3, sizeOf, typeInfo, zeroValue, hi, hz, hz1, asInt, asIntOf, hw, hroom, hm0, hneg, h48i, h63', h48', Question.forced, hfo, hsize, newRow, grownCap]
        try rfl
      · rw [bv_length]; omega
      · exact hcm2
      · simp only [Array.size_append, List.size_toArray, size_zeroCells, bv_length]
        show l.length + m * 1 + _ * 1 = _
        omega
      · simp only [Array.toList_append]
        rw [hzl, ← bv_append]
        have h2 : (bv (l ++ List.replicate m 0)).length = (l ++ List.replicate m (0 : UInt8)).length * 1 := by rw [bv_length, Nat.mul_one]
        rw [← h2]
        exact List.take_left
      · exact ⟨rfl, rfl, rfl, by simp, fun k hk _ => heap_alloc_old w.drew _ hk⟩
/-- .. as an operation of the walk. -/
theorem append_zeros {w : World} {ops : Array Oper} {rest : List Oper} {o : Oper} {a : Act} {Q : Exit → Act → World → Prop} (hgd : o.guard = none) (s x : Operand)
    (ho : o.op = .call { callee := .builtin .append, args := #[s, x], argTypes := #[22, 3] })
    (base : Nat) (v : Value) (l : List UInt8) (hs : a.eval s = v) (hown : OB w base v l) (m : Nat) (hx : a.eval x = .int .i64 m) (hm : 0 < m) (hl0 : 0 < l.length) (hl : l.length + m ≤ 1000000000) (hbase : base ≤ w.heap.size)
    (h : ∀ v' w', OB w' base v' (l ++ List.replicate m 0) → w.grownBy w' v.ownBlock → wpList Tryd.prog ops Q rest (a.put o.dst v') w') : wpList Tryd.prog ops Q (o :: rest) a w := by
  obtain ⟨v', w', hr, h1, h2⟩ := run_append_zeros w base o.type v l m hm hl0 hl hown hbase
  exact Lib.wpList_append_run w hgd s x 22 3 ho v (.int .i64 m) hs hx v' w' hr (h v' w' h1 h2)

/-! ### big, Head -/
theorem wrap_q (m : Nat) (h : m ≤ 18446744073709551615) : IntKind.u64.wrap ((m : Int) / 256) = ((m / 256 : Nat) : Int) := by
  simp [IntKind.wrap, IntKind.bits, IntKind.signed]
  omega
set_option maxHeartbeats 1000000 in
theorem rbig8_any (n L : Nat) (hn : n ≤ 18446744073709551615) (hL : L ≤ 8) (w : World) :
    Calls Tryd.prog 23 #[.int .u64 n, .int .i64 L] w fun e w' => ∃ v, e = .returned v ∧ OB w' w.heap.size v (beN n L) ∧ NB w w' := by
  go_enter Tryd.func23, Tryd.ntmps23
  go_wp2
  go_loopw [0, 5, 6] (fun x v i wr => ∃ k : Nat, k ≤ L ∧ i = .int .i64 k ∧ x = .int .u64 ((n / 2 ^ (8 * k) : Nat) : Int) ∧ OB wr w.heap.size v (beN n k) ∧ NB w wr) (fun _ _ i _ => L - (intOf i).toNat)
  case atStart => exact ⟨0, by omega, rfl, by simp, OB.nil _ _, NB.refl _⟩
  case round =>
    obtain ⟨k, hk, rfl, rfl, hot, hnx⟩ := hrel
    by_cases hk8 : k < L
    · have d2 : decide (k < L) = true := decide_eq_true hk8
      have hpb := put_byte (n / 2 ^ (8 * k))
      have hps := put_shift n k
      have hcons := beN_cons n k
      have hq : n / 2 ^ (8 * k) ≤ 18446744073709551615 := Nat.le_trans (Nat.div_le_self _ _) hn
      generalize hm : n / 2 ^ (8 * k) = m at *
      have hlt2 := beN_length n k
      obtain ⟨At, ct, rfl⟩ := hot.slice
      generalize hT : beN n k = T at *
      have Hpb := Lib.hid hpb
      have Hps := Lib.hid hps
      have Hcons := Lib.hid hcons
      have hTl : T.length ≤ 8 := by omega
      have Hq := Lib.hid hq
      clear hpb hps hcons hm hT hlt2 hq hn
      have hbuilt := ob_built (w := wr) (base := w.heap.size) (UInt8.ofNat m) (c := (m : Int) % 256) Hpb.out hnx.size
      have hrt : RB (wr.alloc (.cells #[.int .u8 ((m : Int) % 256)] 5)) (wr.alloc (.cells #[.int .u8 ((m : Int) % 256)] 5)).heap.size (.slice At T.length ct) T := (hot.alloc _).rb
      go_wp2_with (first | (at_builtin; refine append_bytes rfl _ _ rfl w.heap.size _ _ rfl hbuilt _ _ _ rfl hrt ?c1 ?c2 ?_) | fail)
      case c1 => simp only [List.length_cons, List.length_nil]; omega
      case c2 => simp; exact Nat.le_succ_of_le hnx.size
      intro v' w1 ho1 hg1 _
      have hn1 : NB w w1 := (hnx.alloc _).grown hg1 fun q hq => (hbuilt.out.lt q hq).1
      go_wp2
      refine ⟨⟨k + 1, by omega, by go_num, ?_, ?_, hn1⟩, by simp [intOf]; omega⟩
      · rw [← Hps.out, wrap_q m Hq.out]
      · rw [Hcons.out]; exact ho1
    · have hkL : k = L := by omega
      subst hkL
      have d2 : decide (k < k) = false := by simp
      go_wp2
      go_ret
      exact ⟨_, rfl, hot, hnx⟩

theorem rb_blk {w : World} {g : Nat} (l : List UInt8) (h : Blk w g 5 (bv l).toArray) (hl : l.length ≤ 1000000) : OB w g (.slice (some ⟨g, 0, none⟩) l.length l.length) l :=
  ⟨by rw [bv_length, Nat.mul_one], .inr ⟨g, l.length, _, rfl, Nat.le_refl _, h, Nat.le_refl _, by simp only [maxLen]; omega, by rw [List.size_toArray, bv_length, Nat.mul_one], by rw [Nat.mul_one]; exact List.take_of_length_le (by rw [bv_length]; exact Nat.le_refl _)⟩⟩
set_option maxRecDepth 20000 in
set_option maxHeartbeats 1000000 in
theorem rHead_any (n : Nat) (hn : n ≤ 18446744073709551615) (v : Value) (l : List UInt8) (hl : l.length ≤ 1048000) (w : World) (hv : RB w w.heap.size v l) :
    Calls Tryd.prog 8 #[.int .u64 n, v] w fun e w' => ∃ v, e = .returned v ∧ OB w' w.heap.size v (headB n l) ∧ NB w w' := by
  obtain ⟨A, c, rfl, _⟩ := id hv
  have hhb : headB n l = [73, 77, 80, 82] ++ beN n 8 ++ beN l.length 4 ++ sha256 (beN n 8 ++ l) ++ List.replicate 16 0 := rfl
  have Hhb := Lib.hid hhb
  have Hn := Lib.hid hn
  clear hhb hn
  go_enter Tryd.func8, Tryd.ntmps8
  go_wp2_with fail
  refine (rbig8_any n 8 Hn.out (by omega) _).mono ?_
  rintro e w1 ⟨v1, rfl, ho1, hn1⟩
  have hl1 := beN_length n 8
  generalize hT1 : beN n 8 = T1 at *
  have HT1 := Lib.hid hT1
  have hl1' : T1.length ≤ 8 := by omega
  clear hT1
  have Hl1 := Lib.hid hl1
  clear hl1
  go_wp2_with (first | (at_builtin; refine append_bytes rfl _ _ rfl w.heap.size _ [] rfl (OB.nil _ _) _ _ _ rfl ho1.rb ?c1 ?c2 ?_) | fail)
  case c1 => simp; omega
  case c2 => exact hn1.size
  intro v2 w2 ho2 hg2 _
  have hn2 : NB w w2 := hn1.own (OB.nil w1 w.heap.size).out (Nat.le_refl _) hg2
  have hv2 : RB w2 w2.heap.size (.slice A l.length c) l := RBP.rb (RBP.nb hv hn2)
  clear ho1 hg2
  try simp only [List.nil_append] at ho2
  go_wp2_with (first | (at_builtin; refine append_bytes rfl _ _ rfl w.heap.size _ _ rfl ho2 _ _ _ rfl hv2 ?d1 ?d2 ?_) | fail)
  case d1 => omega
  case d2 => exact hn2.size
  intro v3 w3 ho3 hg3 _
  have hn3 : NB w w3 := hn2.own ho2.out (Nat.le_refl _) hg3
  have htx := ho3.rb
  clear ho2 hg3 hn2 hn1
  have hb3 : OB (w3.alloc (.cells #[.int .u8 73, .int .u8 77, .int .u8 80, .int .u8 82] 5)) w3.heap.size (.slice (some ⟨w3.heap.size, 0, none⟩) 4 4) [73, 77, 80, 82] := rb_blk [73, 77, 80, 82] (Blk.newAt rfl) (by decide)
  have hn4 : NB w3 (w3.alloc (.cells #[.int .u8 73, .int .u8 77, .int .u8 80, .int .u8 82] 5)) := (NB.refl _).alloc _
  go_wp2_with fail
  refine (rbig8_any n 8 Hn.out (by omega) _).mono ?_
  rintro e w5 ⟨v5, rfl, ho5, hn5⟩
  rw [HT1.out] at ho5
  have hb5 : OB w5 w3.heap.size (.slice (some ⟨w3.heap.size, 0, none⟩) 4 4) [73, 77, 80, 82] := own_below hb3 fun k e => hn5.block k (hb3.out.lt k e).2
  have hn35 := hn4.trans hn5
  clear hb3 hn4 hn5
  go_wp2_with (first | (at_builtin; refine append_bytes rfl _ _ rfl w3.heap.size _ _ rfl hb5 _ _ _ rfl ho5.rb ?e1 ?e2 ?_) | fail)
  case e1 => simp; omega
  case e2 => exact hn35.size
  intro v6 w6 ho6 hg6 _
  have hn6 : NB w3 w6 := hn35.own hb5.out (Nat.le_refl _) hg6
  clear hb5 ho5 hg6 hn35
  go_wp2_with fail
  refine (rbig8_any l.length 4 (by omega) (by omega) _).mono ?_
  rintro e w7 ⟨v7, rfl, ho7, hn7⟩
  have hl2 := beN_length l.length 4
  generalize hT2 : beN l.length 4 = T2 at *
  have HT2 := Lib.hid hT2
  have hl2' : T2.length ≤ 4 := by omega
  clear hT2 hl2
  have hb7 : OB w7 w3.heap.size v6 _ := own_below ho6 fun k e => hn7.block k (ho6.out.lt k e).2
  have hn37 := hn6.trans hn7
  clear ho6 hn6 hn7
  go_wp2_with (first | (at_builtin; refine append_bytes rfl _ _ rfl w3.heap.size _ _ rfl hb7 _ _ _ rfl ho7.rb ?f1 ?f2 ?_) | fail)
  case f1 => simp; omega
  case f2 => exact hn37.size
  intro v8 w8 ho8 hg8 _
  have hn8 : NB w3 w8 := hn37.own hb7.out (Nat.le_refl _) hg8
  clear hb7 ho7 hg8 hn37
  go_wp2_with fail
  refine (rhash_any v3 _ (by rw [List.length_append]; omega) w8 (RBP.rb (RBP.nb htx hn8))).mono ?_
  rintro e w9 ⟨v9, rfl, hv9, hn9⟩
  have hl3 := sha256_length (T1 ++ l)
  generalize hT3 : sha256 (T1 ++ l) = T3 at *
  have HT3 := Lib.hid hT3
  have hl3' : T3.length ≤ 32 := by omega
  clear hT3 hl3
  have hb9 : OB w9 w3.heap.size v8 _ := own_below ho8 fun k e => hn9.block k (ho8.out.lt k e).2
  have hn39 := hn8.trans hn9
  clear ho8 hn8 hn9
  go_wp2_with (first | (at_builtin; refine append_bytes rfl _ _ rfl w3.heap.size _ _ rfl hb9 _ _ _ rfl hv9 ?g1 ?g2 ?_) | fail)
  case g1 => simp; omega
  case g2 => exact hn39.size
  intro v10 w10 ho10 hg10 _
  have hn10 : NB w3 w10 := hn39.own hb9.out (Nat.le_refl _) hg10
  clear hb9 hv9 hg10 hn39
  go_wp2_with (first | (at_builtin; refine append_zeros rfl _ _ rfl w3.heap.size _ _ rfl ho10 16 rfl (by decide) ?h0 ?h1 ?h2 ?_) | fail)
  case h0 => simp
  case h1 => simp; omega
  case h2 => exact hn10.size
  intro v11 w11 ho11 hg11
  have hn11 : NB w3 w11 := hn10.own ho10.out (Nat.le_refl _) hg11
  go_wp2
  go_ret
  rw [Hhb.out]
  have ho12 : OB w11 w3.heap.size v11 ([73, 77, 80, 82] ++ T1 ++ T2 ++ T3 ++ List.replicate 16 0) := by simpa using ho11
  exact ⟨_, rfl, own_base ho12.out hn3.size, hn3.trans hn11⟩
end Go.Proofs.YtgpafdagealnbaaDoor
