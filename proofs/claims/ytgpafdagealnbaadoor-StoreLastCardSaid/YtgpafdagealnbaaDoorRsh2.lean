/- Walks over the reference's sha2: Pad. -/
import Derived.Test.YtgpafdagealnbaaDoorRsh1
namespace Go.Proofs.YtgpafdagealnbaaDoor
open Go.RowKit

theorem ob_built {w : World} {base : Nat} (b : UInt8) {c : Int} (hc : c = (b.toNat : Int)) (hb : base ≤ w.heap.size) : OB (w.alloc (.cells #[.int .u8 c] 5)) base (.slice (some ⟨w.heap.size, 0, none⟩) 1 1) [b] := by
  subst hc
  exact ⟨rfl, .inr ⟨w.heap.size, 1, _, rfl, hb, heap_alloc_new w _, Nat.le_refl _, by decide, rfl, rfl⟩⟩
theorem beN_0 (n : Nat) : beN n 0 = [] := rfl

set_option maxRecDepth 20000 in
set_option maxHeartbeats 1000000 in
theorem rpad_any (n : Nat) (hn : n ≤ 1048576) (w : World) :
    Calls Tryd.prog 55 #[.int .i64 n, .int .i64 256] w fun e w' => ∃ v, e = .returned (.tuple #[v, .int .i64 0]) ∧ RB w' w'.heap.size v (padB n) ∧ NB w w' := by
  have hd2 : decide ((n : Int) > 1048576) = false := by simp; omega
  have hpl := padL_pos n
  have hpu := padL_le n
  have hmod : (n + padL n) % 64 = 0 := by unfold padL; omega
  have hleast : ∀ j, j + 9 < padL n → (n + (j + 1) + 8) % 64 ≠ 0 := fun j h => by unfold padL at h; omega
  have Hleast := Lib.hid hleast
  have Hmod := Lib.hid hmod
  clear hleast hmod
  go_enter Tryd.func55, Tryd.ntmps55
  go_wp2
  go_loopw [8] (fun v wr => ∃ (j : Nat) (L : List UInt8), j + 9 ≤ padL n ∧ L = [128] ++ List.replicate j 0 ∧ OB wr w.heap.size v L ∧ NB w wr) (fun v _ => 80 - lenOf v)
  case atStart => exact ⟨0, _, by omega, rfl, ob_built 128 rfl (Nat.le_refl _), (NB.refl w).alloc _⟩
  case round =>
    obtain ⟨j, L, hj, hL, ho, hnb⟩ := hrel
    have hlen : L.length = j + 1 := by rw [hL]; simp
    have HL := Lib.hid hL
    clear hL
    obtain ⟨A, c, rfl⟩ := ho.slice
    by_cases hlt : j + 9 < padL n
    · have hne := Hleast.out j hlt
      have d1 : (((n : Int) + (L.length : Int) + 8) % 64 != 0) = true := by rw [bne_iff_ne]; omega
      have hll : L.length ≤ 100 := by omega
      have Hlen := Lib.hid hlen
      clear hlen hne
      go_wp2_with (first | (at_builtin; refine append_bytes rfl _ _ rfl w.heap.size _ _ rfl (ho.alloc _) (wr.heap.size + 1) _ [0] rfl (rb_int _ rfl rfl) ?c1 ?c2 ?_) | fail)
      case c1 => simp only [List.length_cons, List.length_nil]; omega
      case c2 => simp; exact Nat.le_succ_of_le hnb.size
      intro v' w1 ho1 hg1 _
      obtain ⟨A', c', rfl⟩ := ho1.slice
      have hnb1 : NB w w1 := (hnb.alloc _).grown hg1 fun q hq => (ho.out.lt q hq).1
      go_wp2
      refine ⟨⟨j + 1, _, by omega, ?_, ho1, hnb1⟩, ?_⟩
      · rw [HL.out, List.append_assoc, List.replicate_succ']
      · have := Hlen.out
        simp only [lenOf_slice, List.length_append, List.length_cons, List.length_nil]; omega
    · have hje : j + 9 = padL n := by omega
      have hm := Hmod.out
      have d1 : (((n : Int) + (L.length : Int) + 8) % 64 != 0) = false := by rw [bne_eq_false_iff_eq]; omega
      have hll : L.length ≤ 100 := by omega
      have Hlen := Lib.hid hlen
      have Hje := Lib.hid hje
      clear hlen hm hje
      go_wp2
      obtain ⟨wo, hwo⟩ : ∃ wo : World, wo = wr := ⟨_, rfl⟩
      subst hwo
      go_loopw [9, 10, 11] (fun v x i wx => ∃ k : Nat, k ≤ 8 ∧ i = .int .i64 k ∧ x = .int .u64 ((8 * n / 2 ^ (8 * k) : Nat) : Int) ∧ OB wx w.heap.size v (beN (8 * n) k) ∧ OB wx w.heap.size (.slice A L.length c) L ∧ NB w wx) (fun _ _ i _ => 8 - (intOf i).toNat)
      case atStart => exact ⟨0, by omega, rfl, by simp; omega, OB.nil _ _, ho, hnb⟩
      case round =>
        obtain ⟨k, hk, rfl, rfl, hot, hoo, hnx⟩ := hrel
        by_cases hk8 : k < 8
        · have d2 : decide ((k : Int) < 8) = true := by simp; omega
          have hpb := put_byte (8 * n / 2 ^ (8 * k))
          have hps := put_shift (8 * n) k
          have hcons := beN_cons (8 * n) k
          have hq : 8 * n / 2 ^ (8 * k) ≤ 8388608 := Nat.le_trans (Nat.div_le_self _ _) (by omega)
          generalize hm : 8 * n / 2 ^ (8 * k) = m at *
          have hlt2 := beN_length (8 * n) k
          obtain ⟨At, ct, rfl⟩ := hot.slice
          generalize hT : beN (8 * n) k = T at *
          have Hm := Lib.hid hm
          have Hpb := Lib.hid hpb
          have Hps := Lib.hid hps
          have Hcons := Lib.hid hcons
          have HT := Lib.hid hT
          have hTl : T.length ≤ 8 := by omega
          clear hpb hps hcons hm hT hlt2
          have hbuilt := ob_built (w := wr) (base := w.heap.size) (UInt8.ofNat m) (c := (m : Int) % 256) Hpb.out hnx.size
          have hrt : RB (wr.alloc (.cells #[.int .u8 ((m : Int) % 256)] 5)) (wr.alloc (.cells #[.int .u8 ((m : Int) % 256)] 5)).heap.size (.slice At T.length ct) T := (hot.alloc _).rb
          go_wp2_with (first | (at_builtin; refine append_bytes rfl _ _ rfl w.heap.size _ _ rfl hbuilt _ _ _ rfl hrt ?c1 ?c2 ?_) | fail)
          case c1 => simp only [List.length_cons, List.length_nil]; omega
          case c2 => simp; exact Nat.le_succ_of_le hnx.size
          intro v' w1 ho1 hg1 _
          have hn1 : NB w w1 := (hnx.alloc _).grown hg1 fun q hq => by
            have := (hbuilt.out.lt q hq).1
            exact this
          have hoo1 : OB w1 w.heap.size (.slice A L.length c) L := (hoo.alloc _).kept hg1 (by
            rcases hoo.2 with ⟨e, _⟩ | ⟨g', cap', cur', e, _, hgg, _⟩
            · rw [e]; exact .inl rfl
            · rw [e]
              refine .inr fun e2 => ?_
              have h1 : g' = wr.heap.size := by simpa [Value.ownBlock] using e2
              have := (Array.getElem?_eq_some_iff.1 hgg).1
              omega)
          go_wp2
          refine ⟨⟨k + 1, by omega, by go_num, ?_, ?_, hoo1, hn1⟩, by simp [intOf]; omega⟩
          · rw [← Hps.out]; simp
          · rw [Hcons.out]; exact ho1
        · have hk8' : k = 8 := by omega
          subst hk8'
          have d2 : decide ((8 : Int) < 8) = false := by decide
          have hrt := hot.rb
          have htl := beN_length (8 * n) 8
          generalize hT : beN (8 * n) 8 = T at *
          have HT := Lib.hid hT
          have hTl : T.length ≤ 8 := by omega
          clear hT htl
          obtain ⟨At, ct, rfl⟩ := hot.slice
          go_wp2_with (first | (at_builtin; refine append_bytes rfl _ _ rfl w.heap.size _ _ rfl hoo _ _ _ rfl hrt ?d1 ?d2 ?_) | fail)
          case d1 => omega
          case d2 => exact hnx.size
          intro v' w1 ho1 hg1 _
          have hn1 : NB w w1 := hnx.own hoo.out (Nat.le_refl _) hg1
          have hfin : L ++ T = padB n := by
            rw [HL.out, ← HT.out, padB_is n j (by have := Hje.out; omega)]
          rw [hfin] at ho1
          clear hfin
          go_wp2
          refine bodyPost_ret (results_tmp2 rfl _ _ _) rfl ?_
          exact ⟨_, rfl, ho1.rb, hn1⟩
end Go.Proofs.YtgpafdagealnbaaDoor
