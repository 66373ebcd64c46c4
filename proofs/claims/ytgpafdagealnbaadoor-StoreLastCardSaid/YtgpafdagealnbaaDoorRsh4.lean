/- Walks over the reference's sha2: round. -/
import Derived.Test.YtgpafdagealnbaaDoorRsh3
namespace Go.Proofs.YtgpafdagealnbaaDoor
open Go.RowKit

/-- Eight words as cells of 64 digits. -/
def v8u (v : R8) : Array Value := #[u64v v.a, u64v v.b, u64v v.c, u64v v.d, u64v v.e, u64v v.f, u64v v.g, u64v v.h]
theorem v8u_at (v : R8) (i : Nat) (h : i < 8) : (v8u v)[i]? = some (u64v (v.at i)) := by
  match i, h with
  | 0, _ => rfl
  | 1, _ => rfl
  | 2, _ => rfl
  | 3, _ => rfl
  | 4, _ => rfl
  | 5, _ => rfl
  | 6, _ => rfl
  | 7, _ => rfl
def notN (e : UInt32) : Nat := 18446744073709551615 - e.toNat
theorem not64 (e : UInt32) : bits .xor .u64 (if IntKind.u64.signed = true then -1 else IntKind.u64.max) (e.toNat : Int) = ((notN e : Nat) : Int) := by
  have hx := lt32 e
  have h : (if IntKind.u64.signed = true then (-1 : Int) else IntKind.u64.max) = ((18446744073709551615 : Nat) : Int) := by decide
  rw [h, u64_xor_nat _ _ (by decide) (by omega)]
  have h1 : (~~~(UInt64.ofNat e.toNat)).toNat = 18446744073709551615 ^^^ (UInt64.ofNat e.toNat).toNat := rfl
  have h2 := UInt64.toNat_not (UInt64.ofNat e.toNat)
  rw [UInt64.toNat_ofNat', Nat.mod_eq_of_lt (by omega)] at h1 h2
  rw [← h1, h2]
  rfl
theorem not64' (e : UInt32) : bits .xor .u64 IntKind.u64.max (e.toNat : Int) = ((notN e : Nat) : Int) := not64 e
theorem wrapKc (k : Nat) : IntKind.u64.wrap ((Kc k : Int) / 4294967296) = ((K32 k).toNat : Int) := by
  rw [K32_toNat]
  have := Kc_lt k
  simp [IntKind.wrap, IntKind.bits, IntKind.signed]
  omega
theorem notN_mod (e : UInt32) : notN e % 4294967296 = (~~~e).toNat := by
  have hx := lt32 e
  rw [UInt32.toNat_not]
  show (18446744073709551615 - e.toNat) % 4294967296 = 4294967296 - 1 - e.toNat
  omega

set_option maxRecDepth 20000 in
set_option maxHeartbeats 2000000 in
theorem rround_any (r : R8) (k : Nat) (x : UInt32) (g o c : Nat) (w : World) (h0 : w.cell? ⟨g, o, none⟩ = some (u64v r.a)) (h1 : w.cell? ⟨g, o + 1, none⟩ = some (u64v r.b)) (h2 : w.cell? ⟨g, o + 2, none⟩ = some (u64v r.c)) (h3 : w.cell? ⟨g, o + 3, none⟩ = some (u64v r.d))
    (h4 : w.cell? ⟨g, o + 4, none⟩ = some (u64v r.e)) (h5 : w.cell? ⟨g, o + 5, none⟩ = some (u64v r.f)) (h6 : w.cell? ⟨g, o + 6, none⟩ = some (u64v r.g)) (h7 : w.cell? ⟨g, o + 7, none⟩ = some (u64v r.h)) :
    Calls Tryd.prog 59 #[.agg wwA, .slice (some ⟨g, o, none⟩) 8 c, .int .u64 (Kc k : Int), u64v x] w fun e w' => ∃ q, e = .returned (.slice (some ⟨q, 0, none⟩) 8 8) ∧ w.heap.size ≤ q ∧ Blk w' q 25 (v8u (rnd r (K32 k) x)) ∧ NB w w' := by
  unfold wwA
  go_enter Tryd.func59, Tryd.ntmps59
  go_wp2
  have hB0 : Blk (w.alloc (.cells wwA 94)) w.heap.size 94 wwA := Blk.newAt rfl
  have hn0 : NB w (w.alloc (.cells wwA 94)) := (NB.refl w).alloc _
  refine wp_region_quiet_ext (by kernel_rfl) (by kernel_rfl) ?_
  repeat (go_big_quiet_step (fail))
  refine wpQuiet_nil ?_
  intro y
  have hBy := hB0.ext y
  have hny := hn0.ext y
  have hk3 : ∀ W, NB w W → W.cell? ⟨g, o + 3, none⟩ = some (u64v r.d) := fun W h => (h.cell_ (isSome_cell_lt (a := ⟨g, o + 3, none⟩) (by rw [h3]; rfl))).trans h3
  have hk7 : ∀ W, NB w W → W.cell? ⟨g, o + 7, none⟩ = some (u64v r.h) := fun W h => (h.cell_ (isSome_cell_lt (a := ⟨g, o + 7, none⟩) (by rw [h7]; rfl))).trans h7
  have Hk3 := Lib.hid hk3
  have Hk7 := Lib.hid hk7
  have hkc := Kc_lt k
  have hKc : (Kc k : Int) / 4294967296 = ((K32 k).toNat : Int) := by rw [K32_toNat]; simp
  have HKc := Lib.hid hKc
  clear h0 h1 h2 h3 h4 h5 h6 h7 hk3 hk7 hB0 hn0 hkc hKc
  generalize y.val = w1 at *
  have hBy' := hBy
  unfold wwA at hBy'
  have e0 := hBy'.cell 0
  have e1 := hBy'.cell 1
  go_wp2_with fail
  refine (rbig_any r.e 6 11 25 (by decide) (by decide) (by decide) _).mono ?_
  rintro e w2 ⟨rfl, hn2⟩
  have hB2 : Blk w2 w.heap.size 94 wwA := (hn2.block _ hBy.lt).trans hBy
  have hB2' := hB2
  unfold wwA at hB2'
  clear e0 e1
  have e0 := hB2'.cell 0
  have e1 := hB2'.cell 1
  go_wp2_with fail
  refine (rbig_any r.a 2 13 22 (by decide) (by decide) (by decide) _).mono ?_
  rintro e w3 ⟨rfl, hn3⟩
  have hB3 : Blk w3 w.heap.size 94 wwA := (hn3.block _ hB2.lt).trans hB2
  have hB3' := hB3
  unfold wwA at hB3'
  clear e0 e1
  have e0 := hB3'.cell 0
  have e1 := hB3'.cell 1
  go_wp2_with fail
  rw [not64', wrapKc]
  refine (rcut_any (notN r.e) _).mono ?_
  rintro e w4 ⟨rfl, hn4⟩
  rw [notN_mod]
  have hB4 : Blk w4 w.heap.size 94 wwA := (hn4.block _ hB3.lt).trans hB3
  have hn5 : NB w w4 := ((hny.trans hn2).trans hn3).trans hn4
  have hB4' := hB4
  unfold wwA at hB4'
  clear e0 e1 hB3 hB3' hB2 hB2' hBy hBy'
  have e0 := hB4'.cell 0
  have e1 := hB4'.cell 1
  have k3 := Hk3.out w4 hn5
  have k7 := Hk7.out w4 hn5
  clear hny hn2 hn3 hn4
  obtain ⟨NE, hNE⟩ : ∃ A, A = ~~~r.e := ⟨_, rfl⟩
  rw [← hNE]
  obtain ⟨A1, hA1⟩ : ∃ A, A = r.e &&& r.f := ⟨_, rfl⟩
  obtain ⟨A2, hA2⟩ : ∃ A, A = NE &&& r.g := ⟨_, rfl⟩
  obtain ⟨A3, hA3⟩ : ∃ A, A = A1 ||| A2 := ⟨_, rfl⟩
  obtain ⟨M1, hM1⟩ : ∃ A, A = r.a &&& r.b := ⟨_, rfl⟩
  obtain ⟨M2, hM2⟩ : ∃ A, A = r.a &&& r.c := ⟨_, rfl⟩
  obtain ⟨M3, hM3⟩ : ∃ A, A = M1 ||| M2 := ⟨_, rfl⟩
  obtain ⟨M4, hM4⟩ : ∃ A, A = r.b &&& r.c := ⟨_, rfl⟩
  obtain ⟨M5, hM5⟩ : ∃ A, A = M3 ||| M4 := ⟨_, rfl⟩
  have hch : A3 = (r.e &&& r.f) ^^^ (~~~r.e &&& r.g) := by rw [hA3, hA1, hA2, hNE, choice_or]
  have hmo : M5 = (r.a &&& r.b) ^^^ (r.a &&& r.c) ^^^ (r.b &&& r.c) := by rw [hM5, hM3, hM1, hM2, hM4, most_or]
  have a1 : bits .and .u64 (r.e.toNat : Int) (r.f.toNat : Int) = (A1.toNat : Int) := by rw [hA1]; exact and64 _ _
  have a2 : bits .and .u64 (NE.toNat : Int) (r.g.toNat : Int) = (A2.toNat : Int) := by rw [hA2]; exact and64 _ _
  have a3 : bits .or .u64 (A1.toNat : Int) (A2.toNat : Int) = (A3.toNat : Int) := by rw [hA3]; exact or64 _ _
  have b1 : bits .and .u64 (r.a.toNat : Int) (r.b.toNat : Int) = (M1.toNat : Int) := by rw [hM1]; exact and64 _ _
  have b2 : bits .and .u64 (r.a.toNat : Int) (r.c.toNat : Int) = (M2.toNat : Int) := by rw [hM2]; exact and64 _ _
  have b3 : bits .or .u64 (M1.toNat : Int) (M2.toNat : Int) = (M3.toNat : Int) := by rw [hM3]; exact or64 _ _
  have b4 : bits .and .u64 (r.b.toNat : Int) (r.c.toNat : Int) = (M4.toNat : Int) := by rw [hM4]; exact and64 _ _
  have b5 : bits .or .u64 (M3.toNat : Int) (M4.toNat : Int) = (M5.toNat : Int) := by rw [hM5]; exact or64 _ _
  have Hch := Lib.hid hch
  have Hmo := Lib.hid hmo
  clear hch hmo hNE hA1 hA2 hA3 hM1 hM2 hM3 hM4 hM5
  obtain ⟨S1, hS1⟩ : ∃ A, A = bg r.e 6 11 25 := ⟨_, rfl⟩
  obtain ⟨S0, hS0⟩ : ∃ A, A = bg r.a 2 13 22 := ⟨_, rfl⟩
  obtain ⟨KK, hKK⟩ : ∃ A, A = K32 k := ⟨_, rfl⟩
  rw [← hS1, ← hS0, ← hKK]
  have hT1 : T1 r (K32 k) x = r.h + S1 + A3 + KK + x := by unfold T1; rw [hS1, Hch.out, hKK]
  have hT2 : T2 r = S0 + M5 := by unfold T2; rw [hS0, Hmo.out]
  have HT1 := Lib.hid hT1
  have HT2 := Lib.hid hT2
  clear hT1 hT2 hS1 hS0 hKK
  have lh := lt32 r.h
  have l1 := lt32 S1
  have l2 := lt32 A3
  have lk := lt32 KK
  have lx := lt32 x
  have l4 := lt32 M5
  have l5 := lt32 S0
  have l6 := lt32 r.d
  go_wp2
  have w1 : IntKind.u64.wrap ((r.h.toNat : Int) + (S1.toNat : Int) + (A3.toNat : Int) + (KK.toNat : Int) + (x.toNat : Int) + (S0.toNat : Int)) = (r.h.toNat : Int) + (S1.toNat : Int) + (A3.toNat : Int) + (KK.toNat : Int) + (x.toNat : Int) + (S0.toNat : Int) := by unfold IntKind.wrap; simp [IntKind.bits, IntKind.signed]; omega
  have w2 : IntKind.u64.wrap ((r.h.toNat : Int) + (S1.toNat : Int) + (A3.toNat : Int) + (KK.toNat : Int) + (x.toNat : Int) + (S0.toNat : Int) + (M5.toNat : Int)) = ((r.h.toNat + S1.toNat + A3.toNat + KK.toNat + x.toNat + S0.toNat + M5.toNat : Nat) : Int) := by unfold IntKind.wrap; simp [IntKind.bits, IntKind.signed]; omega
  have w3 : IntKind.u64.wrap ((r.d.toNat : Int) + ((r.h.toNat : Int) + (S1.toNat : Int) + (A3.toNat : Int) + (KK.toNat : Int) + (x.toNat : Int))) = ((r.d.toNat + (r.h.toNat + S1.toNat + A3.toNat + KK.toNat + x.toNat) : Nat) : Int) := by unfold IntKind.wrap; simp [IntKind.bits, IntKind.signed]; omega
  have v1 : (((r.h.toNat + S1.toNat + A3.toNat + KK.toNat + x.toNat + S0.toNat + M5.toNat) % 4294967296 : Nat) : Int) = ((T1 r (K32 k) x + T2 r).toNat : Int) := by
    rw [HT1.out, HT2.out]
    simp only [UInt32.toNat_add]
    omega
  have v2 : (((r.d.toNat + (r.h.toNat + S1.toNat + A3.toNat + KK.toNat + x.toNat)) % 4294967296 : Nat) : Int) = ((r.d + T1 r (K32 k) x).toNat : Int) := by
    rw [HT1.out]
    simp only [UInt32.toNat_add]
    omega
  have V1 := Lib.hid v1
  have V2 := Lib.hid v2
  clear v1 v2
  generalize (r.h.toNat + S1.toNat + A3.toNat + KK.toNat + x.toNat + S0.toNat + M5.toNat) = N1 at *
  generalize (r.d.toNat + (r.h.toNat + S1.toNat + A3.toNat + KK.toNat + x.toNat)) = N2 at *
  refine wp_region_tail_ext 20 (by kernel_rfl) (by kernel_rfl) ?_
  simp only [List.take_succ_cons, List.take_zero, List.drop_succ_cons, List.drop_zero]
  have hr1 : ∀ (N : Nat) (z : Ext w4), Calls Tryd.prog 60 #[.agg #[.int .u64 4294967296, .int .u64 32], .int .u64 N] z.val fun e w'' => e = .returned (.int .u64 ((N % 4294967296 : Nat) : Int)) ∧ ∃ q : Ext w4, w'' = q.val := fun N z => Calls.quiet_ext (rcut_any N _)
  have hr2 : ∀ (z : Ext w4), Calls Tryd.prog 60 #[.agg #[.int .u64 4294967296, .int .u64 32], .int .u64 N1] z.val fun e w'' => e = .returned (u64v (T1 r (K32 k) x + T2 r)) ∧ ∃ q : Ext w4, w'' = q.val := fun z => (hr1 N1 z).mono fun _ _ ⟨h1, h2⟩ => ⟨by rw [h1]; exact ret_int V1.out, h2⟩
  have hr3 : ∀ (z : Ext w4), Calls Tryd.prog 60 #[.agg #[.int .u64 4294967296, .int .u64 32], .int .u64 N2] z.val fun e w'' => e = .returned (u64v (r.d + T1 r (K32 k) x)) ∧ ∃ q : Ext w4, w'' = q.val := fun z => (hr1 N2 z).mono fun _ _ ⟨h1, h2⟩ => ⟨by rw [h1]; exact ret_int V2.out, h2⟩
  clear hr1
  repeat (go_big_quiet_step ((first | with_reducible exact hr2 _ | with_reducible exact hr3 _)))
  refine wpQuiet_nil ?_
  intro z
  have hnz := hn5.ext z
  have hr : v8u (rnd r (K32 k) x) = #[u64v (T1 r (K32 k) x + T2 r), u64v r.a, u64v r.b, u64v r.c, u64v (r.d + T1 r (K32 k) x), u64v r.e, u64v r.f, u64v r.g] := rfl
  have Hr := Lib.hid hr
  clear hr2 hr3 w1 w2 w3 V1 V2 hr
  generalize T1 r (K32 k) x + T2 r = X0 at *
  generalize r.d + T1 r (K32 k) x = X4 at *
  generalize z.val = w5 at *
  clear a1 a2 a3 b1 b2 b3 b4 b5 k3 k7 e0 e1
  go_wp2
  go_ret
  rw [Hr.out]
  exact ⟨w5.heap.size, rfl, hnz.size, Blk.newAt rfl, hnz.alloc _⟩
end Go.Proofs.YtgpafdagealnbaaDoor
