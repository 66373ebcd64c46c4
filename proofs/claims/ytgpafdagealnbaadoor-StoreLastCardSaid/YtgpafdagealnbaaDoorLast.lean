/- StoreLast: behind the last generation nothing is put. -/
import Derived.Test.YtgpafdagealnbaaDoorKno
namespace Go.Proofs.YtgpafdagealnbaaDoor
open Go.RowKit

def maxG : Nat := 18446744073709551615
/-- The disk's bytes: a head at a place, the record behind it. -/
def lastF (at_ : Nat) (x : List UInt8) : Nat → UInt8 := ov (ov (fun _ => 0) at_ (headB maxG x)) (at_ + 64) x
def lastB (at_ : Nat) (x : List UInt8) : List UInt8 := (List.range 256).map (lastF at_ x)
theorem lastB_length (at_ : Nat) (x : List UInt8) : (lastB at_ x).length = 256 := by simp [lastB]
theorem lastB_at (at_ : Nat) (x : List UInt8) (i : Nat) (hi : i < 256) : byteAt (lastB at_ x) i = lastF at_ x i := by
  unfold byteAt lastB
  rw [List.getD_eq_getElem?_getD, List.getElem?_map, List.getElem?_range hi]
  rfl
theorem lastF_head (at_ : Nat) (x : List UInt8) (i : Nat) (hi : i < 64) : lastF at_ x (at_ + i) = headF maxG x i := by
  unfold lastF
  rw [ov_out _ _ _ _ (by omega), ov_in _ _ _ _ (by omega) (by rw [headB_length]; omega), show at_ + i - at_ = i by omega]
  exact headB_F maxG x i hi
theorem lastF_rec (at_ : Nat) (x : List UInt8) (i : Nat) (hi : i < x.length) : lastF at_ x (at_ + 64 + i) = byteAt x i := by
  unfold lastF
  rw [ov_in _ _ _ _ (by omega) (by omega), show at_ + 64 + i - (at_ + 64) = i by omega]
  rfl
theorem lastF_zero (at_ : Nat) (x : List UInt8) (hx : x.length ≤ 64) (i : Nat) (hi : i < at_ ∨ at_ + 128 ≤ i) : lastF at_ x i = 0 := by
  unfold lastF
  rw [ov_out _ _ _ _ (by omega), ov_out _ _ _ _ (by rw [headB_length]; omega)]
theorem last_area (k : Nat) (hk : k ≤ 1) (x : List UInt8) (hx : x.length ≤ 64) : (Dsk.new (lastB (128 * k) x) 4).area 0 2 k = some (maxG, x) := by
  unfold Dsk.area
  refine areaF_head (by decide) (by decide) hx (by omega) (fun i hi => ?_) fun i hi => ?_
  · show byteAt (lastB (128 * k) x) (64 * (0 + k * 2) + i) = _
    rw [lastB_at _ _ _ (by omega), show 64 * (0 + k * 2) + i = 128 * k + i by omega, lastF_head _ _ _ hi]
  · show byteAt (lastB (128 * k) x) (64 * (0 + k * 2 + 1) + i) = _
    rw [lastB_at _ _ _ (by omega), show 64 * (0 + k * 2 + 1) + i = 128 * k + 64 + i by omega, lastF_rec _ _ _ hi]
theorem last_none (k : Nat) (hk : k ≤ 1) (x : List UInt8) (hx : x.length ≤ 64) : (Dsk.new (lastB (128 * k) x) 4).area 0 2 (1 - k) = none := by
  unfold Dsk.area
  refine areaF_zero fun i hi => ?_
  show byteAt (lastB (128 * k) x) (64 * (0 + (1 - k) * 2) + i) = 0
  rw [lastB_at _ _ _ (by omega), lastF_zero _ _ hx _ (by omega)]
theorem last_newest (k : Nat) (hk : k ≤ 1) (x : List UInt8) (hx : x.length ≤ 64) : (Dsk.new (lastB (128 * k) x) 4).newest 0 2 = ((k : Int), maxG, x) := by
  have h1 := last_area k hk x hx
  have h2 := last_none k hk x hx
  unfold Dsk.newest
  rcases Nat.le_one_iff_eq_zero_or_eq_one.1 hk with rfl | rfl
  · rw [h1, h2]; rfl
  · rw [h1, h2]; rfl
theorem last_bytes (at_ : Nat) (x : List UInt8) : (Dsk.new (lastB at_ x) 4).bytes = lastB at_ x := by
  show (List.range 256).map (fun i => byteAt (lastB at_ x) i) = lastB at_ x
  conv => rhs; unfold lastB
  exact List.map_congr_left fun i hi => lastB_at at_ x i (List.mem_range.1 hi)
theorem make256 (w : World) : (Instr.makeSlice 22 (.int .i64 256) (.int .i64 256)).run Tryd.prog w = .ok (.slice (some ⟨w.heap.size, 0, none⟩) 256 256) (w.alloc (.cells (bya 256 fun _ => 0) 5)) := by kernel_rfl

set_option maxRecDepth 100000 in
set_option maxHeartbeats 2000000 in
theorem last_any (v : Value) (x : List UInt8) (second : Bool) (w : World) (hT : Tabs w) (hv : RB w w.heap.size v x) :
    Calls Tryd.prog 3 #[v, .bool second] w fun e w' => e = .returned (.bool true) ∧ NB w w' := by
  obtain ⟨A, c, rfl, _⟩ := id hv
  have hmk := make256
  go_enter Tryd.func3, Tryd.ntmps3
  by_cases hl : 64 < x.length
  · have d1 : decide ((x.length : Int) > 64) = true := by simp; omega
    go_wp2_with fail
    refine (known_any w hT).mono ?_
    rintro e w1 ⟨rfl, hn1⟩
    go_wp2
    go_ret
    exact ⟨rfl, hn1⟩
  · have d1 : decide ((x.length : Int) > 64) = false := by simp; omega
    go_wp2_with fail
    refine (rHead_any maxG (by unfold maxG; omega) _ x (by omega) w hv).mono ?_
    rintro e w1 ⟨vh, rfl, hoh, hn1⟩
    have hrh : RB w1 w1.heap.size vh (headB maxG x) := hoh.rb
    have hv1 : RB w1 w1.heap.size (.slice A x.length c) x := RBP.rb (RBP.nb hv hn1)
    cases second
    · have hbm : Blk (w1.alloc (.cells (bya 256 fun _ => 0) 5)) w1.heap.size 5 (bya 256 fun _ => 0) := Blk.newAt rfl
      have hnm : NB w1 (w1.alloc (.cells (bya 256 fun _ => 0) 5)) := (NB.refl _).alloc _
      have hrh2 := RBP.nb hrh hnm
      have htk : (headB maxG x).take (256) = headB maxG x := List.take_of_length_le (by rw [headB_length]; decide)
      have htk2 : x.take (192) = x := List.take_of_length_le (by omega)
      have hb2 := Blk.setRow hbm (bya 256 (ov (fun _ => 0) 0 ((headB maxG x).take (256))))
      have hn2 : NB w1 ((w1.alloc (.cells (bya 256 fun _ => 0) 5)).setRow w1.heap.size (bya 256 (ov (fun _ => 0) 0 ((headB maxG x).take (256))))) := hnm.setRow (Nat.le_refl _) _
      have hv2 := RBP.nb hv1 hn2
      have Htk := Lib.hid htk
      have Htk2 := Lib.hid htk2
      clear htk htk2
      go_wp2_with (first
        | (refine wpList_copy_bya rfl _ _ 22 22 rfl 5 Tryd.underlying22 size_u8 w1.heap.size 0 (256) (256) 256 rfl 5 (fun _ => 0) hbm _ _ _ rfl hrh2 (by decide) ?_)
        | (refine wpList_copy_bya rfl _ _ 22 22 rfl 5 Tryd.underlying22 size_u8 w1.heap.size (64) (192) (192) 256 rfl 5 _ hb2 _ _ _ rfl hv2 (by decide) ?_)
        | fail)
      rw [Htk.out, Htk2.out]
      rw [Htk.out] at hb2 hn2
      have hb3 := Blk.setRow hb2 (bya 256 (lastF 0 x))
      have hn3 := hn2.setRow (g := w1.heap.size) (Nat.le_refl _) (bya 256 (lastF 0 x))
      have e3 : bya 256 (ov (ov (fun _ => 0) 0 (headB maxG x)) (64) x) = bya 256 (lastF 0 x) := rfl
      rw [e3]
      clear e3 hv2 hb2 hn2
      generalize ((w1.alloc (.cells (bya 256 fun _ => 0) 5)).setRow w1.heap.size (bya 256 (ov (fun _ => 0) 0 (headB maxG x)))).setRow w1.heap.size (bya 256 (lastF 0 x)) = w3 at *
      have hrb : RBP w3 (fun q => q < w3.heap.size) (.slice (some ⟨w1.heap.size, 0, none⟩) 256 256) (lastB 0 x) := by
        have := hb3.rb (fun q => q < w3.heap.size) hb3.lt 0 256 256 (by omega) (by omega) (by omega)
        simp only [Nat.zero_add] at this
        exact this
      go_wp2_with fail
      refine (dnew_any _ (lastB 0 x) 4 (by omega) (by rw [lastB_length]; omega) w3 hrb).mono ?_
      rintro e w4 ⟨hn4, h4⟩
      rw [show newE (lastB 0 x) 4 = 0 by unfold newE; rw [lastB_length]; rfl, if_pos rfl] at h4
      obtain ⟨d, F, rfl, hD4, hF⟩ := h4
      rw [show (4 : Int).toNat = 4 from rfl] at hD4
      have hn04 : NB w w4 := (hn1.trans hn3).trans hn4
      have hT4 := hT.nb hn04
      have hrb4 := hrb.nb hn4
      have hwF : ∀ q, F q → w.heap.size ≤ q := fun q hq => Nat.le_trans (hn1.trans hn3).size (hF q hq)
      have hTF : TF F := ⟨fun e => by have := hwF _ e; have := hT.lt.1; omega, fun e => by have := hwF _ e; have := hT.lt.2; omega⟩
      go_wp2_with fail
      refine (sopen_any hD4 0 2).mono ?_
      rintro e w5 ⟨hn5, h5⟩
      rw [show openE (Dsk.new (lastB 0 x) 4).n 0 2 = 0 from (rfl : openE 4 0 2 = 0), if_pos rfl] at h5
      obtain ⟨s, rfl, hS5, hs⟩ := h5
      rw [show (0 : Int).toNat = 0 from rfl, show (2 : Int).toNat = 2 from rfl] at hS5
      have hD5 := hD4.nb hn5
      have hT5 := hT4.nb hn5
      have hsF : ¬ F s := fun e => by have := hD4.lt e; omega
      have hnw := last_newest 0 (by omega) x (by omega)
      have hbs := last_bytes 0 x
      have hdn : (Dsk.new (lastB 0 x) 4).down = false := rfl
      have hheld : (Dsk.new (lastB 0 x) 4).held.length ≤ 100000 := Nat.zero_le _
      have hsz : (Dsk.new (lastB 0 x) 4).n = 4 := rfl
      rw [show 128 * 0 = 0 from rfl] at hnw
      generalize Dsk.new (lastB 0 x) 4 = D at *
      have Hnw := Lib.hid hnw
      have Hdn := Lib.hid hdn
      have Hsz := Lib.hid hsz
      have Hbs := Lib.hid hbs
      have hrb5 := hrb4.nb hn5
      have hn05 := hn04.trans hn5
      clear hnw hdn hsz hbs hrb hrb4 hD4 hT4 hn4 hn5 hn3 hb3 hn04
      go_wp2_with fail
      refine (sget_ok hS5 hD5 hT5 (by rw [Hsz.out]; omega) Hdn.out (by rw [Hnw.out]; show (0 : Int) ≤ ((0 : Nat) : Int); omega)).mono ?_
      rintro e w6 ⟨va, rfl, hva, hn6⟩
      rw [Hnw.out] at hva
      have hS6 := hS5.nb hn6
      have hD6 := hD5.nb hn6
      have hT6 := hT5.nb hn6
      have hrb6 := hrb5.nb hn6
      have hn06 := hn05.trans hn6
      clear hS5 hD5 hT5 hrb5 hn05 hn6
      go_wp2_with fail
      refine (snew_ok hS6 hD6 hT6 (by rw [Hsz.out]; omega) Hdn.out (by rw [Hnw.out]; show (0 : Int) ≤ ((0 : Nat) : Int); omega)).mono ?_
      rintro e w7 ⟨rfl, hn7⟩
      rw [Hnw.out]
      have hS7 := hS6.nb hn7
      have hD7 := hD6.nb hn7
      have hT7 := hT6.nb hn7
      have hrb7 := hrb6.nb hn7
      have hva7 := hva.nb hn7
      have hn07 := hn06.trans hn7
      have hv7 : RB w7 w7.heap.size (.slice A x.length c) x := RBP.rb (RBP.nb hv hn07)
      clear hS6 hD6 hT6 hrb6 hn06 hn7 hva hv1
      have hmax : ((maxG : Nat) : Int) = 18446744073709551615 := rfl
      rw [hmax]
      clear hmax
      go_wp2_with fail
      refine (same_any hva7 hv7).mono ?_
      rintro e w8 ⟨rfl, rfl⟩
      rw [decide_eq_true rfl]
      go_wp2_with fail
      refine (sput_any hS7 hD7 hT7 hTF (by rw [Hsz.out]; omega) hsF hheld _ [] (by decide) (RBP.nil _ _)).mono ?_
      rintro e w8 ⟨rfl, hg8⟩
      have hput : D.put 0 2 [] = (2, D) := by unfold Dsk.put; rw [Hdn.out, if_neg (by decide), if_pos (.inr (by rw [Hnw.out]; rfl))]
      rw [hput] at hg8 ⊢
      obtain ⟨F8, hD8, hF8, hf8⟩ := hg8
      have hw8 : Below w.heap.size w w8 := Below.trans hn07 (hf8.below hn07.size fun q hq e => by have := hwF q e; omega)
      have hT8 := hT7.go hTF hf8
      have hrb8 : RBP w8 (fun q => q < w7.heap.size ∧ ¬ F q) (.slice (some ⟨w1.heap.size, 0, none⟩) 256 256) (lastB 0 x) := RBP.keep (hrb7.there.mono fun q hq => ⟨hq.2, fun e => by have := hF q e; have := hq.1; omega⟩) fun g o hg => hf8.cell hg.1 hg.2
      clear hput
      go_wp2_with fail
      refine (dbytes_any hD8).mono ?_
      rintro e w9 ⟨vb, rfl, hvb, hn9⟩
      rw [Hbs.out] at hvb
      go_wp2_with fail
      refine (same_any hvb (hrb8.nb hn9)).mono ?_
      rintro e w10 ⟨rfl, rfl⟩
      rw [decide_eq_true rfl]
      have hT9 := hT8.nb hn9
      have hw9 : Below w.heap.size w w9 := hw8.trans (Below.mono hn9 hw8.size)
      go_wp2_with fail
      refine (known_any w9 hT9).mono ?_
      rintro e w10 ⟨rfl, hn10⟩
      go_wp2
      go_ret
      exact ⟨rfl, hw9.trans (Below.mono hn10 hw9.size)⟩
    · have hbm : Blk (w1.alloc (.cells (bya 256 fun _ => 0) 5)) w1.heap.size 5 (bya 256 fun _ => 0) := Blk.newAt rfl
      have hnm : NB w1 (w1.alloc (.cells (bya 256 fun _ => 0) 5)) := (NB.refl _).alloc _
      have hrh2 := RBP.nb hrh hnm
      have htk : (headB maxG x).take (128) = headB maxG x := List.take_of_length_le (by rw [headB_length]; decide)
      have htk2 : x.take (64) = x := List.take_of_length_le (by omega)
      have hb2 := Blk.setRow hbm (bya 256 (ov (fun _ => 0) 128 ((headB maxG x).take (128))))
      have hn2 : NB w1 ((w1.alloc (.cells (bya 256 fun _ => 0) 5)).setRow w1.heap.size (bya 256 (ov (fun _ => 0) 128 ((headB maxG x).take (128))))) := hnm.setRow (Nat.le_refl _) _
      have hv2 := RBP.nb hv1 hn2
      have Htk := Lib.hid htk
      have Htk2 := Lib.hid htk2
      clear htk htk2
      go_wp2_with (first
        | (refine wpList_copy_bya rfl _ _ 22 22 rfl 5 Tryd.underlying22 size_u8 w1.heap.size 128 (128) (128) 256 rfl 5 (fun _ => 0) hbm _ _ _ rfl hrh2 (by decide) ?_)
        | (refine wpList_copy_bya rfl _ _ 22 22 rfl 5 Tryd.underlying22 size_u8 w1.heap.size (192) (64) (64) 256 rfl 5 _ hb2 _ _ _ rfl hv2 (by decide) ?_)
        | fail)
      rw [Htk.out, Htk2.out]
      rw [Htk.out] at hb2 hn2
      have hb3 := Blk.setRow hb2 (bya 256 (lastF 128 x))
      have hn3 := hn2.setRow (g := w1.heap.size) (Nat.le_refl _) (bya 256 (lastF 128 x))
      have e3 : bya 256 (ov (ov (fun _ => 0) 128 (headB maxG x)) (192) x) = bya 256 (lastF 128 x) := rfl
      rw [e3]
      clear e3 hv2 hb2 hn2
      generalize ((w1.alloc (.cells (bya 256 fun _ => 0) 5)).setRow w1.heap.size (bya 256 (ov (fun _ => 0) 128 (headB maxG x)))).setRow w1.heap.size (bya 256 (lastF 128 x)) = w3 at *
      have hrb : RBP w3 (fun q => q < w3.heap.size) (.slice (some ⟨w1.heap.size, 0, none⟩) 256 256) (lastB 128 x) := by
        have := hb3.rb (fun q => q < w3.heap.size) hb3.lt 0 256 256 (by omega) (by omega) (by omega)
        simp only [Nat.zero_add] at this
        exact this
      go_wp2_with fail
      refine (dnew_any _ (lastB 128 x) 4 (by omega) (by rw [lastB_length]; omega) w3 hrb).mono ?_
      rintro e w4 ⟨hn4, h4⟩
      rw [show newE (lastB 128 x) 4 = 0 by unfold newE; rw [lastB_length]; rfl, if_pos rfl] at h4
      obtain ⟨d, F, rfl, hD4, hF⟩ := h4
      rw [show (4 : Int).toNat = 4 from rfl] at hD4
      have hn04 : NB w w4 := (hn1.trans hn3).trans hn4
      have hT4 := hT.nb hn04
      have hrb4 := hrb.nb hn4
      have hwF : ∀ q, F q → w.heap.size ≤ q := fun q hq => Nat.le_trans (hn1.trans hn3).size (hF q hq)
      have hTF : TF F := ⟨fun e => by have := hwF _ e; have := hT.lt.1; omega, fun e => by have := hwF _ e; have := hT.lt.2; omega⟩
      go_wp2_with fail
      refine (sopen_any hD4 0 2).mono ?_
      rintro e w5 ⟨hn5, h5⟩
      rw [show openE (Dsk.new (lastB 128 x) 4).n 0 2 = 0 from (rfl : openE 4 0 2 = 0), if_pos rfl] at h5
      obtain ⟨s, rfl, hS5, hs⟩ := h5
      rw [show (0 : Int).toNat = 0 from rfl, show (2 : Int).toNat = 2 from rfl] at hS5
      have hD5 := hD4.nb hn5
      have hT5 := hT4.nb hn5
      have hsF : ¬ F s := fun e => by have := hD4.lt e; omega
      have hnw := last_newest 1 (by omega) x (by omega)
      have hbs := last_bytes 128 x
      have hdn : (Dsk.new (lastB 128 x) 4).down = false := rfl
      have hheld : (Dsk.new (lastB 128 x) 4).held.length ≤ 100000 := Nat.zero_le _
      have hsz : (Dsk.new (lastB 128 x) 4).n = 4 := rfl
      rw [show 128 * 1 = 128 from rfl] at hnw
      generalize Dsk.new (lastB 128 x) 4 = D at *
      have Hnw := Lib.hid hnw
      have Hdn := Lib.hid hdn
      have Hsz := Lib.hid hsz
      have Hbs := Lib.hid hbs
      have hrb5 := hrb4.nb hn5
      have hn05 := hn04.trans hn5
      clear hnw hdn hsz hbs hrb hrb4 hD4 hT4 hn4 hn5 hn3 hb3 hn04
      go_wp2_with fail
      refine (sget_ok hS5 hD5 hT5 (by rw [Hsz.out]; omega) Hdn.out (by rw [Hnw.out]; show (0 : Int) ≤ ((1 : Nat) : Int); omega)).mono ?_
      rintro e w6 ⟨va, rfl, hva, hn6⟩
      rw [Hnw.out] at hva
      have hS6 := hS5.nb hn6
      have hD6 := hD5.nb hn6
      have hT6 := hT5.nb hn6
      have hrb6 := hrb5.nb hn6
      have hn06 := hn05.trans hn6
      clear hS5 hD5 hT5 hrb5 hn05 hn6
      go_wp2_with fail
      refine (snew_ok hS6 hD6 hT6 (by rw [Hsz.out]; omega) Hdn.out (by rw [Hnw.out]; show (0 : Int) ≤ ((1 : Nat) : Int); omega)).mono ?_
      rintro e w7 ⟨rfl, hn7⟩
      rw [Hnw.out]
      have hS7 := hS6.nb hn7
      have hD7 := hD6.nb hn7
      have hT7 := hT6.nb hn7
      have hrb7 := hrb6.nb hn7
      have hva7 := hva.nb hn7
      have hn07 := hn06.trans hn7
      have hv7 : RB w7 w7.heap.size (.slice A x.length c) x := RBP.rb (RBP.nb hv hn07)
      clear hS6 hD6 hT6 hrb6 hn06 hn7 hva hv1
      have hmax : ((maxG : Nat) : Int) = 18446744073709551615 := rfl
      rw [hmax]
      clear hmax
      go_wp2_with fail
      refine (same_any hva7 hv7).mono ?_
      rintro e w8 ⟨rfl, rfl⟩
      rw [decide_eq_true rfl]
      go_wp2_with fail
      refine (sput_any hS7 hD7 hT7 hTF (by rw [Hsz.out]; omega) hsF hheld _ [] (by decide) (RBP.nil _ _)).mono ?_
      rintro e w8 ⟨rfl, hg8⟩
      have hput : D.put 0 2 [] = (2, D) := by unfold Dsk.put; rw [Hdn.out, if_neg (by decide), if_pos (.inr (by rw [Hnw.out]; rfl))]
      rw [hput] at hg8 ⊢
      obtain ⟨F8, hD8, hF8, hf8⟩ := hg8
      have hw8 : Below w.heap.size w w8 := Below.trans hn07 (hf8.below hn07.size fun q hq e => by have := hwF q e; omega)
      have hT8 := hT7.go hTF hf8
      have hrb8 : RBP w8 (fun q => q < w7.heap.size ∧ ¬ F q) (.slice (some ⟨w1.heap.size, 0, none⟩) 256 256) (lastB 128 x) := RBP.keep (hrb7.there.mono fun q hq => ⟨hq.2, fun e => by have := hF q e; have := hq.1; omega⟩) fun g o hg => hf8.cell hg.1 hg.2
      clear hput
      go_wp2_with fail
      refine (dbytes_any hD8).mono ?_
      rintro e w9 ⟨vb, rfl, hvb, hn9⟩
      rw [Hbs.out] at hvb
      go_wp2_with fail
      refine (same_any hvb (hrb8.nb hn9)).mono ?_
      rintro e w10 ⟨rfl, rfl⟩
      rw [decide_eq_true rfl]
      have hT9 := hT8.nb hn9
      have hw9 : Below w.heap.size w w9 := hw8.trans (Below.mono hn9 hw8.size)
      go_wp2_with fail
      refine (known_any w9 hT9).mono ?_
      rintro e w10 ⟨rfl, hn10⟩
      go_wp2
      go_ret
      exact ⟨rfl, hw9.trans (Below.mono hn10 hw9.size)⟩
end Go.Proofs.YtgpafdagealnbaaDoor
