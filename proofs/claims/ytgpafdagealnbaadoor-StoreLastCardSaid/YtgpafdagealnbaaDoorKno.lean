/- The laws' known calls on a new disk: they come to what they must. -/
import Derived.Test.YtgpafdagealnbaaDoorPln3
import Derived.Test.YtgpafdagealnbaaDoorSml
import Derived.Test.YtgpafdagealnbaaDoorZer
namespace Go.Proofs.YtgpafdagealnbaaDoor
open Go.RowKit

section
variable {F : Nat → Prop} {w : World} {s d from_ n : Nat} {D : Dsk}
theorem sget_empty (h : SBlk w s d from_ n) (hD : DRep F w d D) (hT : Tabs w) (hfit : from_ + 2 * n ≤ D.n) (hd : D.down = false) (hn : (D.newest from_ n).1 < 0) :
    Calls Tryd.prog 11 #[sptr s] w fun e w' => e = .returned (.tuple #[.slice none 0 0, .int .i64 70]) ∧ NB w w' :=
  (sget_any h hD hT hfit).mono fun _ _ ⟨h1, _, h2⟩ => ⟨(h2 hd).1 hn, h1⟩
theorem sget_ok (h : SBlk w s d from_ n) (hD : DRep F w d D) (hT : Tabs w) (hfit : from_ + 2 * n ≤ D.n) (hd : D.down = false) (hn : 0 ≤ (D.newest from_ n).1) :
    Calls Tryd.prog 11 #[sptr s] w fun e w' => ∃ v, e = .returned (.tuple #[v, .int .i64 0]) ∧ RBP w' (fun q => w.heap.size ≤ q ∧ q < w'.heap.size) v (D.newest from_ n).2.2 ∧ NB w w' :=
  (sget_any h hD hT hfit).mono fun _ _ ⟨h1, _, h2⟩ => let ⟨v, h3, h4⟩ := (h2 hd).2 hn; ⟨v, h3, h4, h1⟩
theorem snew_empty (h : SBlk w s d from_ n) (hD : DRep F w d D) (hT : Tabs w) (hfit : from_ + 2 * n ≤ D.n) (hd : D.down = false) (hn : (D.newest from_ n).1 < 0) :
    Calls Tryd.prog 12 #[sptr s] w fun e w' => e = .returned (.tuple #[.int .i64 0, .int .u64 0, .int .i64 70]) ∧ NB w w' :=
  (snewestE_any h hD hT hfit).mono fun _ _ ⟨h1, _, h2⟩ => ⟨(h2 hd).1 hn, h1⟩
theorem snew_ok (h : SBlk w s d from_ n) (hD : DRep F w d D) (hT : Tabs w) (hfit : from_ + 2 * n ≤ D.n) (hd : D.down = false) (hn : 0 ≤ (D.newest from_ n).1) :
    Calls Tryd.prog 12 #[sptr s] w fun e w' => e = .returned (.tuple #[.int .i64 (D.newest from_ n).1, .int .u64 (D.newest from_ n).2.1, .int .i64 0]) ∧ NB w w' :=
  (snewestE_any h hD hT hfit).mono fun _ _ ⟨h1, _, h2⟩ => ⟨(h2 hd).2 hn, h1⟩

/-- A disk behind a put that was done. -/
structure PutDone (D D' : Dsk) (from_ n : Nat) (b : List UInt8) : Prop where
  sz : D'.n = D.n
  down : D'.down = false
  held : D'.held = []
  set : D'.set = D.set
  far : ∀ i, ¬ (64 * from_ ≤ i ∧ i < 64 * (from_ + 2 * n)) → D'.f i = D.cur i
  new : D'.newest from_ n = D.putNew from_ n b
theorem sput_ok (h : SBlk w s d from_ n) (hD : DRep F w d D) (hT : Tabs w) (hTF : TF F) (hfit : from_ + 2 * n ≤ D.n) (hs : ¬ F s) (hfew : D.held.length ≤ 100000) (v : Value) (b : List UInt8) (hb : b.length ≤ 1000000000) (hv : RBP w (fun g => g < w.heap.size ∧ ¬ F g) v b)
    (hd : D.down = false) (hset : D.set = false) (hl : ¬ tooLong D from_ n b) :
    Calls Tryd.prog 14 #[sptr s, v] w fun e w' => e = .returned (.int .i64 0) ∧ ∃ D', DGo F w d D' w' ∧ PutDone D D' from_ n b := by
  refine (sput_any h hD hT hTF hfit hs hfew v b hb hv).mono ?_
  rintro e w' ⟨rfl, hg⟩
  obtain ⟨p1, p2⟩ := put_res D from_ n b hd (fun x hx => (hD.wf.held x hx).2) h.2.1 hfit (by have := h.2; omega)
  rcases p2 with ⟨_, _, q⟩ | ⟨q1, _, q2, q3, q4, q5, q6, q7⟩ | ⟨_, _, _, _, q, _⟩
  · exact absurd q hl
  · rw [q1]
    exact ⟨rfl, _, hg, p1, q2, q3, q4, q6, q7⟩
  · rw [hset] at q; cases q
end

theorem newest_new (n : Nat) (from_ m : Nat) : (Dsk.new [] n).newest from_ m = (-1, 0, []) := by
  have h : ∀ k, (Dsk.new [] n).area from_ m k = none := fun k => areaF_zero fun i _ => rfl
  unfold Dsk.newest
  rw [h, h]
  rfl

set_option maxRecDepth 20000 in
set_option maxHeartbeats 2000000 in
theorem known_any (w : World) (hT : Tabs w) : Calls Tryd.prog 7 #[] w fun e w' => e = .returned (.bool true) ∧ NB w w' := by
  go_enter Tryd.func7, Tryd.ntmps7
  go_wp2_with fail
  refine (dnew_any (.slice none 0 0) [] 4 (by omega) (by simp) w (RB.nil _ _)).mono ?_
  rintro e w1 ⟨hn1, h1⟩
  rw [show newE [] 4 = 0 from rfl, if_pos rfl] at h1
  obtain ⟨d, F, rfl, hD1, hF⟩ := h1
  rw [show (4 : Int).toNat = 4 from rfl] at hD1
  have hT1 := hT.nb hn1
  have hTF : TF F := ⟨fun e => by have := hF _ e; have := hT.lt.1; omega, fun e => by have := hF _ e; have := hT.lt.2; omega⟩
  go_wp2_with fail
  refine (sopen_any hD1 0 2).mono ?_
  rintro e w2 ⟨hn2, h2⟩
  rw [show openE (Dsk.new [] 4).n 0 2 = 0 from rfl, if_pos rfl] at h2
  obtain ⟨s, rfl, hS2, hs⟩ := h2
  rw [show (0 : Int).toNat = 0 from rfl, show (2 : Int).toNat = 2 from rfl] at hS2
  have hD2 := hD1.nb hn2
  have hT2 := hT1.nb hn2
  have hsF : ¬ F s := fun e => by have := hD1.lt e; omega
  have hnw := newest_new 4 0 2
  have hdn : (Dsk.new [] 4).down = false := rfl
  have hset : (Dsk.new [] 4).set = false := rfl
  have hheld : (Dsk.new [] 4).held.length ≤ 100000 := Nat.zero_le _
  have hsz : (Dsk.new [] 4).n = 4 := rfl
  generalize Dsk.new [] 4 = D at *
  have Hnw := Lib.hid hnw
  have Hdn := Lib.hid hdn
  have Hset := Lib.hid hset
  have Hsz := Lib.hid hsz
  clear hnw hdn hset hsz
  go_wp2_with fail
  refine (sget_empty hS2 hD2 hT2 (by rw [Hsz.out]; omega) Hdn.out (by rw [Hnw.out]; decide)).mono ?_
  rintro e w3 ⟨rfl, hn3⟩
  have hS3 := hS2.nb hn3
  have hD3 := hD2.nb hn3
  have hT3 := hT2.nb hn3
  have hn03 := (hn1.trans hn2).trans hn3
  clear hS2 hD2 hT2 hD1 hT1 hn1 hn2 hn3
  go_wp2_with fail
  have hb3 : OB (w3.alloc (.cells #[.int .u8 1, .int .u8 2, .int .u8 3] 5)) w3.heap.size (.slice (some ⟨w3.heap.size, 0, none⟩) 3 3) [1, 2, 3] := rb_blk [1, 2, 3] (Blk.newAt rfl) (by decide)
  have hn4 : NB w3 (w3.alloc (.cells #[.int .u8 1, .int .u8 2, .int .u8 3] 5)) := (NB.refl _).alloc _
  have hr4 : RBP (w3.alloc (.cells #[.int .u8 1, .int .u8 2, .int .u8 3] 5)) (fun g => g < (w3.alloc (.cells #[.int .u8 1, .int .u8 2, .int .u8 3] 5)).heap.size ∧ ¬ F g) (.slice (some ⟨w3.heap.size, 0, none⟩) 3 3) [1, 2, 3] :=
    (own_fresh hb3).mono fun g hg => ⟨hg.2, fun e => by have := hD3.lt e; omega⟩
  have hS4 := hS3.nb hn4
  have hD4 := hD3.nb hn4
  have hT4 := hT3.nb hn4
  have hf4 : Below w.heap.size w (w3.alloc (.cells #[.int .u8 1, .int .u8 2, .int .u8 3] 5)) := hn03.trans hn4
  clear hb3 hn4 hS3 hD3 hT3 hn03
  generalize w3.alloc (.cells #[.int .u8 1, .int .u8 2, .int .u8 3] 5) = w4 at *
  refine (sput_ok hS4 hD4 hT4 hTF (by rw [Hsz.out]; omega) hsF hheld _ [1, 2, 3] (by decide) hr4 Hdn.out Hset.out (by unfold tooLong; rw [Hnw.out]; decide)).mono ?_
  rintro e w5 ⟨rfl, D1, ⟨F1, hD5, hF1, hf5⟩, p1⟩
  have hnew1 : D1.newest 0 2 = (0, 1, [1, 2, 3]) := by rw [p1.new]; unfold Dsk.putNew; rw [Hnw.out]; rfl
  have hS5 := hS4.fr hsF hf5
  have hT5 := hT4.go hTF hf5
  have hTF1 := hTF.go hT4 hF1
  have hsF1 := not_go hsF hS4.1.lt hF1
  have hw5 : Below w.heap.size w w5 := hf4.trans (hf5.below hf4.size fun k hk e => by have := hF k e; omega)
  have hF1w : ∀ k, F1 k → w.heap.size ≤ k := fun k hk => (hF1 k hk).elim (hF k) fun e => Nat.le_trans hf4.size e
  have hsz1 : D1.n = 4 := p1.sz.trans Hsz.out
  have Hnew1 := Lib.hid hnew1
  have Hsz1 := Lib.hid hsz1
  clear hnew1 hS4 hD4 hT4 hr4 hf5 hf4 hsz1
  go_wp2_with fail
  refine (snew_ok hS5 hD5 hT5 (by rw [Hsz1.out]; omega) p1.down (by rw [Hnew1.out]; exact Int.le_refl 0)).mono ?_
  rintro e w6 ⟨rfl, hn6⟩
  rw [Hnew1.out]
  have hS6 := hS5.nb hn6
  have hD6 := hD5.nb hn6
  have hT6 := hT5.nb hn6
  have hw6 : Below w.heap.size w w6 := hw5.trans (Below.mono hn6 hw5.size)
  clear hS5 hD5 hT5 hw5 hn6
  go_wp2_with fail
  refine (sput_ok hS6 hD6 hT6 hTF1 (by rw [Hsz1.out]; omega) hsF1 (by rw [p1.held]; exact Nat.zero_le _) _ [] (by decide) (RBP.nil _ _) p1.down (p1.set.trans Hset.out) (by unfold tooLong; rw [Hnew1.out]; decide)).mono ?_
  rintro e w7 ⟨rfl, D2, ⟨F2, hD7, hF2, hf7⟩, p2⟩
  have hnew2 : D2.newest 0 2 = (1, 2, []) := by rw [p2.new]; unfold Dsk.putNew; rw [Hnew1.out]; rfl
  have hS7 := hS6.fr hsF1 hf7
  have hT7 := hT6.go hTF1 hf7
  have hw7 : Below w.heap.size w w7 := hw6.trans (hf7.below hw6.size fun k hk e => by have := hF1w k e; omega)
  have hsz2 : D2.n = 4 := p2.sz.trans Hsz1.out
  have Hnew2 := Lib.hid hnew2
  have Hsz2 := Lib.hid hsz2
  clear hnew2 hS6 hD6 hT6 hf7 hw6 hsz2
  go_wp2_with fail
  refine (snew_ok hS7 hD7 hT7 (by rw [Hsz2.out]; omega) p2.down (by rw [Hnew2.out]; decide)).mono ?_
  rintro e w8 ⟨rfl, hn8⟩
  rw [Hnew2.out]
  have hS8 := hS7.nb hn8
  have hw8 : Below w.heap.size w w8 := hw7.trans (Below.mono hn8 hw7.size)
  clear hS7 hD7 hT7 hw7 hn8
  go_wp2_with fail
  refine (sroom_any hS8).mono ?_
  rintro e w9 ⟨rfl, rfl⟩
  go_wp2
  go_ret
  exact ⟨rfl, hw8⟩
end Go.Proofs.YtgpafdagealnbaaDoor
