/- Walks over sha2's New and take. -/
import Derived.Test.YtgpafdagealnbaaDoorSha6
namespace Go.Proofs.YtgpafdagealnbaaDoor
open Go.RowKit

set_option maxRecDepth 100000 in
set_option maxHeartbeats 1000000 in
theorem new256 (w : World) (hT : Tabs w) :
    Calls Tryd.prog 66 #[.int .i64 256] w fun e w' => ∃ g, e = .returned (.tuple #[.pointer (some ⟨g, 0, none⟩), .int .i64 0]) ∧ w.heap.size ≤ g ∧ Blk w' g 127 (hashA 0 (.slice none 0 0) R8.init) ∧ NB w w' := by
  have hz := zero_shape
  have t1 : 1 < w.heap.size := World.block_lt_of_cell? w _ (hT.k 0 (by omega))
  have t2 : 0 < w.heap.size := World.block_lt_of_cell? w _ (hT.h 0 (by omega))
  go_enter Tryd.func66, Tryd.ntmps66
  go_wp2_with fail
  refine (of256 _).mono ?_
  rintro e w1 ⟨rfl, hn1⟩
  have hs1 := hn1.size
  go_wp2_with (first | (refine wpList_var_blk rfl rfl 120 4 rfl rfl _ rfl narrowA zero15 rfl rfl zero_shape 15 rfl rfl size_shape narrow_one ?_) | (refine wpList_load_blk rfl 120 _ rfl w1.heap.size rfl 120 narrowA _ (Blk.newAt rfl) Tryd.underlying120 rfl 15 rfl size_shape ?_) | fail)
  have hn2 : NB w (w1.alloc (Obj.cells narrowA 120)) := hn1.alloc _
  refine (reset_any (w1.heap.size + 1) _ (hT.nb (hn2.alloc _)) (by omega) (by omega) ?_).mono ?_
  · have h : Blk _ (w1.heap.size + 1) 127 _ := Blk.newAt (w := w1.alloc (Obj.cells narrowA 120)) (t := 127) (cs := hashZ) (by simp)
    exact h
  rintro e w2 ⟨rfl, hB2, hF2⟩
  go_wp2_with fail
  go_ret2
  refine ⟨_, rfl, by omega, hB2, ?_⟩
  exact Below.trans (hn2.alloc _) (hF2.below (by simp; omega) (fun k hk e => by omega))

/-- The eight words behind k blocks of a text. -/
def runk (h : R8) (l : List UInt8) : Nat → R8
  | 0 => h
  | k + 1 => comp (runk h l k) ((l.drop (64 * k)).take 64)
theorem ext_cells {w : World} (y : Ext w) {l : List UInt8} {g o : Nat} (h : ∀ i b, l[i]? = some b → w.cell? ⟨g, o + i, none⟩ = some (.int .u8 (b.toNat : Int))) :
    ∀ i b, l[i]? = some b → y.val.cell? ⟨g, o + i, none⟩ = some (.int .u8 (b.toNat : Int)) :=
  fun i b hb => (y.nb.cell_ (World.block_lt_of_cell? w _ (h i b hb))).trans (h i b hb)
theorem take_get {l : List UInt8} {n i : Nat} {b : UInt8} (h : (l.take n)[i]? = some b) : l[i]? = some b := by
  rw [List.getElem?_take] at h
  split at h
  · exact h
  · cases h
theorem Tabs.fr {B : Nat} {F : Nat → Prop} {w w' : World} (h : Tabs w) (hf : Fr B F w w') (hk : 1 < B ∧ ¬ F 1) (hs : 0 < B ∧ ¬ F 0) : Tabs w' :=
  ⟨fun i hi => (hf.cell hk.1 hk.2).trans (h.k i hi), fun i hi => (hf.cell hs.1 hs.2).trans (h.h i hi)⟩
theorem Tabs.lt {w : World} (h : Tabs w) : 1 < w.heap.size ∧ 0 < w.heap.size :=
  ⟨World.block_lt_of_cell? w _ (h.k 0 (by omega)), World.block_lt_of_cell? w _ (h.h 0 (by omega))⟩
def lenOf : Value → Nat
  | .slice _ n _ => n
  | _ => 0

theorem lenOf_slice (a : Option Addr) (n c : Nat) : lenOf (.slice a n c) = n := rfl
theorem RBP.cut {w : World} {S : Nat → Prop} {g o m c : Nat} {l : List UInt8} (h : RBP w S (.slice (some ⟨g, o, none⟩) m c) l) (j : Nat) (hj : j ≤ m) :
    RBP w S (.slice (if c = j then some ⟨g, o, none⟩ else some ⟨g, o + j, none⟩) (m - j) (c - j)) (l.drop j) := by
  obtain ⟨A, c', e, h1, h2, h3⟩ := h
  injection e with e1 e2 e3
  subst e1; subst e3
  have hl : (l.drop j).length = m - j := by rw [List.length_drop]; omega
  refine ⟨_, c - j, by rw [hl], by omega, by omega, fun hn => ?_⟩
  rw [hl] at hn
  obtain ⟨g', o', hA, hS, hc⟩ := h3 (by omega)
  injection hA with hA
  injection hA with hg ho _
  subst hg; subst ho
  rw [if_neg (by omega)]
  refine ⟨g, o + j, rfl, hS, fun i b hb => ?_⟩
  rw [Nat.add_assoc]
  exact hc _ b (by rw [← hb, List.getElem?_drop])

set_option maxRecDepth 100000 in
set_option maxHeartbeats 2000000 in
theorem take_any (g : Nat) (n : Int) (r : Value) (h : R8) (v : Value) (l : List UInt8) (S : Nat → Prop) (hS : ¬ S g) (w : World) (hT : Tabs w) (hB : Blk w g 127 (hashA n r h)) (hv : RBP w S v l)
    (hk : g ≠ 1) (hs : g ≠ 0) :
    Calls Tryd.prog 80 #[.pointer (some ⟨g, 0, none⟩), v] w fun e w' => ∃ v', e = .returned v' ∧ RBP w' S v' (l.drop (64 * (l.length / 64))) ∧ Blk w' g 127 (hashA n r (runk h l (l.length / 64))) ∧ Fr w.heap.size (· = g) w w' := by
  go_enter Tryd.func80, Tryd.ntmps80
  go_wp2
  go_loopw [1] (fun u wr => ∃ k : Nat, 64 * k ≤ l.length ∧ RBP wr S u (l.drop (64 * k)) ∧ Blk wr g 127 (hashA n r (runk h l k)) ∧ Fr w.heap.size (· = g) w wr) (fun u _ => lenOf u)
  case atStart => exact ⟨0, by omega, hv, hB, Fr.refl _ _ _⟩
  case round =>
    obtain ⟨k, hk64, hu, hB, hF⟩ := hrel
    obtain ⟨A, c, rfl, hu1, hu2, hu3⟩ := hu
    have c0 := hB.cell 0
    have c1 := hB.cell 1
    have c2 := hB.cell 2
    have c3 := hB.cell 3
    have c4 := hB.cell 4
    have c5 := hB.cell 5
    have c6 := hB.cell 6
    have c7 := hB.cell 7
    have c8 := hB.cell 8
    have c9 := hB.cell 9
    have c10 := hB.cell 10
    have c11 := hB.cell 11
    have c12 := hB.cell 12
    have c13 := hB.cell 13
    have c14 := hB.cell 14
    have c15 := hB.cell 15
    have c16 := hB.cell 16
    have c17 := hB.cell 17
    have c18 := hB.cell 18
    have c19 := hB.cell 19
    have c20 := hB.cell 20
    have c21 := hB.cell 21
    have c22 := hB.cell 22
    have c23 := hB.cell 23
    have c24 := hB.cell 24
    have c25 := hB.cell 25
    have c26 := hB.cell 26
    have c27 := hB.cell 27
    have c28 := hB.cell 28
    have c29 := hB.cell 29
    have c30 := hB.cell 30
    have c31 := hB.cell 31
    have c32 := hB.cell 32
    generalize hm : (l.drop (64 * k)).length = m at *
    have Hm := Lib.hid hm
    clear hm
    by_cases hlt : 64 ≤ m
    · obtain ⟨gv, o, rfl, hgv, hcell⟩ := hu3 (by omega)
      have hd : decide ((64 : Int) ≤ m) = true := by simp; omega
      go_wp2_with (first | (go_at_call 92; refine (block_narrow _).mono ?_; rintro e w1 ⟨rfl, hn1⟩; obtain ⟨x, rfl⟩ := hn1.ex) | fail)
      have hTr : Tabs wr := hT.fr hF ⟨hT.lt.1, fun e => hk e.symm⟩ ⟨hT.lt.2, fun e => hs e.symm⟩
      have hlen : ((l.drop (64 * k)).take 64).length = 64 := by rw [List.length_take, Hm.out]; omega
      have hcx : ∀ i b, ((l.drop (64 * k)).take 64)[i]? = some b → x.val.cell? ⟨gv, o + i, none⟩ = some (.int .u8 (b.toNat : Int)) := ext_cells x fun i b hb => hcell i b (take_get hb)
      refine wp_region_tail_ext 17 (by kernel_rfl) (by kernel_rfl) ?_
      simp only [List.take_succ_cons, List.take_zero, List.drop_succ_cons, List.drop_zero]
      repeat (go_big_quiet_step ((first | (go_at_call 92; exact Calls.quiet_ext (block_narrow _)) | (go_at_call 93; exact Calls.quiet_ext (mix32 (runk h l k) ((l.drop (64 * k)).take 64) hlen gv o c (by omega) _ ((hTr.ext x).ext _) (ext_cells _ hcx))))))
      refine wpQuiet_nil ?_
      intro y
      obtain ⟨z, hzz⟩ := x.join y
      rw [hzz]
      have hB1 := hB.ext z
      have hF1 := hF.nb (by have := hF.size; omega) z.nb
      have hu1' : RBP z.val S (.slice (some ⟨gv, o, none⟩) m c) (l.drop (64 * k)) := (RBP.nb ⟨_, c, by rw [Hm.out], by rw [Hm.out]; omega, hu2, fun _ => ⟨gv, o, rfl, hgv, hcell⟩⟩ z.nb)
      clear hzz
      generalize z.val = w1 at *
      go_wp2_with (first
        | (refine wpList_store_sub rfl 124 _ _ rfl g 17 (v8 (runk h l (k + 1))) rfl rfl 127 _ (hashA n r (runk h l (k + 1))) hB1 8 rfl (by rw [hashA_size]; decide) size_a8x32 (v8_one _) rfl ?_
           have hB2 := hB1.setRow (hashA n r (runk h l (k + 1)))
           have hF2 := hF1.setRow (.inl rfl) (hashA n r (runk h l (k + 1)))
           have hu2' : RBP (w1.setRow g (hashA n r (runk h l (k + 1)))) S (.slice (some ⟨gv, o, none⟩) m c) (l.drop (64 * k)) := hu1'.keep fun q p hq => World.cell?_of_block (setRow_other _ _ _ _ (fun e => hS (e ▸ hq)))
           generalize w1.setRow g (hashA n r (runk h l (k + 1))) = w2 at *
           have d0 := hB2.cell 0
           have d1 := hB2.cell 1
           have d2 := hB2.cell 2
           have d3 := hB2.cell 3
           have d4 := hB2.cell 4
           have d5 := hB2.cell 5
           have d6 := hB2.cell 6
           have d7 := hB2.cell 7
           have d8 := hB2.cell 8
           have d9 := hB2.cell 9
           have d10 := hB2.cell 10
           have d11 := hB2.cell 11
           have d12 := hB2.cell 12
           have d13 := hB2.cell 13
           have d14 := hB2.cell 14)
        | (go_at_call 92; refine (block_narrow _).mono ?_; rintro e w3 ⟨rfl, hn3⟩)
        | fail)
      go_roundw
      case rel =>
        refine ⟨k + 1, ?_, ?_, (hn3.block g hB2.lt).trans hB2, hF2.nb (by have := hF2.size; omega) hn3⟩
        · have := Hm.out; rw [List.length_drop] at this; omega
        · have e := (RBP.nb hu2' hn3).cut 64 hlt
          rw [List.drop_drop, show 64 * k + 64 = 64 * (k + 1) by omega] at e
          exact e
      case measure => simp only [lenOf_slice]; omega
    · have hd : decide ((64 : Int) ≤ m) = false := by simp; omega
      have hk : l.length / 64 = k := by have := Hm.out; rw [List.length_drop] at this; omega
      go_wp2_with (first
        | (go_at_call 92; refine (block_narrow _).mono ?_; rintro e w3 ⟨rfl, hn3⟩)
        | fail)
      go_ret
      rw [hk]
      have hv' : RBP wr S (.slice A m c) (l.drop (64 * k)) := ⟨A, c, by rw [Hm.out], by rw [Hm.out]; omega, hu2, fun h => by rw [Hm.out] at h; exact hu3 h⟩
      refine ⟨_, rfl, RBP.nb hv' hn3, (hn3.block g hB.lt).trans hB, hF.nb (by have := hF.size; omega) hn3⟩
end Go.Proofs.YtgpafdagealnbaaDoor
