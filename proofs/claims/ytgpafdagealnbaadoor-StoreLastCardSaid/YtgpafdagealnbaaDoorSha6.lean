/- Walks over sha2's hashes: of, New, Reset. -/
import Derived.Test.YtgpafdagealnbaaDoorSha5
namespace Go.Proofs.YtgpafdagealnbaaDoor
open Go.RowKit

/-- The cells of a hash for 256 digits. -/
def hashA (n : Int) (r : Value) (h : R8) : Array Value := #[.int .i64 4, .int .i64 32, .int .i64 64, .int .i64 7, .int .i64 18, .int .i64 3, .int .i64 17, .int .i64 19, .int .i64 10, .int .i64 2, .int .i64 13, .int .i64 22, .int .i64 6, .int .i64 11, .int .i64 25, .int .i64 n, r, u32v h.a, u32v h.b, u32v h.c, u32v h.d, u32v h.e, u32v h.f, u32v h.g, u32v h.h, .int .u64 (Hc 0 : Int), .int .u64 (Hc 1 : Int), .int .u64 (Hc 2 : Int), .int .u64 (Hc 3 : Int), .int .u64 (Hc 4 : Int), .int .u64 (Hc 5 : Int), .int .u64 (Hc 6 : Int), .int .u64 (Hc 7 : Int)]
@[go_sem] theorem hashA_0 (n : Int) (r : Value) (h : R8) : (hashA n r h)[0]? = some (.int .i64 4) := rfl
@[go_sem] theorem hashA_1 (n : Int) (r : Value) (h : R8) : (hashA n r h)[1]? = some (.int .i64 32) := rfl
@[go_sem] theorem hashA_2 (n : Int) (r : Value) (h : R8) : (hashA n r h)[2]? = some (.int .i64 64) := rfl
@[go_sem] theorem hashA_3 (n : Int) (r : Value) (h : R8) : (hashA n r h)[3]? = some (.int .i64 7) := rfl
@[go_sem] theorem hashA_4 (n : Int) (r : Value) (h : R8) : (hashA n r h)[4]? = some (.int .i64 18) := rfl
@[go_sem] theorem hashA_5 (n : Int) (r : Value) (h : R8) : (hashA n r h)[5]? = some (.int .i64 3) := rfl
@[go_sem] theorem hashA_6 (n : Int) (r : Value) (h : R8) : (hashA n r h)[6]? = some (.int .i64 17) := rfl
@[go_sem] theorem hashA_7 (n : Int) (r : Value) (h : R8) : (hashA n r h)[7]? = some (.int .i64 19) := rfl
@[go_sem] theorem hashA_8 (n : Int) (r : Value) (h : R8) : (hashA n r h)[8]? = some (.int .i64 10) := rfl
@[go_sem] theorem hashA_9 (n : Int) (r : Value) (h : R8) : (hashA n r h)[9]? = some (.int .i64 2) := rfl
@[go_sem] theorem hashA_10 (n : Int) (r : Value) (h : R8) : (hashA n r h)[10]? = some (.int .i64 13) := rfl
@[go_sem] theorem hashA_11 (n : Int) (r : Value) (h : R8) : (hashA n r h)[11]? = some (.int .i64 22) := rfl
@[go_sem] theorem hashA_12 (n : Int) (r : Value) (h : R8) : (hashA n r h)[12]? = some (.int .i64 6) := rfl
@[go_sem] theorem hashA_13 (n : Int) (r : Value) (h : R8) : (hashA n r h)[13]? = some (.int .i64 11) := rfl
@[go_sem] theorem hashA_14 (n : Int) (r : Value) (h : R8) : (hashA n r h)[14]? = some (.int .i64 25) := rfl
@[go_sem] theorem hashA_15 (n : Int) (r : Value) (h : R8) : (hashA n r h)[15]? = some (.int .i64 n) := rfl
@[go_sem] theorem hashA_16 (n : Int) (r : Value) (h : R8) : (hashA n r h)[16]? = some (r) := rfl
@[go_sem] theorem hashA_17 (n : Int) (r : Value) (h : R8) : (hashA n r h)[17]? = some (u32v h.a) := rfl
@[go_sem] theorem hashA_18 (n : Int) (r : Value) (h : R8) : (hashA n r h)[18]? = some (u32v h.b) := rfl
@[go_sem] theorem hashA_19 (n : Int) (r : Value) (h : R8) : (hashA n r h)[19]? = some (u32v h.c) := rfl
@[go_sem] theorem hashA_20 (n : Int) (r : Value) (h : R8) : (hashA n r h)[20]? = some (u32v h.d) := rfl
@[go_sem] theorem hashA_21 (n : Int) (r : Value) (h : R8) : (hashA n r h)[21]? = some (u32v h.e) := rfl
@[go_sem] theorem hashA_22 (n : Int) (r : Value) (h : R8) : (hashA n r h)[22]? = some (u32v h.f) := rfl
@[go_sem] theorem hashA_23 (n : Int) (r : Value) (h : R8) : (hashA n r h)[23]? = some (u32v h.g) := rfl
@[go_sem] theorem hashA_24 (n : Int) (r : Value) (h : R8) : (hashA n r h)[24]? = some (u32v h.h) := rfl
@[go_sem] theorem hashA_25 (n : Int) (r : Value) (h : R8) : (hashA n r h)[25]? = some (.int .u64 (Hc 0 : Int)) := rfl
@[go_sem] theorem hashA_26 (n : Int) (r : Value) (h : R8) : (hashA n r h)[26]? = some (.int .u64 (Hc 1 : Int)) := rfl
@[go_sem] theorem hashA_27 (n : Int) (r : Value) (h : R8) : (hashA n r h)[27]? = some (.int .u64 (Hc 2 : Int)) := rfl
@[go_sem] theorem hashA_28 (n : Int) (r : Value) (h : R8) : (hashA n r h)[28]? = some (.int .u64 (Hc 3 : Int)) := rfl
@[go_sem] theorem hashA_29 (n : Int) (r : Value) (h : R8) : (hashA n r h)[29]? = some (.int .u64 (Hc 4 : Int)) := rfl
@[go_sem] theorem hashA_30 (n : Int) (r : Value) (h : R8) : (hashA n r h)[30]? = some (.int .u64 (Hc 5 : Int)) := rfl
@[go_sem] theorem hashA_31 (n : Int) (r : Value) (h : R8) : (hashA n r h)[31]? = some (.int .u64 (Hc 6 : Int)) := rfl
@[go_sem] theorem hashA_32 (n : Int) (r : Value) (h : R8) : (hashA n r h)[32]? = some (.int .u64 (Hc 7 : Int)) := rfl
theorem hashA_size (n : Int) (r : Value) (h : R8) : (hashA n r h).size = 33 := rfl
def hash0 : Array Value := narrowA ++ arr 18 fun i => if i = 0 then .int .i64 0 else if i = 1 then .slice none 0 0 else if i < 10 then u32v 0 else .int .u64 0

set_option maxHeartbeats 400000 in
theorem of256 (w : World) :
    Calls Tryd.prog 78 #[.int .i64 256] w fun e w' => e = .returned (.tuple #[.agg narrowA, .bool true]) ∧ NB w w' := by
  have hz := zero_shape
  go_enter Tryd.func78, Tryd.ntmps78
  go_wp2_with (first | (go_at_call 88; refine (narrow_any _).mono ?_; rintro e w1 ⟨rfl, hn1⟩; obtain ⟨x, rfl⟩ := hn1.ex) | (refine wpList_store_blk rfl 120 _ _ rfl w.heap.size narrowA rfl rfl 120 zero15 (Blk.ext (Blk.newAt rfl) _) 15 rfl rfl size_shape narrow_one ?_))
  have hB : Blk (x.val.setRow w.heap.size narrowA) w.heap.size 120 narrowA := Blk.setRow (Blk.ext (Blk.newAt rfl) _) _
  refine bodyPost_ret (results_blk_tmp rfl _ _ w.heap.size 120 _ _ rfl hB Tryd.underlying120 rfl 15 rfl size_shape) rfl ?_
  exact ⟨rfl, (((NB.refl _).alloc _).ext x).setRow (Nat.le_refl _) _⟩

/-- A hash before its first Reset. -/
def hashZ : Array Value := #[.int .i64 4, .int .i64 32, .int .i64 64, .int .i64 7, .int .i64 18, .int .i64 3, .int .i64 17, .int .i64 19, .int .i64 10, .int .i64 2, .int .i64 13, .int .i64 22, .int .i64 6, .int .i64 11, .int .i64 25, .int .i64 0, .slice none 0 0, .int .u32 0, .int .u32 0, .int .u32 0, .int .u32 0, .int .u32 0, .int .u32 0, .int .u32 0, .int .u32 0, .int .u64 0, .int .u64 0, .int .u64 0, .int .u64 0, .int .u64 0, .int .u64 0, .int .u64 0, .int .u64 0]
def hashY : Array Value := #[.int .i64 4, .int .i64 32, .int .i64 64, .int .i64 7, .int .i64 18, .int .i64 3, .int .i64 17, .int .i64 19, .int .i64 10, .int .i64 2, .int .i64 13, .int .i64 22, .int .i64 6, .int .i64 11, .int .i64 25, .int .i64 0, .slice none 0 0, u32v R8.init.a, u32v R8.init.b, u32v R8.init.c, u32v R8.init.d, u32v R8.init.e, u32v R8.init.f, u32v R8.init.g, u32v R8.init.h, .int .u64 0, .int .u64 0, .int .u64 0, .int .u64 0, .int .u64 0, .int .u64 0, .int .u64 0, .int .u64 0]
@[go_sem] theorem hashZ_15 : hashZ[15]? = some (.int .i64 0) := rfl
@[go_sem] theorem hashZ_16 : hashZ[16]? = some (.slice none 0 0) := rfl

set_option maxHeartbeats 1000000 in
theorem reset_any (g : Nat) (w : World) (hT : Tabs w) (hk : g ≠ 1) (hs : g ≠ 0) (hB : Blk w g 127 hashZ) :
    Calls Tryd.prog 79 #[.pointer (some ⟨g, 0, none⟩)] w fun e w' => e = .returned (.tuple #[]) ∧ Blk w' g 127 (hashA 0 (.slice none 0 0) R8.init) ∧ Fr w.heap.size (· = g) w w' := by
  have c15 := hB.cell 15
  have c16 := hB.cell 16
  have f15 := hB.frozen 15
  have f16 := hB.frozen 16
  have hlt := hB.lt
  go_enter Tryd.func79, Tryd.ntmps79
  have hB0 : Blk ((w.setCell ⟨g, 15, none⟩ (.int .i64 0)).setCell ⟨g, 16, none⟩ (.slice none 0 0)) g 127 hashZ := (hB.setCell_is rfl).setCell_is rfl
  have hF0 : Fr w.heap.size (· = g) w ((w.setCell ⟨g, 15, none⟩ (.int .i64 0)).setCell ⟨g, 16, none⟩ (.slice none 0 0)) := ((Fr.refl w.heap.size (· = g) w).setCell (p := ⟨g, 15, none⟩) (.inl rfl) _).setCell (p := ⟨g, 16, none⟩) (.inl rfl) _
  have hT0 : Tabs ((w.setCell ⟨g, 15, none⟩ (.int .i64 0)).setCell ⟨g, 16, none⟩ (.slice none 0 0)) := by
    refine ⟨fun i hi => ?_, fun i hi => ?_⟩
    · rw [World.cell?_setCell_other _ _ _ _ (by simp [hk]), World.cell?_setCell_other _ _ _ _ (by simp [hk])]; exact hT.k i hi
    · rw [World.cell?_setCell_other _ _ _ _ (by simp [hs]), World.cell?_setCell_other _ _ _ _ (by simp [hs])]; exact hT.h i hi
  have hsz : ((w.setCell ⟨g, 15, none⟩ (.int .i64 0)).setCell ⟨g, 16, none⟩ (.slice none 0 0)).heap.size = w.heap.size := by simp
  go_wp2_with fail
  generalize (w.setCell ⟨g, 15, none⟩ (.int .i64 0)).setCell ⟨g, 16, none⟩ (.slice none 0 0) = W0 at *
  refine (narrow_any _).mono ?_
  rintro e w1 ⟨rfl, hn1⟩
  go_wp2_with fail
  refine (begin32 _ (hT0.nb hn1)).mono ?_
  rintro e w2 ⟨rfl, hn2⟩
  go_wp2_with fail
  refine (wide_any _).mono ?_
  rintro e w3 ⟨rfl, hn3⟩
  go_wp2_with fail
  refine (begin64 _ (hT0.nb ((hn1.trans hn2).trans hn3))).mono ?_
  rintro e w4 ⟨rfl, hn4⟩
  have hn := ((hn1.trans hn2).trans hn3).trans hn4
  have hB4 : Blk w4 g 127 hashZ := (hn.block g hB0.lt).trans hB0
  go_wp2_with (first | (refine wpList_store_sub rfl 124 _ _ rfl g 17 (v8 R8.init) rfl rfl 127 hashZ hashY hB4 8 rfl (by decide) size_a8x32 (v8_one _) rfl ?_) | (refine wpList_store_sub rfl 125 _ _ rfl g 25 begA64 rfl rfl 127 hashY (hashA 0 (.slice none 0 0) R8.init) (hB4.setRow _) 8 rfl (by decide) size_a8x64 (arr_one fun _ => rfl) rfl ?_) | fail)
  go_end0
  exact ⟨rfl, (hB4.setRow _).setRow _, ((hF0.nb (by omega) hn).setRow (.inl rfl) _).setRow (.inl rfl) _⟩
end Go.Proofs.YtgpafdagealnbaaDoor
