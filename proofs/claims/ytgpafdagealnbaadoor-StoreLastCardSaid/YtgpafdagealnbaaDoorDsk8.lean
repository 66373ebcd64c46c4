/- The disk: Read. -/
import Derived.Test.YtgpafdagealnbaaDoorDsk7
namespace Go.Proofs.YtgpafdagealnbaaDoor
open Go.RowKit

/-- What is read of the disk: its bytes under all writes that wait. -/
def Dsk.cur (D : Dsk) : Nat → UInt8 := lay D.f (fun _ => true) 0 D.held
def secL (f : Nat → UInt8) (k : Nat) : List UInt8 := (List.range 64).map fun i => f (64 * k + i)
theorem secL_length (f : Nat → UInt8) (k : Nat) : (secL f k).length = 64 := by simp [secL]
theorem bya_of_list (b : List UInt8) (N : Nat) (hb : b.length = N) : (bv b).toArray = bya N fun i => b.getD i 0 := by
  apply Array.toList_inj.1
  rw [bya_list]
  have : b = (List.range N).map fun i => b.getD i 0 := by
    apply List.ext_getElem?
    intro i
    by_cases hi : i < N
    · rw [List.getElem?_map, List.getElem?_range hi, Option.map_some, List.getD_eq_getElem?_getD, List.getElem?_eq_getElem (by omega)]
      rfl
    · rw [List.getElem?_eq_none (by omega), List.getElem?_eq_none (by simp; omega)]
  show bv b = _
  rw [← this]
theorem bya_sec (f : Nat → UInt8) (k : Nat) : bya 64 (fun i => f (64 * k + i)) = (bv (secL f k)).toArray := by
  apply Array.toList_inj.1
  rw [bya_list]
  rfl
theorem sec_there {w : World} {sb n k : Nat} {f : Nat → UInt8} {t : TypeId} (h : Blk w sb t (bya (64 * n) f)) (hk : k < n) : w.rangeAt sb (k * 64) (bv (secL f k)) := by
  intro j v hv
  rw [bv_get] at hv
  have hj : j < 64 := by
    rcases Nat.lt_or_ge j 64 with hj | hj
    · exact hj
    · rw [List.getElem?_eq_none (by rw [secL_length]; exact hj)] at hv; cases hv
  rw [h.bya_cell (by omega)]
  simp only [secL, List.getElem?_map, List.getElem?_range hj, Option.map_some] at hv
  rw [← hv, Nat.mul_comm k 64]
theorem sec_ov_same (f : Nat → UInt8) (k : Nat) (b : List UInt8) (hb : b.length = 64) : bya 64 (fun i => ov f (64 * k) b (64 * k + i)) = (bv b).toArray := by
  rw [bya_of_list b 64 hb]
  refine bya_congr fun i hi => ?_
  unfold ov
  rw [if_pos (by omega), show 64 * k + i - 64 * k = i by omega]
theorem sec_ov_far (f : Nat → UInt8) (k m : Nat) (b : List UInt8) (hb : b.length = 64) (hne : m ≠ k) : bya 64 (fun i => ov f (64 * m) b (64 * k + i)) = bya 64 (fun i => f (64 * k + i)) := by
  refine bya_congr fun i hi => ?_
  unfold ov
  rw [if_neg (by omega)]
theorem zero_sector (w : World) : (zeroValue 59).run Tryd.prog w = .ok (.agg (bya 64 fun _ => 0)) w := by kernel_rfl
theorem heldA_one (k : Int) (b : List UInt8) : ∀ u ∈ heldA k b, u.oneCell' = true := by
  intro u hu
  simp only [heldA, List.mem_toArray, List.mem_cons] at hu
  rcases hu with rfl | hu
  · rfl
  · exact bv_one b u hu
theorem heldA_size (k : Int) (b : List UInt8) (hb : b.length = 64) : (heldA k b).size = 65 := by simp [heldA, bv_length, hb]

set_option maxRecDepth 20000 in
set_option maxHeartbeats 1000000 in
theorem dread_any {F : Nat → Prop} {w : World} {d : Nat} {D : Dsk} (h : DRep F w d D) (k : Nat) (hk : k < D.n) (hd : D.down = false) :
    Calls Tryd.prog 61 #[dptr d, .int .i64 k] w fun e w' => ∃ v, e = .returned (.tuple #[v, .int .i64 0]) ∧ RBP w' (fun g => w.heap.size ≤ g ∧ g < w'.heap.size) v (secL D.cur k) ∧ NB w w' := by
  obtain ⟨sb, hv1, cv, h⟩ := h
  have hB := h.bd
  have hBs := h.bs
  have hw := h.wf
  have hown := h.hh
  have hz := zero_sector
  have he : D.atE k = 0 := by
    unfold Dsk.atE
    rw [hd, if_neg (by decide), if_neg (by omega)]
  obtain ⟨A, c, rfl⟩ := own_form h.hh
  have hsec := sec_there hBs hk
  unfold Dsk.cur
  have hl64 : ∀ h ∈ D.held, h.2.length = 64 := fun x hx => (hw.held x hx).2
  have hfew := hw.few
  have h0 := h.rep
  obtain ⟨n, f, held, down, strokes, left, st, choice⟩ := D
  simp only at hl64 hfew hsec hown hk
  go_enter Tryd.func61, Tryd.ntmps61
  go_wp2_with fail
  refine (dat_any h0 k).mono ?_
  rintro e w1 ⟨rfl, rfl⟩
  rw [he]
  simp only [dcells] at hB
  have c0 := hB.cell 0
  have c1 := hB.cell 1
  have c2 := hB.cell 2
  have c3 := hB.cell 3
  have c4 := hB.cell 4
  have c5 := hB.cell 5
  have c6 := hB.cell 6
  have hk1 : (k : Int) < (n : Int) := by omega
  go_wp2_with (first
    | (refine wpList_load_mid rfl 59 _ rfl sb (k * 64) rfl (bv (secL f k)) _ hsec Tryd.underlying59 rfl (by rw [bv_length, secL_length]; exact size_sector) ?_)
    | (refine wpList_var_blk rfl rfl 59 7 rfl rfl _ rfl (bv (secL f k)).toArray (bya 64 fun _ => 0) rfl rfl zero_sector 64 (by rw [List.size_toArray, bv_length, secL_length]) (bya_size _ _) size_sector (fun u hu => bv_one (secL f k) u (by simpa using hu)) ?_)
    | fail)
  rw [← bya_sec]
  go_loopw [28] (fun i wr => ∃ j : Nat, j ≤ held.length ∧ i = .int .i64 j ∧ Blk wr w.heap.size 59 (bya 64 fun i => lay f (fun _ => true) 0 (held.take j) (64 * k + i)) ∧ NB w wr) (fun i _ => held.length - (intOf i).toNat)
  case atStart => exact ⟨0, Nat.zero_le _, rfl, Blk.newAt rfl, (NB.refl w).alloc _⟩
  case round =>
    obtain ⟨j, hj, rfl, hBr, hn⟩ := hrel
    have hor := own_below (w' := wr) hown fun q e => hn.block q (h.lt q (h.fh q e))
    by_cases hlt : j < held.length
    · have d1 : decide ((j : Int) < (held.length : Int)) = true := by simpa using hlt
      obtain ⟨g, rfl⟩ : ∃ g, A = some ⟨g, 0, none⟩ := by
        rcases hown.2 with ⟨e, e2⟩ | ⟨g, cap, cur, e, _⟩
        · omega
        · injection e with e
          exact ⟨g, e⟩
      have hra := held_there hor hl64 hlt
      have hbl := hl64 held[j] (List.getElem_mem hlt)
      have hlk := lay_take f (fun _ => true) held j hlt
      rw [if_pos rfl] at hlk
      generalize held[j] = hj' at *
      obtain ⟨at_, b⟩ := hj'
      simp only at hra hbl hlk
      have hra' : wr.rangeAt g (j * 65) (heldA at_ b).toList := by rw [Nat.mul_comm]; exact hra
      have hHl := Lib.hid hlk
      clear hlk
      have hH0 : (wr.alloc (.cells (heldA at_ b) 92)).cell? ⟨wr.heap.size, 0, none⟩ = some (.int .i64 (at_ : Int)) := (Blk.cell (t := 92) (Blk.newAt rfl) 0).trans rfl
      have hH1 : (wr.alloc (.cells (heldA at_ b) 92)).rangeAt wr.heap.size 1 (bv b) := fun q u hu => by
        rw [Nat.add_comm 1 q]
        exact (Blk.cell (t := 92) (Blk.newAt rfl) (q + 1)).trans (by simpa [heldA] using hu)
      have hBa : Blk (wr.alloc (.cells (heldA at_ b) 92)) w.heap.size 59 _ := hBr.alloc _
      have hna : NB w (wr.alloc (.cells (heldA at_ b) 92)) := hn.alloc _
      by_cases hak : at_ = k
      · subst hak
        have d2 : decide ((at_ : Int) = (at_ : Int)) = true := by simp
        go_wp2_with (first
          | (refine wpList_load_mid rfl 92 _ rfl g (j * 65) rfl (heldA at_ b).toList _ hra' Tryd.underlying92 rfl (by rw [Array.length_toList, heldA_size _ _ hbl]; exact size_held) ?_)
          | (refine wpList_var_blk rfl rfl 92 9 rfl rfl _ rfl (heldA at_ b) (heldA 0 (List.replicate 64 0)) rfl rfl zero_held 65 (heldA_size _ _ hbl) rfl size_held (heldA_one _ _) ?_)
          | (refine wpList_load_mid rfl 59 _ rfl wr.heap.size 1 rfl (bv b) _ hH1 Tryd.underlying59 rfl (by rw [bv_length, hbl]; exact size_sector) ?_)
          | (refine wpList_store_blk rfl 59 _ _ rfl w.heap.size (bv b).toArray rfl rfl 59 _ hBa 64 (by rw [List.size_toArray, bv_length, hbl]) (bya_size _ _) size_sector (fun u hu => bv_one b u (by simpa using hu)) ?_)
          | fail)
        refine ⟨⟨j + 1, by omega, by go_num, ?_, hna.setRow (Nat.le_refl _) _⟩, by simp [intOf]; omega⟩
        rw [hHl.out, sec_ov_same _ _ _ hbl]
        exact hBa.setRow _
      · have d2 : decide ((at_ : Int) = (k : Int)) = false := by simp; omega
        go_wp2_with (first
          | (refine wpList_load_mid rfl 92 _ rfl g (j * 65) rfl (heldA at_ b).toList _ hra' Tryd.underlying92 rfl (by rw [Array.length_toList, heldA_size _ _ hbl]; exact size_held) ?_)
          | (refine wpList_var_blk rfl rfl 92 9 rfl rfl _ rfl (heldA at_ b) (heldA 0 (List.replicate 64 0)) rfl rfl zero_held 65 (heldA_size _ _ hbl) rfl size_held (heldA_one _ _) ?_)
          | fail)
        refine ⟨⟨j + 1, by omega, by go_num, ?_, hna⟩, by simp [intOf]; omega⟩
        rw [hHl.out, sec_ov_far _ _ _ _ hbl hak]
        exact hBa
    · have hjl : j = held.length := by omega
      subst hjl
      rw [List.take_length] at hBr
      have d1 : decide ((held.length : Int) < (held.length : Int)) = false := by simp
      go_wp2
      refine bodyPost_ret (results_tmp2 rfl _ _ _) rfl ?_
      refine ⟨_, rfl, ?_, hn⟩
      have hr := hBr.rb (fun g => w.heap.size ≤ g ∧ g < wr.heap.size) ⟨Nat.le_refl _, hBr.lt⟩ 0 64 64 (by omega) (by omega) (by omega)
      simp only [Nat.zero_add] at hr
      exact hr
end Go.Proofs.YtgpafdagealnbaaDoor
