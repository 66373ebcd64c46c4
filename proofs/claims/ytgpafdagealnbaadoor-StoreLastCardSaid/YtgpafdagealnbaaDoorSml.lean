/- Small functions of the laws: SameBytes, Among, wide; the disk's Bytes. -/
import Derived.Test.YtgpafdagealnbaaDoorSto5
import Derived.Lib.BufferRead
namespace Go.Proofs.YtgpafdagealnbaaDoor
open Go.RowKit

theorem conv_rbp {w : World} {S : Nat → Prop} {v : Value} {l : List UInt8} (h : RBP w S v l) : (convert 22 9 v).run Tryd.prog w = .ok (.string ⟨l.toArray⟩) w := by
  obtain ⟨A, c, rfl, h1, h2, h3⟩ := h
  rcases A with _ | a
  · have h0 : l = [] := by
      rcases Nat.eq_zero_or_pos l.length with h | h
      · exact List.eq_nil_of_length_eq_zero h
      · obtain ⟨g, o, e, _⟩ := h3 h
        cases e
    subst h0
    exact Lib.run_convert_nil_bytes w 22 9 5 c Tryd.underlying22 Tryd.underlying5 Tryd.underlying9
  · refine run_convert_bytes_back w 22 9 5 a c l Tryd.underlying22 Tryd.underlying5 Tryd.underlying9 fun j hj => ?_
    obtain ⟨g, o, e, _, hc⟩ := h3 (by omega)
    injection e with e
    subst e
    rw [addr_add]
    exact hc j l[j] (List.getElem?_eq_getElem hj)

theorem same_any {S S' : Nat → Prop} {w : World} {v u : Value} {l m : List UInt8} (hv : RBP w S v l) (hu : RBP w S' u m) :
    Calls Tryd.prog 13 #[v, u] w fun e w' => e = .returned (.bool (decide (l = m))) ∧ w = w' := by
  have h1 := conv_rbp hv
  have h2 := conv_rbp hu
  obtain ⟨A, c, rfl, _⟩ := hv
  obtain ⟨A', c', rfl, _⟩ := hu
  go_enter Tryd.func13, Tryd.ntmps13
  by_cases he : l = m
  · subst he
    rw [decide_eq_true rfl]
    go_wp2
    go_ret
    exact ⟨by simp, rfl⟩
  · have hb : (l == m) = false := beq_eq_false_iff_ne.2 he
    rw [decide_eq_false he]
    go_wp2
    go_ret
    exact ⟨rfl, rfl⟩

def amongI (k n : Int) : Int := if n < 1 then 0 else k % n
theorem among_any (k n : Int) (hk : -9223372036854775808 ≤ k ∧ k ≤ 9223372036854775807) (hn : 1 ≤ n) (hn2 : n ≤ 1000000) (w : World) :
    Calls Tryd.prog 20 #[.int .i64 k, .int .i64 n] w fun e w' => e = .returned (.int .i64 (k % n)) ∧ w = w' := by
  have d1 : decide (n < 1) = false := by simp; omega
  have hq : k.tmod n = if 0 ≤ k then k % n else -((-k) % n) := by
    split
    · rename_i h; exact Int.tmod_eq_emod_of_nonneg h
    · rename_i h
      have : k = -(-k) := by omega
      rw [this, Int.neg_tmod, Int.tmod_eq_emod_of_nonneg (by omega)]
      simp
  have hlo : -n < k.tmod n := by
    rw [hq]; split
    · have := Int.emod_nonneg k (show n ≠ 0 by omega); omega
    · have := Int.emod_lt_of_pos (-k) (show 0 < n by omega); omega
  have hhi : k.tmod n < n := by
    rw [hq]; split
    · exact Int.emod_lt_of_pos k (show 0 < n by omega)
    · have := Int.emod_nonneg (-k) (show n ≠ 0 by omega); omega
  have hfin : (if k.tmod n < 0 then k.tmod n + n else k.tmod n) = k % n := by
    have e1 : n * (k.tdiv n) + k.tmod n = k := Int.mul_tdiv_add_tmod k n
    split
    · rename_i h
      have : k = (k.tmod n + n) + n * (k.tdiv n - 1) := by rw [Int.mul_sub]; omega
      rw [this, Int.add_mul_emod_self_left, Int.emod_eq_of_lt (by omega) (by omega)]
      rw [← this]
    · rename_i h
      have : k = k.tmod n + n * (k.tdiv n) := by omega
      rw [this, Int.add_mul_emod_self_left, Int.emod_eq_of_lt (by omega) (by omega)]
      rw [← this]
  have Hfin := Lib.hid hfin
  clear hfin hq
  by_cases hs : k.tmod n < 0
  · have d2 : decide (k.tmod n < 0) = true := decide_eq_true hs
    go_enter Tryd.func20, Tryd.ntmps20
    go_wp2
    go_ret
    refine ⟨ret_int ?_, rfl⟩
    rw [← Hfin.out, if_pos hs]
  · have d2 : decide (k.tmod n < 0) = false := decide_eq_false hs
    go_enter Tryd.func20, Tryd.ntmps20
    go_wp2
    go_ret
    refine ⟨ret_int ?_, rfl⟩
    rw [← Hfin.out, if_neg (Int.not_lt.2 hs)]

def wideB (b : List UInt8) (n : Int) : Bool := decide (2000 < b.length) || decide (60 < n)
theorem wide08_any {S : Nat → Prop} {w : World} {v : Value} {l : List UInt8} (hv : RBP w S v l) (n : Int) :
    Calls Tryd.prog 31 #[v, .int .i64 n] w fun e w' => e = .returned (.bool (wideB l n)) ∧ w = w' := by
  obtain ⟨A, c, rfl, _⟩ := hv
  unfold wideB
  by_cases h1 : 2000 < l.length
  · have d1 : decide ((l.length : Int) > 2000) = true := by simp; omega
    rw [decide_eq_true h1]
    go_enter Tryd.func31, Tryd.ntmps31
    go_wp2
    go_ret
    exact ⟨by simp, rfl⟩
  · have d1 : decide ((l.length : Int) > 2000) = false := by simp; omega
    rw [decide_eq_false h1]
    go_enter Tryd.func31, Tryd.ntmps31
    go_wp2
    go_ret
    exact ⟨by simp, rfl⟩

/-! ### Bytes -/
def Dsk.bytes (D : Dsk) : List UInt8 := (List.range (64 * D.n)).map D.f
set_option maxRecDepth 20000 in
set_option maxHeartbeats 1000000 in
theorem dbytes_any {F : Nat → Prop} {w : World} {d : Nat} {D : Dsk} (h : DRep F w d D) :
    Calls Tryd.prog 15 #[dptr d] w fun e w' => ∃ v, e = .returned v ∧ RBP w' (fun q => w.heap.size ≤ q ∧ q < w'.heap.size) v D.bytes ∧ NB w w' := by
  obtain ⟨sb, hv, cv, h⟩ := h
  have hB := h.bd
  have hBs := h.bs
  have n2 := h.wf.n2
  have hz := zero_sector
  unfold Dsk.bytes
  obtain ⟨n, f, held, down, strokes, left, st, choice⟩ := D
  simp only [dcells] at hB hBs n2
  have c0 := hB.cell 0
  have c1 := hB.cell 1
  have c2 := hB.cell 2
  have c3 := hB.cell 3
  have c4 := hB.cell 4
  have c5 := hB.cell 5
  have c6 := hB.cell 6
  obtain ⟨iu, hi1, hi2, hi3, hi4⟩ := info_u8'
  go_enter Tryd.func15, Tryd.ntmps15
  go_wp2_with (first | (refine wpList_make_own _ rfl _ _ 22 rfl w.heap.size 5 iu (.int .u8 0) 1 Tryd.underlying22 hi1 hi2 hi3 .i64 .i64 _ (64 * n) rfl rfl ?hC ?b2 ?b3 ?b4 ?_) | fail)
  case hC => omega
  case b2 => rw [hi4]; omega
  case b3 => simp only [maxLen]; omega
  case b4 => exact Nat.le_refl _
  intro w1 hm hg
  have hn1 : NB w w1 := (NB.refl w).grown hg (fun _ e => by cases e)
  have ho1 : OB w1 w.heap.size (.slice (some ⟨w.heap.size, 0, none⟩) 0 (64 * n)) [] := hm
  have hB1 : Blk w1 d 57 _ := (hn1.block _ hB.lt).trans hB
  clear hm hg c0 c1 c2 c3 c4 c5 c6
  have c0 := hB1.cell 0
  have c1 := hB1.cell 1
  have c2 := hB1.cell 2
  have c3 := hB1.cell 3
  have c4 := hB1.cell 4
  have c5 := hB1.cell 5
  have c6 := hB1.cell 6
  go_wp2
  go_loopw [3, 20] (fun v i wr => ∃ j : Nat, j ≤ n ∧ i = .int .i64 j ∧ OB wr w.heap.size v ((List.range (64 * j)).map f) ∧ NB w wr) (fun _ i _ => n - (intOf i).toNat)
  case atStart => exact ⟨0, by omega, rfl, ho1, hn1⟩
  case round =>
    obtain ⟨j, hj, rfl, ho, hn⟩ := hrel
    by_cases hlt : j < n
    · have d1 : decide ((j : Int) < (n : Int)) = true := by simpa using hlt
      have hsec := sec_there ((hn.block _ hBs.lt).trans hBs : Blk wr sb 59 _) hlt
      have ho2 : OB (wr.alloc (.cells (bv (secL f j)).toArray 59)) w.heap.size u3 ((List.range (64 * j)).map f) := World.ownsRow.alloc ho _
      have hB2 : Blk (wr.alloc (.cells (bv (secL f j)).toArray 59)) wr.heap.size 59 (bya 64 fun i => f (64 * j + i)) := by
        rw [bya_sec]; exact Blk.newAt rfl
      have hr2 : RB (wr.alloc (.cells (bv (secL f j)).toArray 59)) (wr.alloc (.cells (bv (secL f j)).toArray 59)).heap.size (.slice (some ⟨wr.heap.size, 0, none⟩) 64 64) (secL f j) := by
        have := hB2.rb (fun q => q < (wr.alloc (.cells (bv (secL f j)).toArray 59)).heap.size) hB2.lt 0 64 64 (by omega) (by omega) (by omega)
        simp only [Nat.zero_add] at this
        exact this
      have hn2 : NB w (wr.alloc (.cells (bv (secL f j)).toArray 59)) := hn.alloc _
      have hjoin : (List.range (64 * j)).map f ++ secL f j = (List.range (64 * (j + 1))).map f := range_snoc f j
      have Hjoin := Lib.hid hjoin
      clear hjoin hB2
      go_wp2_with (first
        | (refine wpList_load_mid rfl 59 _ rfl sb (j * 64) rfl (bv (secL f j)) _ hsec Tryd.underlying59 rfl (by rw [bv_length, secL_length]; exact size_sector) ?_)
        | (refine wpList_var_blk rfl rfl 59 5 rfl rfl _ rfl (bv (secL f j)).toArray (bya 64 fun _ => 0) rfl rfl zero_sector 64 (by rw [List.size_toArray, bv_length, secL_length]) (bya_size _ _) size_sector (fun u hu => bv_one (secL f j) u (by simpa using hu)) ?_)
        | (at_builtin; refine append_bytes rfl _ _ rfl w.heap.size _ _ rfl ho2 _ _ _ rfl hr2 ?c1 ?c2 ?_)
        | fail)
      case c1 => simp [secL_length]; omega
      case c2 => exact hn2.size
      intro v' w3 ho3 hg3 _
      rw [Hjoin.out] at ho3
      have hn3 := hn2.own ho2 (Nat.le_refl _) hg3
      go_wp2
      exact ⟨⟨j + 1, by omega, by go_num, ho3, hn3⟩, by simp [intOf]; omega⟩
    · have hjn : j = n := by omega
      subst hjn
      have d1 : decide ((j : Int) < (j : Int)) = false := by simp
      go_wp2
      go_ret
      exact ⟨_, rfl, own_fresh ho, hn⟩
end Go.Proofs.YtgpafdagealnbaaDoor
