/- The store over a disk, in plain Lean: areas, the newest of them, what a put comes to, whenever the power goes. No program stands in this text. -/
import Derived.Test.YtgpafdagealnbaaDoorPln1
namespace Go.Proofs.YtgpafdagealnbaaDoor
open Go.RowKit

/-! ### numbers in heads -/
theorem beN_succ (n L : Nat) : beN n (L + 1) = beN (n / 256) L ++ [UInt8.ofNat n] := by
  unfold beN
  rw [List.range_succ, List.map_append]
  congr 1
  · refine List.map_congr_left fun i hi => ?_
    have hi := List.mem_range.1 hi
    rw [Nat.div_div_eq_div_mul, show (256 : Nat) = 2 ^ 8 by rfl, ← Nat.pow_add, show 8 + 8 * (L - 1 - i) = 8 * (L + 1 - 1 - i) by omega]
  · simp
theorem numB_beN (L n : Nat) (hL : L ≤ 8) : numB (beN n L) = n % 256 ^ L := by
  induction L generalizing n with
  | zero => simp [beN, numB, Nat.mod_one]
  | succ L ih =>
    rw [beN_succ, numB_snoc, ih _ (by omega), UInt8.toNat_ofNat']
    have h1 : n % 256 ^ (L + 1) = n / 256 % 256 ^ L * 256 + n % 256 := by
      rw [Nat.pow_succ, Nat.mul_comm (256 ^ L) 256, Nat.mod_mul]
      omega
    rw [h1]
    have h2 : n / 256 % 256 ^ L < 256 ^ L := Nat.mod_lt _ (Nat.pow_pos (by decide))
    have h3 : (256 : Nat) ^ L ≤ 256 ^ 7 := Nat.pow_le_pow_right (by decide) (by omega)
    have h4 : (256 : Nat) ^ 7 = 72057594037927936 := by decide
    rw [show (2 : Nat) ^ 8 = 256 by rfl]
    omega
theorem beN_getD (n L i : Nat) (h : i < L) : (beN n L)[i]? = some ((beN n L).getD i 0) := by
  rw [List.getD_eq_getElem?_getD, List.getElem?_eq_getElem (by rw [beN_length]; exact h)]
  rfl
theorem map_getD (l : List UInt8) (n : Nat) (h : l.length = n) : (List.range n).map (fun i => l.getD i 0) = l := by
  apply List.ext_getElem?
  intro i
  by_cases hi : i < n
  · rw [List.getElem?_map, List.getElem?_range hi, Option.map_some, List.getD_eq_getElem?_getD, List.getElem?_eq_getElem (by omega)]
    rfl
  · rw [List.getElem?_eq_none (by simp; omega), List.getElem?_eq_none (by omega)]
theorem numAt_congr {f g : Nat → UInt8} {o n : Nat} (h : ∀ i, i < n → f (o + i) = g (o + i)) : numAt f o n = numAt g o n := by
  unfold numAt
  rw [List.map_congr_left fun i hi => h i (List.mem_range.1 hi)]
theorem headF_4 (n : Nat) (r : List UInt8) (i : Nat) (hi : i < 8) : headF n r (4 + i) = (beN n 8).getD i 0 := by
  unfold headF
  rw [ov_out _ _ _ _ (by rw [sha256_length]; omega), ov_out _ _ _ _ (by rw [beN_length]; omega), ov_in _ _ _ _ (by omega) (by rw [beN_length]; omega), show 4 + i - 4 = i by omega]
theorem headF_12 (n : Nat) (r : List UInt8) (i : Nat) (hi : i < 4) : headF n r (12 + i) = (beN r.length 4).getD i 0 := by
  unfold headF
  rw [ov_out _ _ _ _ (by rw [sha256_length]; omega), ov_in _ _ _ _ (by omega) (by rw [beN_length]; omega), show 12 + i - 12 = i by omega]
theorem num_head (n : Nat) (r : List UInt8) (hn : n < 18446744073709551616) : numAt (headF n r) 4 8 = n := by
  unfold numAt
  rw [List.map_congr_left fun i hi => headF_4 n r i (List.mem_range.1 hi), map_getD _ 8 (beN_length _ _), numB_beN 8 n (by omega)]
  have h4 : (256 : Nat) ^ 8 = 18446744073709551616 := by decide
  rw [h4]
  omega
theorem len_head (n : Nat) (r : List UInt8) (hr : r.length < 4294967296) : numAt (headF n r) 12 4 = r.length := by
  unfold numAt
  rw [List.map_congr_left fun i hi => headF_12 n r i (List.mem_range.1 hi), map_getD _ 4 (beN_length _ _), numB_beN 4 _ (by omega)]
  have h4 : (256 : Nat) ^ 4 = 4294967296 := by decide
  rw [h4]
  omega

/-! ### areas -/
theorem areaF_congr {f g : Nat → UInt8} {p n : Nat} (hn : 1 ≤ n) (h : ∀ i, 64 * p ≤ i → i < 64 * (p + n) → f i = g i) : areaF f p (64 * (n - 1)) = areaF g p (64 * (n - 1)) := by
  have e1 : numAt f (64 * p + 4) 8 = numAt g (64 * p + 4) 8 := numAt_congr fun i hi => h _ (by omega) (by omega)
  have e2 : numAt f (64 * p + 12) 4 = numAt g (64 * p + 12) 4 := numAt_congr fun i hi => h _ (by omega) (by omega)
  simp only [areaF]
  rw [e1, e2]
  by_cases hc : numAt g (64 * p + 4) 8 = 0 ∨ 64 * (n - 1) < numAt g (64 * p + 12) 4
  · rw [if_pos hc, if_pos hc]
  · have e3 : (List.range (numAt g (64 * p + 12) 4)).map (fun i => f (64 * (p + 1) + i)) = (List.range (numAt g (64 * p + 12) 4)).map (fun i => g (64 * (p + 1) + i)) :=
      List.map_congr_left fun i hi => by
        have hi := List.mem_range.1 hi
        exact h _ (by omega) (by omega)
    have e4 : (List.range 64).map (fun i => f (64 * p + i)) = (List.range 64).map (fun i => g (64 * p + i)) :=
      List.map_congr_left fun i hi => by
        have hi := List.mem_range.1 hi
        exact h _ (by omega) (by omega)
    rw [if_neg hc, if_neg hc, e3, e4]
theorem areaF_zero {f : Nat → UInt8} {p room : Nat} (h : ∀ i, i < 64 → f (64 * p + i) = 0) : areaF f p room = none := by
  have e1 : numAt f (64 * p + 4) 8 = 0 := by
    have : numAt f (64 * p + 4) 8 = numAt (fun _ => 0) (64 * p + 4) 8 := numAt_congr fun i hi => by rw [show 64 * p + 4 + i = 64 * p + (4 + i) by omega]; exact h _ (by omega)
    rw [this]
    simp [numAt, numB, List.range, List.range.loop]
  simp only [areaF]
  rw [if_pos (.inl e1)]
theorem areaF_head {f : Nat → UInt8} {p room g : Nat} {r : List UInt8} (hg0 : g ≠ 0) (hg : g < 18446744073709551616) (hr : r.length ≤ room) (hr2 : r.length < 4294967296)
    (h : ∀ i, i < 64 → f (64 * p + i) = headF g r i) (hb : ∀ i, i < r.length → f (64 * (p + 1) + i) = byteAt r i) : areaF f p room = some (g, r) := by
  have e1 : numAt f (64 * p + 4) 8 = g := by
    have : numAt f (64 * p + 4) 8 = numAt (headF g r) 4 8 := by
      unfold numAt
      refine congrArg numB (List.map_congr_left fun i hi => ?_)
      have hi := List.mem_range.1 hi
      rw [show 64 * p + 4 + i = 64 * p + (4 + i) by omega]
      exact h _ (by omega)
    rw [this, num_head g r hg]
  have e2 : numAt f (64 * p + 12) 4 = r.length := by
    have : numAt f (64 * p + 12) 4 = numAt (headF g r) 12 4 := by
      unfold numAt
      refine congrArg numB (List.map_congr_left fun i hi => ?_)
      have hi := List.mem_range.1 hi
      rw [show 64 * p + 12 + i = 64 * p + (12 + i) by omega]
      exact h _ (by omega)
    rw [this, len_head g r hr2]
  simp only [areaF]
  rw [e1, e2, if_neg (by omega)]
  have e3 : (List.range r.length).map (fun i => f (64 * (p + 1) + i)) = r := by
    rw [List.map_congr_left fun i hi => hb i (List.mem_range.1 hi)]
    exact map_getD r _ rfl
  rw [e3, if_pos (List.map_congr_left fun i hi => h i (List.mem_range.1 hi))]

/-! ### the newest -/
def newestF : Option (Nat × List UInt8) → Option (Nat × List UInt8) → Int × Nat × List UInt8
  | none, none => (-1, 0, [])
  | some x, none => (0, x.1, x.2)
  | none, some y => (1, y.1, y.2)
  | some x, some y => if x.1 < y.1 then (1, y.1, y.2) else (0, x.1, x.2)
def Dsk.area (D : Dsk) (from_ n k : Nat) : Option (Nat × List UInt8) := areaF D.cur (from_ + k * n) (64 * (n - 1))
def Dsk.newest (D : Dsk) (from_ n : Nat) : Int × Nat × List UInt8 := newestF (D.area from_ n 0) (D.area from_ n 1)
theorem area_pos {f : Nat → UInt8} {p room g : Nat} {r : List UInt8} (h : areaF f p room = some (g, r)) : g ≠ 0 ∧ g < 18446744073709551616 ∧ r.length ≤ room := by
  simp only [areaF] at h
  split at h
  · cases h
  · rename_i hc
    split at h
    · injection h with h
      injection h with h1 h2
      subst h1
      subst h2
      refine ⟨fun e => hc (.inl e), numB_lt _, ?_⟩
      simp only [List.length_map, List.length_range]
      omega
    · cases h
theorem newest_cases {P : Nat × List UInt8 → Prop} (a0 a1 : Option (Nat × List UInt8)) (h0 : ∀ x, a0 = some x → P x) (h1 : ∀ x, a1 = some x → P x) :
    newestF a0 a1 = (-1, 0, []) ∧ a0 = none ∧ a1 = none ∨ (∃ x, a0 = some x ∧ newestF a0 a1 = (0, x.1, x.2) ∧ P x) ∨ ∃ y, a1 = some y ∧ newestF a0 a1 = (1, y.1, y.2) ∧ P y := by
  rcases a0 with _ | x <;> rcases a1 with _ | y
  · exact .inl ⟨rfl, rfl, rfl⟩
  · exact .inr (.inr ⟨y, rfl, rfl, h1 y rfl⟩)
  · exact .inr (.inl ⟨x, rfl, rfl, h0 x rfl⟩)
  · by_cases hlt : x.1 < y.1
    · exact .inr (.inr ⟨y, rfl, by simp [newestF, hlt], h1 y rfl⟩)
    · exact .inr (.inl ⟨x, rfl, by simp [newestF, hlt], h0 x rfl⟩)

/-! ### a put -/
def Dsk.putAt (D : Dsk) (to g : Nat) (b : List UInt8) : Int × Dsk :=
  if (D.step to (List.replicate 64 0)).1 = 0 then
    if ((D.step to (List.replicate 64 0)).2.step (to + 1) b).1 = 0 then ((D.step to (List.replicate 64 0)).2.step (to + 1) b).2.step to (headB g b)
    else (D.step to (List.replicate 64 0)).2.step (to + 1) b
  else D.step to (List.replicate 64 0)
def Dsk.toOf (D : Dsk) (from_ n : Nat) : Nat := if (D.newest from_ n).1 = 0 then from_ + n else from_
def Dsk.put (D : Dsk) (from_ n : Nat) (b : List UInt8) : Int × Dsk :=
  if D.down then (60, D)
  else if 64 * (n - 1) < b.length ∨ (D.newest from_ n).2.1 = 18446744073709551615 then (2, D)
  else D.putAt (D.toOf from_ n) ((D.newest from_ n).2.1 + 1) b

theorem headB_F (g : Nat) (b : List UInt8) (i : Nat) (hi : i < 64) : byteAt (headB g b) i = headF g b i := by
  unfold byteAt headB headF
  simp only [List.getD_eq_getElem?_getD]
  by_cases h1 : i < 4
  · rw [ov_out _ _ _ _ (by rw [sha256_length]; omega), ov_out _ _ _ _ (by rw [beN_length]; omega), ov_out _ _ _ _ (by rw [beN_length]; omega), ov_in _ _ _ _ (by omega) (by simp; omega)]
    rw [List.append_assoc, List.append_assoc, List.append_assoc, List.getElem?_append_left (by simp; omega), List.getD_eq_getElem?_getD]
    rfl
  · by_cases h2 : i < 12
    · rw [ov_out _ _ _ _ (by rw [sha256_length]; omega), ov_out _ _ _ _ (by rw [beN_length]; omega), ov_in _ _ _ _ (by omega) (by rw [beN_length]; omega)]
      rw [List.append_assoc, List.append_assoc, List.append_assoc, List.getElem?_append_right (by simp; omega), List.getElem?_append_left (by simp [beN_length]; omega), List.getD_eq_getElem?_getD]
      rfl
    · by_cases h3 : i < 16
      · rw [ov_out _ _ _ _ (by rw [sha256_length]; omega), ov_in _ _ _ _ (by omega) (by rw [beN_length]; omega)]
        rw [List.append_assoc, List.append_assoc, List.getElem?_append_right (by simp [beN_length]; omega), List.getElem?_append_left (by simp [beN_length]; omega), List.getD_eq_getElem?_getD]
        simp [beN_length]
      · by_cases h4 : i < 48
        · rw [ov_in _ _ _ _ (by omega) (by rw [sha256_length]; omega)]
          rw [List.append_assoc, List.getElem?_append_right (by simp [beN_length]; omega), List.getElem?_append_left (by simp [beN_length, sha256_length]; omega), List.getD_eq_getElem?_getD]
          simp [beN_length]
        · rw [ov_out _ _ _ _ (by rw [sha256_length]; omega), ov_out _ _ _ _ (by rw [beN_length]; omega), ov_out _ _ _ _ (by rw [beN_length]; omega), ov_out _ _ _ _ (by simp; omega)]
          rw [List.getElem?_append_right (by simp [beN_length, sha256_length]; omega), List.getElem?_replicate]
          split <;> rfl

theorem cur_flat (D : Dsk) (h : D.held = []) : D.cur = D.f := by unfold Dsk.cur; rw [h]; rfl
theorem need_64 : needN 64 = 1 := rfl

/-- What a put into area 'to' leaves. -/
structure PutLeaves (D D' : Dsk) (e : Int) (to n g : Nat) (b : List UInt8) : Prop where
  sz : D'.n = D.n
  held : D'.held = []
  done : e = 0 ∧ D'.down = false ∧ D'.set = D.set ∧ D'.choice = D.choice ∧ (∀ i, ¬ (64 * to ≤ i ∧ i < 64 * (to + n)) → D'.f i = D.cur i) ∧ areaF D'.f to (64 * (n - 1)) = some (g, b) ∨
    e = 60 ∧ D'.down = true ∧ D.set = true ∧ (D.held = [] → (∀ i, ¬ (64 * to ≤ i ∧ i < 64 * (to + n)) → D'.f i = D.f i) ∧
      (areaF D'.f to (64 * (n - 1)) = areaF D.f to (64 * (n - 1)) ∨ areaF D'.f to (64 * (n - 1)) = none ∨ areaF D'.f to (64 * (n - 1)) = some (g, b)))

theorem sel_far {f f' : Nat → UInt8} {at_ : Nat} {b : List UInt8} (h : SelF f f' (seqL at_ (secs b))) (i : Nat) (hi : ¬ (64 * at_ ≤ i ∧ i < 64 * (at_ + needN b.length))) : f' i = f i := by
  rcases h (i / 64) with h | ⟨c, hc, _⟩
  · have := h (i % 64) (Nat.mod_lt _ (by decide))
    rwa [show 64 * (i / 64) + i % 64 = i by omega] at this
  · obtain ⟨q1, q2, _⟩ := seqL_mem _ _ _ hc
    rw [secs_length] at q2
    simp only at q1 q2
    omega
theorem sel_near {f f' : Nat → UInt8} {at_ : Nat} {b : List UInt8} (h : SelF f f' (seqL at_ (secs b))) (hb : b.length = 64) : (∀ i, i < 64 → f' (64 * at_ + i) = f (64 * at_ + i)) ∨ ∀ i, i < 64 → f' (64 * at_ + i) = byteAt b i := by
  rcases h at_ with h | ⟨c, hc, h⟩
  · exact .inl h
  · refine .inr fun i hi => ?_
    obtain ⟨q1, q2, q3⟩ := seqL_mem _ _ _ hc
    have q3' : c = (secs b).getD (at_ - at_) [] := q3
    rw [h i hi, q3', Nat.sub_self, secs_getD _ _ (by rw [hb]; decide), secOf_getD _ _ _ hi]
    simp
theorem zeros_byte (i : Nat) : byteAt (List.replicate 64 0) i = 0 := by
  unfold byteAt
  rw [List.getD_eq_getElem?_getD, List.getElem?_replicate]
  split <;> rfl

theorem putAt_leaves (D : Dsk) (to n g : Nat) (b : List UInt8) (hd : D.down = false) (hW : ∀ h ∈ D.held, h.2.length = 64) (h2 : 2 ≤ n) (hn : to + n ≤ D.n) (hb : b.length ≤ 64 * (n - 1)) (hb2 : b.length < 4294967296)
    (hg0 : g ≠ 0) (hg : g < 18446744073709551616) : PutLeaves D (D.putAt to g b).2 (D.putAt to g b).1 to n g b := by
  have hnb : needN b.length ≤ n - 1 := by unfold needN; omega
  have hnl : b.length ≤ 64 * needN b.length := by unfold needN; omega
  have hz : (List.replicate 64 (0 : UInt8)).length = 64 := List.length_replicate
  have hhb : (headB g b).length = 64 := headB_length g b
  obtain ⟨a1, a2, a3⟩ := step_ran D to (List.replicate 64 0) hd (by rw [hz, need_64]; omega) hW
  unfold Dsk.putAt
  rcases a3 with ⟨b1, b2, b3, b4, b5⟩ | ⟨b1, b2, b3, b4⟩
  · rw [if_pos b1]
    generalize hD1 : (D.step to (List.replicate 64 0)).2 = D1 at *
    obtain ⟨c1, c2, c3⟩ := step_ran D1 (to + 1) b b2 (by rw [a1]; omega) (fun h hh => by rw [a2] at hh; cases hh)
    have f1 : ∀ i, D1.f i = if 64 * to ≤ i ∧ i < 64 * (to + 1) then 0 else D.cur i := fun i => by
      rw [b3, lay_bytes, hz, need_64, zeros_byte]
    rcases c3 with ⟨d1, d2, d3, d4, d5⟩ | ⟨d1, d2, d3, d4⟩
    · rw [if_pos d1]
      generalize hD2 : (D1.step (to + 1) b).2 = D2 at *
      obtain ⟨e1, e2, e3⟩ := step_ran D2 to (headB g b) d2 (by rw [c1, a1, hhb, need_64]; omega) (fun h hh => by rw [c2] at hh; cases hh)
      have f2 : ∀ i, D2.f i = if 64 * (to + 1) ≤ i ∧ i < 64 * (to + 1 + needN b.length) then byteAt b (i - 64 * (to + 1)) else D1.f i := fun i => by
        rw [d3, lay_bytes, cur_flat D1 a2]
      have hrec : ∀ i, i < b.length → D2.f (64 * (to + 1) + i) = byteAt b i := fun i hi => by
        rw [f2, if_pos (by omega), show 64 * (to + 1) + i - 64 * (to + 1) = i by omega]
      have hfar : ∀ i, ¬ (64 * to ≤ i ∧ i < 64 * (to + n)) → D2.f i = D.cur i := fun i hi => by
        rw [f2, if_neg (by omega), f1, if_neg (by omega)]
      rcases e3 with ⟨g1, g2, g3, g4, g5⟩ | ⟨g1, g2, g3, g4⟩
      · have f3 : ∀ i, ((D2.step to (headB g b)).2).f i = if 64 * to ≤ i ∧ i < 64 * (to + 1) then byteAt (headB g b) (i - 64 * to) else D2.f i := fun i => by
          rw [g3, lay_bytes, hhb, need_64, cur_flat D2 c2]
        refine ⟨e1.trans (c1.trans a1), e2, .inl ⟨g1, g2, g4.trans (d4.trans b4), g5.trans (d5.trans b5), fun i hi => by rw [f3, if_neg (by omega)]; exact hfar i hi, ?_⟩⟩
        refine areaF_head hg0 hg hb hb2 (fun i hi => ?_) fun i hi => ?_
        · rw [f3, if_pos (by omega), show 64 * to + i - 64 * to = i by omega, headB_F g b i hi]
        · rw [f3, if_neg (by omega), hrec i hi]
      · rw [c2, List.nil_append] at g3
        refine ⟨e1.trans (c1.trans a1), e2, .inr ⟨g1, g2, (d4.trans b4).symm.trans g4, fun hh => ?_⟩⟩
        have hf3 : ∀ i, ¬ (64 * to ≤ i ∧ i < 64 * (to + 1)) → ((D2.step to (headB g b)).2).f i = D2.f i := fun i hi => sel_far g3 i (by rw [hhb, need_64]; exact hi)
        refine ⟨fun i hi => by rw [hf3 i (by omega), hfar i hi, cur_flat D hh], ?_⟩
        rcases sel_near g3 hhb with q | q
        · refine .inr (.inl (areaF_zero fun i hi => ?_))
          rw [q i hi, f2, if_neg (by omega), f1, if_pos (by omega)]
        · refine .inr (.inr (areaF_head hg0 hg hb hb2 (fun i hi => by rw [q i hi, headB_F g b i hi]) fun i hi => by rw [hf3 _ (by omega), hrec i hi]))
    · rw [if_neg (by rw [d1]; decide)]
      rw [a2, List.nil_append] at d3
      refine ⟨c1.trans a1, c2, .inr ⟨d1, d2, b4.symm.trans d4, fun hh => ⟨fun i hi => ?_, .inr (.inl (areaF_zero fun i hi => ?_))⟩⟩⟩
      · rw [sel_far d3 i (by omega), f1, if_neg (by omega), cur_flat D hh]
      · rw [sel_far d3 _ (by omega), f1, if_pos (by omega)]
  · rw [if_neg (by rw [b1]; decide)]
    refine ⟨a1, a2, .inr ⟨b1, b2, b4, fun hh => ?_⟩⟩
    rw [hh, List.nil_append] at b3
    have hf : ∀ i, ¬ (64 * to ≤ i ∧ i < 64 * (to + 1)) → ((D.step to (List.replicate 64 0)).2).f i = D.f i := fun i hi => sel_far b3 i (by rw [hz, need_64]; exact hi)
    refine ⟨fun i hi => hf i (by omega), ?_⟩
    rcases sel_near b3 hz with q | q
    · refine .inl (areaF_congr (by omega) fun i h1 h2 => ?_)
      by_cases hi : i < 64 * (to + 1)
      · have := q (i - 64 * to) (by omega)
        rwa [show 64 * to + (i - 64 * to) = i by omega] at this
      · exact hf i (by omega)
    · exact .inr (.inl (areaF_zero fun i hi => by rw [q i hi, zeros_byte]))
end Go.Proofs.YtgpafdagealnbaaDoor
