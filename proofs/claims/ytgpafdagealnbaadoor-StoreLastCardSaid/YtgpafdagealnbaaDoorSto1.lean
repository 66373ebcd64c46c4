/- Walks over store's digest, number, put, headOf. -/
import Derived.Test.YtgpafdagealnbaaDoorSha10
import Derived.Test.YtgpafdagealnbaaDoorByt
namespace Go.Proofs.YtgpafdagealnbaaDoor
open Go.RowKit

/-! ### digest -/
theorem HRep.new {B g : Nat} {w : World} (hg : B ≤ g) (hB : Blk w g 127 (hashA 0 (.slice none 0 0) R8.init)) : HRep B w g [] :=
  ⟨hg, .slice none 0 0, hB, OB.nil _ _⟩

set_option maxRecDepth 100000 in
set_option maxHeartbeats 1000000 in
theorem digest_any (v1 v2 : Value) (l1 l2 : List UInt8) (w : World) (hT : Tabs w) (h1 : RB w w.heap.size v1 l1) (h2 : RB w w.heap.size v2 l2) (hlen : l1.length + l2.length ≤ 1048576) :
    Calls Tryd.prog 45 #[v1, v2] w fun e w' => ∃ v, e = .returned v ∧ RB w' w'.heap.size v (sha256 (l1 ++ l2)) ∧ NB w w' := by
  have hBs := hT.lt
  go_enter Tryd.func45, Tryd.ntmps45
  go_wp2_with fail
  refine (new256 _ hT).mono ?_
  rintro e w1 ⟨g, rfl, hg, hB1, hn1⟩
  have hT1 := hT.nb hn1
  go_wp2_with fail
  refine (hwrite_any w.heap.size g [] v1 l1 _ hT1 hBs hn1.size (HRep.new hg hB1) (h1.below hn1) (by simp; omega)).mono ?_
  rintro e w2 ⟨rfl, hH2, hb2⟩
  have hn2 : NB w w2 := Below.trans hn1 hb2
  go_wp2_with fail
  refine (hwrite_any w.heap.size g ([] ++ l1) v2 l2 _ (hT.nb hn2) hBs hn2.size hH2 (h2.below hn2) (by simpa using hlen)).mono ?_
  rintro e w3 ⟨rfl, hH3, hb3⟩
  have hn3 : NB w w3 := Below.trans hn2 hb3
  go_wp2_with fail
  refine (hsum_any w.heap.size g ([] ++ l1 ++ l2) _ (hT.nb hn3) hBs hn3.size hH3 (by simpa using hlen)).mono ?_
  rintro e w4 ⟨v, rfl, hv, hn4⟩
  go_wp2
  go_ret
  exact ⟨_, rfl, hv, hn3.trans hn4⟩

/-! ### number -/
/-- Bytes as a number, the greatest first. -/
def numB (l : List UInt8) : Nat := l.foldl (fun n c => (n * 256 + c.toNat) % 18446744073709551616) 0
theorem numB_lt (l : List UInt8) : numB l < 18446744073709551616 := by
  unfold numB
  rcases List.eq_nil_or_concat l with rfl | ⟨l', c, rfl⟩
  · decide
  · rw [List.concat_eq_append, List.foldl_append]
    exact Nat.mod_lt _ (by decide)
theorem numB_snoc (l : List UInt8) (c : UInt8) : numB (l ++ [c]) = (numB l * 256 + c.toNat) % 18446744073709551616 := by simp [numB]
theorem num_int (n : Nat) (c : UInt8) : bits .or .u64 (IntKind.u64.wrap ((n : Int) * 256)) (c.toNat : Int) = (((n * 256 + c.toNat) % 18446744073709551616 : Nat) : Int) := by
  have hc := c.toNat_lt
  rw [show IntKind.u64.wrap ((n : Int) * 256) = ((n * 256 % 18446744073709551616 : Nat) : Int) by simp [IntKind.wrap, IntKind.bits, IntKind.signed]]
  rw [u64_or_nat _ _ (Nat.mod_lt _ (by decide)) (by omega)]
  congr 1
  rw [nat_join 8 _ _ (by omega) (by omega)]
  omega

set_option maxHeartbeats 400000 in
theorem number_any (v : Value) (l : List UInt8) (S : Nat → Prop) (w : World) (hv : RBP w S v l) :
    Calls Tryd.prog 62 #[v] w fun e w' => e = .returned (.int .u64 (numB l)) ∧ w = w' := by
  obtain ⟨A, c, rfl, h1, h2, h3⟩ := hv
  go_enter Tryd.func62, Tryd.ntmps62
  go_wp2
  go_loop [3, 8] (fun x i => ∃ k : Nat, k ≤ l.length ∧ i = .int .i64 k ∧ x = .int .u64 (numB (l.take k))) (fun _ i => l.length - (intOf i).toNat)
  case atStart => exact ⟨0, by omega, rfl, rfl⟩
  case round =>
    obtain ⟨k, hk, rfl, rfl⟩ := hrel
    have hlt0 := numB_lt (l.take k)
    by_cases hlt : k < l.length
    · obtain ⟨g, o, rfl, _, hc⟩ := h3 (by omega)
      have hcell := hc k l[k] (List.getElem?_eq_getElem hlt)
      have hs : numB (l.take (k + 1)) = (numB (l.take k) * 256 + l[k].toNat) % 18446744073709551616 := by
        rw [List.take_succ_eq_append_getElem hlt, numB_snoc]
      have Hs := Lib.hid hs
      clear hs
      have hb : l[k].toNat < 256 := l[k].toNat_lt
      clear hc h3
      generalize numB (l.take k) = n at *
      generalize l[k] = b at *
      go_wp2
      go_round
      case rel => exact ⟨k + 1, by omega, by go_num, by rw [Hs.out, num_int]⟩
      case measure => simp [intOf]; omega
    · have : k = l.length := by omega
      subst this
      rw [List.take_length] at *
      go_wp2
      go_ret
      exact ⟨rfl, rfl⟩

/-! ### put -/
/-- A number in so many bytes, the greatest first. -/
def beN (n L : Nat) : List UInt8 := (List.range L).map fun i => UInt8.ofNat (n / 2 ^ (8 * (L - 1 - i)))
theorem beN_length (n L : Nat) : (beN n L).length = L := by simp [beN]
/-- .. of which the last j are laid from place o on. -/
def putf (f : Nat → UInt8) (n o L j : Nat) (i : Nat) : UInt8 := if o + L - j ≤ i ∧ i < o + L then UInt8.ofNat (n / 2 ^ (8 * (o + L - 1 - i))) else f i
theorem putf_none (f : Nat → UInt8) (n o L : Nat) : putf f n o L 0 = f := by
  funext i; unfold putf; rw [if_neg (by omega)]
theorem putf_all (f : Nat → UInt8) (n o L : Nat) : putf f n o L L = ov f o (beN n L) := by
  funext i
  unfold putf ov
  rw [beN_length, show o + L - L = o by omega]
  by_cases h : o ≤ i ∧ i < o + L
  · rw [if_pos h, if_pos h, List.getD_eq_getElem?_getD]
    simp only [beN, List.getElem?_map, List.getElem?_range (show i - o < L by omega), Option.map_some, Option.getD_some]
    rw [show L - 1 - (i - o) = o + L - 1 - i by omega]
  · rw [if_neg h, if_neg h]
theorem putf_next (f : Nat → UInt8) (n o L j : Nat) (hj : j < L) (i : Nat) : putf f n o L (j + 1) i = if i = o + (L - 1 - j) then UInt8.ofNat (n / 2 ^ (8 * j)) else putf f n o L j i := by
  unfold putf
  by_cases e : i = o + (L - 1 - j)
  · rw [if_pos e, if_pos (by omega), show o + L - 1 - i = j by omega]
  · rw [if_neg e]
    by_cases h : o + L - j ≤ i ∧ i < o + L
    · rw [if_pos h, if_pos (by omega)]
    · rw [if_neg h, if_neg (by omega)]
theorem put_byte (n : Nat) : ((n : Int) % 256) = ((UInt8.ofNat n).toNat : Int) := by
  rw [UInt8.toNat_ofNat']; simp
theorem put_shift (n j : Nat) : n / 2 ^ (8 * j) / 256 = n / 2 ^ (8 * (j + 1)) := by
  rw [Nat.div_div_eq_div_mul, show 8 * (j + 1) = 8 * j + 8 by omega, Nat.pow_add]

set_option maxHeartbeats 400000 in
theorem put_any (g o L c N : Nat) (n : Nat) (hn : n < 18446744073709551616) (hoL : o + L ≤ N) (t : TypeId) (f : Nat → UInt8) (hL : 0 < L) (hLs : L ≤ 1000) (w : World) (hB : Blk w g t (bya N f)) :
    Calls Tryd.prog 44 #[.slice (some ⟨g, o, none⟩) L c, .int .u64 n] w fun e w' => e = .returned (.tuple #[]) ∧ Blk w' g t (bya N (ov f o (beN n L))) ∧ Fr w.heap.size (· = g) w w' := by
  go_enter Tryd.func44, Tryd.ntmps44
  go_wp2
  go_loopw [1, 4] (fun x i wr => ∃ j : Nat, j ≤ L ∧ i = .int .i64 ((L : Int) - 1 - j) ∧ x = .int .u64 ((n / 2 ^ (8 * j) : Nat) : Int) ∧ Blk wr g t (bya N (putf f n o L j)) ∧ Fr w.heap.size (· = g) w wr) (fun _ i _ => (intOf i + 1).toNat)
  case atStart => exact ⟨0, by omega, by simp, by simp, by rw [putf_none]; exact hB, Fr.refl _ _ _⟩
  case round =>
    obtain ⟨j, hj, rfl, rfl, hB, hF⟩ := hrel
    have hq : n / 2 ^ (8 * j) < 18446744073709551616 := Nat.lt_of_le_of_lt (Nat.div_le_self _ _) hn
    have hpb := put_byte (n / 2 ^ (8 * j))
    have hps := put_shift n j
    generalize hm : n / 2 ^ (8 * j) = m at *
    have Hm := Lib.hid hm
    clear hm
    by_cases hlt : j < L
    · have hi1 : (0 : Int) ≤ (L : Int) - 1 - j := by omega
      have hi2 : (L : Int) - 1 - j < L := by omega
      have hi3 : ((L : Int) - 1 - j).toNat = L - 1 - j := by omega
      have d0 := hB.bya_cell (i := o + (L - 1 - j)) (by omega)
      have f0 := hB.frozen (o + (L - 1 - j))
      have Hpb := Lib.hid hpb
      have Hps := Lib.hid hps
      clear hpb hps
      go_wp2
      go_roundw
      case rel =>
        refine ⟨j + 1, by omega, by congr 1; omega, ?_, ?_, hF.setCell (.inl rfl) _⟩
        · rw [← Hps.out]; simp
        · rw [Hpb.out]
          have h := hB.set_ (o + (L - 1 - j)) (.int .u8 ((UInt8.ofNat m).toNat : Int))
          rw [bya_set] at h
          rw [bya_congr fun i _ => putf_next f n o L j hlt i, Hm.out]
          exact h
      case measure => simp [intOf]; omega
    · have hjL : j = L := by omega
      subst hjL
      go_wp2
      go_end0
      rw [putf_all] at hB
      exact ⟨rfl, hB, hF⟩

/-! ### headOf -/
theorem size_head : (Tryd.prog.info? 65).map (·.size) = some 64 := by kernel_rfl
theorem zero_head (w : World) : (zeroValue 65).run Tryd.prog w = .ok (.agg (bya 64 fun _ => 0)) w := by kernel_rfl
/-- The head of a record. -/
def headB (n : Nat) (rec : List UInt8) : List UInt8 := [73, 77, 80, 82] ++ beN n 8 ++ beN rec.length 4 ++ sha256 (beN n 8 ++ rec) ++ List.replicate 16 0
theorem headB_length (n : Nat) (rec : List UInt8) : (headB n rec).length = 64 := by simp [headB, beN_length, sha256_length]
def headF (n : Nat) (rec : List UInt8) : Nat → UInt8 := ov (ov (ov (ov (fun _ => 0) 0 [73, 77, 80, 82]) 4 (beN n 8)) 12 (beN rec.length 4)) 16 (sha256 (beN n 8 ++ rec))
theorem Tabs.setRow {w : World} (h : Tabs w) {g : Nat} (h1 : g ≠ 1) (h2 : g ≠ 0) (cs : Array Value) : Tabs (w.setRow g cs) :=
  ⟨fun i hi => (World.cell?_of_block (setRow_other _ _ _ _ (Ne.symm h1))).trans (h.k i hi), fun i hi => (World.cell?_of_block (setRow_other _ _ _ _ (Ne.symm h2))).trans (h.h i hi)⟩

set_option maxRecDepth 100000 in
set_option maxHeartbeats 1000000 in
theorem headOf_any (n : Nat) (hn : n < 18446744073709551616) (v : Value) (l : List UInt8) (w : World) (hT : Tabs w) (hv : RB w w.heap.size v l) (hlen : l.length ≤ 1048000) :
    Calls Tryd.prog 30 #[.int .u64 n, v] w fun e w' => e = .returned (.agg (bya 64 (headF n l))) ∧ NB w w' := by
  have hz := zero_head
  have hBs := hT.lt
  obtain ⟨A, c, rfl, _, _, _⟩ := id hv
  go_enter Tryd.func30, Tryd.ntmps30
  go_wp2_with (first | (refine wpList_copy_str rfl _ _ 22 _ rfl 5 Tryd.underlying22 size_u8 (w.heap.size + 1) 0 64 64 64 rfl 65 (fun _ => 0) (Blk.newAt (by simp)) _ rfl (by decide) (by decide) ?_) | fail)
  have hB1 : Blk ((((w.alloc (Obj.cells (bya 64 fun _ => 0) 65)).alloc (Obj.cells (bya 64 fun _ => 0) 65)).setRow (w.heap.size + 1) (bya 64 (ov (fun _ => 0) 0 [73, 77, 80, 82])))) (w.heap.size + 1) 65 (bya 64 (ov (fun _ => 0) 0 [73, 77, 80, 82])) := Blk.setRow (Blk.newAt (by simp)) _
  have hR1 : Blk ((((w.alloc (Obj.cells (bya 64 fun _ => 0) 65)).alloc (Obj.cells (bya 64 fun _ => 0) 65)).setRow (w.heap.size + 1) (bya 64 (ov (fun _ => 0) 0 [73, 77, 80, 82])))) w.heap.size 65 (bya 64 fun _ => 0) := ((Blk.newAt rfl).alloc _).setRow_far (by omega) _
  have hn1 : NB w ((((w.alloc (Obj.cells (bya 64 fun _ => 0) 65)).alloc (Obj.cells (bya 64 fun _ => 0) 65)).setRow (w.heap.size + 1) (bya 64 (ov (fun _ => 0) 0 [73, 77, 80, 82])))) := (((NB.refl w).alloc _).alloc _).setRow (by omega) _
  generalize (((w.alloc (Obj.cells (bya 64 fun _ => 0) 65)).alloc (Obj.cells (bya 64 fun _ => 0) 65)).setRow (w.heap.size + 1) (bya 64 (ov (fun _ => 0) 0 [73, 77, 80, 82]))) = w1 at *
  refine (put_any (w.heap.size + 1) 4 8 60 64 n hn (by omega) 65 _ (by omega) (by omega) _ hB1).mono ?_
  rintro e w2 ⟨rfl, hB2, hF2⟩
  have hR2 : Blk w2 w.heap.size 65 (bya 64 fun _ => 0) := hR1.fr hF2 hR1.lt (by omega)
  have hn2 : NB w w2 := Below.trans hn1 (hF2.below hn1.size (fun k hk e => by omega))
  go_wp2_with fail
  refine (put_any (w.heap.size + 1) 12 4 52 64 l.length (by omega) (by omega) 65 _ (by omega) (by omega) _ hB2).mono ?_
  rintro e w3 ⟨rfl, hB3, hF3⟩
  have hR3 : Blk w3 w.heap.size 65 (bya 64 fun _ => 0) := hR2.fr hF3 hR2.lt (by omega)
  have hn3 : NB w w3 := Below.trans hn2 (hF3.below hn2.size (fun k hk e => by omega))
  go_wp2
  have hgen : RB w3 w3.heap.size (.slice (some ⟨w.heap.size + 1, 4, none⟩) 8 60) (beN n 8) := by
    have h := hB3.rb (fun k => k < w3.heap.size) hB3.lt 4 8 60 (by omega) (by omega) (by omega)
    have e : (List.range 8).map (fun i => ov (ov (ov (fun _ => 0) 0 [73, 77, 80, 82]) 4 (beN n 8)) 12 (beN l.length 4) (4 + i)) = beN n 8 := by
      apply List.ext_getElem?
      intro i
      by_cases hi : i < 8
      · simp only [List.getElem?_map, List.getElem?_range hi, Option.map_some]
        unfold ov
        rw [beN_length, beN_length, if_neg (by omega), if_pos (by omega), show 4 + i - 4 = i by omega, List.getD_eq_getElem?_getD, List.getElem?_eq_getElem (by rw [beN_length]; exact hi)]
        rfl
      · rw [List.getElem?_eq_none (by simp; omega), List.getElem?_eq_none (by rw [beN_length]; omega)]
    rw [e] at h
    exact h
  have htk : (sha256 (beN n 8 ++ l)).take 32 = sha256 (beN n 8 ++ l) := List.take_of_length_le (by rw [sha256_length]; exact Nat.le_refl _)
  have Htk := Lib.hid htk
  clear htk
  go_region_held3 (fun _ => True) (exact trivial) (first
    | (go_at_call 45; refine (digest_any _ _ (beN n 8) l _ (hT.nb (hn3.drew)) hgen (RB.size (RB.below hv (hn3.drew))) (by rw [beN_length]; omega)).mono ?_; rintro e w5 ⟨v5, rfl, hv5, hn5⟩)
    | (rw [if_pos (by rfl)]; refine wp_copy_bya _ _ 22 22 rfl 5 Tryd.underlying22 size_u8 (w.heap.size + 1) 16 32 48 64 rfl 65 _ ((hn5.block _ hB3.lt).trans hB3) _ _ _ rfl hv5 (by omega) ?_; rw [Htk.out])
    | fail)
  have hB5 : Blk w5 (w.heap.size + 1) 65 _ := (hn5.block _ hB3.lt).trans hB3
  have hR5 : Blk w5 w.heap.size 65 (bya 64 fun _ => 0) := (hn5.block _ hR3.lt).trans hR3
  have hn6 : NB w w5 := hn3.drew.trans hn5
  have hB7 : Blk (w5.setRow (w.heap.size + 1) (bya 64 (headF n l))) (w.heap.size + 1) 65 (bya 64 (headF n l)) := hB5.setRow (bya 64 (headF n l))
  have hR7 := hR5.setRow_far (by omega) (g' := w.heap.size + 1) (bya 64 (headF n l))
  have hn7 := hn6.setRow (g := w.heap.size + 1) (by omega) (bya 64 (headF n l))
  show Exit.then _ _ Exit.normal _ (w5.setRow (w.heap.size + 1) (bya 64 (headF n l)))
  generalize w5.setRow (w.heap.size + 1) (bya 64 (headF n l)) = w7 at *
  go_wp2_with (first
    | (refine wpList_load_blk rfl 65 _ rfl (w.heap.size + 1) rfl 65 _ _ hB7 Tryd.underlying65 rfl 64 (bya_size _ _) size_head ?_)
    | (refine wpList_store_blk rfl 65 _ _ rfl w.heap.size (bya 64 (headF n l)) rfl rfl 65 _ hR7 64 (bya_size _ _) (bya_size _ _) size_head (bya_one _ _) ?_)
    | fail)
  refine bodyPost_ret (results_blk rfl _ _ w.heap.size 65 _ _ rfl (Blk.setRow hR7 _) Tryd.underlying65 rfl 64 (bya_size _ _) size_head) rfl ?_
  exact ⟨rfl, hn7.setRow (Nat.le_refl _) _⟩
end Go.Proofs.YtgpafdagealnbaaDoor
