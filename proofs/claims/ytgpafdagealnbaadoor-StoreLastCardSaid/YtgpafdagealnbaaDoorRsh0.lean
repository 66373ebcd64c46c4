/- Sha256 as the document's answer computes it, against the plain one: plain laws. No program stands in this text. -/
import Derived.Test.YtgpafdagealnbaaDoorSto1
namespace Go.Proofs.YtgpafdagealnbaaDoor
open Go.RowKit

theorem choice_or (e f g : UInt32) : (e &&& f) ||| (~~~e &&& g) = (e &&& f) ^^^ (~~~e &&& g) := by
  apply UInt32.toBitVec_inj.1
  simp only [UInt32.toBitVec_or, UInt32.toBitVec_xor, UInt32.toBitVec_and, UInt32.toBitVec_not]
  ext i hi
  simp only [BitVec.getElem_or, BitVec.getElem_xor, BitVec.getElem_and, BitVec.getElem_not]
  cases e.toBitVec[i] <;> cases f.toBitVec[i] <;> cases g.toBitVec[i] <;> rfl
theorem most_or (a b c : UInt32) : (a &&& b) ||| (a &&& c) ||| (b &&& c) = (a &&& b) ^^^ (a &&& c) ^^^ (b &&& c) := by
  apply UInt32.toBitVec_inj.1
  simp only [UInt32.toBitVec_or, UInt32.toBitVec_xor, UInt32.toBitVec_and]
  ext i hi
  simp only [BitVec.getElem_or, BitVec.getElem_xor, BitVec.getElem_and]
  cases a.toBitVec[i] <;> cases b.toBitVec[i] <;> cases c.toBitVec[i] <;> rfl

theorem beN_cons (n L : Nat) : beN n (L + 1) = UInt8.ofNat (n / 2 ^ (8 * L)) :: beN n L := by
  unfold beN
  rw [List.range_succ_eq_map, List.map_cons, List.map_map]
  congr 1
  refine List.map_congr_left fun i hi => ?_
  have hi := List.mem_range.1 hi
  simp only [Function.comp]
  rw [show L + 1 - 1 - (i + 1) = L - 1 - i by omega]
theorem padB_is (n k : Nat) (hk : padL n = k + 9) : padB n = [128] ++ List.replicate k 0 ++ beN (8 * n) 8 := by
  apply List.ext_getElem?
  intro j
  by_cases hj : j < padL n
  · rw [padB, List.getElem?_map, List.getElem?_range hj, Option.map_some]
    unfold pb
    by_cases h1 : padL n ≤ j + 8
    · rw [if_pos h1, List.getElem?_append_right (by simp; omega)]
      simp only [List.length_append, List.length_cons, List.length_nil, List.length_replicate, beN, List.getElem?_map]
      rw [List.getElem?_range (by omega), Option.map_some, show 8 - 1 - (j - (0 + 1 + k)) = padL n - 1 - j by omega]
    · rw [if_neg h1, List.getElem?_append_left (by simp; omega)]
      by_cases h0 : j = 0
      · subst h0; rfl
      · rw [if_neg h0, List.getElem?_append_right (by simp; omega), List.getElem?_replicate, if_pos (by simp; omega)]
  · rw [List.getElem?_eq_none (by rw [padB_length]; omega), List.getElem?_eq_none (by simp [beN_length]; omega)]

/-- Words as cells of 64 digits. -/
def uw (l : List UInt32) : List Value := l.map fun x => .int .u64 (x.toNat : Int)
theorem uw_length (l : List UInt32) : (uw l).length = l.length := by simp [uw]
theorem uw_append (l m : List UInt32) : uw (l ++ m) = uw l ++ uw m := by simp [uw]
theorem uw_get (l : List UInt32) (i : Nat) : (uw l)[i]? = (l[i]?).map fun x => .int .u64 (x.toNat : Int) := by simp [uw]
theorem uw_one (l : List UInt32) : ∀ u ∈ uw l, u.oneCell' = true := by
  intro u hu
  simp only [uw, List.mem_map] at hu
  obtain ⟨x, _, rfl⟩ := hu
  rfl
def R8.list (v : R8) : List UInt32 := [v.a, v.b, v.c, v.d, v.e, v.f, v.g, v.h]
end Go.Proofs.YtgpafdagealnbaaDoor
