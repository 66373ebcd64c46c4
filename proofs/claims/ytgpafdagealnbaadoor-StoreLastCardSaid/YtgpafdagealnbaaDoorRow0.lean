/- What a row's reading gives the walks: the tables, rows of bytes. No statement is proved here. -/
import Derived.Test.YtgpafdagealnbaaDoorSha
import Derived.Test.YtgpafdagealnbaaDoorApp
import Derived.WalkKit
import Derived.ProofKit
import Derived.LaidMore
import Derived.OpenShut
import Derived.Stop.Joined
import Derived.Below
import Derived.SizedLaws
import Derived.Carry
namespace Go.Proofs.YtgpafdagealnbaaDoor
open Go.ChangeShapes Go.WideShapes Go.ChangeAt Go.RowKit

theorem own : ownKnob Tryd.prog.godebug = none := by kernel_rfl
theorem laidOut : laidOutB Tryd.prog = true := by kernel_rfl
theorem gk : Tryd.prog.globalNamed "imprimatur/sha2.constants" = some 1 := by kernel_rfl
theorem gs : Tryd.prog.globalNamed "imprimatur/sha2.starts" = some 0 := by kernel_rfl
theorem tk : (Tryd.prog.globals[1]?).map (·.type) = some 143 := by kernel_rfl
theorem ts : (Tryd.prog.globals[0]?).map (·.type) = some 125 := by kernel_rfl
def laidL : List (String × DataW Unit) := [("imprimatur/sha2.constants", Rows.laid_imprimatur_sha2_constants), ("imprimatur/sha2.starts", Rows.laid_imprimatur_sha2_starts)]
theorem laid_k : (Rows.laid_imprimatur_sha2_constants : DataW Unit) = .agg (K64.map fun k : Nat => .lit (.int .u64 (k : Int))) := rfl
theorem laid_s : (Rows.laid_imprimatur_sha2_starts : DataW Unit) = .agg (H64.map fun k : Nat => .lit (.int .u64 (k : Int))) := rfl

theorem tab_cell {H : Type} {enc : TypeId × Value → H} {P : Program} {W : World} {base : Nat} {spare : Nat → Bool} {held : Bool} {fuel n : Nat} {T e : TypeId} {cs : List Value} {ns : List Nat} {q : List MemPlace}
    (hT : P.underlying T = some (.array n e)) (he : P.underlying e = some (.int .u64)) (hce : P.cellsOf e = 1) (hn : ns.length = n)
    (h : DataW.trod enc P W base spare held fuel T cs = some (.agg (ns.map fun k : Nat => .lit (.int .u64 (k : Int))), q)) (i : Nat) (hi : i < n) : cs[i]? = some (.int .u64 ((ns.getD i 0 : Nat) : Int)) := by
  obtain ⟨xs, m, rfl, hx, _, hlen, hel⟩ := DataW.trod_array hT h
  have h1 := hel i hi
  rw [hce, Nat.mul_one] at h1
  have hxi : xs[i]? = some xs[i] := List.getElem?_eq_getElem (by omega)
  rw [hxi] at h1
  obtain ⟨k, e1, e2, _⟩ := DataW.trod_int he h1
  simp only [Prod.mk.injEq, DataW.agg.injEq] at hx
  have h2 : (xs.map (·.1))[i]? = some (.lit (.int .u64 k)) := by rw [List.getElem?_map, hxi, Option.map_some, e2]
  rw [← hx.1, List.getElem?_map, List.getElem?_eq_getElem (show i < ns.length by omega)] at h2
  simp only [Option.map_some, Option.some.injEq, DataW.lit.injEq, Lit.int.injEq, true_and] at h2
  have h3 : (cs.drop i)[0]? = some (.int .u64 k) := by
    have : ((cs.drop i).take 1)[0]? = some (.int .u64 k) := by rw [e1]; rfl
    rwa [List.getElem?_take, if_pos (by omega)] at this
  rw [List.getElem?_drop, Nat.add_zero] at h3
  rw [h3, ← h2, List.getD_eq_getElem?_getD, List.getElem?_eq_getElem (show i < ns.length by omega)]
  rfl
theorem tabs_of {W : World} (h : laidMetH Tryd.prog laidL W) : Tabs W := by
  rw [MakeChecks.laidMetH_plain _ _ _ (by kernel_rfl)] at h
  obtain ⟨ps, ⟨g0, t0, cs0, f0, p0, q0, hg0, ht0, hv0, hd0, ⟨g1, t1, cs1, f1, p1, q1, hg1, ht1, hv1, hd1, _, _⟩, _⟩, _, _⟩ := h
  obtain rfl := Option.some.inj (gk.symm.trans hg0)
  obtain rfl := Option.some.inj (gs.symm.trans hg1)
  obtain rfl := Option.some.inj (tk.symm.trans ht0)
  obtain rfl := Option.some.inj (ts.symm.trans ht1)
  rw [laid_k] at hd0
  rw [laid_s] at hd1
  refine ⟨fun i hi => ?_, fun i hi => ?_⟩
  · have := tab_cell Tryd.underlying143 Tryd.underlying25 (by kernel_rfl) rfl hd0 i hi
    rw [World.var?_cell gk hv0 i, ← Array.getElem?_toList]
    exact this
  · have := tab_cell Tryd.underlying125 Tryd.underlying25 (by kernel_rfl) rfl hd1 i hi
    rw [World.var?_cell gs hv1 i, ← Array.getElem?_toList]
    exact this

theorem spot_none {w : World} {a : Addr} {v : Value} (h : w.cell? a = some v) : a.spot = none := by
  unfold World.cell? at h
  split at h
  · split at h
    · cases h
    · rename_i h2
      simpa using h2
  · cases h
theorem u8_wf {z : Int} (h : (Lit.int .u8 z).wf = true) : 0 ≤ z ∧ z < 256 := by
  simp [Lit.wf, IntKind.min, IntKind.max, IntKind.signed, IntKind.bits] at h
  omega
/-- A slice of bytes that was read as data. -/
theorem bytes_in {H : Type} {enc : TypeId × Value → H} {W : World} {base : Nat} {spare : Nat → Bool} {held : Bool} {fuel : Nat} {A : Option Addr} {len cap : Nat} {x : DataW H × List MemPlace}
    (h : DataW.trod enc Tryd.prog W base spare held fuel 22 [.slice A len cap] = some x) : ∃ l, RB W W.heap.size (.slice A len cap) l := by
  rcases open_ints Tryd.underlying22 Tryd.underlying5 (by kernel_rfl) h with ⟨hcs, _⟩ | ⟨a, len', cap', zs, hcs, _, hl, hm, hz, _, hcell, hwf⟩
  · simp only [List.cons.injEq, Value.slice.injEq, and_true] at hcs
    obtain ⟨rfl, rfl, rfl⟩ := hcs
    exact ⟨[], RB.nil _ _⟩
  · simp only [List.cons.injEq, Value.slice.injEq, and_true] at hcs
    obtain ⟨rfl, rfl, rfl⟩ := hcs
    have hlz : len ≤ zs.length := by rw [hz]; split <;> omega
    refine ⟨(zs.take len).map fun z => UInt8.ofNat z.toNat, some a, cap, by rw [List.length_map, List.length_take, Nat.min_eq_left hlz], by rw [List.length_map, List.length_take]; omega, by simpa [maxLen] using hm, fun h0 => ?_⟩
    rw [List.length_map, List.length_take, Nat.min_eq_left hlz] at h0
    have h00 := hcell 0 (by omega)
    have hsp : a.spot = none := spot_none (by rw [show a.add 0 = a from rfl] at h00; exact h00)
    obtain ⟨g, o, sp⟩ := a
    simp only at hsp
    subst hsp
    refine ⟨g, o, rfl, World.block_lt_of_cell? W _ h00, fun i b hb => ?_⟩
    have hi : i < len := by
      rcases Nat.lt_or_ge i len with h | h
      · exact h
      · rw [List.getElem?_eq_none (by rw [List.length_map, List.length_take]; omega)] at hb; cases hb
    have hc := hcell i (by omega)
    rw [addr_add] at hc
    rw [hc]
    rw [List.getElem?_map, List.getElem?_take, if_pos hi, List.getElem?_eq_getElem (show i < zs.length by omega), Option.map_some] at hb
    injection hb with hb
    have hz0 := u8_wf (hwf zs[i] (List.getElem_mem _))
    rw [List.getD_eq_getElem?_getD, List.getElem?_eq_getElem (show i < zs.length by omega), Option.getD_some, ← hb, UInt8.toNat_ofNat']
    congr 2
    omega
end Go.Proofs.YtgpafdagealnbaaDoor
