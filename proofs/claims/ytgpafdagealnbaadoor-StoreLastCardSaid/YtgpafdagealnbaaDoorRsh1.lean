/- Walks over the reference's sha2: cut, turn, small, big, the tables. -/
import Derived.Test.YtgpafdagealnbaaDoorRsh0
import Derived.Test.YtgpafdagealnbaaDoorQld
import Derived.Test.YtgpafdagealnbaaDoorDsk1
namespace Go.Proofs.YtgpafdagealnbaaDoor
open Go.RowKit

/-- Words of 32 digits. -/
def wwA : Array Value := #[.int .u64 4294967296, .int .u64 32]
abbrev u64v (x : UInt32) : Value := .int .u64 (x.toNat : Int)

theorem size_Words : (Tryd.prog.info? 94).map (·.size) = some 2 := by kernel_rfl
theorem rcut_any (x : Nat) (w : World) : Calls Tryd.prog 60 #[.agg wwA, .int .u64 x] w fun e w' => e = .returned (.int .u64 ((x % 4294967296 : Nat) : Int)) ∧ NB w w' := by
  unfold wwA
  go_enter Tryd.func60, Tryd.ntmps60
  go_wp2
  go_ret
  exact ⟨ret_int (by simp), (NB.refl _).alloc _⟩

theorem mod_or (a b : Nat) : (a ||| b) % 4294967296 = a % 4294967296 ||| b % 4294967296 := by
  rw [show (4294967296 : Nat) = 2 ^ 32 by rfl]
  exact Nat.or_mod_two_pow
def turnN (x : UInt32) (n : Nat) : Nat := (x.toNat / 2 ^ n) ||| (x.toNat * 2 ^ (32 - n) % 18446744073709551616)
theorem turn_arg (x : UInt32) (n : Nat) : bits .or .u64 ((x.toNat : Int) / 2 ^ n) (IntKind.u64.wrap ((x.toNat : Int) * 2 ^ (32 - n))) = ((turnN x n : Nat) : Int) := by
  have hx := lt32 x
  rw [show (x.toNat : Int) / 2 ^ n = ((x.toNat / 2 ^ n : Nat) : Int) by simp,
    show IntKind.u64.wrap ((x.toNat : Int) * 2 ^ (32 - n)) = ((x.toNat * 2 ^ (32 - n) % 18446744073709551616 : Nat) : Int) by simp [IntKind.wrap, IntKind.bits, IntKind.signed]]
  exact u64_or_nat _ _ (Nat.lt_of_le_of_lt (Nat.div_le_self _ _) (by omega)) (Nat.mod_lt _ (by decide))
theorem turnN_mod (x : UInt32) (n : Nat) : turnN x n % 4294967296 = (rotr x n).toNat := by
  have hx := lt32 x
  rw [rotr_toNat, turnN, mod_or, Nat.mod_mod_of_dvd _ (by decide), Nat.mod_eq_of_lt (Nat.lt_of_le_of_lt (Nat.div_le_self _ _) hx)]
set_option maxHeartbeats 400000 in
theorem rturn_any (x : UInt32) (n : Nat) (hn : n ≤ 32) (w : World) : Calls Tryd.prog 87 #[.agg wwA, u64v x, .int .u64 n] w fun e w' => e = .returned (u64v (rotr x n)) ∧ NB w w' := by
  have hx := lt32 x
  have h0 : (0 : Int) ≤ n := by omega
  have h1 : (n : Int) ≤ 32 := by omega
  have hz := turn_arg x n
  unfold wwA
  go_enter Tryd.func87, Tryd.ntmps87
  go_wp2_with (first | (refine wpList_load_blk rfl 94 _ rfl w.heap.size rfl 94 _ _ (Blk.newAt rfl) Tryd.underlying94 rfl 2 rfl size_Words ?_) | fail)
  refine (rcut_any (turnN x n) _).mono ?_
  rintro e w1 ⟨rfl, hn1⟩
  rw [turnN_mod]
  go_wp2
  go_ret
  exact ⟨rfl, ((NB.refl _).alloc _).trans hn1⟩

theorem xor64 (a b : UInt32) : bits .xor .u64 (a.toNat : Int) (b.toNat : Int) = ((a ^^^ b).toNat : Int) := by
  rw [u64_xor_nat _ _ (by have := lt32 a; omega) (by have := lt32 b; omega), UInt32.toNat_xor]
theorem and64 (a b : UInt32) : bits .and .u64 (a.toNat : Int) (b.toNat : Int) = ((a &&& b).toNat : Int) := by
  rw [u64_and_nat _ _ (by have := lt32 a; omega) (by have := lt32 b; omega), UInt32.toNat_and]
theorem or64 (a b : UInt32) : bits .or .u64 (a.toNat : Int) (b.toNat : Int) = ((a ||| b).toNat : Int) := by
  rw [u64_or_nat _ _ (by have := lt32 a; omega) (by have := lt32 b; omega), UInt32.toNat_or]
theorem sm_int64 (x : UInt32) (a b c : Nat) : bits .xor .u64 (bits .xor .u64 ((rotr x a).toNat : Int) ((rotr x b).toNat : Int)) ((x.toNat : Int) / 2 ^ c) = ((sm x a b c).toNat : Int) := by
  unfold sm; rw [xor64, ← shr_int, xor64]
theorem bg_int64 (x : UInt32) (a b c : Nat) : bits .xor .u64 (bits .xor .u64 ((rotr x a).toNat : Int) ((rotr x b).toNat : Int)) ((rotr x c).toNat : Int) = ((bg x a b c).toNat : Int) := by
  unfold bg; rw [xor64, xor64]

theorem run_load_ww (w : World) (g : Nat) (h : Blk w g 94 wwA) : (Instr.loadAt 94 (.pointer (some ⟨g, 0, none⟩))).run Tryd.prog w = .ok (.agg wwA) w := by
  have := run_loadVar_row (P := Tryd.prog) w g 94 94 wwA (0, 0) _ h Tryd.underlying94 rfl size_Words
  simp only [Instr.loadAt, Instr.sureAddr, Sem.run_bind, Sem.run_pure, Result.andThen_ok, this]
theorem turn_quiet {w0 : World} (x : UInt32) (n : Nat) (hn : n ≤ 32) (y : Ext w0) : Calls Tryd.prog 87 #[.agg wwA, u64v x, .int .u64 n] y.val fun e w'' => e = .returned (u64v (rotr x n)) ∧ ∃ z : Ext w0, w'' = z.val :=
  Calls.quiet_ext (rturn_any x n hn _)
set_option maxHeartbeats 400000 in
theorem rsmall_any (x : UInt32) (a b c : Nat) (ha : a ≤ 32) (hb : b ≤ 32) (hc : c ≤ 32) (w : World) : Calls Tryd.prog 76 #[.agg wwA, u64v x, .int .u64 a, .int .u64 b, .int .u64 c] w fun e w' => e = .returned (u64v (sm x a b c)) ∧ NB w w' := by
  have h0 : (0 : Int) ≤ c := by omega
  have hx := lt32 x
  go_enter Tryd.func76, Tryd.ntmps76
  go_wp2
  have hB : Blk (w.alloc (.cells wwA 94)) w.heap.size 94 wwA := Blk.newAt rfl
  have hn1 : NB w (w.alloc (.cells wwA 94)) := (NB.refl w).alloc _
  refine wp_region_quiet_ext (by kernel_rfl) (by kernel_rfl) ?_
  repeat (first
    | go_big_quiet_step ((first | with_reducible exact turn_quiet x a ha _ | with_reducible exact turn_quiet x b hb _))
    | (refine wpQuiet_loadW rfl 94 _ rfl _ _ rfl (fun w' hw' => by obtain ⟨x, rfl⟩ := hw'; exact run_load_ww _ _ (hB.ext x)) ?_; simp only [Act.put, List.setIfInBounds_toArray, List.set_cons_zero, List.set_cons_succ]))
  refine wpQuiet_nil ?_
  intro y
  go_wp2
  go_ret
  exact ⟨ret_int (sm_int64 x a b c), hn1.ext y⟩
set_option maxHeartbeats 400000 in
theorem rbig_any (x : UInt32) (a b c : Nat) (ha : a ≤ 32) (hb : b ≤ 32) (hc : c ≤ 32) (w : World) : Calls Tryd.prog 77 #[.agg wwA, u64v x, .int .u64 a, .int .u64 b, .int .u64 c] w fun e w' => e = .returned (u64v (bg x a b c)) ∧ NB w w' := by
  have hx := lt32 x
  go_enter Tryd.func77, Tryd.ntmps77
  go_wp2
  have hB : Blk (w.alloc (.cells wwA 94)) w.heap.size 94 wwA := Blk.newAt rfl
  have hn1 : NB w (w.alloc (.cells wwA 94)) := (NB.refl w).alloc _
  refine wp_region_quiet_ext (by kernel_rfl) (by kernel_rfl) ?_
  repeat (first
    | go_big_quiet_step ((first | with_reducible exact turn_quiet x a ha _ | with_reducible exact turn_quiet x b hb _ | with_reducible exact turn_quiet x c hc _))
    | (refine wpQuiet_loadW rfl 94 _ rfl _ _ rfl (fun w' hw' => by obtain ⟨x, rfl⟩ := hw'; exact run_load_ww _ _ (hB.ext x)) ?_; simp only [Act.put, List.setIfInBounds_toArray, List.set_cons_zero, List.set_cons_succ]))
  refine wpQuiet_nil ?_
  intro y
  go_wp2
  go_ret
  exact ⟨ret_int (bg_int64 x a b c), hn1.ext y⟩

/-! ### the tables -/
section
variable {P : Program}
theorem wpList_of_run {w w' : World} {ops : Array Oper} {rest : List Oper} {o : Oper} {a : Act} {Q : Exit → Act → World → Prop} (hgd : o.guard = none) (v : Value) (hrun : ∀ a : Act, (execOp a.eval o).run P w = .ok (.value v) w') (h : wpList P ops Q rest (a.put o.dst v) w') : wpList P ops Q (o :: rest) a w := by
  refine wpList_plain hgd fun K hK => ?_
  unfold Oper.wp
  rw [hrun, Oper.upon_value]
  exact hK _ _ h
end
set_option maxRecDepth 100000 in
theorem rconstants_any (w : World) : Calls Tryd.prog 56 #[] w fun e w' => e = .returned (.slice (some ⟨w.heap.size, 0, none⟩) 80 80) ∧ w' = w.alloc (.cells (arr 80 fun i => .int .u64 (Kc i : Int)) 25) := by
  go_enter Tryd.func56, Tryd.ntmps56
  go_wp2_with (first | (refine wpList_of_run (w' := w.alloc (.cells (arr 80 fun i => .int .u64 (Kc i : Int)) 25)) rfl (.slice (some ⟨w.heap.size, 0, none⟩) 80 80) (fun ρ => by kernel_rfl) ?_) | fail)
  go_ret
  exact ⟨rfl, rfl⟩
theorem rstarts_any (w : World) : Calls Tryd.prog 57 #[] w fun e w' => e = .returned (.slice (some ⟨w.heap.size, 0, none⟩) 8 8) ∧ w' = w.alloc (.cells (arr 8 fun i => .int .u64 (Hc i : Int)) 25) := by
  go_enter Tryd.func57, Tryd.ntmps57
  go_wp2_with (first | (refine wpList_of_run (w' := w.alloc (.cells (arr 8 fun i => .int .u64 (Hc i : Int)) 25)) rfl (.slice (some ⟨w.heap.size, 0, none⟩) 8 8) (fun ρ => by kernel_rfl) ?_) | fail)
  go_ret
  exact ⟨rfl, rfl⟩
end Go.Proofs.YtgpafdagealnbaaDoor
