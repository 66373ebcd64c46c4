/- A region that draws its order: an operation that yields the same in a class of worlds may be taken first, if the operations that do not wait for it keep the class. -/
import Derived.Test.YtgpafdagealnbaaDoorRegion3
import Derived.OrdersHeld
import Derived.Stop.Looks
namespace Go.Proofs.YtgpafdagealnbaaDoor
open Go.RowKit

section
variable {P : Program} {ops : Array Oper} {md : Region.Mode} {Q : Exit → Act → World → Prop} {S : World → Prop}

/-- What an operation leaves is of the class again. -/
def keepsUpon (S : World → Prop) : Result Next → Prop
  | .ok (.value _) w => S w
  | .ok .skip w => S w
  | .halt _ _ => True
  | _ => False
def Keeps (P : Program) (S : World → Prop) (o : Oper) : Prop := ∀ (a : Act) (w : World), S w → keepsUpon S ((execOp a.eval o).run P w)

theorem wpOp_keeps {j : Nat} {oj : Oper} (hj : ops[j]? = some oj) (hk : Keeps P S oj) {K : Act → World → Prop} {a : Act} {w : World} (hS : S w) (h : wpOp P ops Q j K a w) : wpOp P ops Q j (fun a' w' => K a' w' ∧ S w') a w := by
  have hk' := hk a w hS
  unfold wpOp at *
  simp only [hj] at *
  split
  · rename_i hw
    simp only [hw, if_true] at h
    rcases h with h | h
    case inr => exact .inr h
    refine .inl ?_
    unfold Oper.wp at *
    generalize (execOp a.eval oj).run P w = r at *
    cases r with
    | ok n w' =>
      cases n <;> simp only [Oper.upon, keepsUpon] at h hk' ⊢ <;> first | exact ⟨h, hk'⟩ | exact hk'.elim
    | halt x w' =>
      cases x <;> simp only [Oper.upon] at h ⊢
      case panic u => exact h
  · rename_i hw
    simp only [hw] at h
    exact ⟨h, hS⟩

theorem wpAny_firstIn {i : Nat} {oi : Oper} {v : Value} (hi : ops[i]? = some oi) (hsel : ∀ (j : Nat) (o : Oper) cs b, ops[j]? = some o → o.op ≠ .select cs b)
    (hQ : ∀ c a w, Q (.panic c) (a.put oi.dst v) w → Q (.panic c) a w)
    (hkeep0 : Array Bool → Prop) (hkeep1 : ∀ listed, hkeep0 listed → ∀ j oj, ops[j]? = some oj → j ≠ i → listed.getD j true = false → (∀ e ∈ oj.after, Region.binds md e = true → e.on ≠ i) → Keeps P S oj)
    (hkeep2 : ∀ listed j, hkeep0 listed → hkeep0 (listed.setIfInBounds j true)) :
    ∀ (fuel : Nat) (listed : Array Bool) (a : Act) (w : World), S w → hkeep0 listed →
      (∀ j oj, ops[j]? = some oj → j ≠ i → listed.getD j true = false → (∀ e ∈ oj.after, Region.binds md e = true → e.on ≠ i) → oi.apart ops oj = true) →
      i ∈ Region.ready md ops listed → YieldsIf P ops S oi v a →
      wpAny P md ops Q fuel (listed.setIfInBounds i true) (a.put oi.dst v) w → wpAny P md ops Q (fuel + 1) listed a w := by
  intro fuel
  induction fuel with
  | zero =>
    intro listed a w hS _ _ hr hy H
    refine ⟨fun h => (by rw [h] at hr; cases hr), fun j hj => ?_⟩
    by_cases hji : j = i
    · subst hji; exact hy.wpOp hi hS H
    · have := ready_mono hj hji
      rw [H.1] at this
      cases this
  | succ fuel ih =>
    intro listed a w hS hL hfree hr hy H
    refine ⟨fun h => (by rw [h] at hr; cases hr), fun j hj => ?_⟩
    by_cases hji : j = i
    · subst hji; exact hy.wpOp hi hS H
    · have h1 := H.2 j (ready_mono hj hji)
      obtain ⟨hjun, oj, hoj, hall⟩ := mem_ready.1 hj
      have hnot : ∀ e ∈ oj.after, Region.binds md e = true → e.on ≠ i := fun e he hb heq => by
        have h1 := hall e he hb
        have h0 := (mem_ready.1 hr).1
        rw [heq] at h1
        rcases Nat.lt_or_ge i listed.size with h' | h'
        · simp [h'] at h0 h1; rw [h0] at h1; cases h1
        · simp [Array.getElem?_eq_none h'] at h1
      have h2 := wpOp_keeps hoj (hkeep1 listed hL j oj hoj hji hjun hnot) hS (wpOp_putIf hoj (hfree j oj hoj hji hjun hnot) (fun cs b => hsel i oi cs b hi) (fun cs b => hsel j oj cs b hoj) hQ hy h1)
      have hfree' : ∀ k ok, ops[k]? = some ok → k ≠ i → (listed.setIfInBounds j true).getD k true = false →
          (∀ e ∈ ok.after, Region.binds md e = true → e.on ≠ i) → oi.apart ops ok = true := fun k ok hk hki hun hno => by
        refine hfree k ok hk hki ?_ hno
        by_cases hjk : j = k
        · subst hjk; exact hjun
        · rw [getD_set_ne true hjk] at hun; exact hun
      refine wpOp_mono (fun a' w' h3 => ih (listed.setIfInBounds j true) a' w' h3.2 (hkeep2 _ _ hL) hfree' (ready_mono hr (Ne.symm hji)) h3.1.1 ?_) h2
      rw [Array.setIfInBounds_comm _ _ hji]
      exact h3.1.2

/-- Those that are not listed and do not wait for number i are among js. -/
def freeIn (md : Region.Mode) (ops : Array Oper) (listed : Array Bool) (i : Nat) (js : List Nat) : Bool :=
  (List.range ops.size).all fun j => j == i || listed.getD j true || js.contains j || match ops[j]? with
    | some oj => oj.after.any (fun e => Region.binds md e && e.on == i)
    | none => true
theorem freeIn_spec {i j : Nat} {oj : Oper} {listed : Array Bool} {js : List Nat} (h : freeIn md ops listed i js = true) (hj : ops[j]? = some oj) (hji : j ≠ i) (hun : listed.getD j true = false) (hno : ∀ e ∈ oj.after, Region.binds md e = true → e.on ≠ i) : j ∈ js := by
  simp only [freeIn, List.all_eq_true, List.mem_range] at h
  have h1 := h j (Array.getElem?_eq_some_iff.1 hj).1
  simp only [hj, Bool.or_eq_true, beq_iff_eq, hji, false_or, hun, Bool.false_eq_true] at h1
  rcases h1 with h1 | h1
  · simpa using h1
  · obtain ⟨e, he, hb⟩ := Array.any_eq_true'.1 h1
    simp only [Bool.and_eq_true, beq_iff_eq] at hb
    exact absurd hb.2 (hno e he hb.1)

theorem wpAny_takeIn {i : Nat} {oi : Oper} {v : Value} {fuel : Nat} {listed : Array Bool} {a : Act} {w : World} (hi : ops[i]? = some oi)
    (hs : Region.noSelect ops = true) (hf : Region.free md ops listed i = true) (hr : (Region.ready md ops listed).contains i = true)
    (hQ : ∀ c a w, Q (.panic c) (a.put oi.dst v) w → Q (.panic c) a w)
    (js : List Nat) (hjs : freeIn md ops listed i js = true) (hkeep : ∀ j ∈ js, ∀ oj, ops[j]? = some oj → Keeps P S oj) (hS : S w) (hy : YieldsIf P ops S oi v a)
    (h : wpAny P md ops Q fuel (listed.setIfInBounds i true) (a.put oi.dst v) w) : wpAny P md ops Q (fuel + 1) listed a w :=
  wpAny_firstIn hi (Region.noSelect_spec hs) hQ (fun L => ∀ j, L.getD j true = false → listed.getD j true = false)
    (fun L hL j oj hj hji hun hno => hkeep j (freeIn_spec hjs hj hji (hL j hun) hno) oj hj)
    (fun L j hL k hk => hL k (by
      by_cases e : j = k
      · subst e
        simp [Array.getElem?_setIfInBounds] at hk
        split at hk <;> simp_all
      · rw [getD_set_ne true e] at hk; exact hk)) fuel listed a w hS (fun _ h => h) (Region.free_spec hi hf) (by simpa using hr) hy h

theorem wpAny_seq_drop {l : List Oper} {fuel : Nat} {listed : Array Bool} {a : Act} {w : World} (k : Nat) (hf : (l.drop k).length = fuel) (hB : Region.seqB md l.toArray fuel k listed = true) (h : wpList P l.toArray Q (l.drop k) a w) : wpAny P md l.toArray Q fuel listed a w := by
  subst hf
  exact wpAny_of_seq (l.drop k) k listed a w (fun j => by simp [List.getElem?_drop]) hB h
theorem wp_region_start {id : Nat} {l : List Oper} {a : Act} {w : World} (hm : P.follows .mixedOrders = true) (n : Nat) (hn : l.length = n) (h : wpAny P .any l.toArray (NoPanic Q) n (Array.replicate n false) a w.drew) : (Code.region id l.toArray true).wp P Q a w := by
  subst hn
  exact wp_region_noPanic (wp_region_any hm (by simpa using h))

/-! ### operations that only look -/
theorem keeps_look {o : Oper} (s : (Operand → Value) → Sem Value) (ho : ∀ ρ, execOp ρ o = (do pure (.value (← s ρ)))) (hs : ∀ ρ, (s ρ).Looks) : Keeps P S o := by
  intro a w hS
  rw [ho, Sem.run_bind]
  have h := (hs a.eval).world P w
  cases hr : (s a.eval).run P w with
  | ok v w' =>
    rw [hr] at h
    simp only [Result.where] at h
    subst h
    exact hS
  | halt x w' => exact trivial
theorem bounds_looks {α : Type} (x y : Int) (s : Bool) (c : BoundsCode) : (runtimePanic (.bounds x y s c) : Sem α).Looks := by
  unfold runtimePanic
  exact program_looks.bind fun p => trivial
theorem arrayAt_looks (t : TypeId) (x : Value) : (Instr.arrayAt t x).Looks := by
  unfold Instr.arrayAt
  refine (underlying_looks t).bind fun d => ?_
  repeat' first | exact trivial | exact bounds_looks _ _ _ _ | split
theorem isAgg_looks (t : TypeId) : (isAgg t).Looks := by
  unfold isAgg
  refine (underlying_looks t).bind fun d => ?_
  split <;> exact trivial
theorem loadVar_looks (t : TypeId) (a : Addr) : (loadVar t a).Looks := by
  unfold loadVar
  refine (isAgg_looks t).bind fun b => ?_
  split
  · exact (sizeOf_looks t).bind fun n => (loadCells_looks a n).bind fun _ => trivial
  · exact load_looks _ _
theorem loadAt_looks (t : TypeId) (x : Value) : (Instr.loadAt t x).Looks := by
  unfold Instr.loadAt
  refine Sem.Looks.bind ?_ fun a => loadVar_looks t a
  unfold Instr.sureAddr
  split <;> exact trivial
theorem zeroValue_looks (t : TypeId) : (zeroValue t).Looks := by
  unfold zeroValue
  refine (typeInfo_looks t).bind fun i => ?_
  split <;> exact trivial
theorem arrayMapM_looks {α β : Type} (f : α → Sem β) (hf : ∀ a, (f a).Looks) (l : Array α) : (l.mapM f).Looks := by
  rw [Array.mapM_eq_mapM_toList]
  exact (mapM_looks f hf l.toList).bind fun _ => trivial
theorem build_looks (t : TypeId) (ps : Array (Nat × Value)) : (Instr.build t ps).Looks := by
  unfold Instr.build
  refine (zeroValue_looks t).bind fun z => (underlying_looks t).bind fun d => ?_
  split
  · refine Sem.Looks.bind (arrayMapM_looks _ (fun f => Sem.Looks.bind (sizeOf_looks (Field.type f)) fun n => pure_looks _) _) fun p => ?_
    split <;> exact trivial
  · refine (sizeOf_looks _).bind fun n => ?_
    split <;> exact trivial
  · exact trivial
end
end Go.Proofs.YtgpafdagealnbaaDoor
