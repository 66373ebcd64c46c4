/- The disk: what lies in memory, what it means; the small functions. -/
import Derived.Test.YtgpafdagealnbaaDoorByt
import Derived.Test.YtgpafdagealnbaaDoorRegion2
import Derived.Lib.Hide
import Derived.Deep.MidRow
namespace Go.Proofs.YtgpafdagealnbaaDoor
open Go.RowKit

/-- A disk: its bytes one behind the other, the writes that wait, and so on. -/
structure Dsk where
  n : Nat
  f : Nat → UInt8
  held : List (Nat × List UInt8)
  down : Bool
  strokes : Int
  left : Int
  set : Bool
  choice : List Bool

/-- The cells of writes that wait. -/
def hcells (held : List (Nat × List UInt8)) : List Value := held.flatMap fun h => .int .i64 (h.1 : Int) :: bv h.2
structure Dsk.WF (D : Dsk) : Prop where
  n1 : 1 ≤ D.n
  n2 : D.n ≤ 16384
  held : ∀ h ∈ D.held, h.1 < D.n ∧ h.2.length = 64
  few : D.held.length ≤ 1000000
  choice : D.choice.length ≤ 4096
  l1 : 0 ≤ D.left
  l2 : D.left ≤ 9223372036854775807
def dcells (sb : Nat) (D : Dsk) (hv cv : Value) : Array Value :=
  #[.slice (some ⟨sb, 0, none⟩) D.n D.n, hv, .bool D.down, .int .i64 D.strokes, .int .i64 D.left, .bool D.set, cv]
/-- The disk at block d: the blocks that it lies in are among F. -/
structure DRepA (F : Nat → Prop) (w : World) (d : Nat) (D : Dsk) (sb : Nat) (hv cv : Value) : Prop where
  wf : D.WF
  fd : F d
  fs : F sb
  fh : ∀ k, hv.ownBlock = some k → F k
  fc : ∀ k, cv.ownBlock = some k → F k
  lt : ∀ k, F k → k < w.heap.size
  bd : Blk w d 57 (dcells sb D hv cv)
  bs : Blk w sb 59 (bya (64 * D.n) D.f)
  hh : w.ownsRow 0 92 65 hv D.held.length (hcells D.held)
  hc : w.ownsRow 0 4 1 cv D.choice.length (D.choice.map .bool)
def DRep (F : Nat → Prop) (w : World) (d : Nat) (D : Dsk) : Prop := ∃ sb hv cv, DRepA F w d D sb hv cv

abbrev dptr (d : Nat) : Value := .pointer (some ⟨d, 0, none⟩)

/-! ### the frame -/
theorem own_below {w w' : World} {base : Nat} {e : TypeId} {size n : Nat} {v : Value} {xs : List Value} (h : w.ownsRow base e size v n xs) (hk : ∀ k, v.ownBlock = some k → w'.heap[k]? = w.heap[k]?) : w'.ownsRow base e size v n xs := by
  refine ⟨h.1, ?_⟩
  rcases h.2 with hn | ⟨g, cap, cur, hv, hb, hg, rest⟩
  · exact .inl hn
  · exact .inr ⟨g, cap, cur, hv, hb, (hk g (by rw [hv]; rfl)).trans hg, rest⟩
theorem DRepA.keep {F : Nat → Prop} {w w' : World} {d : Nat} {D : Dsk} {sb : Nat} {hv cv : Value} (h : DRepA F w d D sb hv cv) (hs : w.heap.size ≤ w'.heap.size) (hk : ∀ k, F k → w'.heap[k]? = w.heap[k]?) : DRepA F w' d D sb hv cv :=
  { wf := h.wf, fd := h.fd, fs := h.fs, fh := h.fh, fc := h.fc, lt := fun k hF => Nat.lt_of_lt_of_le (h.lt k hF) hs
    bd := (hk d h.fd).trans h.bd, bs := (hk sb h.fs).trans h.bs
    hh := own_below h.hh fun k e => hk k (h.fh k e), hc := own_below h.hc fun k e => hk k (h.fc k e) }
theorem DRep.keep {F : Nat → Prop} {w w' : World} {d : Nat} {D : Dsk} (h : DRep F w d D) (hs : w.heap.size ≤ w'.heap.size) (hk : ∀ k, F k → w'.heap[k]? = w.heap[k]?) : DRep F w' d D := by
  obtain ⟨sb, hv, cv, h⟩ := h
  exact ⟨sb, hv, cv, h.keep hs hk⟩
theorem DRep.lt {F : Nat → Prop} {w : World} {d : Nat} {D : Dsk} (h : DRep F w d D) {k : Nat} (hk : F k) : k < w.heap.size := by
  obtain ⟨sb, hv, cv, h⟩ := h
  exact h.lt k hk
theorem DRep.wf {F : Nat → Prop} {w : World} {d : Nat} {D : Dsk} (h : DRep F w d D) : D.WF := by
  obtain ⟨sb, hv, cv, h⟩ := h
  exact h.wf
theorem DRep.nb {F : Nat → Prop} {w w' : World} {d : Nat} {D : Dsk} (h : DRep F w d D) (hn : NB w w') : DRep F w' d D :=
  h.keep hn.size fun k hk => hn.block k (h.lt hk)
theorem DRep.fr {F G : Nat → Prop} {B : Nat} {w w' : World} {d : Nat} {D : Dsk} (h : DRep F w d D) (hf : Fr B G w w') (hB : ∀ k, F k → k < B) (hG : ∀ k, F k → ¬ G k) : DRep F w' d D :=
  h.keep hf.size fun k hk => hf.block k (hB k hk) (hG k hk)

/-! ### what the functions do -/
def Dsk.err (D : Dsk) : Int := if D.down then 60 else 0
def Dsk.goes (D : Dsk) : Bool := D.set && !decide (D.left > 0)
def Dsk.stroke (D : Dsk) : Dsk := { D with strokes := wrap64 (D.strokes + 1), left := if D.set && decide (D.left > 0) then D.left - 1 else D.left }

theorem dready_any {F : Nat → Prop} {w : World} {d : Nat} {D : Dsk} (h : DRep F w d D) :
    Calls Tryd.prog 35 #[dptr d] w fun e w' => e = .returned (.int .i64 D.err) ∧ w = w' := by
  obtain ⟨sb, hv, cv, h⟩ := h
  have hB := h.bd
  obtain ⟨n, f, held, down, strokes, left, st, choice⟩ := D
  simp only [dcells] at hB
  unfold Dsk.err
  have c0 := hB.cell 0
  have c1 := hB.cell 1
  have c2 := hB.cell 2
  have c3 := hB.cell 3
  have c4 := hB.cell 4
  have c5 := hB.cell 5
  have c6 := hB.cell 6
  go_enter Tryd.func35, Tryd.ntmps35
  cases down <;> (go_wp2; go_ret; exact ⟨rfl, rfl⟩)

theorem dup_any {F : Nat → Prop} {w : World} {d : Nat} {D : Dsk} (h : DRep F w d D) :
    Calls Tryd.prog 39 #[dptr d] w fun e w' => e = .returned (.bool (!D.down)) ∧ w = w' := by
  obtain ⟨sb, hv, cv, h⟩ := h
  have hB := h.bd
  obtain ⟨n, f, held, down, strokes, left, st, choice⟩ := D
  simp only [dcells] at hB
  have c0 := hB.cell 0
  have c1 := hB.cell 1
  have c2 := hB.cell 2
  have c3 := hB.cell 3
  have c4 := hB.cell 4
  have c5 := hB.cell 5
  have c6 := hB.cell 6
  go_enter Tryd.func39, Tryd.ntmps39
  cases down <;> (go_wp2; go_ret; exact ⟨rfl, rfl⟩)

theorem dsize_any {F : Nat → Prop} {w : World} {d : Nat} {D : Dsk} (h : DRep F w d D) :
    Calls Tryd.prog 25 #[dptr d] w fun e w' => e = .returned (.int .i64 D.n) ∧ w = w' := by
  obtain ⟨sb, hv, cv, h⟩ := h
  have hB := h.bd
  obtain ⟨n, f, held, down, strokes, left, st, choice⟩ := D
  simp only [dcells] at hB
  have c0 := hB.cell 0
  have c1 := hB.cell 1
  have c2 := hB.cell 2
  have c3 := hB.cell 3
  have c4 := hB.cell 4
  have c5 := hB.cell 5
  have c6 := hB.cell 6
  go_enter Tryd.func25, Tryd.ntmps25
  go_wp2
  go_ret
  exact ⟨rfl, rfl⟩

/-- How many sectors bytes take. -/
def needN (n : Nat) : Nat := (n + 63) / 64
theorem need_quo (n : Nat) : (n : Int).tdiv 64 = ((n / 64 : Nat) : Int) := by rw [Int.tdiv_eq_ediv_of_nonneg (by omega)]; rfl
theorem need_rem (n : Nat) : (n : Int).tmod 64 = ((n % 64 : Nat) : Int) := by rw [Int.tmod_eq_emod_of_nonneg (by omega)]; rfl
theorem dneed_any (n : Nat) (hn : n ≤ 4611686018427387904) (w : World) :
    Calls Tryd.prog 65 #[.int .i64 n] w fun e w' => e = .returned (.int .i64 (needN n)) ∧ w = w' := by
  unfold needN
  have e1 := need_quo n
  have e2 := need_rem n
  go_enter Tryd.func65, Tryd.ntmps65
  by_cases hr : n % 64 > 0
  · have hr2 : decide (((n % 64 : Nat) : Int) > 0) = true := by simp; omega
    go_wp2
    go_ret
    refine ⟨ret_int ?_, rfl⟩
    omega
  · have hr2 : decide (((n % 64 : Nat) : Int) > 0) = false := by simp; omega
    go_wp2
    go_ret
    refine ⟨ret_int ?_, rfl⟩
    omega

def Dsk.atE (D : Dsk) (k : Int) : Int := if D.down then 60 else if k < 0 ∨ (D.n : Int) ≤ k then 61 else 0
theorem dat_any {F : Nat → Prop} {w : World} {d : Nat} {D : Dsk} (h : DRep F w d D) (k : Int) :
    Calls Tryd.prog 73 #[dptr d, .int .i64 k] w fun e w' => e = .returned (.int .i64 (D.atE k)) ∧ w = w' := by
  have h0 := h
  obtain ⟨sb, hv, cv, h⟩ := h
  have hB := h.bd
  obtain ⟨n, f, held, down, strokes, left, st, choice⟩ := D
  simp only [dcells] at hB
  unfold Dsk.atE
  have c0 := hB.cell 0
  have c1 := hB.cell 1
  have c2 := hB.cell 2
  have c3 := hB.cell 3
  have c4 := hB.cell 4
  have c5 := hB.cell 5
  have c6 := hB.cell 6
  go_enter Tryd.func73, Tryd.ntmps73
  go_wp2_with fail
  refine (dready_any h0).mono ?_
  rintro e w1 ⟨rfl, rfl⟩
  unfold Dsk.err
  cases down
  · by_cases h1 : k < 0
    · have d1 : decide (k < 0) = true := decide_eq_true h1
      go_wp2
      go_ret
      exact ⟨rfl, rfl⟩
    · have d1 : decide (k < 0) = false := decide_eq_false h1
      by_cases h2 : (n : Int) ≤ k
      · have d2 : decide (k ≥ (n : Int)) = true := decide_eq_true h2
        go_wp2
        go_ret
        exact ⟨rfl, rfl⟩
      · have d2 : decide (k ≥ (n : Int)) = false := decide_eq_false h2
        go_wp2
        go_ret
        exact ⟨rfl, rfl⟩
  · go_wp2
    go_ret
    exact ⟨rfl, rfl⟩
end Go.Proofs.YtgpafdagealnbaaDoor
