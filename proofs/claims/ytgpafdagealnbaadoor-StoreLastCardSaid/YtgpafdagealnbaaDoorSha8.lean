/- Walks over sha2's Write and Copy. -/
import Derived.Test.YtgpafdagealnbaaDoorSha7
namespace Go.Proofs.YtgpafdagealnbaaDoor
open Go.RowKit

theorem runk_add (h : R8) (t : List UInt8) (q j : Nat) : runk (runk h t q) (t.drop (64 * q)) j = runk h t (q + j) := by
  induction j with
  | zero => rfl
  | succ j ih =>
    show comp _ _ = comp _ _
    rw [ih, List.drop_drop, show 64 * q + 64 * j = 64 * (q + j) by omega]
    rfl
theorem runk_append (h : R8) (t l : List UInt8) (q : Nat) (hq : 64 * q ≤ t.length) : runk h (t ++ l) q = runk h t q := by
  induction q with
  | zero => rfl
  | succ q ih =>
    show comp _ _ = comp _ _
    rw [ih (by omega), List.drop_append_of_le_length (by omega), List.take_append_of_le_length (by rw [List.length_drop]; omega)]
theorem runk_write (h : R8) (t l : List UInt8) :
    runk (runk h t (t.length / 64)) (t.drop (64 * (t.length / 64)) ++ l) ((t.drop (64 * (t.length / 64)) ++ l).length / 64) = runk h (t ++ l) ((t ++ l).length / 64) := by
  have e : t.drop (64 * (t.length / 64)) ++ l = (t ++ l).drop (64 * (t.length / 64)) := (List.drop_append_of_le_length (by omega)).symm
  rw [e, ← runk_append h t l (t.length / 64) (by omega), runk_add]
  congr 1
  rw [List.length_drop]
  simp only [List.length_append]
  omega
theorem drop_write (t l : List UInt8) :
    (t.drop (64 * (t.length / 64)) ++ l).drop (64 * ((t.drop (64 * (t.length / 64)) ++ l).length / 64)) = (t ++ l).drop (64 * ((t ++ l).length / 64)) := by
  have e : t.drop (64 * (t.length / 64)) ++ l = (t ++ l).drop (64 * (t.length / 64)) := (List.drop_append_of_le_length (by omega)).symm
  rw [e, List.drop_drop]
  congr 1
  rw [List.length_drop]
  simp only [List.length_append]
  omega

section
variable {w : World} {base : Nat} {v : Value} {l : List UInt8}
theorem OB.slice (h : OB w base v l) : ∃ A c, v = .slice A l.length c := by
  rcases h.2 with ⟨rfl, h0⟩ | ⟨g, cap, cur, rfl, _⟩
  · exact ⟨none, 0, by rw [h0]⟩
  · exact ⟨_, cap, rfl⟩
theorem OB.rbp (h : OB w base v l) {g : Nat} {t : TypeId} {cs : Array Value} (hg : Blk w g t cs) (hne : 5 ≠ t) : RBP w (fun k => k ≠ g) v l := by
  obtain ⟨A, c, e, h1, h2, h3⟩ := h.rb
  refine ⟨A, c, e, h1, h2, fun hl => ?_⟩
  obtain ⟨g', o, hA, hlt, hc⟩ := h3 hl
  refine ⟨g', o, hA, fun he => own_ne h.out hg hne ?_, hc⟩
  rw [e, hA]
  show some g = some g'
  rw [he]
theorem OB.setCell (h : OB w base v l) {g i : Nat} {t : TypeId} {cs : Array Value} (hg : Blk w g t cs) (hne : 5 ≠ t) (u : Value) : OB (w.setCell ⟨g, i, none⟩ u) base v l := by
  refine World.ownsRow.kept (row := some g) h ⟨rfl, rfl, rfl, by simp, fun k _ hk => Below.heap_setCell _ _ _ _ (fun e => hk (by rw [e]))⟩ ?_
  exact .inr (Ne.symm (own_ne h.out hg hne))
theorem RBP.rb {S : Nat → Prop} (h : RBP w S v l) : RB w w.heap.size v l := RBP.mono (RBP.there h) fun _ hg => hg.2
end

/-- Block g, of the call's own (from B on), is a hash that has taken a text. -/
def HRep (B : Nat) (w : World) (g : Nat) (text : List UInt8) : Prop :=
  B ≤ g ∧ ∃ r, Blk w g 127 (hashA (text.length : Int) r (runk R8.init text (text.length / 64))) ∧ OB w B r (text.drop (64 * (text.length / 64)))

set_option maxRecDepth 100000 in
set_option maxHeartbeats 1000000 in
theorem hwrite_any (B g : Nat) (text : List UInt8) (v : Value) (l : List UInt8) (w : World) (hT : Tabs w) (hBs : 1 < B ∧ 0 < B) (hBw : B ≤ w.heap.size) (hH : HRep B w g text) (hv : RB w B v l)
    (hlen : text.length + l.length ≤ 1048576) :
    Calls Tryd.prog 67 #[.pointer (some ⟨g, 0, none⟩), v] w fun e w' => e = .returned (.int .i64 0) ∧ HRep B w' g (text ++ l) ∧ Below B w w' := by
  obtain ⟨hBg, r, hB, hr⟩ := hH
  obtain ⟨A, c, rfl, hv1, hv2, hv3⟩ := hv
  have hvv : RB w B (.slice A l.length c) l := ⟨A, c, rfl, hv1, hv2, hv3⟩
  have c15 := hB.cell 15
  have f15 := hB.frozen 15
  have c16 := hB.cell 16
  have f16 := hB.frozen 16
  have hl1 : (l.length : Int) ≤ 1048576 - text.length := by omega
  have hd : decide ((1048576 : Int) - text.length < l.length) = false := by simp; omega
  go_enter Tryd.func67, Tryd.ntmps67
  go_wp2_with (first
    | (at_builtin; refine append_bytes rfl _ _ rfl B _ _ rfl (hr.setCell hB (by decide) _) B _ l rfl ?hr ?c1 ?c2 ?_) | fail)
  case hr => exact hvv.below ((Below.refl B w).setCell (p := ⟨g, 15, none⟩) hBg _)
  case c1 => omega
  intro v1 w1 ho hg _
  have hB1 : Blk w1 g 127 (hashA ((text.length : Int) + l.length) r (runk R8.init text (text.length / 64))) := (hB.setCell_is rfl).grown hg (own_ne hr.out hB (by decide))
  have hb1 : Below B w w1 := Below.grown ((Below.refl B w).setCell (p := ⟨g, 15, none⟩) hBg _) hg (by simpa using hBw) (fun k hk => (hr.out.lt k hk).1)
  have hT1 : Tabs w1 := ⟨fun i hi => (hb1.cell (p := ⟨1, i, none⟩) hBs.1).trans (hT.k i hi), fun i hi => (hb1.cell (p := ⟨0, i, none⟩) hBs.2).trans (hT.h i hi)⟩
  go_wp2_with fail
  refine (take_any g _ r _ v1 _ (fun k => k ≠ g) (by simp) w1 hT1 hB1 (ho.rbp hB1 (by decide)) (by omega) (by omega)).mono ?_
  rintro e w2 ⟨v2, rfl, hv2, hB2, hF2⟩
  have hb2 : Below B w w2 := hb1.trans (hF2.below (Nat.le_trans hBw hb1.size) (fun k hk e => by omega))
  rw [runk_write] at hB2
  rw [drop_write] at hv2
  have hl2 : ((text ++ l).drop (64 * ((text ++ l).length / 64))).length ≤ 1048576 := by rw [List.length_drop, List.length_append]; omega
  generalize hx : (text ++ l).drop (64 * ((text ++ l).length / 64)) = X at *
  have Hx := Lib.hid hx
  clear hx
  go_wp2_with (first
    | (at_builtin; refine append_bytes rfl _ _ rfl B _ [] rfl (OB.nil _ _) w2.heap.size _ X rfl hv2.rb ?c1 (Nat.le_trans hBw hb2.size) ?_) | fail)
  case c1 => simp only [List.length_nil]; omega
  intro v3 w3 ho3 hg3 _
  have hB3 := hB2.grown hg3 (by simp [Value.ownBlock])
  have hb3 : Below B w w3 := hb2.grown hg3 (Nat.le_trans hBw hb2.size) (fun k hk => by simp [Value.ownBlock] at hk)
  obtain ⟨A3, c3, rfl⟩ := ho3.slice
  have d16 := hB3.cell 16
  have e16 := hB3.frozen 16
  go_wp2_with fail
  go_ret
  refine ⟨rfl, ⟨hBg, .slice A3 X.length c3, ?_, ?_⟩, hb3.setCell hBg _⟩
  · rw [show (((text ++ l).length : Nat) : Int) = (text.length : Int) + l.length by simp]
    exact hB3.setCell_is rfl
  · rw [Hx.out]
    exact ho3.setCell hB3 (by decide) _

theorem size_Hash : (Tryd.prog.info? 127).map (·.size) = some 33 := by kernel_rfl
def hash33 : Array Value := #[.int .i64 0, .int .i64 0, .int .i64 0, .int .i64 0, .int .i64 0, .int .i64 0, .int .i64 0, .int .i64 0, .int .i64 0, .int .i64 0, .int .i64 0, .int .i64 0, .int .i64 0, .int .i64 0, .int .i64 0, .int .i64 0, .slice none 0 0, .int .u32 0, .int .u32 0, .int .u32 0, .int .u32 0, .int .u32 0, .int .u32 0, .int .u32 0, .int .u32 0, .int .u64 0, .int .u64 0, .int .u64 0, .int .u64 0, .int .u64 0, .int .u64 0, .int .u64 0, .int .u64 0]
theorem zero_Hash (w : World) : (zeroValue 127).run Tryd.prog w = .ok (.agg hash33) w := by kernel_rfl
theorem hashA_one (n : Int) (r : Value) (hr : r.oneCell' = true) (hs : R8) : ∀ v ∈ hashA n r hs, v.oneCell' = true := by
  intro v hv
  simp only [hashA, List.mem_toArray, List.mem_cons, List.not_mem_nil, or_false] at hv
  rcases hv with h | h | h | h | h | h | h | h | h | h | h | h | h | h | h | h | h | h | h | h | h | h | h | h | h | h | h | h | h | h | h | h | h <;> subst h <;> first | rfl | exact hr

set_option maxRecDepth 100000 in
set_option maxHeartbeats 1000000 in
theorem hcopy_any (B g : Nat) (text : List UInt8) (w : World) (hBw : B ≤ w.heap.size) (hH : HRep B w g text) (hlen : text.length ≤ 1048576) :
    Calls Tryd.prog 81 #[.pointer (some ⟨g, 0, none⟩)] w fun e w' => ∃ g', e = .returned (.pointer (some ⟨g', 0, none⟩)) ∧ HRep w.heap.size w' g' text ∧ NB w w' := by
  obtain ⟨hBg, r, hB, hr⟩ := hH
  obtain ⟨A, c, rfl⟩ := hr.slice
  have hlt := hB.lt
  have hl2 : (text.drop (64 * (text.length / 64))).length ≤ 1048576 := by rw [List.length_drop]; omega
  generalize hx : text.drop (64 * (text.length / 64)) = X at *
  have Hx := Lib.hid hx
  clear hx
  generalize hy : runk R8.init text (text.length / 64) = R at *
  have Hy := Lib.hid hy
  clear hy
  have c16 := hB.cell 16
  have hrb := hr.rb
  go_enter Tryd.func81, Tryd.ntmps81
  go_wp2_with (first
    | (refine wpList_load_blk rfl 127 _ rfl g rfl 127 _ _ hB Tryd.underlying127 rfl 33 rfl size_Hash ?_)
    | (refine wpList_var_blk rfl rfl 127 3 rfl rfl _ rfl (hashA text.length (.slice A X.length c) R) hash33 rfl rfl zero_Hash 33 rfl rfl size_Hash (hashA_one _ _ rfl _) ?_)
    | (at_builtin; refine append_bytes rfl _ _ rfl w.heap.size _ [] rfl (OB.nil _ _) w.heap.size _ X rfl (hrb.below (NB.alloc (NB.refl _) _)) ?c1 ?c2 ?_) | fail)
  case c1 => simp only [List.length_nil]; omega
  case c2 => simp
  intro v3 w3 ho3 hg3 _
  have hB3 : Blk w3 w.heap.size 127 (hashA text.length (.slice A X.length c) R) := (Blk.newAt rfl).grown hg3 (by simp [Value.ownBlock])
  have hn3 : NB w w3 := NB.grown ((NB.refl w).alloc _) hg3 (fun k hk => by simp [Value.ownBlock] at hk)
  obtain ⟨A3, c3, rfl⟩ := ho3.slice
  have d16 := hB3.cell 16
  have e16 := hB3.frozen 16
  go_wp2_with fail
  go_ret
  refine ⟨_, rfl, ⟨Nat.le_refl _, .slice A3 X.length c3, ?_, ?_⟩, hn3.setCell (Nat.le_refl _) _⟩
  · rw [Hy.out]
    exact hB3.setCell_is rfl
  · rw [Hx.out]
    exact ho3.setCell hB3 (by decide) _
end Go.Proofs.YtgpafdagealnbaaDoor
