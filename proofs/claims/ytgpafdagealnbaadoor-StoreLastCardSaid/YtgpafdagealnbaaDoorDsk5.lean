/- The disk: puts. -/
import Derived.Test.YtgpafdagealnbaaDoorDsk4
namespace Go.Proofs.YtgpafdagealnbaaDoor
open Go.RowKit

section
variable {P : Program}
theorem wpList_clear_own {w : World} {ops : Array Oper} {rest : List Oper} {op : Oper} {a : Act} {Q : Exit → Act → World → Prop} (hgd : op.guard = none) (x : Operand) (t : TypeId)
    (ho : op.op = .call { callee := .builtin .clear, args := #[x], argTypes := #[t] }) (base : Nat) (e : TypeId) (z : Value) (size : Nat) (ht : P.underlying t = some (.slice e)) (hz : ∀ w, (zeroValue e).run P w = .ok z w) (hzs : z.cells.size = size) (h0 : 0 < size)
    (h1 : ∀ u ∈ z.cells, u.oneCell' = true) (v : Value) (n : Nat) (xs : List Value) (hx : a.eval x = v) (hown : w.ownsRow base e size v n xs)
    (h : ∀ w' ys, w'.ownsRow base e size v n ys → w.grownBy w' v.ownBlock → w'.heap.size = w.heap.size → wpList P ops Q rest (a.put op.dst (.tuple #[])) w') : wpList P ops Q (op :: rest) a w := by
  refine wpList_plain hgd fun K hK => ?_
  obtain ⟨w', ys, hrun, h2, h3, h4⟩ := run_clear_own (P := P) w base t e op.type z size ht hz hzs h0 h1 v n xs hown
  unfold Oper.wp execOp
  simp only [ho, resolve, invoke, builtin, Sem.run_bind, Sem.run_pure, Result.andThen_ok, List.map_toArray, List.map_cons, List.map_nil, hx, hrun]
  exact hK _ _ (h w' ys h2 h3 h4)
theorem wpQuiet_load {ops : Array Oper} {C : World → Prop} {Q : Act → Prop} {a : Act} {o : Oper} {rest : List Oper} (hgd : o.guard = none) (ty : TypeId) (x : Operand) (ho : o.op = .load ty x) (p v : Value) (hx : a.eval x = p)
    (hrun : ∀ w, C w → (Instr.loadAt ty p).run P w = .ok v w) (h : wpQuiet P ops C Q rest (a.put o.dst v)) : wpQuiet P ops C Q (o :: rest) a := by
  refine wpQuiet_step fun K hK => ?_
  rw [if_pos (by simp [Region.wanted, hgd])]
  refine ⟨v, fun w hw => ?_, hK _ h⟩
  unfold Oper.quietAt execOp
  simp only [ho, hx, Sem.run_bind, hrun w hw, Sem.run_pure, Result.andThen_ok]
  exact ⟨rfl, rfl⟩
end
theorem size_sector : (Tryd.prog.info? 59).map (·.size) = some 64 := by kernel_rfl
theorem size_held : (Tryd.prog.info? 92).map (·.size) = some 65 := by kernel_rfl

theorem zheld_one : ∀ u ∈ (Value.agg ((.int .i64 0 :: bv (List.replicate 64 0)).toArray)).cells, u.oneCell' = true := fun u hu => hcells_one [(0, List.replicate 64 0)] u (by simpa [Value.cells, hcells] using hu)

def Dsk.puts (D : Dsk) (sel : Nat → Bool) : Dsk := { D with f := lay D.f sel 0 D.held, held := [] }

theorem DRepA.ne {F : Nat → Prop} {w : World} {d : Nat} {D : Dsk} {sb : Nat} {hv cv : Value} (h : DRepA F w d D sb hv cv) : sb ≠ d ∧ (∀ k, hv.ownBlock = some k → k ≠ d ∧ k ≠ sb) ∧ ∀ k, cv.ownBlock = some k → k ≠ d ∧ k ≠ sb ∧ some k ≠ hv.ownBlock := by
  refine ⟨fun e => h.bs.ne_ h.bd (by decide) e, fun k e => ⟨fun e2 => own_ne h.hh h.bd (by decide) (by rw [e, e2]), fun e2 => own_ne h.hh h.bs (by decide) (by rw [e, e2])⟩,
    fun k e => ⟨fun e2 => own_ne h.hc h.bd (by decide) (by rw [e, e2]), fun e2 => own_ne h.hc h.bs (by decide) (by rw [e, e2]), fun e2 => ?_⟩⟩
  rcases h.hc.2 with ⟨e3, _⟩ | ⟨g, cap, cur, e3, _, hg, _⟩
  · rw [e3] at e; cases e
  · rw [e3] at e
    have : g = k := by simpa [Value.ownBlock] using e
    subst this
    exact own_ne h.hh hg (by decide) e2
theorem held_there {w : World} {held : List (Nat × List UInt8)} {g c k : Nat} (h : w.ownsRow 0 92 65 (.slice (some ⟨g, 0, none⟩) held.length c) held.length (hcells held)) (hl : ∀ h ∈ held, h.2.length = 64) (hk : k < held.length) :
    w.rangeAt g (65 * k) (.int .i64 (held[k].1 : Int) :: bv held[k].2) := by
  intro j v hv
  have := hcells_at held hl k hk j v hv
  have := h.cells rfl (65 * k + j) v this
  rwa [addr_add, Nat.zero_add] at this

set_option maxRecDepth 20000 in
set_option maxHeartbeats 1000000 in
theorem puts_any {F : Nat → Prop} {w : World} {d : Nat} {D : Dsk} {sb : Nat} {hv cv : Value} (h : DRepA F w d D sb hv cv) (q : FuncId) (cap : Array Value) (sel : Nat → Bool)
    (hq : ∀ (args : Array Value) (W : World), (callFunc q args).run Tryd.prog W = .ok (.enter q args) W)
    (hcall : ∀ (k : Nat) (W : World), k < D.held.length → Fr w.heap.size (· = sb) w W → Calls Tryd.prog q (#[.int .i64 k] ++ cap) W fun e w' => e = .returned (.bool (sel k)) ∧ W = w') :
    Calls Tryd.prog 37 #[dptr d, .func (.func q) #[] cap] w fun e w' => e = .returned (.tuple #[]) ∧ DGo F w d (D.puts sel) w' := by
  have hB := h.bd
  have hBs := h.bs
  have hw := h.wf
  obtain ⟨n1, n2, n3⟩ := h.ne
  have hown := h.hh
  obtain ⟨n, f, held, down, strokes, left, st, choice⟩ := D
  obtain ⟨A, c, rfl⟩ := own_form h.hh
  have hlt1 := hw.held
  have hfew := hw.few
  simp only [dcells] at hB hBs hown hcall hlt1 hfew
  have hl64 : ∀ h ∈ held, h.2.length = 64 := fun x hx => (hlt1 x hx).2
  have c0 := hB.cell 0
  have c1 := hB.cell 1
  have c2 := hB.cell 2
  have c3 := hB.cell 3
  have c4 := hB.cell 4
  have c5 := hB.cell 5
  have c6 := hB.cell 6
  go_enter Tryd.func37, Tryd.ntmps37
  go_wp2
  go_loopw [10] (fun i wr => ∃ k : Nat, k ≤ held.length ∧ i = .int .i64 k ∧ Blk wr sb 59 (bya (64 * n) (lay f sel 0 (held.take k))) ∧ Fr w.heap.size (· = sb) w wr) (fun i _ => held.length - (intOf i).toNat)
  case atStart => exact ⟨0, Nat.zero_le _, rfl, hBs, Fr.refl _ _ _⟩
  case round =>
    obtain ⟨k, hk, rfl, hBr, hFr⟩ := hrel
    have hBd : Blk wr d 57 _ := hB.fr hFr hB.lt (fun e => n1 e.symm)
    have hor := own_below (w' := wr) hown fun j e => hFr.block j (h.lt j (h.fh j e)) (n2 j e).2
    by_cases hlt : k < held.length
    · have d1 : decide ((k : Int) < (held.length : Int)) = true := by simpa using hlt
      clear c0 c1 c2 c3 c4 c5 c6
      have c0 := hBd.cell 0
      have c1 := hBd.cell 1
      have c2 := hBd.cell 2
      have c3 := hBd.cell 3
      have c4 := hBd.cell 4
      have c5 := hBd.cell 5
      have c6 := hBd.cell 6
      go_wp2_with fail
      refine (hcall k wr hlt hFr).mono ?_
      rintro e w1 ⟨rfl, rfl⟩
      have hlk := lay_take f sel held k hlt
      cases hs : sel k
      · rw [hs, if_neg (by decide)] at hlk
        go_wp2
        exact ⟨⟨k + 1, by omega, by go_num, by rw [hlk]; exact hBr, hFr⟩, by simp [intOf]; omega⟩
      · rw [hs, if_pos rfl] at hlk
        obtain ⟨g, rfl⟩ : ∃ g, A = some ⟨g, 0, none⟩ := by
          rcases hown.2 with ⟨e, e2⟩ | ⟨g, cap, cur, e, _⟩
          · omega
          · injection e with e
            exact ⟨g, e⟩
        have hra := held_there hor hl64 hlt
        have hat := (hlt1 held[k] (List.getElem_mem hlt)).1
        have hbl := hl64 held[k] (List.getElem_mem hlt)
        generalize held[k] = hk' at *
        obtain ⟨at_, b⟩ := hk'
        simp only at hra hat hbl hlk
        have hc65 : wr.cell? ⟨g, k * 65, none⟩ = some (.int .i64 (at_ : Int)) := by
          have := hra 0 _ rfl
          rwa [Nat.add_zero, Nat.mul_comm] at this
        have hld : ∀ x : Ext wr, (Instr.loadAt 59 (.pointer (some ⟨g, k * 65 + 1, none⟩))).run Tryd.prog x.val = .ok (.agg (bv b).toArray) x.val := fun x => by
          refine run_loadAt_mid x.val g (k * 65 + 1) 59 (bv b) _ (fun j u hu => ?_) Tryd.underlying59 rfl (by rw [bv_length, hbl]; exact size_sector)
          have := hra (j + 1) u (by simpa using hu)
          rw [show k * 65 + 1 + j = 65 * k + (j + 1) by omega]
          exact (Ext.cell x _ (by rw [this]; rfl)).trans this
        go_wp2
        refine wp_region_tail_ext 20 (by kernel_rfl) (by kernel_rfl) ?_
        simp only [List.take_succ_cons, List.take_zero, List.drop_succ_cons, List.drop_zero]
        repeat (go_big_quiet_step (fail))
        refine wpQuiet_load rfl 59 _ rfl _ _ rfl (fun w' hw' => by obtain ⟨x, rfl⟩ := hw'; exact hld x) ?_
        refine wpQuiet_nil ?_
        intro x
        have hBx := hBr.ext x
        have hsp : ((bya (64 * n) (lay f sel 0 (held.take k))).toList.take (at_ * 64) ++ (bv b).toArray.toList ++ (bya (64 * n) (lay f sel 0 (held.take k))).toList.drop (at_ * 64 + 64)).toArray = bya (64 * n) (lay f sel 0 (held.take (k + 1))) := by
          rw [hlk, ← splice_bya (64 * n) _ (64 * at_) b (by omega), hbl, Nat.mul_comm at_ 64]
        go_wp2_with (first | (refine wpList_store_sub rfl 59 _ _ rfl sb (at_ * 64) (bv b).toArray rfl rfl 59 _ _ hBx 64 (by simp [bv_length, hbl]) (by rw [bya_size]; omega) size_sector (fun u hu => bv_one b u (by simpa using hu)) hsp ?_) | fail)
        refine ⟨⟨k + 1, by omega, by go_num, (by rw [hlk]; exact hBx.setRow _), (hFr.nb hFr.size x.nb).setRow (.inl rfl) _⟩, by simp [intOf]; omega⟩
    · have hkl : k = held.length := by omega
      subst hkl
      rw [List.take_length] at hBr
      have d1 : decide ((held.length : Int) < (held.length : Int)) = false := by simp
      clear c0 c1 c2 c3 c4 c5 c6
      have c0 := hBd.cell 0
      have c1 := hBd.cell 1
      have c2 := hBd.cell 2
      have c3 := hBd.cell 3
      have c4 := hBd.cell 4
      have c5 := hBd.cell 5
      have c6 := hBd.cell 6
      have hcr := own_below (w' := wr) h.hc fun j e => hFr.block j (h.lt j (h.fc j e)) (n3 j e).2.1
      have hfin : ∀ (w2 : World) (hv2 : Value) (ys : List Value), wr.grownBy w2 (Value.slice A held.length c).ownBlock → w2.heap.size = wr.heap.size → w2.ownsRow 0 92 65 hv2 0 [] → hv2.ownBlock = (Value.slice A held.length c).ownBlock →
          DGo F w d (Dsk.puts ⟨n, f, held, down, strokes, left, st, choice⟩ sel) (w2.setCell ⟨d, 1, none⟩ hv2) := by
        intro w2 hv2 ys hg hs ho hov
        have hd2 : Blk w2 d 57 _ := hBd.grown hg (fun e => (n2 d e.symm).1 rfl)
        have hb2 : Blk w2 sb 59 _ := hBr.grown hg (fun e => (n2 sb e.symm).2 rfl)
        have hf2 : Fr w.heap.size F w w2 := (hFr.mono (Nat.le_refl _) (fun k _ e => by rw [e]; exact h.fs)).grown hg hFr.size (fun k e => .inl (h.fh k e))
        refine ⟨F, ⟨sb, hv2, cv, ?_⟩, fun k hk => .inl hk, hf2.setCell (p := ⟨d, 1, none⟩) (.inl h.fd) _⟩
        exact
        { wf := ⟨hw.n1, hw.n2, (by intro x hx; cases hx), Nat.zero_le _, hw.choice, hw.l1, hw.l2⟩
          fd := h.fd, fs := h.fs, fh := fun k e => h.fh k (by rw [← hov]; exact e), fc := h.fc, lt := fun k hk => by rw [heap_len, hs]; exact Nat.lt_of_lt_of_le (h.lt k hk) hFr.size
          bd := hd2.setCell_is rfl, bs := (heap_far n1).trans hb2
          hh := own_below ho fun k e => heap_far (n2 k (by rw [← hov]; exact e)).1
          hc := own_below (own_below hcr fun k e => hg.block k (Nat.lt_of_lt_of_le (h.lt k (h.fc k e)) hFr.size) (n3 k e).2.2) fun k e => heap_far (n3 k e).1 }
      rcases hown.2 with ⟨e, e2⟩ | ⟨g, cap', cur, e, _⟩
      · injection e with e _ e3
        subst e
        subst e3
        have hcl : ∀ (t : TypeId) (W : World), (Builtin.clear_ #[55] t #[.slice none 0 0]).run Tryd.prog W = .ok (.tuple #[]) W := fun t W => by simp [Builtin.clear_, run_underlying Tryd.underlying55]
        have e2' := Lib.hid e2
        have f0 := hBd.frozen 1
        go_wp2
        go_end0
        exact ⟨rfl, hfin wr (.slice none 0 0) [] (World.grownBy.refl _ _) rfl (World.ownsRow_nil _ _ _ _) rfl⟩
      · injection e with e _ e3
        subst e
        subst e3
        go_wp2_with (first | (refine wpList_clear_own rfl _ 55 rfl 0 92 _ 65 Tryd.underlying55 zero_held rfl (by decide) zheld_one _ held.length _ rfl hor ?_) | fail)
        intro w2 ys ho hg hs
        have hBd2 : Blk w2 d 57 _ := hBd.grown hg (fun e => (n2 d e.symm).1 rfl)
        have f0 := hBd2.frozen 1
        clear c0 c1 c2 c3 c4 c5 c6
        have c0 := hBd2.cell 0
        have c1 := hBd2.cell 1
        have c2 := hBd2.cell 2
        have c3 := hBd2.cell 3
        have c4 := hBd2.cell 4
        have c5 := hBd2.cell 5
        have c6 := hBd2.cell 6
        go_wp2
        go_end0
        refine ⟨rfl, hfin w2 _ ys hg hs ?_ rfl⟩
        refine ⟨rfl, .inr ?_⟩
        rcases ho.2 with ⟨e, _⟩ | ⟨g', cap'', cur', e, h1, h2, h3, h4, h5, _⟩
        · cases e
        · injection e with e _ e3
          subst e3
          injection e with e
          injection e with e
          subst e
          exact ⟨g, c, cur', rfl, h1, h2, Nat.zero_le _, h4, h5, by simp⟩
end Go.Proofs.YtgpafdagealnbaaDoor
