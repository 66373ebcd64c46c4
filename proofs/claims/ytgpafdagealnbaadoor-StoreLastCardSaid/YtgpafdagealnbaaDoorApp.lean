/- Appending: rows of the call's own, and what is read. -/
import Derived.Test.YtgpafdagealnbaaDoorBase
import Derived.OwnWalk
import Derived.Laws.AppendOwn
namespace Go.Proofs.YtgpafdagealnbaaDoor
open Go.RowKit

/-- The value v is a slice of n elements, size cells each, that reads in w as the cells xs; they lie below block B. -/
def RV (w : World) (B size : Nat) (v : Value) (n : Nat) (xs : List Value) : Prop :=
  ∃ A c, v = .slice A n c ∧ n ≤ c ∧ c ≤ 9223372036854775807 ∧ xs.length = n * size ∧
    (0 < n → ∃ g o, A = some ⟨g, o, none⟩ ∧ g < B ∧ ∀ j u, xs[j]? = some u → w.cell? ⟨g, o + j, none⟩ = some u)
theorem RV.keep {w w' : World} {B size n : Nat} {v : Value} {xs : List Value} (h : RV w B size v n xs) (hk : ∀ g o, g < B → w'.cell? ⟨g, o, none⟩ = w.cell? ⟨g, o, none⟩) : RV w' B size v n xs := by
  obtain ⟨A, c, e, h1, h2, hl, h3⟩ := h
  refine ⟨A, c, e, h1, h2, hl, fun hn => ?_⟩
  obtain ⟨g, o, hA, hg, hc⟩ := h3 hn
  exact ⟨g, o, hA, hg, fun i b hb => (hk _ _ hg).trans (hc i b hb)⟩
theorem RV.more {w : World} {B B' size n : Nat} {v : Value} {xs : List Value} (h : RV w B size v n xs) (hB : B ≤ B') : RV w B' size v n xs := by
  obtain ⟨A, c, e, h1, h2, hl, h3⟩ := h
  refine ⟨A, c, e, h1, h2, hl, fun hn => ?_⟩
  obtain ⟨g, o, hA, hg, hc⟩ := h3 hn
  exact ⟨g, o, hA, by omega, hc⟩
theorem RV.below {w w' : World} {B size n : Nat} {v : Value} {xs : List Value} (h : RV w B size v n xs) (hb : Below B w w') : RV w' B size v n xs :=
  h.keep fun _ _ hg => hb.cell hg
theorem RB.rv {w : World} {B : Nat} {v : Value} {l : List UInt8} (h : RB w B v l) : RV w B 1 v l.length (bv l) := by
  obtain ⟨A, c, e, h1, h2, h3⟩ := h
  refine ⟨A, c, e, h1, h2, by simp [bv], fun hn => ?_⟩
  obtain ⟨g, o, hA, hg, hc⟩ := h3 hn
  refine ⟨g, o, hA, hg, fun j u hu => ?_⟩
  rw [bv_get] at hu
  cases hx : l[j]? with
  | none => simp [hx] at hu
  | some x => simp [hx] at hu; rw [← hu]; exact hc j x hx
theorem RV.rb {w : World} {B n : Nat} {v : Value} {l : List UInt8} (h : RV w B 1 v n (bv l)) : RB w B v l := by
  obtain ⟨A, c, e, h1, h2, hl, h3⟩ := h
  have hn : n = l.length := by simpa [bv] using hl.symm
  subst hn
  refine ⟨A, c, e, h1, h2, fun hn => ?_⟩
  obtain ⟨g, o, hA, hg, hc⟩ := h3 hn
  exact ⟨g, o, hA, hg, fun j b hb => hc j _ (by rw [bv_get, hb]; rfl)⟩

theorem addr_add (g o j : Nat) : (⟨g, o, none⟩ : Addr).add j = ⟨g, o + j, none⟩ := by unfold Addr.add; split <;> simp_all

/-- A row of the call's own is read. -/
theorem own_rv {w : World} {base size n : Nat} {e : TypeId} {v : Value} {xs : List Value} (h : w.ownsRow base e size v n xs) : RV w w.heap.size size v n xs := by
  rcases h.2 with ⟨rfl, h0⟩ | ⟨g, cap, cur, rfl, hb, hg, hn, hm, hs, ht⟩
  · subst h0
    exact ⟨none, 0, rfl, by omega, by omega, h.1, fun h => by omega⟩
  · refine ⟨_, cap, rfl, hn, by simpa only [maxLen] using hm, h.1, fun hn => ⟨g, 0, rfl, (Array.getElem?_eq_some_iff.1 hg).1, fun j u hu => ?_⟩⟩
    have := h.cells (g := g) rfl j u hu
    rwa [addr_add] at this
/-- The slice v is nil, or the head of a row of bytes of the call's own (from block base on): it holds l. -/
def OB (w : World) (base : Nat) (v : Value) (l : List UInt8) : Prop := w.ownsRow base 5 1 v l.length (bv l)
theorem OB.nil (w : World) (base : Nat) : OB w base (.slice none 0 0) [] := World.ownsRow_nil w base 5 1
theorem OB.out {w : World} {base : Nat} {v : Value} {l : List UInt8} (h : OB w base v l) : w.ownsRow base 5 1 v l.length (bv l) := h
theorem OB.alloc {w : World} {base : Nat} {v : Value} {l : List UInt8} (h : OB w base v l) (o : Obj) : OB (w.alloc o) base v l := World.ownsRow.alloc h o
theorem OB.kept {w w' : World} {base : Nat} {v : Value} {l : List UInt8} {row : Option Nat} (h : OB w base v l) (hg : w.grownBy w' row) (hne : v.ownBlock = none ∨ v.ownBlock ≠ row) : OB w' base v l := World.ownsRow.kept h hg hne
theorem OB.rb {w : World} {base : Nat} {v : Value} {l : List UInt8} (h : OB w base v l) : RB w w.heap.size v l := (own_rv h).rb

section
variable {P : Program} (w : World)

theorem run_append_own2 (base : Nat) (t ty e : TypeId) (i : TypeInfo) (z : Value) (size bytes : Nat) (ht : P.underlying t = some (.slice e)) (hi : P.info? e = some i) (hz : i.zero = some z)
    (hsize : i.size = size) (hby : i.bytes = bytes) (hzs : z.cells.size = size) (hsz : 0 < size)
    (v : Value) (n : Nat) (xs : List Value) (hown : w.ownsRow base e size v n xs)
    (a : Addr) (m c : Nat) (news : List Value) (hl : news.length = m * size) (hnews : ∀ j u, news[j]? = some u → w.cell? (a.add j) = some u) (h1 : ∀ u ∈ news, u.oneCell' = true)
    (h63 : n + m ≤ maxLen) (hbytes : (n + m) * bytes ≤ 140737488355328) (hbase : base ≤ w.heap.size) :
    ∃ v' w', (Builtin.append_ #[t, t] ty #[v, .slice (some a) m c]).run P w = .ok v' w' ∧ w'.ownsRow base e size v' (n + m) (xs ++ news) ∧ w.grownBy w' v.ownBlock ∧
      (v'.ownBlock = v.ownBlock ∨ ∃ k, v'.ownBlock = some k ∧ w.heap.size ≤ k) := by
  obtain ⟨v', w', hrun, ho, hg, hnil⟩ := run_append_own (P := P) w base t ty e i z size bytes ht hi hz hsize hby hzs hsz v n xs hown a m c news hl hnews h1 h63 hbytes hbase
  refine ⟨v', w', hrun, ho, hg, ?_⟩
  rcases hown.2 with ⟨rfl, rfl⟩ | ⟨g, cap, cur, rfl, hbg, hgg, hnc, hcm, hcs, htake⟩
  · have hx : xs = [] := List.eq_nil_of_length_eq_zero (by simpa using hown.1)
    subst hx
    obtain ⟨v2, w2, hrun2, ho2, _, _⟩ := run_append_own (P := P) w w.heap.size t ty e i z size bytes ht hi hz hsize hby hzs hsz _ _ _ (World.ownsRow_nil w w.heap.size e size) a m c news hl hnews h1 h63 hbytes (Nat.le_refl _)
    rw [hrun] at hrun2
    injection hrun2 with hv hw
    subst hv; subst hw
    rcases ho2.2 with ⟨rfl, _⟩ | ⟨g, cap, cur, rfl, hbg, _⟩
    · exact .inl rfl
    · exact .inr ⟨g, rfl, hbg⟩
  · by_cases hroom : n + m ≤ cap
    · subst hsize
      have hfit : n * i.size + news.length ≤ cur.size := by rw [hl, hcs, ← Nat.add_mul]; exact Nat.mul_le_mul_right _ hroom
      have hr := run_append_room (P := P) w t ty e i ht hi g n cap cur hgg a m c news hl hnews h1 hroom hfit
      rw [hrun] at hr
      injection hr with hv hw
      subst hv
      exact .inl rfl
    · subst hsize
      subst hby
      have holds : ∀ j u, xs[j]? = some u → w.cell? ((⟨g, 0, none⟩ : Addr).add j) = some u := hown.cells (g := g) rfl
      have hr := run_append_grow (P := P) w t ty e i z ht hi hz ⟨g, 0, none⟩ n cap xs hown.1 holds a m c news hl hnews (by omega) (by simp only [maxLen] at h63; omega) (growslice_fits (by omega) hbytes)
      rw [hrun] at hr
      injection hr with hv hw
      subst hv
      exact .inr ⟨w.heap.size, rfl, Nat.le_refl _⟩

theorem run_append_rv (base : Nat) (t ty e : TypeId) (i : TypeInfo) (z : Value) (size bytes : Nat) (ht : P.underlying t = some (.slice e)) (hi : P.info? e = some i) (hz : i.zero = some z)
    (hsize : i.size = size) (hby : i.bytes = bytes) (hzs : z.cells.size = size) (hsz : 0 < size)
    (v : Value) (n : Nat) (xs : List Value) (hown : w.ownsRow base e size v n xs)
    (B m : Nat) (u : Value) (news : List Value) (hr : RV w B size u m news) (h1 : ∀ u ∈ news, u.oneCell' = true)
    (h63 : n + m ≤ maxLen) (hbytes : (n + m) * bytes ≤ 140737488355328) (hbase : base ≤ w.heap.size) :
    ∃ v' w', (Builtin.append_ #[t, t] ty #[v, u]).run P w = .ok v' w' ∧ w'.ownsRow base e size v' (n + m) (xs ++ news) ∧ w.grownBy w' v.ownBlock ∧
      (v'.ownBlock = v.ownBlock ∨ ∃ k, v'.ownBlock = some k ∧ w.heap.size ≤ k) := by
  obtain ⟨A, c, rfl, _, _, hl, hc⟩ := hr
  rcases A with _ | ad
  · have hm : m = 0 := by
      rcases Nat.eq_zero_or_pos m with h0 | h0
      · exact h0
      · obtain ⟨g, o, h, _⟩ := hc h0
        cases h
    subst hm
    have hn : news = [] := List.eq_nil_of_length_eq_zero (by simpa using hl)
    subst hn
    refine ⟨v, w, ?_, by simpa using hown, World.grownBy.refl w _, .inl rfl⟩
    rcases hown.2 with ⟨rfl, rfl⟩ | ⟨g, cap, cur, rfl, _, _, hnc, _⟩
    · simp [Builtin.append_, run_underlying ht, sizeOf, typeInfo, hi, Builtin.lenOf, Builtin.firstCells]
    · simp [Builtin.append_, run_underlying ht, sizeOf, typeInfo, hi, Builtin.lenOf, Builtin.firstCells, hnc, storeCells]
  · have hnews : ∀ j u, news[j]? = some u → w.cell? (ad.add j) = some u := by
      intro j u hu
      have hm : 0 < m := by
        rcases Nat.eq_zero_or_pos m with h0 | h0
        · subst h0
          have : news = [] := List.eq_nil_of_length_eq_zero (by simpa using hl)
          subst this
          simp at hu
        · exact h0
      obtain ⟨g, o, h, _, hcc⟩ := hc hm
      injection h with h
      subst h
      rw [addr_add]
      exact hcc j u hu
    exact run_append_own2 (P := P) w base t ty e i z size bytes ht hi hz hsize hby hzs hsz v n xs hown ad m c news hl hnews h1 h63 hbytes hbase

/-- 'append(s, x...)' onto a row of the call's own. -/
theorem wp_append_rv {o : Oper} {a : Act} {K : Act → World → Prop} {Q : Exit → Act → World → Prop} (s x : Operand) (t : TypeId)
    (ho : o.op = .call { callee := .builtin .append, args := #[s, x], argTypes := #[t, t] })
    (base : Nat) (e : TypeId) (z : Value) (size bytes : Nat) (ht : P.underlying t = some (.slice e)) (hinfo : (P.info? e).map (fun i => (i.zero, i.size, i.bytes)) = some (some z, size, bytes))
    (hzs : z.cells.size = size) (hsz : 0 < size)
    (v : Value) (n : Nat) (xs : List Value) (hs : a.eval s = v) (hown : w.ownsRow base e size v n xs)
    (B m : Nat) (u : Value) (news : List Value) (hx : a.eval x = u) (hr : RV w B size u m news) (h1 : ∀ u ∈ news, u.oneCell' = true)
    (h63 : (n + m) * bytes ≤ 140737488355328) (hb1 : 1 ≤ bytes) (hbase : base ≤ w.heap.size)
    (h : ∀ v' w', w'.ownsRow base e size v' (n + m) (xs ++ news) → w.grownBy w' v.ownBlock → (v'.ownBlock = v.ownBlock ∨ ∃ k, v'.ownBlock = some k ∧ w.heap.size ≤ k) → K (a.put o.dst v') w') : o.wp P a w K Q := by
  obtain ⟨i, hi, hz, hsize, hby⟩ := info_parts hinfo
  have h63' : n + m ≤ maxLen := by
    have : (n + m) * 1 ≤ (n + m) * bytes := Nat.mul_le_mul_left _ hb1
    simp only [maxLen]; omega
  obtain ⟨v', w', hrun, ho', hg, hv⟩ := run_append_rv (P := P) w base t o.type e i z size bytes ht hi hz hsize hby hzs hsz v n xs hown B m u news hr h1 h63' h63 hbase
  unfold Oper.wp execOp
  simp only [ho, resolve, invoke, builtin, Sem.run_bind, Sem.run_pure, Result.andThen_ok, List.map_toArray, List.map_cons, List.map_nil, hs, hx, hrun]
  exact h v' w' ho' hg hv

theorem wpList_append_rv {ops : Array Oper} {rest : List Oper} {o : Oper} {a : Act} {Q : Exit → Act → World → Prop} (hgd : o.guard = none) (s x : Operand) (t : TypeId)
    (ho : o.op = .call { callee := .builtin .append, args := #[s, x], argTypes := #[t, t] })
    (base : Nat) (e : TypeId) (z : Value) (size bytes : Nat) (ht : P.underlying t = some (.slice e)) (hinfo : (P.info? e).map (fun i => (i.zero, i.size, i.bytes)) = some (some z, size, bytes))
    (hzs : z.cells.size = size) (hsz : 0 < size)
    (v : Value) (n : Nat) (xs : List Value) (hs : a.eval s = v) (hown : w.ownsRow base e size v n xs)
    (B m : Nat) (u : Value) (news : List Value) (hx : a.eval x = u) (hr : RV w B size u m news) (h1 : ∀ u ∈ news, u.oneCell' = true)
    (h63 : (n + m) * bytes ≤ 140737488355328) (hb1 : 1 ≤ bytes) (hbase : base ≤ w.heap.size)
    (h : ∀ v' w', w'.ownsRow base e size v' (n + m) (xs ++ news) → w.grownBy w' v.ownBlock → (v'.ownBlock = v.ownBlock ∨ ∃ k, v'.ownBlock = some k ∧ w.heap.size ≤ k) → wpList P ops Q rest (a.put o.dst v') w') : wpList P ops Q (o :: rest) a w :=
  wpList_plain hgd fun _ hK => wp_append_rv w s x t ho base e z size bytes ht hinfo hzs hsz v n xs hs hown B m u news hx hr h1 h63 hb1 hbase fun v' w' h2 h3 h4 => hK _ _ (h v' w' h2 h3 h4)
end

theorem info_u8 : (Tryd.prog.info? 5).map (fun i => (i.zero, i.size, i.bytes)) = some (some (.int .u8 0), 1, 1) := by kernel_rfl
theorem bv_one (l : List UInt8) : ∀ u ∈ bv l, u.oneCell' = true := by
  intro u hu
  simp only [bv, List.mem_map] at hu
  obtain ⟨b, _, rfl⟩ := hu
  rfl
/-- 'append(s, x...)' of bytes, onto bytes of the call's own. -/
theorem append_bytes {w : World} {ops : Array Oper} {rest : List Oper} {o : Oper} {a : Act} {Q : Exit → Act → World → Prop} (hgd : o.guard = none) (s x : Operand)
    (ho : o.op = .call { callee := .builtin .append, args := #[s, x], argTypes := #[22, 22] })
    (base : Nat) (v : Value) (l : List UInt8) (hs : a.eval s = v) (hown : OB w base v l)
    (B : Nat) (u : Value) (m : List UInt8) (hx : a.eval x = u) (hr : RB w B u m)
    (h63 : l.length + m.length ≤ 140737488355328) (hbase : base ≤ w.heap.size)
    (h : ∀ v' w', OB w' base v' (l ++ m) → w.grownBy w' v.ownBlock → (v'.ownBlock = v.ownBlock ∨ ∃ k, v'.ownBlock = some k ∧ w.heap.size ≤ k) → wpList Tryd.prog ops Q rest (a.put o.dst v') w') : wpList Tryd.prog ops Q (o :: rest) a w := by
  refine wpList_append_rv w hgd s x 22 ho base 5 (.int .u8 0) 1 1 Tryd.underlying22 info_u8 rfl (by decide) v l.length (bv l) hs hown B m.length u (bv m) hx hr.rv (bv_one m) (by omega) (by decide) hbase ?_
  intro v' w' h1 h2 h3
  exact h v' w' (by unfold OB; rw [List.length_append, bv_append]; exact h1) h2 h3

section
variable {w w' : World} {g : Nat} {t : TypeId} {cs : Array Value}
theorem Blk.grown {row : Option Nat} (h : Blk w g t cs) (hb : w.grownBy w' row) (hg : some g ≠ row) : Blk w' g t cs := (hb.block g h.lt hg).trans h
/-- A row and a block of another type are two. -/
theorem own_ne {base : Nat} {e : TypeId} {size n : Nat} {v : Value} {xs : List Value} (h : w.ownsRow base e size v n xs) (hg : Blk w g t cs) (hne : e ≠ t) : some g ≠ v.ownBlock := by
  rcases h.2 with ⟨rfl, _⟩ | ⟨g', cap, cur, rfl, _, hh, _⟩
  · simp [Value.ownBlock]
  · intro he
    have : g = g' := by simpa [Value.ownBlock] using he
    subst this
    exact Blk.ne_ (t := e) hh hg hne rfl
theorem NB.own {base : Nat} {e : TypeId} {size n : Nat} {v : Value} {xs : List Value} {w0 : World} (h : NB w0 w) (ho : w.ownsRow base e size v n xs) (hb : w0.heap.size ≤ base) (hg : w.grownBy w' v.ownBlock) : NB w0 w' :=
  h.grown hg fun k hk => by have := (ho.lt k hk).1; omega
end
theorem OB.ext {w : World} {base : Nat} {v : Value} {l : List UInt8} (h : OB w base v l) (x : Ext w) : OB x.val base v l :=
  h.kept (row := none) ⟨x.nb.os, x.nb.tape, x.nb.output, x.nb.size, fun k hk _ => x.nb.block k hk⟩ (by cases v.ownBlock <;> simp)
theorem OB.drewN {w : World} {base : Nat} {v : Value} {l : List UInt8} (h : OB w base v l) (n : Nat) : OB (w.drewN n) base v l := h
theorem own_ext {w : World} {base : Nat} {e : TypeId} {size n : Nat} {v : Value} {xs : List Value} (h : w.ownsRow base e size v n xs) (x : Ext w) : x.val.ownsRow base e size v n xs :=
  h.kept (row := none) ⟨x.nb.os, x.nb.tape, x.nb.output, x.nb.size, fun k hk _ => x.nb.block k hk⟩ (by cases v.ownBlock <;> simp)
/-- One byte, in a new block. -/
theorem rb_one (w : World) (c : UInt8) {n : Nat} (hn : n = w.heap.size) : RB (w.alloc (.cells #[.int .u8 (c.toNat : Int)] 5)) (w.heap.size + 1) (.slice (some ⟨n, 0, none⟩) 1 1) [c] := by
  subst hn
  refine ⟨_, 1, rfl, by simp, by omega, fun _ => ⟨w.heap.size, 0, rfl, by omega, fun i b hb => ?_⟩⟩
  have hi : i = 0 := by
    rcases Nat.eq_zero_or_pos i with h | h
    · exact h
    · rw [List.getElem?_eq_none (by simp; omega)] at hb; cases hb
  subst hi
  have : c = b := by simpa using hb
  subst this
  simp
theorem rb_int {w : World} {c : Int} {n : Nat} (b : UInt8) (hc : c = (b.toNat : Int)) (hn : n = w.heap.size) : RB (w.alloc (.cells #[.int .u8 c] 5)) (w.heap.size + 1) (.slice (some ⟨n, 0, none⟩) 1 1) [b] := by
  subst hc
  exact rb_one w b hn

/-! ### Stores into a part of a block; results in memory -/
section
variable {P : Program}
theorem run_storeVar_sub (w : World) (g o : Nat) (ty t : TypeId) (cs cs' cs2 : Array Value) (hB : Blk w g t cs) (n : Nat) (hn : cs'.size = n) (hs : o + n ≤ cs.size) (hi : (P.info? ty).map (·.size) = some n)
    (h1 : ∀ v ∈ cs', v.oneCell' = true) (h2 : (cs.toList.take o ++ cs'.toList ++ cs.toList.drop (o + n)).toArray = cs2) : (storeVar ty ⟨g, o, none⟩ (.agg cs')).run P w = .ok () (w.setRow g cs2) := by
  have h := run_storeCells_at P g o t cs'.toList 0 cs w hB (by simp [hn]; omega) (fun v hv => h1 v (by simpa using hv))
  cases hq : P.info? ty with
  | none => simp [hq] at hi
  | some i =>
    have hsz : cs'.size = i.size := by simp [hq] at hi; omega
    simp only [Nat.add_zero, Array.length_toList, hn, h2] at h
    simpa [storeVar, sizeOf, typeInfo, hq, Value.cells, hsz] using h

theorem wp_store_sub {op : Oper} {a : Act} {w : World} {K : Act → World → Prop} {Q : Exit → Act → World → Prop} (ty : TypeId) (x y : Operand) (ho : op.op = .store ty x y)
    (g o : Nat) (cs' : Array Value) (hx : a.eval x = .pointer (some ⟨g, o, none⟩)) (hy : a.eval y = .agg cs') (t : TypeId) (cs cs2 : Array Value)
    (hB : Blk w g t cs) (n : Nat) (hn : cs'.size = n) (hs : o + n ≤ cs.size) (hi : (P.info? ty).map (·.size) = some n) (h1 : ∀ v ∈ cs', v.oneCell' = true)
    (h2 : (cs.toList.take o ++ cs'.toList ++ cs.toList.drop (o + n)).toArray = cs2)
    (h : K (a.put op.dst undef) (w.setRow g cs2)) : op.wp P a w K Q := by
  unfold Oper.wp execOp
  simp only [ho, hx, hy, Instr.storeAt, Instr.sureAddr, Sem.run_bind, Sem.run_pure, Result.andThen_ok, run_storeVar_sub w g o ty t cs cs' cs2 hB n hn hs hi h1 h2]
  exact h

theorem wpList_store_sub {ops : Array Oper} {rest : List Oper} {op : Oper} {a : Act} {w : World} {Q : Exit → Act → World → Prop} (hgd : op.guard = none) (ty : TypeId) (x y : Operand) (ho : op.op = .store ty x y)
    (g o : Nat) (cs' : Array Value) (hx : a.eval x = .pointer (some ⟨g, o, none⟩)) (hy : a.eval y = .agg cs') (t : TypeId) (cs cs2 : Array Value)
    (hB : Blk w g t cs) (n : Nat) (hn : cs'.size = n) (hs : o + n ≤ cs.size) (hi : (P.info? ty).map (·.size) = some n) (h1 : ∀ v ∈ cs', v.oneCell' = true)
    (h2 : (cs.toList.take o ++ cs'.toList ++ cs.toList.drop (o + n)).toArray = cs2)
    (h : wpList P ops Q rest (a.put op.dst undef) (w.setRow g cs2)) : wpList P ops Q (op :: rest) a w :=
  wpList_plain hgd fun _ hK => wp_store_sub ty x y ho g o cs' hx hy t cs cs2 hB n hn hs hi h1 h2 (hK _ _ h)

theorem results_blk_tmp {fn : Func} {p u : Tmp} {ty : TypeId} (h : fn.results = #[.cell p ty, .tmp u]) (tmps : Array Value) (w : World) (g : Nat) (t : TypeId) (cs : Array Value) (d : TypeDesc)
    (hp : tmps.getD p undef = .pointer (some ⟨g, 0, none⟩)) (hg : Blk w g t cs)
    (hu : P.underlying ty = some d) (hd : (match d with | .struct _ | .array _ _ => true | _ => false) = true) (n : Nat) (hn : cs.size = n) (hi : (P.info? ty).map (·.size) = some n) :
    (results fn tmps).run P w = .ok (.tuple #[.agg cs, tmps.getD u undef]) w := by
  rw [results_cell_tmp h, hp]
  simp [asAddr, run_loadVar_row w g t ty cs (0, 0) d hg hu hd (hn ▸ hi)]
end
theorem Blk.setCell_is {w : World} {g i : Nat} {t : TypeId} {cs cs2 : Array Value} {u : Value} (h : Blk w g t cs) (h2 : cs.setIfInBounds i u = cs2) : Blk (w.setCell ⟨g, i, none⟩ u) g t cs2 := h2 ▸ h.set_ i u

/-- What was there below block B is as it was, but for the blocks F. -/
structure Fr (B : Nat) (F : Nat → Prop) (w w' : World) : Prop where
  os : w'.os = w.os
  tape : w'.tape = w.tape
  output : w'.output = w.output
  size : w.heap.size ≤ w'.heap.size
  block : ∀ k, k < B → ¬ F k → w'.heap[k]? = w.heap[k]?
section
variable {B : Nat} {F : Nat → Prop} {w w1 w2 : World}
theorem Fr.refl (B : Nat) (F : Nat → Prop) (w : World) : Fr B F w w := ⟨rfl, rfl, rfl, Nat.le_refl _, fun _ _ _ => rfl⟩
theorem Fr.trans (h : Fr B F w w1) (k : Fr B F w1 w2) : Fr B F w w2 :=
  ⟨k.os.trans h.os, k.tape.trans h.tape, k.output.trans h.output, Nat.le_trans h.size k.size, fun i hi hf => (k.block i hi hf).trans (h.block i hi hf)⟩
theorem Fr.of_below (h : Below B w w1) : Fr B F w w1 := ⟨h.os, h.tape, h.output, h.size, fun k hk _ => h.block k hk⟩
theorem Fr.below {B' : Nat} (h : Fr B F w w1) (hB : B' ≤ B) (hF : ∀ k, k < B' → ¬ F k) : Below B' w w1 := ⟨h.os, h.tape, h.output, h.size, fun k hk => h.block k (by omega) (hF k hk)⟩
theorem Fr.mono {B' : Nat} {F' : Nat → Prop} (h : Fr B F w w1) (hB : B' ≤ B) (hF : ∀ k, k < B' → F k → F' k) : Fr B' F' w w1 := ⟨h.os, h.tape, h.output, h.size, fun k hk hf => h.block k (by omega) fun hk' => hf (hF k hk hk')⟩
theorem Fr.alloc (h : Fr B F w w1) (hB : B ≤ w1.heap.size) (o : Obj) : Fr B F w (w1.alloc o) := h.trans (Fr.of_below ((Below.refl B w1).alloc hB o))
theorem Fr.drewN (h : Fr B F w w1) (n : Nat) : Fr B F w (w1.drewN n) := ⟨h.os, h.tape, h.output, h.size, h.block⟩
theorem Fr.nb (h : Fr B F w w1) (hB : B ≤ w1.heap.size) (k : NB w1 w2) : Fr B F w w2 := h.trans (Fr.of_below (Below.mono k hB))
theorem Fr.setCell (h : Fr B F w w1) {p : Addr} (hp : F p.block ∨ B ≤ p.block) (u : Value) : Fr B F w (w1.setCell p u) :=
  ⟨h.os, h.tape, h.output, by rw [World.size_setCell]; exact h.size, fun k hk hf => (Below.heap_setCell _ _ _ _ (fun e => by rcases hp with hp | hp; exact hf (e ▸ hp); omega)).trans (h.block k hk hf)⟩
theorem Fr.setRow (h : Fr B F w w1) {g : Nat} (hp : F g ∨ B ≤ g) (cs : Array Value) : Fr B F w (w1.setRow g cs) :=
  ⟨h.os, h.tape, h.output, by rw [size_setRow]; exact h.size, fun k hk hf => (setRow_other _ _ _ _ (fun e => by rcases hp with hp | hp; exact hf (e ▸ hp); omega)).trans (h.block k hk hf)⟩
theorem Fr.grown (h : Fr B F w w1) {row : Option Nat} (hg : w1.grownBy w2 row) (hB : B ≤ w1.heap.size) (hr : ∀ k, row = some k → F k ∨ B ≤ k) : Fr B F w w2 :=
  ⟨hg.os.trans h.os, hg.tape.trans h.tape, hg.output.trans h.output, Nat.le_trans h.size hg.size, fun k hk hf =>
    (hg.block k (by omega) (fun e => by rcases hr k e.symm with hp | hp; exact hf hp; omega)).trans (h.block k hk hf)⟩
theorem Fr.cell (h : Fr B F w w1) {g i : Nat} (hg : g < B) (hf : ¬ F g) : w1.cell? ⟨g, i, none⟩ = w.cell? ⟨g, i, none⟩ := World.cell?_of_block (w := w) (h.block g hg hf)
end
theorem Blk.fr {B : Nat} {F : Nat → Prop} {w w' : World} {g : Nat} {t : TypeId} {cs : Array Value} (h : Blk w g t cs) (hf : Fr B F w w') (hg : g < B) (hn : ¬ F g) : Blk w' g t cs := (hf.block g hg hn).trans h
end Go.Proofs.YtgpafdagealnbaaDoor
