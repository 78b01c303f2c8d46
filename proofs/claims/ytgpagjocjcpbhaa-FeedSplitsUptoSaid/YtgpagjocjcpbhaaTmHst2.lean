/-
  The history while its writes are being read: each transaction's own map. No walk.
-/
import Derived.Test.YtgpagjocjcpbhaaTmEnts
import Derived.RangeFuncOwn
import Derived.Deep.MidRow
import Derived.Deep.WholeRow
namespace Go.Proofs.Ytgpagjocjcpbhaa
open Go.Shelf Go.RowKit Go.Lib Go.Sort Go.Tm.Stab Go.Tm

theorem _root_.Go.Tm.lastW_append (done : List Ev) (e : Ev) (t : Tx) : lastW (done ++ [e]) t = if e.ans.isWrite = true ∧ e.ans.txn = t then insM (lastW done t) e.ans.op.key e.ans.op.write else lastW done t := by
  unfold lastW
  rw [List.foldl_append]
  rfl

theorem comm_succ {cms : List Ent} {n : Nat} {x : Ent} (h : cms[n]? = some x) : comm (cms.take (n + 1)) = comm (cms.take n) ++ if x.outcome = 1 then [x] else [] := by
  unfold comm
  rw [List.take_add_one, h, List.filter_append]
  congr 1
  by_cases hx : x.outcome = 1 <;> simp [hx]

/-- A whole struct into the block that was laid last. -/
theorem wpList_store_new {P : Program} {ops : Array Oper} {rest : List Oper} {op : Oper} {a : Act} {w : World} {Q : Exit → Act → World → Prop} (hgd : op.guard = none) (ty : TypeId) (x y : Operand) (ho : op.op = .store ty x y)
    (c c' : Array Value) (hx : a.eval x = .pointer (some ⟨w.heap.size, 0, none⟩)) (hy : a.eval y = .agg c') (hi : (P.info? ty).map (·.size) = some c'.size) (hc : c.size = c'.size) (h1 : c'.all (·.oneCell') = true)
    (h : wpList P ops Q rest (a.put op.dst undef) (w.alloc (.cells c' ty))) : wpList P ops Q (op :: rest) a (w.alloc (.cells c ty)) :=
  wpList_plain hgd fun _ hK => by
    refine wp_store_row ty x y ho w.heap.size c' hx hy ty c (heap_alloc_last w _) hi hc h1 ?_
    rw [World.setRow_alloc_new]
    exact hK _ _ h

/-- An event's cells in a block; its answer's among them. -/
theorem range_ev {W : World} {g : Nat} {t : TypeId} {x : Ev} (h : W.heap[g]? = some (.cells x.cells.toArray t (0, 0))) : W.rangeAt g 0 x.cells := by
  intro j v hv
  rw [Nat.zero_add, cell_of_cells h]
  simpa using hv
theorem range_ans {W : World} {g : Nat} {t : TypeId} {x : Ev} (h : W.heap[g]? = some (.cells x.cells.toArray t (0, 0))) : W.rangeAt g 2 x.ans.cells := by
  intro j v hv
  have := range_ev h (j + 2) v (by simpa [Ev.cells] using hv)
  rw [Nat.zero_add] at this
  rw [Nat.add_comm]; exact this
theorem range_op {W : World} {g : Nat} {t : TypeId} {x : Ev} (h : W.heap[g]? = some (.cells x.cells.toArray t (0, 0))) : W.rangeAt g 5 x.ans.op.cells := by
  intro j v hv
  have hj : j < 9 := by
    have := (List.getElem?_eq_some_iff.1 hv).1
    simpa [Opn.cells] using this
  have := range_ans h (j + 3) v (by
    simp only [Ans.cells, Opn.cells] at hv ⊢
    rcases j with _ | _ | _ | _ | _ | _ | _ | _ | _ | j <;> first | exact hv | omega | simp at hv)
  rw [show 5 + j = 2 + (j + 3) by omega]; exact this
section
variable {w : World} {r : RV} {wr : World} {te : TypeId} {cv : Value} {cl : List Ent} {am : List (Tx × Stp)} {L : List (Tx × Nat)}

theorem below_put {n l : Nat} {W : World} (o : Obj) (h : n ≤ l) : Below n W (W.putObj l o) :=
  ⟨rfl, rfl, rfl, by simp, fun k hk => World.putObj_heap_other (by omega)⟩

theorem _root_.Go.Tm.Hst.putAt (H : Hst w r wr te cv cl am L) {o : Obj} {am' : List (Tx × Stp)} (hm : MapIs (wr.putObj (w.heap.size + 1) o) (w.heap.size + 1) tv sv am') : Hst w r (wr.putObj (w.heap.size + 1) o) te cv cl am' L := by
  have hs := H.size
  have hb : ∀ k, k ≠ w.heap.size + 1 → (wr.putObj (w.heap.size + 1) o).heap[k]? = wr.heap[k]? := fun k hk => World.putObj_heap_other hk
  refine ⟨H.below.trans (below_put _ (by omega)), ?_, ?_, ?_, hm, H.writes.of_heap (hb _ (by omega))⟩
  · obtain ⟨t, e⟩ := H.copy; exact ⟨t, (hb _ (by omega)).trans e⟩
  · obtain ⟨t, e⟩ := H.hist; exact ⟨t, (hb _ (by omega)).trans e⟩
  · refine H.own.kept (grownBy_putObj' _ _ _) ?_
    cases hq : cv.ownBlock with
    | none => simp
    | some g => right; intro e; cases e; have := (H.own.lt _ hq).1; omega

/-- The history, some events done. -/
structure _root_.Go.Tm.Hs2 (w : World) (r : RV) (wr : World) (L : List (Tx × Nat)) (done : List Ev) : Prop where
  below : Below w.heap.size w wr
  copy : ∃ t, wr.heap[w.heap.size]? = some (.cells (rv r).cells t (0, 0))
  hist : ∃ t cv, wr.heap[w.heap.size + 3]? = some (.cells ((rv r).cells ++ #[cv, .map (some (w.heap.size + 1)), .map (some (w.heap.size + 2))]) t (0, 0))
  writes : MapIs wr (w.heap.size + 2) tv (fun r => Value.map (some r)) L
  refs : (L.map (·.2)).Nodup
  fresh : ∀ p ∈ L, w.heap.size + 4 ≤ p.2
  inner : ∀ p ∈ L, MapIs wr p.2 Value.string wv (lastW done p.1)
  other : ∀ t, t ∉ L.map (·.1) → lastW done t = []

theorem _root_.Go.Tm.Hst.read (H : Hst w r wr te cv cl am []) {w2 : World} (h : wr.grownBy w2 cv.ownBlock) : Hs2 w r w2 [] [] := by
  have hs := H.size
  have hb : ∀ k, k < w.heap.size + 4 → w2.heap[k]? = wr.heap[k]? := fun k hk => h.block k (by omega) (fun e => by have := (H.own.lt k e.symm).1; omega)
  refine ⟨H.below.grown h H.below.size (fun k e => by have := (H.own.lt k e).1; omega), ?_, ?_, H.writes.of_heap (hb _ (by omega)), by simp, by simp, by simp, fun t _ => rfl⟩
  · obtain ⟨t, e⟩ := H.copy; exact ⟨t, (hb _ (by omega)).trans e⟩
  · obtain ⟨t, e⟩ := H.hist; exact ⟨t, cv, (hb _ (by omega)).trans e⟩

variable {done : List Ev}
theorem _root_.Go.Tm.Hs2.size (H : Hs2 w r wr L done) : w.heap.size + 4 ≤ wr.heap.size := by
  obtain ⟨t, c, h⟩ := H.hist
  have := (Array.getElem?_eq_some_iff.1 h).1
  omega
theorem _root_.Go.Tm.Hs2.c7 (H : Hs2 w r wr L done) : wr.cell? ⟨w.heap.size, 7, none⟩ = some (.slice r.events.1 r.events.2.1 r.events.2.2) := by
  obtain ⟨t, h⟩ := H.copy
  exact cell_of_cells h 7
theorem _root_.Go.Tm.Hs2.c15 (H : Hs2 w r wr L done) : wr.cell? ⟨w.heap.size + 1 + 1 + 1, 15, none⟩ = some (.map (some (w.heap.size + 1 + 1))) := by
  obtain ⟨t, c, h⟩ := H.hist
  exact cell_of_cells h 15
theorem _root_.Go.Tm.Hs2.keep (H : Hs2 w r wr L done) {w1 : World} (h : Below wr.heap.size wr w1) : Hs2 w r w1 L done := by
  have hs := H.size
  refine ⟨H.below.trans (h.mono (by omega)), ?_, ?_, H.writes.of_heap (h.block _ (by omega)), H.refs, H.fresh, fun p hp => (H.inner p hp).of_heap (h.block _ ((H.inner p hp).lt)), H.other⟩
  · obtain ⟨t, e⟩ := H.copy; exact ⟨t, (h.block _ (by omega)).trans e⟩
  · obtain ⟨t, c, e⟩ := H.hist; exact ⟨t, c, (h.block _ (by omega)).trans e⟩

theorem mem_insM_new {κ ν : Type} [DecidableEq κ] {m : List (κ × ν)} {k : κ} {v : ν} (h : k ∉ m.map (·.1)) (p : κ × ν) : p ∈ insM m k v ↔ p ∈ m ∨ p = (k, v) := by
  rw [insM_new v h]; simp

/-- A new map for a transaction that has none. -/
theorem _root_.Go.Tm.Hs2.putWrites (H : Hs2 w r wr L done) {t : Tx} {ri : Nat} {o : Obj} (ht : t ∉ L.map (·.1)) (hr : MapIs wr ri Value.string wv ([] : List (ByteArray × Wr))) (hri : w.heap.size + 4 ≤ ri) (hnew : ∀ p ∈ L, p.2 ≠ ri)
    (hm : MapIs (wr.putObj (w.heap.size + 2) o) (w.heap.size + 2) tv (fun r => Value.map (some r)) (insM L t ri)) : Hs2 w r (wr.putObj (w.heap.size + 2) o) (insM L t ri) done := by
  have hs := H.size
  have hb : ∀ k, k ≠ w.heap.size + 2 → (wr.putObj (w.heap.size + 2) o).heap[k]? = wr.heap[k]? := fun k hk => World.putObj_heap_other hk
  refine ⟨H.below.trans (below_put _ (by omega)), ?_, ?_, hm, ?_, ?_, ?_, ?_⟩
  · obtain ⟨t, e⟩ := H.copy; exact ⟨t, (hb _ (by omega)).trans e⟩
  · obtain ⟨t, c, e⟩ := H.hist; exact ⟨t, c, (hb _ (by omega)).trans e⟩
  · rw [insM_new _ ht, List.map_append, List.nodup_append]
    refine ⟨H.refs, by simp, ?_⟩
    intro a ha b hb' e
    simp at hb'
    subst hb'; subst e
    obtain ⟨p, hp, he⟩ := List.mem_map.1 ha
    exact hnew p hp he
  · intro p hp
    rcases (mem_insM_new ht p).1 hp with h | rfl
    · exact H.fresh p h
    · exact hri
  · intro p hp
    rcases (mem_insM_new ht p).1 hp with h | rfl
    · exact (H.inner p h).of_heap (hb _ (by have := H.fresh p h; omega))
    · show MapIs _ ri Value.string wv (lastW done t)
      rw [H.other t ht]
      exact hr.of_heap (hb _ (by omega))
  · intro t' ht'
    apply H.other
    intro h
    apply ht'
    rw [insM_new _ ht, List.map_append]
    exact List.mem_append_left _ h

theorem eq_of_nodup_snd {κ : Type} : ∀ {L : List (κ × Nat)}, (L.map (·.2)).Nodup → ∀ {p q : κ × Nat}, p ∈ L → q ∈ L → p.2 = q.2 → p = q
  | [], _, p, q, h, _, _ => by simp at h
  | x :: L, hn, p, q, hp, hq, he => by
    rw [List.map_cons, List.nodup_cons] at hn
    rcases List.mem_cons.1 hp with h1 | h1 <;> rcases List.mem_cons.1 hq with h2 | h2
    · rw [h1, h2]
    · exact (hn.1 (List.mem_map.2 ⟨q, h2, by rw [← h1, he]⟩)).elim
    · exact (hn.1 (List.mem_map.2 ⟨p, h1, by rw [← h2, he]⟩)).elim
    · exact eq_of_nodup_snd hn.2 h1 h2 he

/-- A write into a transaction's own map. -/
theorem _root_.Go.Tm.Hs2.putInner (H : Hs2 w r wr L done) {e : Ev} {ri : Nat} {o : Obj} (hp : (e.ans.txn, ri) ∈ L) (hw : e.ans.isWrite = true)
    (hm : MapIs (wr.putObj ri o) ri Value.string wv (insM (lastW done e.ans.txn) e.ans.op.key e.ans.op.write)) : Hs2 w r (wr.putObj ri o) L (done ++ [e]) := by
  have hs := H.size
  have hri := H.fresh _ hp
  have hb : ∀ k, k ≠ ri → (wr.putObj ri o).heap[k]? = wr.heap[k]? := fun k hk => World.putObj_heap_other hk
  refine ⟨H.below.trans (below_put _ (by simp at hri; omega)), ?_, ?_, H.writes.of_heap (hb _ (by simp at hri; omega)), H.refs, H.fresh, ?_, ?_⟩
  · obtain ⟨t, e⟩ := H.copy; exact ⟨t, (hb _ (by simp at hri; omega)).trans e⟩
  · obtain ⟨t, c, e⟩ := H.hist; exact ⟨t, c, (hb _ (by simp at hri; omega)).trans e⟩
  · intro q hq
    rw [lastW_append]
    by_cases h : e.ans.txn = q.1
    · have hn := H.writes.nodup
      have : q.2 = ri := by
        have h1 := getM_of_mem hn hp
        have h2 := getM_of_mem hn (show (q.1, q.2) ∈ L from hq)
        rw [h] at h1
        rw [h1] at h2
        exact (Option.some.inj h2).symm
      rw [if_pos ⟨hw, h⟩, this, ← h]
      exact hm
    · rw [if_neg (fun hh => h hh.2)]
      refine (H.inner q hq).of_heap (hb _ (fun e2 => h ?_))
      have := eq_of_nodup_snd H.refs hq hp e2
      rw [this]
  · intro t ht
    rw [lastW_append, if_neg]
    · exact H.other t ht
    · intro hh
      exact ht (by rw [← hh.2]; exact List.mem_map.2 ⟨_, hp, rfl⟩)

theorem _root_.Go.Tm.Hs2.skip (H : Hs2 w r wr L done) {e : Ev} (hw : e.ans.isWrite = false) : Hs2 w r wr L (done ++ [e]) := by
  have h : ∀ t, lastW (done ++ [e]) t = lastW done t := fun t => by rw [lastW_append, if_neg]; rw [hw]; simp
  exact ⟨H.below, H.copy, H.hist, H.writes, H.refs, H.fresh, fun p hp => by rw [h]; exact H.inner p hp, fun t ht => by rw [h]; exact H.other t ht⟩
end
end Go.Proofs.Ytgpagjocjcpbhaa
