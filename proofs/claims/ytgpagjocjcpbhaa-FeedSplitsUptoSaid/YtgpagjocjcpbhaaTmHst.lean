/-
  The history while it is being made: what its blocks hold, and what one append, one store into a map leave of it. No walk.
-/
import Derived.Test.YtgpagjocjcpbhaaTmSorted
import Derived.Test.YtgpagjocjcpbhaaTmStep
namespace Go.Proofs.Ytgpagjocjcpbhaa
open Go.Shelf Go.RowKit Go.Lib Go.Sort Go.Tm.Stab Go.Tm

/-- A result's own cells. -/
structure _root_.Go.Tm.RV where
  status : Int
  shards : Int
  clients : Int
  splits : Option Addr × Nat × Nat
  capacity : Int
  park : Int
  window : Int
  events : Option Addr × Nat × Nat
  waiting : Option Addr × Nat × Nat
  commits : Option Addr × Nat × Nat
  shs : Option Addr × Nat × Nat
  flight : Int
  steps : Int
abbrev slv (s : Option Addr × Nat × Nat) : Value := .slice s.1 s.2.1 s.2.2
abbrev rv (r : RV) : Value := .agg #[.int .i64 r.status, .int .i64 r.shards, .int .i64 r.clients, .slice r.splits.1 r.splits.2.1 r.splits.2.2, .int .i64 r.capacity, .int .i64 r.park, .int .u64 r.window,
  .slice r.events.1 r.events.2.1 r.events.2.2, .slice r.waiting.1 r.waiting.2.1 r.waiting.2.2, .slice r.commits.1 r.commits.2.1 r.commits.2.2, .slice r.shs.1 r.shs.2.1 r.shs.2.2, .int .i64 r.flight, .int .i64 r.steps]

/-- What transaction t has written by the events: by key the last write. -/
def _root_.Go.Tm.lastW (evs : List Ev) (t : Tx) : List (ByteArray × Wr) := evs.foldl (fun m e => if e.ans.isWrite = true ∧ e.ans.txn = t then insM m e.ans.op.key e.ans.op.write else m) []

theorem infoEnt : (Try.prog.info? 58).map (fun i => (i.zero, i.size, i.bytes)) = some (some (.agg #[.int .u32 0, .int .u32 0, .int .u32 0, .int .i64 0, .int .u64 0, .int .u32 0, .int .u32 0]), 7, 40) := by kernel_rfl

/-- A list of the commits read: those that were committed. -/
def _root_.Go.Tm.comm (l : List Ent) : List Ent := l.filter fun e => decide (e.outcome = 1)

/-- The world while the history in block B + 3 is being made. -/
structure _root_.Go.Tm.Hst (w : World) (r : RV) (wr : World) (te : TypeId) (cv : Value) (cl : List Ent) (am : List (Tx × Stp)) (L : List (Tx × Nat)) : Prop where
  below : Below w.heap.size w wr
  copy : ∃ t, wr.heap[w.heap.size]? = some (.cells (rv r).cells t (0, 0))
  hist : ∃ t, wr.heap[w.heap.size + 3]? = some (.cells ((rv r).cells ++ #[cv, .map (some (w.heap.size + 1)), .map (some (w.heap.size + 2))]) t (0, 0))
  own : wr.ownsRow (w.heap.size + 4) te 7 cv cl.length (cl.flatMap Ent.cells)
  at_ : MapIs wr (w.heap.size + 1) tv sv am
  writes : MapIs wr (w.heap.size + 2) tv (fun r => Value.map (some r)) L

section
variable {w : World} {r : RV} {wr : World} {te : TypeId} {cv : Value} {cl : List Ent} {am : List (Tx × Stp)} {L : List (Tx × Nat)}

theorem _root_.Go.Tm.Hst.size (H : Hst w r wr te cv cl am L) : w.heap.size + 4 ≤ wr.heap.size := by
  obtain ⟨t, h⟩ := H.hist
  have := (Array.getElem?_eq_some_iff.1 h).1
  omega

theorem cell_of_cells {w : World} {b : Nat} {cs : Array Value} {t : TypeId} (h : w.heap[b]? = some (.cells cs t (0, 0))) (o : Nat) : w.cell? ⟨b, o, none⟩ = cs[o]? := by
  have := cell_of_row w b o cs t (0, 0) h
  simpa using this

theorem _root_.Go.Tm.Hst.c13 (H : Hst w r wr te cv cl am L) : wr.cell? ⟨w.heap.size + 1 + 1 + 1, 13, none⟩ = some cv := by
  obtain ⟨t, h⟩ := H.hist
  exact cell_of_cells h 13
theorem _root_.Go.Tm.Hst.c14 (H : Hst w r wr te cv cl am L) : wr.cell? ⟨w.heap.size + 1 + 1 + 1, 14, none⟩ = some (.map (some (w.heap.size + 1))) := by
  obtain ⟨t, h⟩ := H.hist
  exact cell_of_cells h 14
theorem _root_.Go.Tm.Hst.c15 (H : Hst w r wr te cv cl am L) : wr.cell? ⟨w.heap.size + 1 + 1 + 1, 15, none⟩ = some (.map (some (w.heap.size + 1 + 1))) := by
  obtain ⟨t, h⟩ := H.hist
  exact cell_of_cells h 15
theorem _root_.Go.Tm.Hst.f13 (H : Hst w r wr te cv cl am L) : wr.frozen? ⟨w.heap.size + 1 + 1 + 1, 13, none⟩ = false := by
  obtain ⟨t, h⟩ := H.hist
  exact frozen_of_row wr _ 13 _ _ h

/-- What leaves the history's own blocks alone leaves the history. -/
theorem _root_.Go.Tm.Hst.keep (H : Hst w r wr te cv cl am L) {w1 : World} (h : Below wr.heap.size wr w1) : Hst w r w1 te cv cl am L := by
  have hs := H.size
  refine ⟨H.below.trans (h.mono (by omega)), ?_, ?_, ?_, H.at_.of_heap (h.block _ (by omega)), H.writes.of_heap (h.block _ (by omega))⟩
  · obtain ⟨t, e⟩ := H.copy; exact ⟨t, (h.block _ (by omega)).trans e⟩
  · obtain ⟨t, e⟩ := H.hist; exact ⟨t, (h.block _ (by omega)).trans e⟩
  · exact H.own.kept (row := none) ⟨h.os, h.tape, h.output, h.size, fun k hk _ => h.block k hk⟩ (by cases hq : cv.ownBlock <;> simp)

/-- Behind an append onto the commits and its store. -/
theorem _root_.Go.Tm.Hst.appended (H : Hst w r wr te cv cl am L) {w6 : World} {v' : Value} {x : Ent} (h : wr.grownBy w6 cv.ownBlock) (ho : w6.ownsRow (w.heap.size + 4) te 7 v' (cl.length + 1) (cl.flatMap Ent.cells ++ x.cells)) :
    Hst w r (w6.setCell ⟨w.heap.size + 1 + 1 + 1, 13, none⟩ v') te v' (cl ++ [x]) am L := by
  have hs := H.size
  have hb : ∀ k, k < w.heap.size + 4 → w6.heap[k]? = wr.heap[k]? := fun k hk => h.block k (by omega) (fun e => by have := (H.own.lt k e.symm).1; omega)
  have hb2 : ∀ k, k < w.heap.size + 3 → (w6.setCell ⟨w.heap.size + 1 + 1 + 1, 13, none⟩ v').heap[k]? = wr.heap[k]? := fun k hk => by
    rw [Below.heap_setCell _ _ _ _ (by simp; omega)]; exact hb k (by omega)
  refine ⟨?_, ?_, ?_, ?_, H.at_.of_heap (hb2 _ (by omega)), H.writes.of_heap (hb2 _ (by omega))⟩
  · exact (H.below.grown h H.below.size (fun k e => by have := (H.own.lt k e).1; omega)).setCell (by simp; omega) _
  · obtain ⟨t, e⟩ := H.copy; exact ⟨t, (hb2 _ (by omega)).trans e⟩
  · obtain ⟨t, e⟩ := H.hist
    refine ⟨t, ?_⟩
    have e2 := (hb (w.heap.size + 3) (by omega)).trans e
    show (w6.heap.modify (w.heap.size + 3) _)[w.heap.size + 3]? = _
    rw [Array.getElem?_modify, if_pos rfl, e2]
    rfl
  · have := ho
    rw [List.length_append, List.flatMap_append]
    refine ownsRow_setCell_below (by simpa using this) (by simp) _
end
theorem comm_len (l : List Ent) : (comm l).length ≤ l.length := List.length_filter_le _ _
theorem grown_pre2 {wr w6 : World} {o o' : Obj} {row : Option Nat} (h : ((wr.alloc o).alloc o').drew.grownBy w6 row) : wr.grownBy w6 row :=
  ⟨h.os, h.tape, h.output, Nat.le_trans (by show wr.heap.size ≤ ((wr.alloc o).alloc o').heap.size; simp; omega) h.size, fun k hk hne => by
    rw [h.block k (by show k < ((wr.alloc o).alloc o').heap.size; simp; omega) hne]
    show ((wr.alloc o).alloc o').heap[k]? = _
    rw [Below.heap_alloc _ _ _ (by simp; omega), Below.heap_alloc _ _ _ hk]⟩
theorem last_cells2 (wr : World) (cs : List Value) (t : TypeId) {o : Obj} : ∀ j u, cs[j]? = some u → ((wr.alloc o).alloc (.cells cs.toArray t)).drew.cell? ((⟨wr.heap.size + 1, 0, none⟩ : Addr).add j) = some u :=
  last_cells (wr.alloc o) cs t (wr.heap.size + 1) (by simp)
section
variable {w : World} {r : RV} {wr : World} {te : TypeId} {cv : Value} {cl : List Ent} {am : List (Tx × Stp)} {L : List (Tx × Nat)}
theorem _root_.Go.Tm.Hst.own_behind (H : Hst w r wr te cv cl am L) (o o' : Obj) : ((wr.alloc o).alloc o').ownsRow (w.heap.size + 4) te 7 cv cl.length (cl.flatMap Ent.cells) := (H.own.alloc o).alloc o'
theorem _root_.Go.Tm.Hst.base2 (H : Hst w r wr te cv cl am L) (o o' : Obj) : w.heap.size + 4 ≤ ((wr.alloc o).alloc o').drew.heap.size := by
  have := H.size
  show _ ≤ ((wr.alloc o).alloc o').heap.size
  simp
  omega
theorem _root_.Go.Tm.Hst.held (H : Hst w r wr te cv cl am L) {w6 : World} {o o' : Obj} (h : ((wr.alloc o).alloc o').drew.grownBy w6 cv.ownBlock) : w6.heap[wr.heap.size]? = some o := by
  rw [h.block wr.heap.size (by show _ < ((wr.alloc o).alloc o').heap.size; simp; omega) (fun e => by have := (H.own.lt _ e.symm).2; omega)]
  show ((wr.alloc o).alloc o').heap[wr.heap.size]? = _
  rw [Below.heap_alloc _ _ _ (by simp), World.alloc_heap_new]
theorem _root_.Go.Tm.Hst.at3 (H : Hst w r wr te cv cl am L) {w6 : World} (h : wr.grownBy w6 cv.ownBlock) : w6.heap[w.heap.size + 1 + 1 + 1]? = wr.heap[w.heap.size + 1 + 1 + 1]? := by
  have := H.size
  exact h.block _ (by omega) (fun e => by have := (H.own.lt _ e.symm).1; omega)
theorem _root_.Go.Tm.Hst.g13 (H : Hst w r wr te cv cl am L) {w6 : World} (h : wr.grownBy w6 cv.ownBlock) : w6.frozen? ⟨w.heap.size + 1 + 1 + 1, 13, none⟩ = false := (World.frozen?_of_block (w := wr) (H.at3 h)).trans H.f13
theorem _root_.Go.Tm.Hst.h13 (H : Hst w r wr te cv cl am L) {w6 : World} (h : wr.grownBy w6 cv.ownBlock) : w6.cell? ⟨w.heap.size + 1 + 1 + 1, 13, none⟩ = some cv := (World.cell?_of_block (w := wr) (H.at3 h)).trans H.c13
end
theorem alloc_new_at (W : World) (o : Obj) {n : Nat} (hn : n = W.heap.size) : (W.alloc o).heap[n]? = some o := by subst hn; exact World.alloc_heap_new W o
theorem made_at {κ ν : Type} {kenc : κ → Value} {venc : ν → Value} (W : World) {n : Nat} (hn : n = W.heap.size) : MapIs (W.alloc (.map #[] 0)) n kenc venc ([] : List (κ × ν)) := by subst hn; exact MapIs.made W
/-- The history as it is made. -/
theorem hst_start (w : World) (r : RV) (te t t' : TypeId) : Hst w r ((((w.alloc (.cells (rv r).cells t)).alloc (.map #[] 0)).alloc (.map #[] 0)).alloc (.cells ((rv r).cells ++ #[.slice none 0 0, .map (some (w.heap.size + 1)), .map (some (w.heap.size + 2))]) t')) te (.slice none 0 0) [] [] [] := by
  refine ⟨((((Below.refl _ _).alloc (Nat.le_refl _) _).alloc (by simp) _).alloc (by simp; omega) _).alloc (by simp; omega) _, ⟨t, ?_⟩, ⟨t', ?_⟩, World.ownsRow_nil _ _ _ _, ?_, ?_⟩
  · rw [Below.heap_alloc _ _ _ (by simp; omega), Below.heap_alloc _ _ _ (by simp; omega), Below.heap_alloc _ _ _ (by simp), World.alloc_heap_new]
  · exact alloc_new_at _ _ (by simp)
  · refine (made_at (w.alloc (.cells (rv r).cells t)) (by simp)).of_heap ?_
    rw [Below.heap_alloc _ _ _ (by simp), Below.heap_alloc _ _ _ (by simp)]
  · refine (made_at ((w.alloc (.cells (rv r).cells t)).alloc (.map #[] 0)) (by simp)).of_heap ?_
    rw [Below.heap_alloc _ _ _ (by simp)]
theorem own_form {W : World} {base : Nat} {e : TypeId} {size : Nat} {v : Value} {k : Nat} {xs : List Value} (h : W.ownsRow base e size v (k + 1) xs) : ∃ g cap, v = .slice (some ⟨g, 0, none⟩) (k + 1) cap := by
  rcases h.2 with ⟨_, h0⟩ | ⟨g, cap, cur, rfl, _⟩
  · cases h0
  · exact ⟨g, cap, rfl⟩
end Go.Proofs.Ytgpagjocjcpbhaa
