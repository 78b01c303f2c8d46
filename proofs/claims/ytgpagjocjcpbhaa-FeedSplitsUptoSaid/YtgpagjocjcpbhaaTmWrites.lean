/-
  The walk over audit.Writes: what a transaction has written, by key.
-/
import Derived.Test.YtgpagjocjcpbhaaTmRead
import Derived.Laws.IdiomRangeMap
import Derived.Deep.RegionWith
namespace Go.Proofs.Ytgpagjocjcpbhaa
open Go.Shelf Go.RowKit Go.Lib Go.Sort Go.Tm.Stab Go.Tm

theorem insM_values {κ ν : Type} [DecidableEq κ] {m : List (κ × ν)} {k : κ} {v : ν} {q : κ × ν} (h : q ∈ insM m k v) : q ∈ m ∨ q = (k, v) := by
  induction m with
  | nil => simp [insM] at h; exact Or.inr h
  | cons p m ih =>
    obtain ⟨x, u⟩ := p
    unfold insM at h
    by_cases hx : k = x
    · rw [if_pos hx] at h
      rcases List.mem_cons.1 h with h | h
      · exact Or.inr h
      · exact Or.inl (List.mem_cons_of_mem _ h)
    · rw [if_neg hx] at h
      rcases List.mem_cons.1 h with h | h
      · exact Or.inl (by rw [h]; exact List.mem_cons_self)
      · rcases ih h with h | h
        · exact Or.inl (List.mem_cons_of_mem _ h)
        · exact Or.inr h

theorem lastW_length (evs : List Ev) (t : Tx) : (lastW evs t).length ≤ evs.length := by
  unfold lastW
  have h : ∀ (evs : List Ev) (m : List (ByteArray × Wr)), (evs.foldl (fun m e => if e.ans.isWrite = true ∧ e.ans.txn = t then insM m e.ans.op.key e.ans.op.write else m) m).length ≤ m.length + evs.length := by
    intro evs
    induction evs with
    | nil => intro m; simp
    | cons e evs ih =>
      intro m
      rw [List.foldl_cons, List.length_cons]
      refine Nat.le_trans (ih _) ?_
      by_cases he : e.ans.isWrite = true ∧ e.ans.txn = t
      · rw [if_pos he]
        have := insM_length m e.ans.op.key e.ans.op.write
        omega
      · rw [if_neg he]; omega
  simpa using h evs []

set_option maxHeartbeats 1000000 in
set_option maxRecDepth 1000000 in
theorem sortedNil_calls (w : World) : Calls Try.prog 19 #[.map none] w (SortedPost w []) := by
  have hrg := run_range_nilMap (P := Try.prog) w 77 _ _ Try.underlying77
  have hnx : ∀ ty, (Instr.next (.pointer (some ⟨w.heap.size, 0, none⟩)) false ty).run Try.prog (w.alloc (.mapIter none 0 #[] 0)) = _ := fun ty => run_next_nilMap _ ty 0 0 #[]
  go_enter Try.func19, Try.ntmps19
  go_wp2
  refine wp_loop_rounds 1 ?_
  rw [rounds_succ]
  have con := AnyF.slices_SortFunc_none Try.lSortW none 0 (.func (.func 25) #[] #[]) (w.alloc (.mapIter none 0 #[] 0))
  change Calls Try.prog 24 _ _ _ at con
  go_wp2_with fail
  refine Calls.mono con ?_
  clear con
  rintro e w3 ⟨rfl, hw3⟩
  have HW : Hid (w3 = w.alloc (.mapIter none 0 #[] 0)) := hw3
  clear hw3
  go_wp2
  go_ret
  rw [HW.out]
  exact ⟨_, [], rfl, Rd.nil _ _, List.Perm.refl _, List.Pairwise.nil, (Below.refl _ _).alloc (Nat.le_refl _) _, fun b hb => by cases hb⟩

/-- sorted at a map that may be nil. -/
theorem sortedAny_calls (m8 : Option Nat) (m : List (ByteArray × Wr)) (w : World) (hm : match m8 with | some r => MapIs w r Value.string wv m | none => m = []) (hlen : m.length ≤ 1048576) :
    Calls Try.prog 19 #[.map m8] w (SortedPost w (m.map (·.2))) := by
  cases m8 with
  | some r => exact sorted_calls r m w hm hlen
  | none => rw [show m = [] from hm]; exact sortedNil_calls w

/-- What audit.read's answer tells of one transaction. -/
def ReadAt (w W1 : World) (evs : List Ev) (t : Tx) (n : Nat) (e : Ending) (w' : World) : Prop :=
  e = .returned (.pointer (some ⟨n, 0, none⟩)) ∧ ∃ M m8, w'.cell? ⟨n, 15, none⟩ = some (.map (some M)) ∧ (Instr.lookup 79 (.map (some M)) (tv t) false).run Try.prog w' = .ok (.map m8) w' ∧
    (match m8 with | some r => MapIs w' r Value.string wv (lastW evs t) | none => lastW evs t = []) ∧ Below w.heap.size w w' ∧ Below W1.heap.size W1 w'

theorem readAt_calls (r : RV) (evs : List Ev) (cms : List Ent) (t : Tx) (w W1 : World) (hB : Below w.heap.size w W1) (hE : Rd Ev.cells 20 w 0 (slv r.events) evs) (hC : Rd Ent.cells 7 w 0 (slv r.commits) cms) (hel : evs.length ≤ 1048576) (hcl : cms.length ≤ 1048576) :
    ∃ n, Calls Try.prog 20 #[rv r] W1 (ReadAt w W1 evs t n) := by
  refine ⟨W1.heap.size + 1 + 1 + 1, Calls.mono (read_calls r evs cms W1 (hE.keep hB) (hC.keep hB) hel hcl) ?_⟩
  rintro e w' ⟨rfl, L, hs⟩
  have hl := run_lookup (P := Try.prog) (w := w') txn_law Try.underlying79 (z := .map none) (fun w => by go_simp) hs.writes t
  refine ⟨rfl, W1.heap.size + 1 + 1, getM L t, hs.c15, ?_, ?_, hB.trans (hs.below.mono hB.size), hs.below⟩
  · cases hq : getM L t with
    | none => rw [hq] at hl; exact hl
    | some v => rw [hq] at hl; exact hl
  · cases hq : getM L t with
    | none => exact hs.other t (getM_none.1 hq)
    | some v => exact hs.inner _ (getM_mem hq)

set_option maxHeartbeats 4000000 in
set_option maxRecDepth 1000000 in
theorem writes_calls (r : RV) (evs : List Ev) (cms : List Ent) (t : Tx) (w : World) (hE : Rd Ev.cells 20 w 0 (slv r.events) evs) (hC : Rd Ent.cells 7 w 0 (slv r.commits) cms) (hel : evs.length ≤ 1048576) (hcl : cms.length ≤ 1048576) :
    Calls Try.prog 12 #[rv r, tv t] w (SortedPost w ((lastW evs t).map (·.2))) := by
  obtain ⟨n, con⟩ := readAt_calls r evs cms t w (((w.alloc (.cells (rv r).cells 41)).alloc (.cells #[.int .u32 t.client, .int .u32 t.seq] 55)).drew) ((((Below.refl _ _).alloc (Nat.le_refl _) _).alloc (by simp) _).drew) hE hC hel hcl
  have CON : Aside _ := con
  have HL : Hid ((lastW evs t).length ≤ 1048576) := Nat.le_trans (lastW_length evs t) hel
  clear con hE hC hel hcl
  go_enter Try.func12, Try.ntmps12
  go_wp2
  go_region_with (first
    | (refine Calls.mono CON.out ?_
       rintro e w2 ⟨rfl, M, m8, k15, hlk, hm8, hb, hb1⟩
       have p0 : w2.cell? ⟨w.heap.size + 1, 0, none⟩ = some (.int .u32 t.client) := (hb1.cell (p := ⟨w.heap.size + 1, 0, none⟩) (by show _ < ((w.alloc _).alloc _).heap.size; simp)).trans (cell_of_cells (alloc_new_at (w.alloc _) _ (by simp)) 0)
       have p1 : w2.cell? ⟨w.heap.size + 1, 1, none⟩ = some (.int .u32 t.seq) := (hb1.cell (p := ⟨w.heap.size + 1, 1, none⟩) (by show _ < ((w.alloc _).alloc _).heap.size; simp)).trans (cell_of_cells (alloc_new_at (w.alloc _) _ (by simp)) 1)
       have CON2 : Aside _ := sortedAny_calls m8 (lastW evs t) w2 hm8 HL.out
       have HB : Hid (Below w.heap.size w w2) := hb
       clear hm8 hb hb1)
    | (refine Calls.mono CON2.out ?_
       rintro e w3 ⟨v, l, rfl, hrd, hp, hby, hb3, hty⟩
       have HTY : Aside (OfType w3 v 62) := hty
       have HRD : Aside (Rd Wr.cells 3 w3 w.heap.size v l) := hrd.weaken HB.out.size
       have HP : Hid (l.Perm ((lastW evs t).map (·.2)) ∧ ByKey l) := ⟨hp, hby⟩
       have HB3 : Hid (Below w.heap.size w w3) := HB.out.trans (hb3.mono HB.out.size)
       clear hrd hp hby hb3 hty))
  all_goals
    go_wp2
    go_ret
    exact ⟨_, _, rfl, HRD.out, HP.out.1, HP.out.2, HB3.out, HTY.out⟩
end Go.Proofs.Ytgpagjocjcpbhaa
