/-
  The law's own small functions: pick, the result of a step.
-/
import Derived.Test.YtgpagjocjcpbhaaTmSame
namespace Go.Proofs.Ytgpagjocjcpbhaa
open Go.Shelf Go.RowKit Go.Lib Go.Sort Go.Tm.Stab Go.Tm

theorem wpList_store_at {P : Program} {ops : Array Oper} {rest : List Oper} {op : Oper} {a : Act} {w : World} {Q : Exit → Act → World → Prop} (hgd : op.guard = none) (ty : TypeId) (x y : Operand) (ho : op.op = .store ty x y) (n : Nat) (hn : n = w.heap.size)
    (c c' : Array Value) (hx : a.eval x = .pointer (some ⟨n, 0, none⟩)) (hy : a.eval y = .agg c') (hi : (P.info? ty).map (·.size) = some c'.size) (hc : c.size = c'.size) (h1 : c'.all (·.oneCell') = true)
    (h : wpList P ops Q rest (a.put op.dst undef) (w.alloc (.cells c' ty))) : wpList P ops Q (op :: rest) a (w.alloc (.cells c ty)) := by
  subst hn
  exact wpList_store_new hgd ty x y ho c c' hx hy hi hc h1 h

/-- A result's cells as a list. -/
def _root_.Go.Tm.RV.cells (r : RV) : List Value := (rv r).cells.toList
theorem _root_.Go.Tm.RV.len (r : RV) : r.cells.length = 13 := rfl
theorem rv_one (r : RV) : ∀ v ∈ r.cells, v.oneCell' = true := by
  intro v hv
  simp only [RV.cells, rv, Value.cells, List.mem_cons, List.not_mem_nil, or_false] at hv
  rcases hv with rfl | rfl | rfl | rfl | rfl | rfl | rfl | rfl | rfl | rfl | rfl | rfl | rfl <;> rfl
/-- The zero result. -/
def _root_.Go.Tm.RV.zero : RV := ⟨0, 0, 0, (none, 0, 0), 0, 0, 0, (none, 0, 0), (none, 0, 0), (none, 0, 0), (none, 0, 0), 0, 0⟩

set_option maxHeartbeats 4000000 in
set_option maxRecDepth 1000000 in
theorem pick_calls (va vs : Value) (lr : List RV) (i : Int) (w : World) (ha : Rd RV.cells 13 w 0 va lr) (hl : lr.length ≤ 1048576) (hi0 : -9223372036854775808 ≤ i) (hi1 : i ≤ 9223372036854775807) :
    Calls Try.prog 5 #[.agg #[va, vs], .int .i64 i] w fun e w' => ∃ r, e = .returned (rv r) ∧ (r ∈ lr ∨ r = RV.zero) ∧ Below w.heap.size w w' := by
  obtain ⟨a1, c1, rfl, hc1, hr1⟩ := ha
  have HR : Hid (lr = [] ∨ ∃ b off, a1 = some ⟨b, off, none⟩ ∧ 0 ≤ b ∧ b < w.heap.size ∧ ∀ i x, lr[i]? = some x → ∀ j u, (RV.cells x)[j]? = some u → w.cell? ⟨b, off + i * 13 + j, none⟩ = some u) := hr1
  clear hr1
  by_cases h0 : lr = []
  · have hz : (lr.length == 0) = true := by simp [h0]
    have hz2 : ((lr.length : Int) == 0) = true := by simp [h0]
    clear h0
    go_enter Try.func5, Try.ntmps5
    go_wp2
    refine bodyPost_ret (v := rv RV.zero) (results_cell_row rfl _ _ (w.heap.size + 1) 41 (rv RV.zero).cells (0, 0) _ rfl (alloc_new_at (w.alloc _) _ (by simp)) Try.underlying41 rfl rfl) rfl ?_
    exact ⟨RV.zero, rfl, Or.inr rfl, ((Below.refl _ _).alloc (Nat.le_refl _) _).alloc (by simp) _⟩
  · have hn0 : 0 < lr.length := List.length_pos_iff.2 h0
    have hz2 : ((lr.length : Int) == 0) = false := by
      rw [beq_eq_false_iff_ne]; omega
    have hz3 : ¬ (lr.length : Int) = 0 := by omega
    have hz4 : ¬ lr.length = 0 := by omega
    clear h0
    obtain ⟨t, ht⟩ : ∃ t, i.tmod (lr.length : Int) = t := ⟨_, rfl⟩
    have hb1 : t < (lr.length : Int) := by rw [← ht]; exact Int.tmod_lt_of_pos _ (by omega)
    have hb2 : -(lr.length : Int) < t := by
      have h := Int.natAbs_tmod i (lr.length : Int)
      have h2 := Nat.mod_lt i.natAbs (show 0 < (lr.length : Int).natAbs by omega)
      rw [← h, ht] at h2
      omega
    have key : ∀ k : Nat, k < lr.length → ∃ x b off, a1 = some ⟨b, off, none⟩ ∧ x ∈ lr ∧ Aside (((w.alloc (.cells #[.slice a1 lr.length c1, vs] 25)).alloc (.cells (rv RV.zero).cells 41)).rangeAt b (off + k * 13) x.cells) := fun k hk => by
      rcases HR.out with h | ⟨b, off, h1, _, h3, h4⟩
      · rw [h] at hk; simp at hk
      · refine ⟨lr[k], b, off, h1, List.getElem_mem hk, fun j u hj => ?_⟩
        rw [((Below.refl w.heap.size w).alloc (Nat.le_refl _) _).alloc (by simp) _ |>.cell (p := ⟨b, off + k * 13 + j, none⟩) h3]
        exact h4 k _ (List.getElem?_eq_getElem hk) j u hj
    have hns : (t < 0) = (t < 0) := rfl
    clear hns
    by_cases hneg : t < 0
    · obtain ⟨k, hk⟩ : ∃ k : Nat, t + (lr.length : Int) = k := ⟨(t + (lr.length : Int)).toNat, by omega⟩
      have hw : wrap64 (t + (lr.length : Int)) = k := by unfold wrap64; omega
      have hkl : k < lr.length := by omega
      have hk1 : (k : Int) < (lr.length : Int) := by omega
      have hk2 : (k : Int).toNat = k := by omega
      obtain ⟨x, b, off, rfl, hxm, HX⟩ := key k hkl
      have HM : Hid (x ∈ lr) := hxm
      clear hk key hxm hb1 hb2
      go_enter Try.func5, Try.ntmps5
      go_wp2_with (first | (refine wpList_load_mid rfl 41 _ rfl b (off + k * 13) rfl x.cells _ HX.out Try.underlying41 rfl rfl ?_) | (refine wpList_store_at rfl 41 _ _ rfl (w.heap.size + 1) (by simp) _ x.cells.toArray rfl rfl rfl rfl (all_oneCell_toArray (rv_one x)) ?_))
      refine bodyPost_ret (v := rv x) (results_cell_row rfl _ _ (w.heap.size + 1) 41 (rv x).cells (0, 0) _ rfl (alloc_new_at (w.alloc _) _ (by simp)) Try.underlying41 rfl rfl) rfl ?_
      exact ⟨x, rfl, Or.inl HM.out, ((Below.refl _ _).alloc (Nat.le_refl _) _).alloc (by simp) _⟩
    · obtain ⟨k, hk⟩ : ∃ k : Nat, t = k := ⟨t.toNat, by omega⟩
      subst hk
      have hkl : k < lr.length := by omega
      have hk2 : (k : Int).toNat = k := by omega
      obtain ⟨x, b, off, rfl, hxm, HX⟩ := key k hkl
      have HM : Hid (x ∈ lr) := hxm
      clear key hxm hb2
      go_enter Try.func5, Try.ntmps5
      go_wp2_with (first | (refine wpList_load_mid rfl 41 _ rfl b (off + k * 13) rfl x.cells _ HX.out Try.underlying41 rfl rfl ?_) | (refine wpList_store_at rfl 41 _ _ rfl (w.heap.size + 1) (by simp) _ x.cells.toArray rfl rfl rfl rfl (all_oneCell_toArray (rv_one x)) ?_))
      refine bodyPost_ret (v := rv x) (results_cell_row rfl _ _ (w.heap.size + 1) 41 (rv x).cells (0, 0) _ rfl (alloc_new_at (w.alloc _) _ (by simp)) Try.underlying41 rfl rfl) rfl ?_
      exact ⟨x, rfl, Or.inl HM.out, ((Below.refl _ _).alloc (Nat.le_refl _) _).alloc (by simp) _⟩
end Go.Proofs.Ytgpagjocjcpbhaa
