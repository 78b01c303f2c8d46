/-
  The law's own small functions: below, sameVersions at two equal lists.
-/
import Derived.Test.YtgpagjocjcpbhaaTmChg
import Derived.StillTailTactics
namespace Go.Proofs.Ytgpagjocjcpbhaa
open Go.Shelf Go.RowKit Go.Lib Go.Sort Go.Tm.Stab Go.Tm

set_option maxHeartbeats 400000 in
theorem below_calls (a b : Stp) (w : World) : Calls Try.prog 6 #[sv a, sv b] w fun e w' => e = .returned (.bool (a.lt b)) ∧ Grw w w' := by
  have h1 := @lt_ne_wall a b
  have h2 := @lt_ne_log a b
  have h3 := @lt_node a b
  have H1 := Lib.hid h1; have H2 := Lib.hid h2; have H3 := Lib.hid h3
  clear h1 h2 h3
  generalize a.lt b = r at H1 H2 H3 ⊢
  go_enter Try.func6, Try.ntmps6
  go_wp2
  · go_ret
    rw [H1.out (by assumption)]
    exact ⟨rfl, ((Grw.refl w).alloc _).alloc _⟩
  · go_ret
    rw [H2.out (by assumption) (by assumption)]
    exact ⟨rfl, ((Grw.refl w).alloc _).alloc _⟩
  · go_ret
    rw [H3.out (by assumption) (by assumption)]
    exact ⟨rfl, ((Grw.refl w).alloc _).alloc _⟩

abbrev vv (x : Ver) : Value := .agg #[.string x.key, .int .u64 x.at_.wall, .int .u32 x.at_.logical, .int .u32 x.at_.node, .bool x.del, .string x.value]

/-- '!=' at a version and itself. -/
theorem neq_ver (x : Ver) (w : World) : (binOp .neq 47 (vv x) (vv x)).run Try.prog w = .ok (.bool false) w := by
  have h : (Op.equalIn 10000 47 (vv x) (vv x)).run Try.prog w = .ok true w := by
    go_simp
  rw [run_neq_struct, h]
  rfl

set_option maxHeartbeats 4000000 in
set_option maxRecDepth 1000000 in
/-- sameVersions at two slices that read as one list: true. -/
theorem same_calls (va vb : Value) (l : List Ver) (w : World) (ha : Rd Ver.cells 6 w 0 va l) (hb : Rd Ver.cells 6 w 0 vb l) (hl : l.length ≤ 4398046511104) :
    Calls Try.prog 8 #[va, vb] w fun e w' => e = .returned (.bool true) ∧ Grw w w' := by
  obtain ⟨a1, c1, rfl, hc1, hr1⟩ := ha
  obtain ⟨a2, c2, rfl, hc2, hr2⟩ := hb
  have HR : Hid (l = [] ∨ ∃ b1 off1 b2 off2, a1 = some ⟨b1, off1, none⟩ ∧ a2 = some ⟨b2, off2, none⟩ ∧ b1 < w.heap.size ∧ b2 < w.heap.size ∧ (∀ i x, l[i]? = some x → ∀ j u, (Ver.cells x)[j]? = some u → w.cell? ⟨b1, off1 + i * 6 + j, none⟩ = some u) ∧ (∀ i x, l[i]? = some x → ∀ j u, (Ver.cells x)[j]? = some u → w.cell? ⟨b2, off2 + i * 6 + j, none⟩ = some u)) := by
    rcases hr1 with h | ⟨b1, off1, h1, _, h2, h3⟩
    · exact Or.inl h
    · rcases hr2 with h | ⟨b2, off2, k1, _, k2, k3⟩
      · exact Or.inl h
      · exact Or.inr ⟨b1, off1, b2, off2, h1, k1, h2, k2, h3, k3⟩
  clear hr1 hr2 hc1 hc2
  have hnq := neq_ver
  go_enter Try.func8, Try.ntmps8
  go_wp2
  go_loopg [5] l.length (fun gq v wr => ∃ k : Nat, v = .int .i64 k ∧ k ≤ l.length ∧ Aside (Grw w wr) ∧ l.length - k ≤ gq)
  case atStart => exact ⟨0, rfl, Nat.zero_le _, Grw.refl _, Nat.le_refl _⟩
  case round =>
    obtain ⟨k, rfl, hk, HG, hg⟩ := hrel
    by_cases hlt : k < l.length
    · obtain ⟨y, hy⟩ : ∃ y, l[k]? = some y := ⟨l[k], List.getElem?_eq_getElem hlt⟩
      obtain ⟨b1, off1, b2, off2, e1, e2, hp, hq⟩ : ∃ b1 off1 b2 off2, a1 = some ⟨b1, off1, none⟩ ∧ a2 = some ⟨b2, off2, none⟩ ∧ (∀ j u, (Ver.cells y)[j]? = some u → wr.cell? ⟨b1, off1 + k * 6 + j, none⟩ = some u) ∧ (∀ j u, (Ver.cells y)[j]? = some u → wr.cell? ⟨b2, off2 + k * 6 + j, none⟩ = some u) := by
        rcases HR.out with h | ⟨b1, off1, b2, off2, h1, h2, h3, h4, h5, h6⟩
        · rw [h] at hlt; simp at hlt
        · exact ⟨b1, off1, b2, off2, h1, h2, fun j u hj => (HG.out.below.cell (p := ⟨b1, off1 + k * 6 + j, none⟩) h3).trans (h5 k y hy j u hj), fun j u hj => (HG.out.below.cell (p := ⟨b2, off2 + k * 6 + j, none⟩) h4).trans (h6 k y hy j u hj)⟩
      have p0 : wr.cell? ⟨b1, off1 + k * 6, none⟩ = some (.string y.key) := hp 0 _ rfl
      have p1 : wr.cell? ⟨b1, off1 + k * 6 + 1, none⟩ = some (.int .u64 y.at_.wall) := hp 1 _ rfl
      have p2 : wr.cell? ⟨b1, off1 + k * 6 + 2, none⟩ = some (.int .u32 y.at_.logical) := hp 2 _ rfl
      have p3 : wr.cell? ⟨b1, off1 + k * 6 + 3, none⟩ = some (.int .u32 y.at_.node) := hp 3 _ rfl
      have p4 : wr.cell? ⟨b1, off1 + k * 6 + 4, none⟩ = some (.bool y.del) := hp 4 _ rfl
      have p5 : wr.cell? ⟨b1, off1 + k * 6 + 5, none⟩ = some (.string y.value) := hp 5 _ rfl
      have q0 : wr.cell? ⟨b2, off2 + k * 6, none⟩ = some (.string y.key) := hq 0 _ rfl
      have q1 : wr.cell? ⟨b2, off2 + k * 6 + 1, none⟩ = some (.int .u64 y.at_.wall) := hq 1 _ rfl
      have q2 : wr.cell? ⟨b2, off2 + k * 6 + 2, none⟩ = some (.int .u32 y.at_.logical) := hq 2 _ rfl
      have q3 : wr.cell? ⟨b2, off2 + k * 6 + 3, none⟩ = some (.int .u32 y.at_.node) := hq 3 _ rfl
      have q4 : wr.cell? ⟨b2, off2 + k * 6 + 4, none⟩ = some (.bool y.del) := hq 4 _ rfl
      have q5 : wr.cell? ⟨b2, off2 + k * 6 + 5, none⟩ = some (.string y.value) := hq 5 _ rfl
      have hi1 : (k : Int) < (l.length : Int) := by omega
      have hi2 : (k : Int).toNat = k := by omega
      have hnv := hnq y wr.drew
      subst e1 e2
      clear hp hq hy
      go_wp2_with fail
      go_still_tail 8, (by kernel_rfl)
      change wpList _ _ _ _ _ wr.drew
      go_wp2_with fail
      go_roundg (l.length - (k + 1))
      case measure => omega
      case rel => exact ⟨k + 1, by push_cast; rfl, hlt, HG.out.drew, Nat.le_refl _⟩
    · have hi1 : ¬ (k : Int) < (l.length : Int) := by omega
      clear hnq
      go_wp2_with fail
      go_ret
      exact ⟨rfl, HG.out⟩
end Go.Proofs.Ytgpagjocjcpbhaa
