/-
  The walks over the small functions: the order of stamps, of transactions, of entries; what is a write and which.
-/
import Derived.Test.YtgpagjocjcpbhaaProg
import Derived.Test.YtgpagjocjcpbhaaTmBase
import Derived.Laws.StructEq
import Derived.WalkLawsBesides
import Derived.Deep.QuietTactic
import Derived.BigQuiet
import Derived.KernelRfl
import Derived.Lib.Hide
import Derived.BigRegion
import Derived.Deep.LoopGhost
namespace Go.Proofs.Ytgpagjocjcpbhaa
open Go.RowKit Go.Sort Go.Tm

/-- A stamp as a value. -/
abbrev sv (a : Stp) : Value := .agg #[.int .u64 a.wall, .int .u32 a.logical, .int .u32 a.node]
abbrev tv (t : Tx) : Value := .agg #[.int .u32 t.client, .int .u32 t.seq]
abbrev ev (e : Ent) : Value := .agg #[.int .u32 e.txn.client, .int .u32 e.txn.seq, .int .u32 e.home, .int .i64 e.outcome, .int .u64 e.at_.wall, .int .u32 e.at_.logical, .int .u32 e.at_.node]

theorem lt_ne_wall {a b : Stp} (h : (a.wall != b.wall) = true) : a.lt b = decide (a.wall < b.wall) := by unfold Stp.lt; rw [if_neg (by simpa using h)]
theorem lt_ne_log {a b : Stp} (h1 : (a.wall != b.wall) = false) (h : (a.logical != b.logical) = true) : a.lt b = decide (a.logical < b.logical) := by
  unfold Stp.lt; rw [if_pos (by simpa using h1), if_neg (by simpa using h)]
theorem lt_node {a b : Stp} (h1 : (a.wall != b.wall) = false) (h : (a.logical != b.logical) = false) : a.lt b = decide (a.node < b.node) := by
  unfold Stp.lt; rw [if_pos (by simpa using h1), if_pos (by simpa using h)]

set_option maxHeartbeats 400000 in
theorem less_calls (a b : Stp) (w : World) : Calls Try.prog 11 #[sv a, sv b] w fun e w' => e = .returned (.bool (a.lt b)) ∧ Grw w w' := by
  have h1 := @lt_ne_wall a b
  have h2 := @lt_ne_log a b
  have h3 := @lt_node a b
  have H1 := Lib.hid h1; have H2 := Lib.hid h2; have H3 := Lib.hid h3
  clear h1 h2 h3
  generalize a.lt b = r at H1 H2 H3 ⊢
  go_enter Try.func11, Try.ntmps11
  go_wp2
  · go_ret
    rw [H1.out (by assumption)]
    exact ⟨rfl, ((Grw.refl w).alloc _).alloc _⟩
  · go_ret
    rw [H2.out (by assumption) (by assumption)]
    exact ⟨rfl, ((Grw.refl w).alloc _).alloc _⟩
  · go_ret
    rw [H3.out (by assumption) (by assumption)]
    exact ⟨rfl, ((Grw.refl w).alloc _).alloc _⟩


theorem eq_parts (a b : Stp) : (a.wall == b.wall && (a.logical == b.logical && a.node == b.node)) = decide (a = b) := by
  by_cases h : a = b
  · subst h; simp
  · rw [decide_eq_false h]
    cases h1 : a.wall == b.wall <;> cases h2 : a.logical == b.logical <;> cases h3 : a.node == b.node <;> simp_all
    exact h (Stp.ext' h1 h2 h3)

/-- '==' at two stamps. -/
theorem eq_stamp (a b : Stp) (w : World) : (binOp .eql 30 (sv a) (sv b)).run Try.prog w = .ok (.bool (decide (a = b))) w := by
  have h : (Op.equalIn 10000 30 (sv a) (sv b)).run Try.prog w = .ok (decide (a = b)) w := by
    rw [← eq_parts]
    go_simp
    cases h1 : a.wall == b.wall <;> cases h2 : a.logical == b.logical <;> cases h3 : a.node == b.node <;> simp_all
  rw [run_eql_struct, h]
  rfl

set_option maxHeartbeats 400000 in
theorem compare_calls (a b : Stp) (w : World) : Calls Try.prog 23 #[sv a, sv b] w fun e w' => e = .returned (.int .i64 (a.cmp b)) ∧ Grw w w' := by
  have he := fun w => eq_stamp a b w
  have hl : ∀ w, Calls Try.prog 11 #[sv a, sv b] w fun e w' => e = .returned (.bool (a.lt b)) ∧ Grw w w' := fun w => less_calls a b w
  have HL : Aside _ := hl
  clear hl
  have H : Hid (a.cmp b = if a = b then 0 else if a.lt b = true then -1 else 1) := rfl
  by_cases h1 : a = b
  · have hr : a.cmp b = 0 := by rw [H.out, if_pos h1]
    have HR : Hid (a.cmp b = 0) := hr
    have hd : decide (a = b) = true := decide_eq_true h1
    clear hr H
    generalize a.cmp b = r at HR ⊢
    rw [hd] at he
    clear hd h1
    go_enter Try.func23, Try.ntmps23
    go_wp2
    go_ret
    rw [HR.out]
    exact ⟨rfl, ((Grw.refl w).alloc _).alloc _⟩
  · have hd : decide (a = b) = false := decide_eq_false h1
    rw [hd] at he
    cases h2 : a.lt b with
    | true =>
      have hr : a.cmp b = -1 := by rw [H.out, if_neg h1, if_pos h2]
      have HR : Hid (a.cmp b = -1) := hr
      rw [h2] at HL
      clear hr H hd h1 h2
      generalize a.cmp b = r at HR ⊢
      go_enter Try.func23, Try.ntmps23
      go_wp2_with fail
      refine Calls.mono (HL.out _) ?_
      rintro e w1 ⟨rfl, hg⟩
      have HG : Aside _ := hg
      clear hg
      go_wp2
      go_ret
      rw [HR.out]
      exact ⟨rfl, (((Grw.refl w).alloc _).alloc _).trans HG.out⟩
    | false =>
      have hr : a.cmp b = 1 := by rw [H.out, if_neg h1, if_neg (by rw [h2]; exact Bool.false_ne_true)]
      have HR : Hid (a.cmp b = 1) := hr
      rw [h2] at HL
      clear hr H hd h1 h2
      generalize a.cmp b = r at HR ⊢
      go_enter Try.func23, Try.ntmps23
      go_wp2_with fail
      refine Calls.mono (HL.out _) ?_
      rintro e w1 ⟨rfl, hg⟩
      have HG : Aside _ := hg
      clear hg
      go_wp2
      go_ret
      rw [HR.out]
      exact ⟨rfl, (((Grw.refl w).alloc _).alloc _).trans HG.out⟩

theorem txn_way1 {a b : Tx} (h : a.num < b.num) : a.cmp b = -1 := by unfold Tx.cmp; rw [if_pos h]
theorem txn_way2 {a b : Tx} (_ : b.num ≤ a.num) (h : b.num < a.num) : a.cmp b = 1 := by unfold Tx.cmp; rw [if_neg (by omega), if_pos h]
theorem txn_way3 {a b : Tx} (h1 : b.num ≤ a.num) (h : a.num ≤ b.num) : a.cmp b = 0 := by unfold Tx.cmp; rw [if_neg (by omega), if_neg (by omega)]

set_option maxHeartbeats 400000 in
theorem compareTxn_calls (a b : Tx) (w : World) : Calls Try.prog 27 #[tv a, tv b] w fun e w' => e = .returned (.int .i64 (a.cmp b)) ∧ Grw w w' := by
  have h1 := @txn_way1 a b
  have h2 := @txn_way2 a b
  have h3 := @txn_way3 a b
  unfold Tx.num at h1 h2 h3
  have H1 := Lib.hid h1; have H2 := Lib.hid h2; have H3 := Lib.hid h3
  clear h1 h2 h3
  generalize a.cmp b = r at H1 H2 H3 ⊢
  go_enter Try.func27, Try.ntmps27
  go_wp2
  go_region
  all_goals go_wp2
  · go_ret
    rw [H1.out (by assumption)]
    exact ⟨rfl, (((Grw.refl w).alloc _).alloc _).drew⟩
  · go_ret
    rw [H2.out (by assumption) (by assumption)]
    exact ⟨rfl, (((Grw.refl w).alloc _).alloc _).drew⟩
  · go_ret
    rw [H3.out (by assumption) (by assumption)]
    exact ⟨rfl, (((Grw.refl w).alloc _).alloc _).drew⟩

set_option maxHeartbeats 1000000 in
theorem compareEntries_calls (a b : Ent) (w : World) : Calls Try.prog 17 #[ev a, ev b] w fun e w' => e = .returned (.int .i64 (a.cmp b)) ∧ Grw w w' := by
  have hl : ∀ w, Calls Try.prog 23 #[sv a.at_, sv b.at_] w fun e w' => e = .returned (.int .i64 (a.at_.cmp b.at_)) ∧ Grw w w' := fun w => compare_calls _ _ w
  have HL : Aside _ := hl
  clear hl
  have H : Hid (a.cmp b = if a.at_.cmp b.at_ = 0 then a.txn.cmp b.txn else a.at_.cmp b.at_) := rfl
  by_cases h0 : a.at_.cmp b.at_ = 0
  · have hr : a.cmp b = a.txn.cmp b.txn := by rw [H.out, if_pos h0]
    rw [h0] at HL
    have h1 := @txn_way1 a.txn b.txn
    have h2 := @txn_way2 a.txn b.txn
    have h3 := @txn_way3 a.txn b.txn
    rw [← hr] at h1 h2 h3
    unfold Tx.num at h1 h2 h3
    have H1 := Lib.hid h1; have H2 := Lib.hid h2; have H3 := Lib.hid h3
    clear h1 h2 h3 hr H h0
    generalize a.cmp b = r at H1 H2 H3 ⊢
    go_enter Try.func17, Try.ntmps17
    go_wp2_with fail
    refine Calls.mono (HL.out _) ?_
    rintro e w1 ⟨rfl, hg⟩
    have HG : Aside _ := hg
    obtain ⟨hc, hf⟩ : (∀ b' o, b' < w.heap.size + 2 → w1.cell? ⟨b', o, none⟩ = ((w.alloc _).alloc _).cell? ⟨b', o, none⟩) ∧ True := ⟨fun b' o h => hg.below.cell (p := ⟨b', o, none⟩) (by simp; omega), trivial⟩
    clear hg hf
    go_wp2
    go_region
    all_goals go_wp2
    · go_ret
      rw [H1.out (by assumption)]
      exact ⟨rfl, ((((Grw.refl w).alloc _).alloc _).trans HG.out).drew⟩
    · go_ret
      rw [H2.out (by assumption) (by assumption)]
      exact ⟨rfl, ((((Grw.refl w).alloc _).alloc _).trans HG.out).drew⟩
    · go_ret
      rw [H3.out (by assumption) (by assumption)]
      exact ⟨rfl, ((((Grw.refl w).alloc _).alloc _).trans HG.out).drew⟩
  · have hr : a.cmp b = a.at_.cmp b.at_ := by rw [H.out, if_neg h0]
    rw [hr]
    have hz : (a.at_.cmp b.at_ == 0) = false := beq_eq_false_iff_ne.2 h0
    have hz' : (a.at_.cmp b.at_ != 0) = true := bne_iff_ne.2 h0
    clear H hr h0
    generalize a.at_.cmp b.at_ = r at HL hz hz' ⊢
    go_enter Try.func17, Try.ntmps17
    go_wp2_with fail
    refine Calls.mono (HL.out _) ?_
    rintro e w1 ⟨rfl, hg⟩
    have HG : Aside _ := hg
    clear hg
    go_wp2
    go_ret
    exact ⟨rfl, (((Grw.refl w).alloc _).alloc _).trans HG.out⟩
end Go.Proofs.Ytgpagjocjcpbhaa
