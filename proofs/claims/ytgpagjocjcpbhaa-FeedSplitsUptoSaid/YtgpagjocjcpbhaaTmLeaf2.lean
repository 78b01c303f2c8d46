/-
  The walks over the closures of feed.inOrder and audit, and over audit.isWrite and audit.writeOf.
-/
import Derived.Test.YtgpagjocjcpbhaaTmLeaf
namespace Go.Proofs.Ytgpagjocjcpbhaa
open Go.RowKit Go.Sort Go.Tm

abbrev wv (x : Wr) : Value := .agg #[.string x.key, .bool x.del, .string x.value]
abbrev ov (o : Opn) : Value := .agg #[.int .i64 o.kind, .bool o.ro, .bool o.asOf, .bool o.back, .string o.token, .string o.key, .string o.hi, .string o.value, .int .i64 o.limit]
abbrev av (a : Ans) : Value := .agg #[.int .u32 a.client, .int .u32 a.txn.client, .int .u32 a.txn.seq, .int .i64 a.op.kind, .bool a.op.ro, .bool a.op.asOf, .bool a.op.back, .string a.op.token, .string a.op.key, .string a.op.hi, .string a.op.value, .int .i64 a.op.limit,
  .int .i64 a.status, .int .u64 a.at_.wall, .int .u32 a.at_.logical, .int .u32 a.at_.node, .slice a.pairs.1 a.pairs.2.1 a.pairs.2.2, .string a.token]

set_option maxHeartbeats 400000 in
theorem notCommitted_calls (e : Ent) (w : World) : Calls Try.prog 15 #[ev e] w fun r w' => r = .returned (.bool (e.outcome != 1)) ∧ Grw w w' := by
  go_enter Try.func15, Try.ntmps15
  go_wp2
  go_ret
  exact ⟨rfl, (Grw.refl w).alloc _⟩

set_option maxHeartbeats 1000000 in
theorem auditCompare_calls (a b : Ent) (w : World) : Calls Try.prog 26 #[ev a, ev b] w fun e w' => e = .returned (.int .i64 (a.cmp b)) ∧ Grw w w' := by
  have hl : ∀ w, Calls Try.prog 23 #[sv a.at_, sv b.at_] w fun e w' => e = .returned (.int .i64 (a.at_.cmp b.at_)) ∧ Grw w w' := fun w => compare_calls _ _ w
  have ht : ∀ w, Calls Try.prog 27 #[tv a.txn, tv b.txn] w fun e w' => e = .returned (.int .i64 (a.txn.cmp b.txn)) ∧ Grw w w' := fun w => compareTxn_calls _ _ w
  have HL : Aside _ := hl
  have HT : Aside _ := ht
  clear hl ht
  have H : Hid (a.cmp b = if a.at_.cmp b.at_ = 0 then a.txn.cmp b.txn else a.at_.cmp b.at_) := rfl
  by_cases h0 : a.at_.cmp b.at_ = 0
  · have hr : a.cmp b = a.txn.cmp b.txn := by rw [H.out, if_pos h0]
    rw [h0] at HL
    rw [hr]
    generalize a.txn.cmp b.txn = r at HT
    clear hr H h0
    go_enter Try.func26, Try.ntmps26
    go_wp2_with fail
    refine Calls.mono (HL.out _) ?_
    rintro e w1 ⟨rfl, hg⟩
    have HG : Aside _ := hg
    have hc : ∀ b' o, b' < w.heap.size + 2 → w1.cell? ⟨b', o, none⟩ = ((w.alloc _).alloc _).cell? ⟨b', o, none⟩ := fun b' o h => hg.below.cell (p := ⟨b', o, none⟩) (by simp; omega)
    clear hg
    go_wp2_with fail
    refine Calls.mono (HT.out _) ?_
    rintro e w2 ⟨rfl, hg⟩
    have HG2 : Aside _ := hg
    clear hg
    go_wp2
    go_ret
    exact ⟨rfl, ((((Grw.refl w).alloc _).alloc _).trans HG.out).trans HG2.out⟩
  · have hr : a.cmp b = a.at_.cmp b.at_ := by rw [H.out, if_neg h0]
    rw [hr]
    have hz : (a.at_.cmp b.at_ == 0) = false := beq_eq_false_iff_ne.2 h0
    have hz' : (a.at_.cmp b.at_ != 0) = true := bne_iff_ne.2 h0
    clear H hr h0
    generalize a.at_.cmp b.at_ = r at HL hz hz' ⊢
    go_enter Try.func26, Try.ntmps26
    go_wp2_with fail
    refine Calls.mono (HL.out _) ?_
    rintro e w1 ⟨rfl, hg⟩
    have HG : Aside _ := hg
    clear hg
    go_wp2
    go_ret
    exact ⟨rfl, (((Grw.refl w).alloc _).alloc _).trans HG.out⟩

/-- The order of writes that audit.sorted hands to the sort. -/
def Wr.cmp (a b : Wr) : Int := if Op.bytesLess a.key.toList b.key.toList = true then -1 else 1

set_option maxHeartbeats 400000 in
theorem sortedCmp_calls (a b : Wr) (w : World) : Calls Try.prog 25 #[wv a, wv b] w fun e w' => e = .returned (.int .i64 (Wr.cmp a b)) ∧ Grw w w' := by
  have H : Hid (Wr.cmp a b = if Op.bytesLess a.key.toList b.key.toList = true then -1 else 1) := rfl
  cases hb : Op.bytesLess a.key.toList b.key.toList with
  | true =>
    have HR : Hid (Wr.cmp a b = -1) := by show _ = _; rw [H.out, if_pos hb]
    clear H
    generalize Wr.cmp a b = r at HR ⊢
    go_enter Try.func25, Try.ntmps25
    go_wp2
    go_ret
    rw [HR.out]
    exact ⟨rfl, ((Grw.refl w).alloc _).alloc _⟩
  | false =>
    have HR : Hid (Wr.cmp a b = 1) := by show _ = _; rw [H.out, if_neg (by rw [hb]; exact Bool.false_ne_true)]
    clear H
    generalize Wr.cmp a b = r at HR ⊢
    go_enter Try.func25, Try.ntmps25
    go_wp2
    go_ret
    rw [HR.out]
    exact ⟨rfl, ((Grw.refl w).alloc _).alloc _⟩

def _root_.Go.Tm.Ans.isWrite (a : Ans) : Bool := a.status == 0 && (a.op.kind == 4 || a.op.kind == 5)
def _root_.Go.Tm.Opn.write (o : Opn) : Wr := if o.kind = 5 then ⟨o.key, true, ⟨#[]⟩⟩ else ⟨o.key, false, o.value⟩

set_option maxHeartbeats 400000 in
theorem isWrite_calls (a : Ans) (w : World) : Calls Try.prog 28 #[av a] w fun e w' => e = .returned (.bool a.isWrite) ∧ Grw w w' := by
  have H : Hid (a.isWrite = (a.status == 0 && (a.op.kind == 4 || a.op.kind == 5))) := rfl
  cases h1 : a.status == 0 <;> cases h2 : a.op.kind == 4 <;> cases h3 : a.op.kind == 5
  all_goals
    go_enter Try.func28, Try.ntmps28
    go_wp2
    go_ret
    rw [H.out]
    exact ⟨by simp [h1, h2, h3], (Grw.refl w).alloc _⟩

set_option maxHeartbeats 400000 in
theorem writeOf_calls (o : Opn) (w : World) : Calls Try.prog 29 #[ov o] w fun e w' => e = .returned (wv o.write) ∧ Grw w w' := by
  have H : Hid (o.write = if o.kind = 5 then ⟨o.key, true, ⟨#[]⟩⟩ else ⟨o.key, false, o.value⟩) := rfl
  by_cases h : o.kind = 5
  · have hz : (o.kind == 5) = true := beq_iff_eq.2 h
    have HR : Hid (o.write = ⟨o.key, true, ⟨#[]⟩⟩) := by show _ = _; rw [H.out, if_pos h]
    clear H h
    generalize o.write = r at HR ⊢
    go_enter Try.func29, Try.ntmps29
    go_wp2
    refine bodyPost_ret (v := .agg #[.string o.key, .bool true, .string ⟨#[]⟩]) (by simp [results, Try.results29, go_sem]) rfl ?_
    rw [HR.out]
    exact ⟨rfl, ((Grw.refl w).alloc _).alloc _⟩
  · have hz : (o.kind == 5) = false := beq_eq_false_iff_ne.2 h
    have HR : Hid (o.write = ⟨o.key, false, o.value⟩) := by show _ = _; rw [H.out, if_neg h]
    clear H h
    generalize o.write = r at HR ⊢
    go_enter Try.func29, Try.ntmps29
    go_wp2
    refine bodyPost_ret (v := .agg #[.string o.key, .bool false, .string o.value]) (by simp [results, Try.results29, go_sem]) rfl ?_
    rw [HR.out]
    exact ⟨rfl, ((Grw.refl w).alloc _).alloc _⟩
end Go.Proofs.Ytgpagjocjcpbhaa
