/-
  The iterator of feed.inOrder: its contract as a stopping sequence: all entries of the list, in order; or a first part of them.
-/
import Derived.Test.YtgpagjocjcpbhaaTmOrd
import Derived.RangeFuncNested
import Derived.RangeFuncBound
import Derived.RangeFuncCalls
import Derived.RangeFuncLeaves
import Derived.Shelf.Abstract
import Derived.Shelf.RegionOpen
import Derived.OwnWalkIn
import Derived.TacticsInMore
import Derived.LoopNIn
import Derived.LoopIn
namespace Go.Proofs.Ytgpagjocjcpbhaa
open Go.Shelf Go.RowKit Go.Lib Go.Sort Go.Tm.Stab Go.Tm
attribute [local go_sem] Oper.semAt_some

/-- A whole struct out of its cells: in a round, within a fence. -/
theorem wpListIn_load_mid {F : Fence} {n : Nat} {P : Program} {ops : Array Oper} {rest : List Oper} {op : Oper} {a : Act} {w : World} {Q : Exit → Act → World → Prop} (hgd : op.guard = none) (ty : TypeId) (x : Operand) (ho : op.op = .load ty x)
    (b o : Nat) (hx : a.eval x = .pointer (some ⟨b, o, none⟩)) (cs : List Value) (d : TypeDesc) (hc : w.rangeAt b o cs)
    (hu : P.underlying ty = some d) (hd : d.isRow = true) (hi : (P.info? ty).map (·.size) = some cs.length)
    (h : wpListIn F n P ops Q rest (a.put op.dst (.agg cs.toArray)) w) : wpListIn F n P ops Q (op :: rest) a w := by
  refine wpListIn_plain hgd fun K hK' => ?_
  unfold Oper.wpIn
  refine ⟨?_, ?_⟩
  · simp [Oper.about, ho]
  · rw [Oper.semAt_plain F _ _ (by rw [ho]; intro c hc'; cases hc')]
    unfold execOp
    simp only [ho, hx, Instr.loadAt, Instr.sureAddr, Sem.run_bind, Sem.run_pure, Result.andThen_ok, run_loadVar_mid w b o ty cs d hc hu hd hi]
    exact hK' _ _ h

/-- What a round of the caller's keeps: all below n₀ but one block. -/
structure _root_.Go.Tm.But (n₀ ob : Nat) (W W' : World) : Prop where
  size : W.heap.size ≤ W'.heap.size
  block : ∀ k, k < n₀ → k ≠ ob → W'.heap[k]? = W.heap[k]?
theorem _root_.Go.Tm.But.refl (n₀ ob : Nat) (W : World) : But n₀ ob W W := ⟨Nat.le_refl _, fun _ _ _ => rfl⟩
theorem _root_.Go.Tm.But.trans {n₀ ob : Nat} {A B C : World} (h : But n₀ ob A B) (k : But n₀ ob B C) : But n₀ ob A C := ⟨Nat.le_trans h.size k.size, fun i hi hne => (k.block i hi hne).trans (h.block i hi hne)⟩
theorem _root_.Go.Tm.But.cell {n₀ ob : Nat} {W W' : World} (h : But n₀ ob W W') {b o : Nat} (hb : b < n₀) (hne : b ≠ ob) : W'.cell? ⟨b, o, none⟩ = W.cell? ⟨b, o, none⟩ := World.cell?_of_block (w := W) (h.block b hb hne)

set_option maxRecDepth 1000000 in
set_option maxHeartbeats 2000000 in
theorem ord1_in (n l Bs n₀ ob b off c : Nat) (zs : List Ent) (hlen : zs.length ≤ 1048576) (hb : b < n₀) (hbo : b ≠ ob) (J Jx : List Ent → World → Prop)
    (hY : ∀ pre x W, J pre W → pre.length < zs.length → YieldAt Fence.wide (n - 1) Try.prog l #[ev x] W fun e W' =>
      (e = .returned (.bool true) ∧ J (pre ++ [x]) W' ∧ But n₀ ob W W') ∨ (e = .returned (.bool false) ∧ Jx (pre ++ [x]) W'))
    (W : World) (hn₀ : n₀ ≤ W.heap.size) (hJ : AbidesFrom W.heap.size J) (hBs : W.cell? ⟨Bs, 0, none⟩ = some (.slice (some ⟨b, off, none⟩) zs.length c)) (hc : ∀ i x, zs[i]? = some x → ∀ j u, (Ent.cells x)[j]? = some u → W.cell? ⟨b, off + i * 7 + j, none⟩ = some u) (h0 : J [] W) :
    CallsIn Fence.wide n Try.prog 18 #[.func (.yield l) #[] #[], .pointer (some ⟨Bs, 0, none⟩)] W fun e W' => (∃ v, e = .returned v) ∧
      ((∃ ys, ys = zs ∧ J ys W') ∨ (∃ pre, pre <+: zs ∧ Jx pre W')) := by
  refine callsIn_of_wp Try.func18 rfl trivial ?_ rfl
  simp only [Try.ntmps18, List.size_toArray, List.length_cons, List.length_nil, Nat.reduceAdd, Nat.reduceSub, Array.replicate_succ, Array.replicate_zero, List.push_toArray, List.append_toArray, List.nil_append, List.cons_append]
  have HC : Aside (∀ i x, zs[i]? = some x → ∀ j u, (Ent.cells x)[j]? = some u → W.cell? ⟨b, off + i * 7 + j, none⟩ = some u) := hc
  have HJ : Aside (AbidesFrom W.heap.size J) := hJ
  have H0 : Aside (J [] W) := h0
  have HY : Aside (∀ pre x W, J pre W → pre.length < zs.length → YieldAt Fence.wide (n - 1) Try.prog l #[ev x] W fun e W' =>
      (e = .returned (.bool true) ∧ J (pre ++ [x]) W' ∧ But n₀ ob W W') ∨ (e = .returned (.bool false) ∧ Jx (pre ++ [x]) W')) := hY
  clear hc hJ h0 hY
  gi_wp2
  gi_loopw [7] (fun i wr => ∃ k : Nat, k ≤ zs.length ∧ i = .int .i64 k ∧ Aside (J (zs.take k) wr) ∧ Aside (But n₀ ob W wr))
    (fun i _ => zs.length - (intOf i).toNat)
  case atStart => exact ⟨0, Nat.zero_le _, rfl, H0, But.refl _ _ _⟩
  case round =>
    clear H0
    obtain ⟨k, hk, rfl, HJs, HN⟩ := hrel
    by_cases hlt : k < zs.length
    · obtain ⟨x, hx⟩ : ∃ x, zs[k]? = some x := ⟨zs[k], List.getElem?_eq_getElem hlt⟩
      have hcell : ∀ j u, (Ent.cells x)[j]? = some u → wr.cell? ⟨b, off + k * 7 + j, none⟩ = some u := fun j u hj => (HN.out.cell hb hbo).trans (HC.out k x hx j u hj)
      have k0 := hcell 0 _ rfl
      have k1 := hcell 1 _ rfl
      have k2 := hcell 2 _ rfl
      have k3 := hcell 3 _ rfl
      have k4 := hcell 4 _ rfl
      have k5 := hcell 5 _ rfl
      have k6 := hcell 6 _ rfl
      rw [Nat.add_zero] at k0
      have hi1 : (k : Int) < (zs.length : Int) := by omega
      have hi2 : (k : Int).toNat = k := by omega
      have HJ2 : J (zs.take k) (wr.alloc (.cells x.cells.toArray 58)) := HJ.out _ _ _ none HJs.out (World.grownBy_alloc wr _ none) (fun r e => by cases e)
      obtain ⟨fn, tmps, assign, body, hy, hR⟩ := HY.out _ x _ HJ2 (by rw [List.length_take]; omega)
      have ht : zs.take (k + 1) = zs.take k ++ [x] := by rw [List.take_add_one, hx]; rfl
      have HT : Hid (zs.take (k + 1) = zs.take k ++ [x]) := ht
      dsimp only [Ent.cells, ev] at hy
      clear hcell hx HJ2 ht
      gi_wp2
      refine ⟨(fun h => by simp [Fence.wide] at h), RoundIn.mono hR ?_⟩
      rintro e W3 (⟨rfl, hJ3, hk3⟩ | ⟨rfl, hJx3⟩)
      · have HJ3 : Aside (J (zs.take k ++ [x]) W3) := hJ3
        have HK3 : Aside (But n₀ ob (wr.alloc (.cells x.cells.toArray 58)) W3) := hk3
        clear hJ3 hk3
        gi_wp2
        go_roundw
        case rel =>
          refine ⟨k + 1, by omega, by simp, ?_, ?_⟩
          · show J _ _
            rw [HT.out]; exact HJ3.out
          · refine But.trans (But.trans HN.out ⟨by simp, fun q hq _ => ?_⟩) HK3.out
            exact Below.heap_alloc _ _ _ (Nat.lt_of_lt_of_le hq (Nat.le_trans hn₀ HN.out.size))
        case measure => simp [intOf]; omega
      · have HJX : Aside (Jx (zs.take k ++ [x]) W3) := hJx3
        clear hJx3
        gi_wp2
        refine bodyPost_ret (results_none rfl _ _ _) rfl ?_
        exact ⟨⟨_, rfl⟩, .inr ⟨_, by rw [← HT.out]; exact List.take_prefix _ _, HJX.out⟩⟩
    · obtain rfl : k = zs.length := by omega
      gi_wp2
      go_end0
      refine ⟨⟨_, rfl⟩, .inl ⟨_, rfl, ?_⟩⟩
      have := HJs.out
      rw [List.take_length] at this
      exact this

set_option maxRecDepth 100000 in
set_option maxHeartbeats 1000000 in
/-- .. at an empty list: no round. -/
theorem ordNil_in (n l Bs c : Nat) (a : Option Addr) (J : List Ent → World → Prop) (W : World) (hBs : W.cell? ⟨Bs, 0, none⟩ = some (.slice a 0 c)) (h0 : J [] W) :
    CallsIn Fence.wide n Try.prog 18 #[.func (.yield l) #[] #[], .pointer (some ⟨Bs, 0, none⟩)] W fun e W' => (∃ v, e = .returned v) ∧ J [] W' := by
  refine callsIn_of_wp Try.func18 rfl trivial ?_ rfl
  simp only [Try.ntmps18, List.size_toArray, List.length_cons, List.length_nil, Nat.reduceAdd, Nat.reduceSub, Array.replicate_succ, Array.replicate_zero, List.push_toArray, List.append_toArray, List.nil_append, List.cons_append]
  gi_wp2
  gi_loopw [7] (fun i wr => i = .int .i64 0 ∧ J [] wr) (fun _ _ => 0)
  case atStart => exact ⟨rfl, h0⟩
  case round =>
    obtain ⟨rfl, hJs⟩ := hrel
    gi_wp2
    go_end0
    exact ⟨⟨_, rfl⟩, hJs⟩

/-- THE ITERATOR's CONTRACT. -/
theorem ord_stops (n Bs ob B : Nat) (v : Value) (l : List Ent) (w : World) (hBs : w.cell? ⟨Bs, 0, none⟩ = some v) (hv : Rd Ent.cells 7 w B v l) (hob : ob < B) (hl : l.length ≤ 1048576) :
    SeqStopsK Fence.wide n Try.prog 18 #[.pointer (some ⟨Bs, 0, none⟩)] (fun x : Ent => #[ev x]) (But w.heap.size ob) (fun ys => ys = l) (fun pre => pre <+: l) l.length w := fun lp J Jx W hW hJ hJx hY h0 => by
  have hlt : Bs < w.heap.size := World.block_lt_of_cell? w ⟨Bs, 0, none⟩ hBs
  have hc' := (hW.cell (p := ⟨Bs, 0, none⟩) hlt).trans hBs
  obtain ⟨a, c, rfl, hcc, hrow⟩ := hv
  rcases hrow with rfl | ⟨b, off, rfl, hb, hbl, hcell⟩
  · exact (ordNil_in n lp Bs c a J W hc' h0).mono fun e W' ⟨he, hj⟩ => ⟨he, .inl ⟨_, rfl, hj⟩⟩
  · exact ord1_in n lp Bs w.heap.size ob b off c l hl hbl (by omega) J Jx hY W hW.size hJ hc' (fun i x hi j u hj => (hW.cell (p := ⟨b, off + i * 7 + j, none⟩) hbl).trans (hcell i x hi j u hj)) h0
end Go.Proofs.Ytgpagjocjcpbhaa
