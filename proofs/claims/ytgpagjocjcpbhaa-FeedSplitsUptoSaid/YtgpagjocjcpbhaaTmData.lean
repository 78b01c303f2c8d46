/-
  The store's data, opened out of an argument: stamps, entries, events, results.
-/
import Derived.Test.YtgpagjocjcpbhaaTmSplits
import Derived.Test.YtgpagjocjcpbhaaTmOpen
namespace Go.Proofs.Ytgpagjocjcpbhaa
open Go.ChangeShapes Go.WideShapes Go.Deep Go.RowKit Go.Tm

theorem wf_u32 {z : Int} (h : (Lit.int .u32 z).wf = true) : 0 ≤ z ∧ z ≤ 4294967295 := by simpa [Lit.wf, IntKind.min, IntKind.max, IntKind.signed, IntKind.bits] using h
theorem wf_u64 {z : Int} (h : (Lit.int .u64 z).wf = true) : 0 ≤ z ∧ z ≤ 18446744073709551615 := by simpa [Lit.wf, IntKind.min, IntKind.max, IntKind.signed, IntKind.bits] using h
theorem wf_i64 {z : Int} (h : (Lit.int .i64 z).wf = true) : -9223372036854775808 ≤ z ∧ z ≤ 9223372036854775807 := by simpa [Lit.wf, IntKind.min, IntKind.max, IntKind.signed, IntKind.bits] using h

theorem list_of {α : Type} {p : Nat → α → Prop} : ∀ (n : Nat), (∀ i, i < n → ∃ x, p i x) → ∃ l : List α, l.length = n ∧ ∀ i x, l[i]? = some x → p i x
  | 0, _ => ⟨[], rfl, fun i x h => by simp at h⟩
  | n + 1, h => by
    obtain ⟨l, hl, hp⟩ := list_of n fun i hi => h i (by omega)
    obtain ⟨x, hx⟩ := h n (by omega)
    refine ⟨l ++ [x], by simp [hl], fun i y hy => ?_⟩
    by_cases hi : i < l.length
    · rw [List.getElem?_append_left hi] at hy; exact hp i y hy
    · rw [List.getElem?_append_right (by omega)] at hy
      have hil := (List.getElem?_eq_some_iff.1 hy).1
      simp only [List.length_singleton] at hil
      have hin : i = n := by omega
      rw [hin, hl, Nat.sub_self] at hy
      simp at hy
      rw [hin, ← hy]; exact hx

section
variable {H : Type} {enc : TypeId × Value → H} {w : World} {base : Nat} {spare : Nat → Bool} {held : Bool}

/-- Leaves that lie from an address on, each of bulk at most N. -/
def LeafFrom (enc : TypeId × Value → H) (w : World) (base : Nat) (spare : Nat → Bool) (held : Bool) (N : Nat) (ts : List TypeId) (b o : Nat) : Prop :=
  ∀ j u, ts[j]? = some u → ∃ v m y, w.cell? ⟨b, o + j, none⟩ = some v ∧ DataW.trod enc Try.prog w base spare held m u [v] = some y ∧ Rows.uptoBulk y.1 ≤ N

theorem LeafFrom.int {N : Nat} {ts : List TypeId} {b o : Nat} (h : LeafFrom enc w base spare held N ts b o) (j : Nat) {u : TypeId} (hj : ts[j]? = some u) {k : IntKind} (hu : Try.prog.underlying u = some (.int k)) :
    ∃ z, w.cell? ⟨b, o + j, none⟩ = some (.int k z) ∧ (Lit.int k z).wf = true := by
  obtain ⟨v, m, y, h1, h2, _⟩ := h j u hj
  obtain ⟨z, rfl, hw⟩ := leaf_int hu h2
  exact ⟨z, h1, hw⟩
theorem LeafFrom.bool {N : Nat} {ts : List TypeId} {b o : Nat} (h : LeafFrom enc w base spare held N ts b o) (j : Nat) {u : TypeId} (hj : ts[j]? = some u) (hu : Try.prog.underlying u = some .bool) :
    ∃ z, w.cell? ⟨b, o + j, none⟩ = some (.bool z) := by
  obtain ⟨v, m, y, h1, h2, _⟩ := h j u hj
  obtain ⟨z, e, _⟩ := DataW.trod_bool hu h2
  injection e with e
  exact ⟨z, by rw [h1, e]⟩
theorem LeafFrom.str {N : Nat} {ts : List TypeId} {b o : Nat} (h : LeafFrom enc w base spare held N ts b o) (j : Nat) {u : TypeId} (hj : ts[j]? = some u) (hu : Try.prog.underlying u = some .string) :
    ∃ z : ByteArray, w.cell? ⟨b, o + j, none⟩ = some (.string z) ∧ z.size + 1 ≤ N := by
  obtain ⟨v, m, y, h1, h2, h3⟩ := h j u hj
  obtain ⟨z, e, e2, _⟩ := DataW.trod_string hu h2
  injection e with e
  subst e2
  refine ⟨z, by rw [h1, e], ?_⟩
  simp only [Rows.uptoBulk, Array.length_toList] at h3
  exact h3
theorem LeafFrom.slice {N : Nat} {ts : List TypeId} {b o : Nat} (h : LeafFrom enc w base spare held N ts b o) (j : Nat) {u e : TypeId} (hj : ts[j]? = some u) (hu : Try.prog.underlying u = some (.slice e)) :
    ∃ (s : Option Addr × Nat × Nat) (m : Nat) (y : DataW H × List MemPlace), w.cell? ⟨b, o + j, none⟩ = some (.slice s.1 s.2.1 s.2.2) ∧ DataW.trod enc Try.prog w base spare held m u [.slice s.1 s.2.1 s.2.2] = some y ∧ Rows.uptoBulk y.1 ≤ N := by
  obtain ⟨v, m, y, h1, h2, h3⟩ := h j u hj
  rcases open_slice hu h2 with ⟨h0, hx⟩ | ⟨a, len, cap, _, _, _, _, hcs, _⟩
  · injection h0 with h0
    subst h0
    exact ⟨(none, 0, 0), m, y, h1, h2, h3⟩
  · injection hcs with hcs
    subst hcs
    exact ⟨(some a, len, cap), m, y, h1, h2, h3⟩

/-- A slice as a list of what its elements read as. -/
theorem open_rd {α : Type} {ec : α → List Value} {Q : α → Prop} {n k N : Nat} {t e : TypeId} {fuel : Nat} {v : Value} {x : DataW H × List MemPlace} (ht : Try.prog.underlying t = some (.slice e)) (hf : flatOk Try.prog n e = true) (hk : Try.prog.cellsOf e = k) (hk0 : 0 < k)
    (h : DataW.trod enc Try.prog w 0 spare held fuel t [v] = some x) (hN : Rows.uptoBulk x.1 ≤ N)
    (one : ∀ b o, LeafFrom enc w 0 spare held N (leaves Try.prog n e) b o → ∃ a : α, (∀ j u, (ec a)[j]? = some u → w.cell? ⟨b, o + j, none⟩ = some u) ∧ Q a) :
    ∃ l : List α, Rd ec k w 0 v l ∧ l.length ≤ N ∧ ∀ a ∈ l, Q a := by
  obtain ⟨a, len, cap, rfl, hlc, _, hlb, hr⟩ := flat_slice ht hf (by omega) h
  rcases hr with h0 | ⟨b, off, rfl, hb, _, hc⟩
  · subst h0
    exact ⟨[], Rd.nil _ _, Nat.zero_le _, fun _ h => by cases h⟩
  · have hone : ∀ i, i < len → ∃ a : α, (∀ j u, (ec a)[j]? = some u → w.cell? ⟨b, off + i * k + j, none⟩ = some u) ∧ Q a := fun i hi => by
      refine one b (off + i * k) fun j u hj => ?_
      obtain ⟨v, m, y, h1, h2, h3⟩ := hc i hi j u hj
      rw [hk] at h1
      exact ⟨v, m, y, h1, h2, by omega⟩
    obtain ⟨l, hl, hp⟩ := list_of len hone
    subst hl
    refine ⟨l, ⟨_, cap, rfl, hlc, Or.inr ⟨b, off, rfl, Nat.zero_le _, hb, fun i x hi => (hp i x hi).1⟩⟩, by omega, fun a ha => ?_⟩
    obtain ⟨i, hi⟩ := List.getElem?_of_mem ha
    exact (hp i a hi).2

theorem leavesEnt : leaves Try.prog 6 58 = [28, 28, 28, 56, 27, 28, 28] := by kernel_rfl
theorem leavesEv : leaves Try.prog 6 70 = [3, 3, 28, 28, 28, 63, 4, 4, 4, 9, 9, 9, 9, 3,
  33, 27, 28, 28, 66, 9] := by kernel_rfl
theorem leavesRes : leaves Try.prog 6 41 = [33, 3, 3, 34, 3, 3, 27, 37, 37, 38, 39, 3, 3] := by kernel_rfl

theorem open_ent {N b o : Nat} (h : LeafFrom enc w 0 spare held N (leaves Try.prog 6 58) b o) : ∃ a : Ent, (∀ j u, (Ent.cells a)[j]? = some u → w.cell? ⟨b, o + j, none⟩ = some u) ∧ a.txn.ok ∧ a.at_.ok := by
  rw [leavesEnt] at h
  obtain ⟨z0, c0, w0⟩ := h.int 0 rfl Try.underlying28
  obtain ⟨z1, c1, w1⟩ := h.int 1 rfl Try.underlying28
  obtain ⟨z2, c2, w2⟩ := h.int 2 rfl Try.underlying28
  obtain ⟨z3, c3, w3⟩ := h.int 3 rfl Try.underlying56
  obtain ⟨z4, c4, w4⟩ := h.int 4 rfl Try.underlying27
  obtain ⟨z5, c5, w5⟩ := h.int 5 rfl Try.underlying28
  obtain ⟨z6, c6, w6⟩ := h.int 6 rfl Try.underlying28
  refine ⟨⟨⟨z0, z1⟩, z2, z3, ⟨z4, z5, z6⟩⟩, fun j u hj => ?_, ?_, ?_⟩
  · match j, hj with
    | 0, hj => cases hj; exact c0
    | 1, hj => cases hj; exact c1
    | 2, hj => cases hj; exact c2
    | 3, hj => cases hj; exact c3
    | 4, hj => cases hj; exact c4
    | 5, hj => cases hj; exact c5
    | 6, hj => cases hj; exact c6
  · have := wf_u32 w0; have := wf_u32 w1
    unfold Tx.ok; simp only; omega
  · have := wf_u64 w4; have := wf_u32 w5; have := wf_u32 w6
    unfold Stp.ok; simp only; omega

theorem open_ev {N b o : Nat} (h : LeafFrom enc w 0 spare held N (leaves Try.prog 6 70) b o) : ∃ a : Ev, (∀ j u, (Ev.cells a)[j]? = some u → w.cell? ⟨b, o + j, none⟩ = some u) ∧ True := by
  rw [leavesEv] at h
  obtain ⟨z0, c0, _⟩ := h.int 0 rfl Try.underlying3
  obtain ⟨z1, c1, _⟩ := h.int 1 rfl Try.underlying3
  obtain ⟨z2, c2, _⟩ := h.int 2 rfl Try.underlying28
  obtain ⟨z3, c3, _⟩ := h.int 3 rfl Try.underlying28
  obtain ⟨z4, c4, _⟩ := h.int 4 rfl Try.underlying28
  obtain ⟨z5, c5, _⟩ := h.int 5 rfl Try.underlying63
  obtain ⟨z6, c6⟩ := h.bool 6 rfl Try.underlying4
  obtain ⟨z7, c7⟩ := h.bool 7 rfl Try.underlying4
  obtain ⟨z8, c8⟩ := h.bool 8 rfl Try.underlying4
  obtain ⟨z9, c9, _⟩ := h.str 9 rfl Try.underlying9
  obtain ⟨z10, c10, _⟩ := h.str 10 rfl Try.underlying9
  obtain ⟨z11, c11, _⟩ := h.str 11 rfl Try.underlying9
  obtain ⟨z12, c12, _⟩ := h.str 12 rfl Try.underlying9
  obtain ⟨z13, c13, _⟩ := h.int 13 rfl Try.underlying3
  obtain ⟨z14, c14, _⟩ := h.int 14 rfl Try.underlying33
  obtain ⟨z15, c15, _⟩ := h.int 15 rfl Try.underlying27
  obtain ⟨z16, c16, _⟩ := h.int 16 rfl Try.underlying28
  obtain ⟨z17, c17, _⟩ := h.int 17 rfl Try.underlying28
  obtain ⟨z18, m18, y18, c18, _⟩ := h.slice 18 rfl Try.underlying66
  obtain ⟨z19, c19, _⟩ := h.str 19 rfl Try.underlying9
  refine ⟨⟨z0, z1, ⟨z2, ⟨z3, z4⟩, ⟨z5, z6, z7, z8, z9, z10, z11, z12, z13⟩, z14, ⟨z15, z16, z17⟩, z18, z19⟩⟩, fun j u hj => ?_, trivial⟩
  match j, hj with
  | 0, hj => cases hj; exact c0
  | 1, hj => cases hj; exact c1
  | 2, hj => cases hj; exact c2
  | 3, hj => cases hj; exact c3
  | 4, hj => cases hj; exact c4
  | 5, hj => cases hj; exact c5
  | 6, hj => cases hj; exact c6
  | 7, hj => cases hj; exact c7
  | 8, hj => cases hj; exact c8
  | 9, hj => cases hj; exact c9
  | 10, hj => cases hj; exact c10
  | 11, hj => cases hj; exact c11
  | 12, hj => cases hj; exact c12
  | 13, hj => cases hj; exact c13
  | 14, hj => cases hj; exact c14
  | 15, hj => cases hj; exact c15
  | 16, hj => cases hj; exact c16
  | 17, hj => cases hj; exact c17
  | 18, hj => cases hj; exact c18
  | 19, hj => cases hj; exact c19

theorem open_res {N b o : Nat} (hN : N ≤ 1048576) (h : LeafFrom enc w 0 spare held N (leaves Try.prog 6 41) b o) : ∃ r : RV, (∀ j u, (RV.cells r)[j]? = some u → w.cell? ⟨b, o + j, none⟩ = some u) ∧ Good w r := by
  rw [leavesRes] at h
  obtain ⟨z0, c0, _⟩ := h.int 0 rfl Try.underlying33
  obtain ⟨z1, c1, _⟩ := h.int 1 rfl Try.underlying3
  obtain ⟨z2, c2, _⟩ := h.int 2 rfl Try.underlying3
  obtain ⟨z3, _, _, c3, _⟩ := h.slice 3 rfl Try.underlying34
  obtain ⟨z4, c4, _⟩ := h.int 4 rfl Try.underlying3
  obtain ⟨z5, c5, _⟩ := h.int 5 rfl Try.underlying3
  obtain ⟨z6, c6, _⟩ := h.int 6 rfl Try.underlying27
  obtain ⟨z7, m7, y7, c7, t7, b7⟩ := h.slice 7 rfl Try.underlying37
  obtain ⟨z8, _, _, c8, _⟩ := h.slice 8 rfl Try.underlying37
  obtain ⟨z9, m9, y9, c9, t9, b9⟩ := h.slice 9 rfl Try.underlying38
  obtain ⟨z10, _, _, c10, _⟩ := h.slice 10 rfl Try.underlying39
  obtain ⟨z11, c11, _⟩ := h.int 11 rfl Try.underlying3
  obtain ⟨z12, c12, _⟩ := h.int 12 rfl Try.underlying3
  obtain ⟨evs, he1, he2, _⟩ := open_rd (ec := Ev.cells) (Q := fun _ => True) (n := 6) (k := 20) Try.underlying37 (by kernel_rfl) (by kernel_rfl) (by omega) t7 b7 (fun b o h => open_ev h)
  obtain ⟨cms, hc1, hc2, hc3⟩ := open_rd (ec := Ent.cells) (Q := fun e : Ent => e.txn.ok ∧ e.at_.ok) (n := 6) (k := 7) Try.underlying38 (by kernel_rfl) (by kernel_rfl) (by omega) t9 b9 (fun b o h => open_ent h)
  refine ⟨⟨z0, z1, z2, z3, z4, z5, z6, z7, z8, z9, z10, z11, z12⟩, fun j u hj => ?_, evs, cms, he1, hc1, by omega, by omega, fun e he => (hc3 e he).1⟩
  match j, hj with
  | 0, hj => cases hj; exact c0
  | 1, hj => cases hj; exact c1
  | 2, hj => cases hj; exact c2
  | 3, hj => cases hj; exact c3
  | 4, hj => cases hj; exact c4
  | 5, hj => cases hj; exact c5
  | 6, hj => cases hj; exact c6
  | 7, hj => cases hj; exact c7
  | 8, hj => cases hj; exact c8
  | 9, hj => cases hj; exact c9
  | 10, hj => cases hj; exact c10
  | 11, hj => cases hj; exact c11
  | 12, hj => cases hj; exact c12
end
end Go.Proofs.Ytgpagjocjcpbhaa
