/-
  An argument opened: a struct's cells by its leaves; a slice of structs as a list of them; how much of the bulk a part takes.
-/
import Derived.Test.YtgpagjocjcpbhaaRows
import Derived.Deep.Slices
import Derived.ChangeSame
import Derived.RowKit
namespace Go.Proofs.Ytgpagjocjcpbhaa
open Go.ChangeShapes Go.WideShapes Go.Deep Go.RowKit

/-- What each cell of a type holds. -/
def leaves (P : Program) : Nat → TypeId → List TypeId
  | 0, t => [t]
  | n + 1, t => match P.underlying t with
    | some (.struct fs) => fs.toList.flatMap fun f => leaves P n f.type
    | _ => [t]
def offsOk (P : Program) : Nat → List Field → Bool
  | _, [] => true
  | k, f :: l => f.offset == k && offsOk P (k + P.cellsOf f.type) l
def flatOk (P : Program) : Nat → TypeId → Bool
  | 0, t => P.cellsOf t == 1
  | n + 1, t => match P.underlying t with
    | some (.struct fs) => offsOk P 0 fs.toList && P.cellsOf t == (fs.toList.map fun f => P.cellsOf f.type).sum && fs.toList.all fun f => flatOk P n f.type
    | _ => P.cellsOf t == 1

theorem bulk_one {H : Type} (d : DataW H) : 1 ≤ Rows.uptoBulk d := by
  cases d with
  | lit l => cases l <;> simp [Rows.uptoBulk]
  | nil => simp [Rows.uptoBulk]
  | ptr d => simp [Rows.uptoBulk]
  | slice elems spare => simp [Rows.uptoBulk]
  | agg parts => simp [Rows.uptoBulk]
  | iface t d => simp [Rows.uptoBulk]
  | map entries => simp [Rows.uptoBulk]
  | held h => simp [Rows.uptoBulk]
theorem bulk_part {H : Type} {d : DataW H} {l : List (DataW H)} (h : d ∈ l) : Rows.uptoBulk d ≤ Rows.uptoBulkAll l := by
  induction l with
  | nil => cases h
  | cons x r ih =>
    simp only [Rows.uptoBulkAll]
    cases List.mem_cons.1 h with
    | inl e => subst e; omega
    | inr e => have := ih e; omega
theorem bulk_length {H : Type} (l : List (DataW H)) : l.length ≤ Rows.uptoBulkAll l := by
  induction l with
  | nil => simp [Rows.uptoBulkAll]
  | cons x r ih => have := bulk_one x; simp only [Rows.uptoBulkAll, List.length_cons]; omega

section
variable {H : Type} {enc : TypeId × Value → H} {P : Program} {w : World} {base : Nat} {spare : Nat → Bool} {held : Bool}

/-- A leaf: its cell, what it reads as, no more of the bulk than b. -/
def LeafAt (enc : TypeId × Value → H) (P : Program) (w : World) (base : Nat) (spare : Nat → Bool) (held : Bool) (b : Nat) (cs : List Value) (j : Nat) (u : TypeId) : Prop :=
  ∃ v m y, cs[j]? = some v ∧ DataW.trod enc P w base spare held m u [v] = some y ∧ Rows.uptoBulk y.1 ≤ b

theorem flat_fields (n b : Nat) (cs : List Value)
    (hn : ∀ t fuel cs x, flatOk P n t = true → DataW.trod enc P w base spare held fuel t cs = some x → cs.length = P.cellsOf t → (leaves P n t).length = P.cellsOf t ∧ ∀ j u, (leaves P n t)[j]? = some u → LeafAt enc P w base spare held (Rows.uptoBulk x.1) cs j u) :
    ∀ (l : List Field) (k : Nat), offsOk P k l = true → (l.all fun f => flatOk P n f.type) = true → k + (l.map fun f => P.cellsOf f.type).sum ≤ cs.length →
    (∀ f ∈ l, ∃ m y, DataW.trod enc P w base spare held m f.type ((cs.drop f.offset).take (P.cellsOf f.type)) = some y ∧ Rows.uptoBulk y.1 ≤ b) →
    (l.flatMap fun f => leaves P n f.type).length = (l.map fun f => P.cellsOf f.type).sum ∧ ∀ j u, (l.flatMap fun f => leaves P n f.type)[j]? = some u → LeafAt enc P w base spare held b cs (k + j) u := by
  intro l
  induction l with
  | nil => intro k _ _ _ _; exact ⟨rfl, fun j u h => by simp at h⟩
  | cons f l ih =>
    intro k ho hf hl hx
    unfold offsOk at ho
    rw [Bool.and_eq_true] at ho
    have hk : f.offset = k := by simpa using ho.1
    rw [List.all_cons, Bool.and_eq_true] at hf
    rw [List.map_cons, List.sum_cons] at hl
    obtain ⟨m, y, hy, hyb⟩ := hx f List.mem_cons_self
    obtain ⟨h1, h2⟩ := hn f.type m _ y hf.1 hy (by rw [List.length_take, List.length_drop]; omega)
    obtain ⟨h3, h4⟩ := ih (k + P.cellsOf f.type) ho.2 hf.2 (by omega) (fun g hg => hx g (List.mem_cons_of_mem _ hg))
    refine ⟨by rw [List.flatMap_cons, List.length_append, h1, h3, List.map_cons, List.sum_cons], fun j u hj => ?_⟩
    rw [List.flatMap_cons] at hj
    by_cases hlt : j < (leaves P n f.type).length
    · rw [List.getElem?_append_left hlt] at hj
      obtain ⟨v, m', y', e1, e2, e3⟩ := h2 j u hj
      refine ⟨v, m', y', ?_, e2, by omega⟩
      rw [h1] at hlt
      rw [List.getElem?_take, if_pos hlt, List.getElem?_drop, hk] at e1
      exact e1
    · rw [List.getElem?_append_right (by omega)] at hj
      obtain ⟨v, m', y', e1, e2, e3⟩ := h4 _ u hj
      refine ⟨v, m', y', ?_, e2, e3⟩
      rw [← e1]
      congr 1
      omega

/-- A VALUE BY ITS LEAVES. -/
theorem flat (n : Nat) : ∀ t fuel cs x, flatOk P n t = true → DataW.trod enc P w base spare held fuel t cs = some x → cs.length = P.cellsOf t → (leaves P n t).length = P.cellsOf t ∧ ∀ j u, (leaves P n t)[j]? = some u → LeafAt enc P w base spare held (Rows.uptoBulk x.1) cs j u := by
  have one : ∀ t fuel cs x, (P.cellsOf t == 1) = true → DataW.trod enc P w base spare held fuel t cs = some x → cs.length = P.cellsOf t → ([t] : List TypeId).length = P.cellsOf t ∧ ∀ j u, ([t] : List TypeId)[j]? = some u → LeafAt enc P w base spare held (Rows.uptoBulk x.1) cs j u := by
    intro t fuel cs x h hx hl
    have h1 : P.cellsOf t = 1 := by simpa using h
    rw [h1] at hl
    match cs, hl with
    | [v], _ =>
      refine ⟨h1.symm, fun j u hj => ?_⟩
      match j with
      | 0 => simp at hj; subst hj; exact ⟨v, fuel, x, rfl, hx, Nat.le_refl _⟩
      | j + 1 => simp at hj
  induction n with
  | zero => intro t fuel cs x h hx hl; exact one t fuel cs x h hx hl
  | succ n ih =>
    intro t fuel cs x h hx hl
    unfold flatOk at h
    unfold leaves
    split at h
    · rename_i fs hs
      rw [Bool.and_eq_true, Bool.and_eq_true] at h
      obtain ⟨ys, m, _, rfl, _, hyl, hy⟩ := DataW.trod_struct hs hx
      have hsum : P.cellsOf t = (fs.toList.map fun f => P.cellsOf f.type).sum := by simpa using h.1.2
      obtain ⟨h3, h4⟩ := flat_fields n (Rows.uptoBulk (DataW.agg (ys.map (·.1)))) cs ih fs.toList 0 h.1.1 h.2 (by omega) (fun f hf => by
        obtain ⟨i, hi⟩ := List.getElem?_of_mem hf
        have hi' : fs[i]? = some f := by simpa using hi
        have hlt : i < ys.length := by rw [hyl]; exact (Array.getElem?_eq_some_iff.1 hi').1
        have := hy i f hi'
        rw [List.getElem?_eq_getElem hlt] at this
        refine ⟨m, _, this, ?_⟩
        have hm : ys[i].1 ∈ ys.map (·.1) := List.mem_map.2 ⟨ys[i], List.getElem_mem hlt, rfl⟩
        have := bulk_part hm
        simp only [Rows.uptoBulk]
        omega)
      refine ⟨by rw [h3, hsum], fun j u hj => ?_⟩
      have := h4 j u hj
      rw [Nat.zero_add] at this
      exact this
    · exact one t fuel cs x h hx hl

/-- A SLICE OF THEM, BY INDEX. -/
theorem flat_slice {n : Nat} {t e : TypeId} {fuel : Nat} {v : Value} {x : DataW H × List MemPlace} (ht : P.underlying t = some (.slice e)) (hf : flatOk P n e = true) (hc : 0 < P.cellsOf e) (h : DataW.trod enc P w base spare held fuel t [v] = some x) :
    ∃ (a : Option Addr) (len cap : Nat), v = .slice a len cap ∧ len ≤ cap ∧ cap ≤ maxLen ∧ len ≤ Rows.uptoBulk x.1 ∧ (len = 0 ∨ ∃ b off, a = some ⟨b, off, none⟩ ∧ b < w.heap.size ∧ base ≤ b ∧
      ∀ i, i < len → ∀ j u, (leaves P n e)[j]? = some u → ∃ v m y, w.cell? ⟨b, off + i * P.cellsOf e + j, none⟩ = some v ∧ DataW.trod enc P w base spare held m u [v] = some y ∧ Rows.uptoBulk y.1 ≤ Rows.uptoBulk x.1) := by
  rcases open_slice ht h with ⟨h0, hx⟩ | ⟨a, len, cap, m, k, D, Pl, hcs, hb, hl, hm, hmm, hx, hi⟩
  · injection h0 with h0
    exact ⟨none, 0, 0, h0, Nat.le_refl _, Nat.zero_le _, Nat.zero_le _, .inl rfl⟩
  · injection hcs with hcs
    have hlm : len ≤ m := by rw [hmm]; split <;> omega
    subst hx
    have hbl : len ≤ Rows.uptoBulk (DataW.slice ((List.range len).map D) ((List.range (m - len)).map fun j => D (len + j))) := by
      have := bulk_length ((List.range len).map D)
      simp only [List.length_map, List.length_range] at this
      simp only [Rows.uptoBulk]
      omega
    refine ⟨some a, len, cap, hcs, hl, hm, hbl, ?_⟩
    rcases Nat.eq_zero_or_pos len with h0 | h0
    · exact .inl h0
    · right
      have hcell : ∀ i, i < len → ∃ cs', cs'.length = P.cellsOf e ∧ (∀ j, j < P.cellsOf e → w.cell? (a.add (i * P.cellsOf e + j)) = cs'[j]?) ∧ DataW.trod enc P w base spare held k e cs' = some (D i, Pl i) := fun i hil => by
        obtain ⟨cs', h1, h2⟩ := hi i (by omega)
        obtain ⟨_, e1, e2⟩ := World.cells?_some h1
        exact ⟨cs', e1, fun j hj => by rw [← add_add]; exact e2 j hj, h2⟩
      obtain ⟨cs0, e0, e1, _⟩ := hcell 0 h0
      have hv0 : w.cell? a = some (cs0[0]'(by omega)) := by
        have := e1 0 hc
        rw [Nat.zero_mul, Nat.zero_add, List.getElem?_eq_getElem (by omega)] at this
        simpa [Addr.add] using this
      have hspot := World.cell?_spot hv0
      obtain ⟨b, off, spot⟩ := a
      simp only at hspot
      subst hspot
      refine ⟨b, off, rfl, World.block_lt_of_cell? w _ hv0, hb, fun i hil j u hj => ?_⟩
      obtain ⟨cs', c1, c2, c3⟩ := hcell i hil
      obtain ⟨f1, f2⟩ := flat n e k cs' _ hf c3 c1
      obtain ⟨v, m', y, g1, g2, g3⟩ := f2 j u hj
      have hjl : j < P.cellsOf e := by
        rw [← f1]; exact (List.getElem?_eq_some_iff.1 hj).1
      refine ⟨v, m', y, ?_, g2, ?_⟩
      · rw [← g1, ← c2 j hjl]
        congr 1
        unfold Addr.add
        split
        · rename_i h0; simp only [Addr.mk.injEq, and_true, true_and]; omega
        · simp only [Addr.mk.injEq, and_true, true_and]; omega
      · have hm' : D i ∈ (List.range len).map D := List.mem_map.2 ⟨i, List.mem_range.2 hil, rfl⟩
        have := bulk_part hm'
        have g4 : Rows.uptoBulk y.1 ≤ Rows.uptoBulk (D i) := g3
        simp only [Rows.uptoBulk]
        omega

/-! ### What a leaf of each kind is -/
theorem leaf_int {m : Nat} {u : TypeId} {k : IntKind} {v : Value} {y : DataW H × List MemPlace} (hu : P.underlying u = some (.int k)) (h : DataW.trod enc P w base spare held m u [v] = some y) : ∃ z, v = .int k z ∧ (Lit.int k z).wf = true := by
  obtain ⟨z, e1, _, hw⟩ := DataW.trod_int hu h
  injection e1 with e1
  exact ⟨_, e1, hw⟩
end
end Go.Proofs.Ytgpagjocjcpbhaa
