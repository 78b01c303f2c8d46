/-
  What a slice reads as: a list, each element's cells one behind the other. No program in sight.
-/
import Derived.Test.YtgpagjocjcpbhaaTmBase
import Derived.Shelf.SlicesQ.Load
import Derived.Shelf.GgSortFunc.RowK
import Derived.Laws.AppendOwn
import Derived.Sort.LotA
namespace Go.Tm
open Go.RowKit Go.Sort
variable {α : Type} {enc : α → List Value} {k : Nat} {w w' : World} {B n : Nat} {v : Value} {l : List α}

/-- The slice v reads as l: its cells lie in a block from B on. -/
def Rd (enc : α → List Value) (k : Nat) (w : World) (B : Nat) (v : Value) (l : List α) : Prop :=
  ∃ a c, v = .slice a l.length c ∧ l.length ≤ c ∧ (l = [] ∨ ∃ b off, a = some ⟨b, off, none⟩ ∧ B ≤ b ∧ b < w.heap.size ∧ ∀ i x, l[i]? = some x → ∀ j u, (enc x)[j]? = some u → w.cell? ⟨b, off + i * k + j, none⟩ = some u)

theorem Rd.keep (h : Rd enc k w B v l) (hb : Below w.heap.size w w') : Rd enc k w' B v l := by
  obtain ⟨a, c, rfl, hc, h⟩ := h
  refine ⟨a, c, rfl, hc, ?_⟩
  rcases h with h | ⟨b, off, ha, hB, hlt, hcell⟩
  · exact Or.inl h
  · refine Or.inr ⟨b, off, ha, hB, Nat.lt_of_lt_of_le hlt hb.size, fun i x hi j u hj => ?_⟩
    rw [hb.cell (p := ⟨b, off + i * k + j, none⟩) hlt]; exact hcell i x hi j u hj

theorem Rd.weaken (h : Rd enc k w B v l) {B' : Nat} (hB : B' ≤ B) : Rd enc k w B' v l := by
  obtain ⟨a, c, rfl, hc, h⟩ := h
  refine ⟨a, c, rfl, hc, ?_⟩
  rcases h with h | ⟨b, off, ha, hB2, rest⟩
  · exact Or.inl h
  · exact Or.inr ⟨b, off, ha, Nat.le_trans hB hB2, rest⟩

theorem Rd.nil (a : Option Addr) (c : Nat) : Rd enc k w B (.slice a 0 c) [] := ⟨a, c, rfl, Nat.zero_le _, Or.inl rfl⟩

theorem cells_load (P : Program) (hk : ∀ x, (enc x).length = k) {b off : Nat} (h : ∀ i x, l[i]? = some x → ∀ j u, (enc x)[j]? = some u → w.cell? ⟨b, off + i * k + j, none⟩ = some u) {i : Nat} {x : α} (hi : l[i]? = some x) :
    Sem.run P (loadCellsFrom ⟨b, off + i * k, none⟩ 0 k #[]) w = .ok (enc x).toArray w :=
  Go.Proofs.run_loadCellsFrom_list P _ _ _ k (hk x) (fun j u hj => by rw [Addr.add_lit]; exact h i x hi j u hj)

variable [Inhabited α]
theorem Rd.of_holds {b off c : Nat} {d : Array α} (hk : ∀ x, (enc x).length = k) (h : HoldsK enc k w b off d) (hb : b < w.heap.size) (hB : B ≤ b) (hc : d.size ≤ c) : Rd enc k w B (.slice (some ⟨b, off, none⟩) d.size c) d.toList := by
  refine ⟨_, c, by rw [Array.length_toList], by rw [Array.length_toList]; exact hc, Or.inr ⟨b, off, rfl, hB, hb, fun i x hi j u hj => ?_⟩⟩
  have hlt : i < d.size := by
    rcases Nat.lt_or_ge i d.size with h | h
    · exact h
    · rw [List.getElem?_eq_none (by simpa using h)] at hi; cases hi
  have hx : d[i]! = x := by
    rw [getElem!_pos d i hlt]
    rw [Array.getElem?_toList, Array.getElem?_eq_getElem hlt] at hi
    exact Option.some.inj hi
  have hjk : j < k := by
    rcases Nat.lt_or_ge j k with h | h
    · exact h
    · rw [List.getElem?_eq_none (by rw [hk]; exact h)] at hj; cases hj
  have := (h.cell hlt hjk).1
  rw [hx] at this
  rw [this]
  rw [getElem!_pos (enc x) j (by rw [hk]; exact hjk)]
  rw [List.getElem?_eq_getElem (by rw [hk]; exact hjk)] at hj
  exact hj

omit [Inhabited α] in
/-- What an append has built reads as the list that it built. -/
theorem Rd.of_own {base E : Nat} (hk : ∀ x, (enc x).length = k) (h : w.ownsRow base E k v l.length (l.flatMap enc)) : Rd enc k w base v l := by
  have hlen : ∀ (l : List α) (i : Nat) (x : α), l[i]? = some x → ∀ j u, (enc x)[j]? = some u → (l.flatMap enc)[i * k + j]? = some u := by
    intro l
    induction l with
    | nil => intro i x hi; simp at hi
    | cons y l ih =>
      intro i x hi j u hj
      cases i with
      | zero =>
        simp at hi; subst hi
        have hjk : j < (enc y).length := by
          rcases Nat.lt_or_ge j (enc y).length with h | h
          · exact h
          · rw [List.getElem?_eq_none h] at hj; cases hj
        rw [Nat.zero_mul, Nat.zero_add, List.flatMap_cons, List.getElem?_append_left hjk]
        exact hj
      | succ i =>
        simp at hi
        rw [List.flatMap_cons, List.getElem?_append_right (by rw [hk, Nat.add_mul, Nat.one_mul]; omega), hk, Nat.add_mul, Nat.one_mul, show i * k + k + j - k = i * k + j by omega]
        exact ih i x hi j u hj
  rcases h.2 with ⟨rfl, h0⟩ | ⟨g, cap, cur, rfl, hb, hg, hnc, _, _, htake⟩
  · have : l = [] := List.length_eq_zero_iff.1 h0
    subst this
    exact Rd.nil _ _
  · refine ⟨_, cap, rfl, hnc, Or.inr ⟨g, 0, rfl, hb, (Array.getElem?_eq_some_iff.1 hg).1, fun i x hi j u hj => ?_⟩⟩
    have h1 := hlen l i x hi j u hj
    rw [← htake, List.getElem?_take] at h1
    split at h1
    · rw [Nat.zero_add, cell_of_row w g _ cur E (0, 0) hg]
      simpa using h1
    · cases h1

/-- A row of the call's own, to be sorted. -/
theorem holds_of_own {g E : Nat} {cur : Array Value} (hk : ∀ x, (enc x).length = k) (hg : w.heap[g]? = some (.cells cur E (0, 0))) (htake : cur.toList.take (l.length * k) = l.flatMap enc) : HoldsK enc k w g 0 l.toArray := by
  have hfl : ∀ (l : List α), (l.flatMap enc).length = l.length * k := by
    intro l; induction l with
    | nil => simp
    | cons y l ih => rw [List.flatMap_cons, List.length_append, ih, hk, List.length_cons, Nat.add_mul, Nat.one_mul, Nat.add_comm]
  have hlen : ∀ (l : List α) (t : Nat), t < l.length * k → (l.flatMap enc)[t]? = some (enc l.toArray[t / k]!)[t % k]! := by
    intro l
    induction l with
    | nil => intro t ht; simp at ht
    | cons y l ih =>
      intro t ht
      have k0 : 0 < k := by rcases Nat.eq_zero_or_pos k with h | h; · subst h; simp at ht
                            · exact h
      rw [List.length_cons, Nat.add_mul, Nat.one_mul] at ht
      by_cases htk : t < k
      · rw [List.flatMap_cons, List.getElem?_append_left (by rw [hk]; exact htk), Nat.div_eq_of_lt htk, Nat.mod_eq_of_lt htk]
        rw [List.getElem?_eq_getElem (by rw [hk]; exact htk)]
        simp
        rw [List.getElem?_eq_getElem (by rw [hk]; exact htk)]
        rfl
      · rw [List.flatMap_cons, List.getElem?_append_right (by rw [hk]; omega), hk, ih (t - k) (by omega)]
        have h1 : t / k = (t - k) / k + 1 := by rw [Nat.div_eq_sub_div k0 (by omega)]
        have h2 : t % k = (t - k) % k := Nat.mod_eq_sub_mod (by omega)
        rw [h1, h2]
        congr 3
        simp
  intro j hj
  rw [size_flatK, List.size_toArray] at hj
  have h1 : (cur.toList.take (l.length * k))[j]? = some (enc l.toArray[j / k]!)[j % k]! := by rw [htake]; exact hlen l j hj
  rw [List.getElem?_take, if_pos hj] at h1
  refine ⟨?_, frozen_of_row w g _ cur E hg⟩
  rw [Nat.zero_add, cell_of_row w g j cur E (0, 0) hg, get_flatK _ _ _ _ (by simpa using hj)]
  simpa using h1
end Go.Tm
