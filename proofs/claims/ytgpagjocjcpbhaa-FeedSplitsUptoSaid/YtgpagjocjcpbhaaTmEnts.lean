/-
  Entries in order: SortStableFunc at a slice that holds entries, empty or not, by any comparison that is theirs.
-/
import Derived.Test.YtgpagjocjcpbhaaTmHst
import Derived.Test.YtgpagjocjcpbhaaTmStable
namespace Go.Tm
open Go.RowKit Go.Sort Go.Lib Go.Shelf Go.Proofs
section
variable {α : Type} [Inhabited α] {enc : α → List Value} {k : Nat} {w w' : World} {v : Value} {l : List α}
/-- The slice v holds the list l, its cells to be written. -/
def Held (enc : α → List Value) (k : Nat) (w : World) (v : Value) (l : List α) : Prop :=
  ∃ a c, v = .slice a l.length c ∧ l.length ≤ c ∧ (l = [] ∨ ∃ b off, a = some ⟨b, off, none⟩ ∧ b < w.heap.size ∧ HoldsK enc k w b off l.toArray)

theorem Held.rd (hk : ∀ x, (enc x).length = k) (h : Held enc k w v l) {B : Nat} (hB : ∀ b, v.ownBlock = some b → B ≤ b) : Rd enc k w B v l := by
  obtain ⟨a, c, rfl, hc, h⟩ := h
  rcases h with rfl | ⟨b, off, rfl, hb, hh⟩
  · exact Rd.nil _ _
  · have := Rd.of_holds (B := B) (c := c) hk hh hb (hB b rfl) (by simpa using hc)
    simpa using this

theorem Held.of_own {base E : Nat} (hk : ∀ x, (enc x).length = k) (h : w.ownsRow base E k v l.length (l.flatMap enc)) : Held enc k w v l := by
  rcases h.2 with ⟨rfl, h0⟩ | ⟨g, cap, cur, rfl, hb, hg, hnc, _, _, htake⟩
  · have : l = [] := List.length_eq_zero_iff.1 h0
    subst this
    exact ⟨none, 0, rfl, Nat.le_refl _, Or.inl rfl⟩
  · exact ⟨_, cap, rfl, hnc, Or.inr ⟨g, 0, rfl, (Array.getElem?_eq_some_iff.1 hg).1, holds_of_own hk hg htake⟩⟩
end

theorem ltEnt (x y : Ent) : ltOf Ent.cmp x y = true ↔ x.cmp y < 0 := by unfold ltOf; simp
theorem swoEnt : SWO (ltOf Ent.cmp) where
  irrefl x := by
    cases h : ltOf Ent.cmp x x
    · rfl
    · rw [ltEnt, Ent.cmp_lt] at h
      simp [Stp.lt_irrefl] at h
  trans x y z h1 h2 := by
    rw [ltEnt, Ent.cmp_lt] at *
    rcases h1 with h1 | ⟨h1, h1'⟩ <;> rcases h2 with h2 | ⟨h2, h2'⟩
    · exact Or.inl (Stp.lt_trans h1 h2)
    · rw [← h2]; exact Or.inl h1
    · rw [h1]; exact Or.inl h2
    · exact Or.inr ⟨h1.trans h2, Int.lt_trans h1' h2'⟩
  ntrans x y z h1 h2 := by
    cases h : ltOf Ent.cmp x z
    · rfl
    · exfalso
      rw [ltEnt, Ent.cmp_lt] at h
      have n1 : ¬ (x.cmp y < 0) := fun e => by rw [← ltEnt] at e; rw [h1] at e; cases e
      have n2 : ¬ (y.cmp z < 0) := fun e => by rw [← ltEnt] at e; rw [h2] at e; cases e
      rw [Ent.cmp_lt] at n1 n2
      rw [not_or] at n1 n2
      have a1 : x.at_.lt y.at_ = false := by simpa using n1.1
      have a2 : y.at_.lt z.at_ = false := by simpa using n2.1
      rcases h with h | ⟨h, h'⟩
      · have := Stp.le_trans a2 a1
        rw [this] at h; cases h
      · rw [← h] at a2
        have e := Stp.lt_tri a1 a2
        have b1 := n1.2; have b2 := n2.2
        simp [e] at b1
        rw [← h, e] at b2
        simp at b2
        omega
end Go.Tm
namespace Go.Proofs.Ytgpagjocjcpbhaa
open Go.Shelf Go.RowKit Go.Lib Go.Sort Go.Tm.Stab Go.Tm

/-- Sorted by the entries' order. -/
def _root_.Go.Tm.ByAt (l : List Ent) : Prop := l.Pairwise fun a b => ¬ b.cmp a < 0

theorem byAt_of_sorted {d : Array Ent} (h : SortedIn (ltOf Ent.cmp) 0 d.size d) : ByAt d.toList := by
  unfold ByAt
  rw [List.pairwise_iff_getElem]
  intro i j hi hj hij
  have hi' : i < d.size := by simpa using hi
  have hj' : j < d.size := by simpa using hj
  have := h i j (Nat.zero_le _) hij hj'
  rw [getElem!_pos d j hj', getElem!_pos d i hi'] at this
  intro e
  rw [← ltEnt] at e
  simp at e
  rw [e] at this; cases this

theorem sortEnts_calls (g : Nat) (eg : ∀ args w, (callFunc g args).run Try.prog w = .ok (.enter g args) w) (hc : ∀ (a b : Ent) (w : World), Calls Try.prog g #[ev a, ev b] w fun e w' => e = .returned (.int .i64 (a.cmp b)) ∧ Grw w w')
    (v : Value) (l : List Ent) (w : World) (h : Held Ent.cells 7 w v l) (hl : l.length < 1152921504606846976) :
    Calls Try.prog 16 #[v, .func (.func g) #[] #[]] w fun e w' => e = .returned (.tuple #[]) ∧
      ∃ l', l'.Perm l ∧ ByAt l' ∧ Held Ent.cells 7 w' v l' ∧ w.grownBy w' v.ownBlock ∧ (l = [] → w' = w) := by
  obtain ⟨a, c, rfl, hlc, h⟩ := h
  by_cases h0 : l = []
  · subst h0
    refine Calls.mono (sortStableNone_calls a c _ w) ?_
    rintro e w' ⟨rfl, rfl⟩
    exact ⟨rfl, [], List.Perm.refl _, List.Pairwise.nil, ⟨a, c, rfl, hlc, Or.inl rfl⟩, ⟨rfl, rfl, rfl, Nat.le_refl _, fun k _ _ => rfl⟩, fun _ => rfl⟩
  · obtain ⟨b, off, rfl, hb, hh⟩ := h.resolve_left h0
    have con := sortStable_calls (enc := Ent.cells) Ent.len Ent.one Ent.cmp swoEnt g #[] eg b off c l.toArray w (by
      intro m os dk _ x y
      refine Calls.mono (hc x y _) ?_
      rintro e w' ⟨rfl, q, os', rfl⟩
      exact ⟨rfl, q, os', rfl⟩) hh hb (by simpa using hl)
    rw [List.size_toArray] at con
    refine Calls.mono con ?_
    rintro e w' ⟨rfl, d', hS, hp, hs⟩
    have hsz : d'.size = l.length := by have := hp.1; simpa using this
    have hperm : d'.toList.Perm l := by
      have := perm_of_permIn (d := l.toArray) (d' := d') (by simpa using hp)
      simpa using this
    have hhold := hS.holds hb hh (by rw [hsz]; simp)
    refine ⟨rfl, d'.toList, hperm, byAt_of_sorted (by rw [hsz]; exact hs), ⟨_, c, by simp [hsz], by simp [hsz, hlc], Or.inr ⟨b, off, rfl, hS.lt hb, by simpa using hhold⟩⟩, ?_, fun h => (h0 h).elim⟩
    obtain ⟨n, os, hw⟩ := hS
    rw [hw]
    refine ⟨rfl, rfl, rfl, size_sortWorldK_c _ _ _ _ _ _ _ _, fun k hk hne => ?_⟩
    have hne' : k ≠ b := fun e => hne (by rw [e]; rfl)
    unfold sortWorldK
    rw [heap_grow_old _ _ (by rw [size_putRowK]; exact hk)]
    unfold putRowK putRow mapBlock
    simp only [Array.getElem?_modify]
    rw [if_neg (fun e => hne' e.symm)]
    rfl
end Go.Proofs.Ytgpagjocjcpbhaa
