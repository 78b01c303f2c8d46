/-
  alive: the law's one example.
-/
import Derived.Test.YtgpagjocjcpbhaaTmPick
namespace Go.Proofs.Ytgpagjocjcpbhaa
open Go.Shelf Go.RowKit Go.Lib Go.Sort Go.Tm.Stab Go.Tm

theorem changes_calls (r : RV) (evs : List Ev) (cms : List Ent) (lo hi : Stp) (w : World) (hE : Rd Ev.cells 20 w 0 (slv r.events) evs) (hC : Rd Ent.cells 7 w 0 (slv r.commits) cms) (hel : evs.length ≤ 1048576) (hcl : cms.length ≤ 1048576) :
    Calls Try.prog 7 #[rv r, sv lo, sv hi] w (ChgPost w evs cms lo hi) := callsIn_wide.1 (changes_in 6 (Nat.le_refl _) r evs cms lo hi w hE hC hel hcl)

def smallEv : Ev := ⟨0, 0, ⟨5, ⟨5, 1⟩, ⟨4, false, false, false, ⟨#[]⟩, ⟨#[107]⟩, ⟨#[]⟩, ⟨#[49]⟩, 0⟩, 0, ⟨1, 0, 0⟩, (none, 0, 0), ⟨#[]⟩⟩⟩
def smallEnt : Ent := ⟨⟨5, 1⟩, 0, 1, ⟨2, 0, 9⟩⟩

theorem rd_one {α : Type} {enc : α → List Value} {k : Nat} {W : World} {b : Nat} {x : α} {t : TypeId} (h : W.heap[b]? = some (.cells (enc x).toArray t (0, 0))) : Rd enc k W 0 (.slice (some ⟨b, 0, none⟩) 1 1) [x] := by
  refine ⟨_, 1, rfl, Nat.le_refl _, Or.inr ⟨b, 0, rfl, Nat.zero_le _, (Array.getElem?_eq_some_iff.1 h).1, fun i y hi j u hj => ?_⟩⟩
  rcases i with _ | i
  · simp at hi; subst hi
    simp only [Nat.zero_mul, Nat.zero_add]
    rw [cell_of_cells h]
    simpa using hj
  · simp at hi

set_option maxHeartbeats 4000000 in
set_option maxRecDepth 1000000 in
theorem small_calls (w : World) : Calls Try.prog 9 #[] w fun e w' => ∃ r, e = .returned (rv r) ∧ Rd Ev.cells 20 w' 0 (slv r.events) [smallEv] ∧ Rd Ent.cells 7 w' 0 (slv r.commits) [smallEnt] ∧ Below w.heap.size w w' := by
  go_enter Try.func9, Try.ntmps9
  have HLR : Hid (∀ (W : World), (((W.alloc (.cells (rv RV.zero).cells 41)).alloc (.cells #[.int .u32 5, .int .u32 1] 55)).alloc (.cells smallEv.cells.toArray 70)).rangeAt (W.heap.size + 1 + 1) 0 smallEv.cells) := fun W => range_ev (alloc_new_at _ _ (by simp))
  go_wp2_with (first | (refine wpList_store_at rfl 70 _ _ rfl (w.heap.size + 1 + 1) (by simp) _ smallEv.cells.toArray rfl rfl rfl rfl (all_oneCell_toArray smallEv.one) ?_) | (refine wpList_load_mid rfl 70 _ rfl (w.heap.size + 1 + 1) 0 rfl smallEv.cells _ (HLR.out w) Try.underlying70 rfl rfl ?_))
  refine bodyPost_ret (v := rv { RV.zero with events := (some ⟨w.heap.size + 1 + 1 + 1, 0, none⟩, 1, 1), commits := (some ⟨w.heap.size + 1 + 1 + 1 + 1, 0, none⟩, 1, 1) }) (results_cell_row rfl _ _ w.heap.size 41 (rv { RV.zero with events := (some ⟨w.heap.size + 1 + 1 + 1, 0, none⟩, 1, 1), commits := (some ⟨w.heap.size + 1 + 1 + 1 + 1, 0, none⟩, 1, 1) }).cells (0, 0) _ rfl ?h Try.underlying41 rfl rfl) rfl ⟨_, rfl, rd_one (t := 70) ?e, rd_one (t := 58) ?c, ?b⟩
  case h => rw [Below.heap_alloc _ _ _ (by simp; omega), Below.heap_alloc _ _ _ (by simp; omega), Below.heap_alloc _ _ _ (by simp; omega), Below.heap_alloc _ _ _ (by simp), World.alloc_heap_new]; rfl
  case e =>
    rw [Below.heap_alloc _ _ _ (by simp)]
    exact alloc_new_at _ _ (by simp)
  case c => exact alloc_new_at _ _ (by simp)
  case b => exact (((((Below.refl _ _).alloc (Nat.le_refl _) _).alloc (by simp) _).alloc (by simp; omega) _).alloc (by simp; omega) _).alloc (by simp; omega) _

def smallVer : Ver := ⟨⟨#[107]⟩, ⟨2, 0, 9⟩, false, ⟨#[49]⟩⟩
theorem small_changes {l : List Ent} (hp : l.Perm (comm [smallEnt])) : changes [smallEv] l ⟨0, 0, 0⟩ ⟨3, 0, 0⟩ = [smallVer] := by
  have h1 : comm [smallEnt] = [smallEnt] := by decide
  rw [h1] at hp
  have h2 : l = [smallEnt] := List.perm_singleton.1 hp
  subst h2
  have hw : writesOf [smallEv] ⟨5, 1⟩ = [⟨⟨#[107]⟩, false, ⟨#[49]⟩⟩] := by
    unfold writesOf
    rw [show (lastW [smallEv] ⟨5, 1⟩).map (·.2) = [⟨⟨#[107]⟩, false, ⟨#[49]⟩⟩] from rfl]
    exact List.mergeSort_singleton _
  unfold changes
  rw [show (([smallEnt].takeWhile fun e => e.at_.lt ⟨3, 0, 0⟩).filter fun e => !e.at_.lt ⟨0, 0, 0⟩) = [smallEnt] from rfl]
  show entVers [smallEv] smallEnt ++ [] = _
  unfold entVers
  rw [show smallEnt.txn = ⟨5, 1⟩ from rfl, hw]
  rfl

set_option maxRecDepth 1000000 in
theorem alive_calls (w : World) : Calls Try.prog 4 #[] w fun e w' => e = .returned (.bool true) ∧ Below w.heap.size w w' := by
  go_enter Try.func4, Try.ntmps4
  go_wp2_with fail
  refine Calls.mono (small_calls _) ?_
  rintro e w1 ⟨r, rfl, hE, hC, hb1⟩
  have CON : Aside (Calls Try.prog 7 #[rv r, sv ⟨0, 0, 0⟩, sv ⟨3, 0, 0⟩] w1 _) := changes_calls r [smallEv] [smallEnt] ⟨0, 0, 0⟩ ⟨3, 0, 0⟩ w1 hE hC (by simp) (by simp)
  have HB1 : Hid (Below w.heap.size w w1) := hb1
  clear hE hC hb1
  go_wp2_with fail
  refine Calls.mono CON.out ?_
  rintro e w2 ⟨v, l, rfl, hp, hby, hown, hb2⟩
  rw [small_changes hp] at hown
  have HB2 : Hid (Below w.heap.size w w2) := HB1.out.trans (hb2.mono HB1.out.size)
  obtain ⟨g, cap, rfl⟩ := own_form (k := 0) hown
  have hc := fun j u => hown.cells (g := g) rfl j u
  have c0 : w2.cell? ⟨g, 0, none⟩ = some (.string ⟨#[107]⟩) := hc 0 _ rfl
  have c1 : w2.cell? ⟨g, 1, none⟩ = some (.int .u64 2) := hc 1 _ rfl
  have c2 : w2.cell? ⟨g, 2, none⟩ = some (.int .u32 0) := hc 2 _ rfl
  have c3 : w2.cell? ⟨g, 3, none⟩ = some (.int .u32 9) := hc 3 _ rfl
  have c4 : w2.cell? ⟨g, 4, none⟩ = some (.bool false) := hc 4 _ rfl
  have c5 : w2.cell? ⟨g, 5, none⟩ = some (.string ⟨#[49]⟩) := hc 5 _ rfl
  clear hc hown hp hby hb2 CON
  go_wp2_with fail
  go_ret
  exact ⟨rfl, HB2.out⟩
end Go.Proofs.Ytgpagjocjcpbhaa
