/-
  The walk over audit.sorted: the writes of a map, by their keys.
-/
import Derived.Test.YtgpagjocjcpbhaaTmLeaf2
import Derived.Test.YtgpagjocjcpbhaaTmKeys
import Derived.Test.YtgpagjocjcpbhaaTmDel
import Derived.Test.YtgpagjocjcpbhaaTmRd
import Derived.Sort.Walk0
namespace Go.Proofs.Ytgpagjocjcpbhaa
open Go.Shelf Go.RowKit Go.Lib Go.Sort Go.Tm.Stab Go.Tm

theorem infoWr : (Try.prog.info? 62).map (fun i => (i.zero, i.size, i.bytes)) = some (some (.agg #[.string ⟨#[]⟩, .bool false, .string ⟨#[]⟩]), 3, 40) := by kernel_rfl

theorem ltWr (x y : Wr) : ltOf Wr.cmp x y = Op.bytesLess x.key.toList y.key.toList := by
  unfold ltOf Wr.cmp
  cases Op.bytesLess x.key.toList y.key.toList <;> simp

theorem swoWr : SWO (ltOf Wr.cmp) where
  irrefl x := by rw [ltWr, bytesLess_eq]; exact swo_ltStr.irrefl _
  trans x y z h1 h2 := by rw [ltWr, bytesLess_eq] at *; exact swo_ltStr.trans _ _ _ h1 h2
  ntrans x y z h1 h2 := by rw [ltWr, bytesLess_eq] at *; exact swo_ltStr.ntrans _ _ _ h1 h2

theorem cmpLaysWr (blk off size : Nat) (w : World) : CmpLays Try.prog 25 #[] Wr.cells 3 Wr.cmp blk off size w := by
  intro m os dk _ x y
  refine Calls.mono (sortedCmp_calls x y _) ?_
  rintro e w' ⟨rfl, q, os', rfl⟩
  exact ⟨rfl, q, os', rfl⟩

/-- By key, rising. -/
def ByKey (l : List Wr) : Prop := l.Pairwise fun a b => Op.bytesLess b.key.toList a.key.toList = false

/-- The block that a slice points into is a row of type t. -/
def OfType (w : World) (v : Value) (t : TypeId) : Prop := ∀ b, v.ownBlock = some b → ∃ cur, w.heap[b]? = some (.cells cur t (0, 0))

theorem swk_block {α : Type} [Inhabited α] {enc : α → List Value} {k : Nat} {w w' : World} {b off : Nat} {d : Array α} (h : SWK enc k w b off d w') {cur : Array Value} {t : TypeId} (hb : w.heap[b]? = some (.cells cur t (0, 0))) : ∃ cur', w'.heap[b]? = some (.cells cur' t (0, 0)) := by
  obtain ⟨n, os, hw⟩ := h
  have hlt : b < w.heap.size := (Array.getElem?_eq_some_iff.1 hb).1
  rw [hw]
  unfold sortWorldK
  rw [heap_grow_old _ _ (by rw [size_putRowK]; exact hlt)]
  unfold putRowK putRow mapBlock
  refine ⟨putCells id off (flatK enc k d) cur, ?_⟩
  show (w.heap.modify b _)[b]? = _
  rw [Array.getElem?_modify, if_pos rfl, hb]
  rfl

/-- What audit.sorted hands back. -/
def SortedPost (w : World) (ms : List Wr) (e : Ending) (w' : World) : Prop :=
  ∃ v l, e = .returned v ∧ Rd Wr.cells 3 w' w.heap.size v l ∧ l.Perm ms ∧ ByKey l ∧ Below w.heap.size w w' ∧ OfType w' v 62

theorem perm_of_permIn {α : Type} [Inhabited α] {d d' : Array α} (h : PermIn 0 d.size d d') : d'.toList.Perm d.toList := by
  have h2 := h.2.2
  have hs := h.1
  have h3 : (List.take d.size d'.toList).Perm d.toList := by simpa [hs] using h2
  rwa [List.take_of_length_le (by simp [hs])] at h3

theorem byKey_of_sorted {d : Array Wr} (h : SortedIn (ltOf Wr.cmp) 0 d.size d) : ByKey d.toList := by
  unfold ByKey
  rw [List.pairwise_iff_getElem]
  intro i j hi hj hij
  have hi' : i < d.size := by simpa using hi
  have hj' : j < d.size := by simpa using hj
  have := h i j (Nat.zero_le _) hij hj'
  rw [ltWr, getElem!_pos d j hj', getElem!_pos d i hi'] at this
  simpa using this

/-- The cells of the block that was laid last. -/
theorem last_cells (W : World) (l : List Value) (T : TypeId) (n : Nat) (hn : n = W.heap.size) : ∀ j u, l[j]? = some u → (W.alloc (.cells l.toArray T)).cell? ((⟨n, 0, none⟩ : Addr).add j) = some u := by
  intro j u hu
  subst hn
  rw [Addr.add_lit, World.cell?_alloc_new]
  simpa using hu

set_option maxHeartbeats 1000000 in
set_option maxRecDepth 1000000 in
theorem sorted_calls (r : Nat) (m : List (ByteArray × Wr)) (w : World) (hm : MapIs w r Value.string wv m) (hlen : m.length ≤ 1048576) :
    Calls Try.prog 19 #[.map (some r)] w (SortedPost w (m.map (·.2))) := by
  obtain ⟨i0, hi, hz0, hz1, hz2⟩ := info_parts infoWr
  obtain ⟨o, hrun, hgo⟩ := Going.start (P := Try.prog) Try.underlying77 hm
  have HG : Aside _ := hgo
  have HL : Hid (r < w.heap.size) := hm.lt
  clear hgo hm
  go_enter Try.func19, Try.ntmps19
  go_wp2
  go_loopg [3] m.length (fun gq v wr => ∃ got : List (ByteArray × Wr), Aside (Going wr r w.heap.size Value.string wv m got) ∧ Aside (wr.ownsRow (w.heap.size + 1) 62 3 v got.length (got.flatMap fun p => p.2.cells)) ∧ Hid (Below w.heap.size w wr) ∧ m.length - got.length ≤ gq)
  case atStart => exact ⟨[], HG, World.ownsRow_nil _ _ _ _, (Below.refl _ _).alloc (Nat.le_refl _) _, by simp⟩
  case round =>
    clear HG hrun
    obtain ⟨got, HG, HO, HB, hg⟩ := hrel
    rcases HG.out.next (P := Try.prog) with ⟨hp, hnx⟩ | ⟨k, x, w2, hnx, hen, hgo, hgr, hsz, hlt⟩
    · have HP : Hid (got.Perm m) := hp
      have eg : ∀ args w, (callFunc 25 args).run Try.prog w = .ok (.enter 25 args) w := enters_of Try.func25 (by kernel_rfl) rfl
      have hown := HO.out
      rcases hown.2 with ⟨rfl, h0⟩ | ⟨g, cap, cur, rfl, hbg, hhg, hnc, hcm, hcs, htake⟩
      · -- nothing came
        have hnil : got = [] := List.length_eq_zero_iff.1 h0
        have HN : Hid (got = []) := hnil
        have con := AnyF.slices_SortFunc_none Try.lSortW none 0 (.func (.func 25) #[] #[]) wr
        change Calls Try.prog 24 _ _ _ at con
        clear hp hown h0 hnil
        go_wp2_with fail
        refine Calls.mono con ?_
        clear con
        rintro e w3 ⟨rfl, hw3⟩
        have HW : Hid (w3 = wr) := hw3
        clear hw3
        go_wp2
        go_ret
        rw [HW.out]
        have hmn : m = [] := by have := HP.out; rw [HN.out] at this; exact List.nil_perm.1 this
        exact ⟨_, [], rfl, Rd.nil _ _, by rw [hmn]; exact List.Perm.refl _, List.Pairwise.nil, HB.out, fun b hb => by cases hb⟩
      · have hH : HoldsK Wr.cells 3 wr g 0 (got.map (·.2)).toArray := holds_of_own (l := got.map (·.2)) (E := 62) Wr.len hhg (by rw [List.length_map, List.flatMap_map]; exact htake)
        have hgl : g < wr.heap.size := (Array.getElem?_eq_some_iff.1 hhg).1
        have hsz : (got.map (·.2)).toArray.size = got.length := by simp
        have hml := HP.out.length_eq
        have con := AnyQ.slices_SortFunc Try.lSortW 3 Try.isAgg62 Try.sizeOf62 Wr.cells Wr.len Wr.one Wr.cmp swoWr 25 #[] g 0 cap (got.map (·.2)).toArray wr eg (cmpLaysWr _ _ _ _) hH hgl (by rw [hsz]; omega)
        rw [hsz] at con
        change Calls Try.prog 24 _ _ _ at con
        have HH : Aside (HoldsK Wr.cells 3 wr g 0 (got.map (·.2)).toArray) := hH
        have HGL : Hid (g < wr.heap.size ∧ w.heap.size + 1 ≤ g ∧ got.length ≤ cap) := ⟨hgl, hbg, hnc⟩
        have HTY : Hid (wr.heap[g]? = some (.cells cur 62 (0, 0))) := hhg
        have CON : Aside _ := con
        clear hp hown hH hgl hsz hml hbg hhg hnc hcm hcs htake con hg
        go_wp2_with fail
        refine Calls.mono CON.out ?_
        clear CON
        rintro e w3 ⟨rfl, d', n, os, hp', hs', hw3⟩
        have HS : Aside (SWK Wr.cells 3 wr g 0 d' w3) := ⟨n, os, hw3⟩
        have HP' : Hid (PermIn 0 got.length (got.map (·.2)).toArray d') := hp'
        have HS' : Hid (SortedIn (ltOf Wr.cmp) 0 got.length d') := hs'
        clear hp' hs' hw3
        go_wp2
        go_ret
        obtain ⟨hgl, hbg, hnc⟩ := HGL.out
        have hds : d'.size = got.length := by have := HP'.out.1; simpa using this
        have hhold := HS.out.holds hgl HH.out (by rw [hds]; simp)
        have hperm : d'.toList.Perm (got.map (·.2)) := by
          have := perm_of_permIn (d := (got.map (·.2)).toArray) (d' := d') (by simpa using HP'.out)
          simpa using this
        have hsorted : ByKey d'.toList := byKey_of_sorted (by rw [hds]; exact HS'.out)
        have hbelow : Below w.heap.size w w3 := by
          obtain ⟨n, os, hw⟩ := HS.out
          rw [hw]
          have hB := HB.out
          refine hB.trans ⟨rfl, rfl, rfl, size_sortWorldK_c _ _ _ _ _ _ _ _, fun k hk => ?_⟩
          unfold sortWorldK
          rw [heap_grow_old _ _ (by rw [size_putRowK]; have := hB.size; show k < wr.heap.size; omega)]
          unfold putRowK putRow mapBlock
          simp only [Array.getElem?_modify]
          rw [if_neg (by omega)]
          rfl
        refine ⟨_, d'.toList, rfl, ?_, hperm.trans (HP.out.map _), hsorted, hbelow, fun b hb => by cases hb; exact swk_block HS.out HTY.out⟩
        have := Rd.of_holds (B := w.heap.size) (c := cap) Wr.len hhold (HS.out.lt hgl) (by omega) (by rw [hds]; exact hnc)
        rw [hds] at this
        exact this
    · have HGO : Aside (Going w2 r w.heap.size Value.string wv m (got ++ [(k, x)])) := hgo
      have hbl : Hid (u3.ownBlock = none ∨ ∃ g, u3.ownBlock = some g ∧ w.heap.size + 1 ≤ g ∧ g < wr.heap.size) := by
        cases hq : u3.ownBlock with
        | none => exact Or.inl rfl
        | some g => exact Or.inr ⟨g, rfl, HO.out.lt g hq⟩
      have hown2 : w2.ownsRow (w.heap.size + 1) 62 3 u3 got.length (got.flatMap fun p => p.2.cells) := HO.out.kept hgr (by
        rcases hbl.out with h | ⟨g, h, h1, h2⟩
        · exact Or.inl h
        · right; rw [h]; intro e; cases e; omega)
      have HO2 : Aside (w2.ownsRow (w.heap.size + 1) 62 3 u3 got.length (got.flatMap fun p => p.2.cells)) := hown2
      have HB2 : Hid (Below w.heap.size w w2) := HB.out.grown hgr HB.out.size (fun k e => by cases e; exact Nat.le_refl _)
      have hc1 := last_cells (w2.alloc (.cells x.cells.toArray 62)) x.cells 62 (wr.heap.size + 1) (by simp [hsz])
      have HC1 : Aside _ := hc1
      have HLT : Hid (got.length < m.length) := hlt
      have HGR : Aside _ := hgr
      have HWS : Hid (w.heap.size ≤ wr.heap.size) := HB.out.size
      clear hgo hown2 hc1 hlt hgr HO HG
      go_wp2_with (at_builtin; refine wpList_append_own _ rfl _ _ 59 rfl (w.heap.size + 1) 62 i0 (.agg #[.string ⟨#[]⟩, .bool false, .string ⟨#[]⟩]) 3 40 Try.underlying59 hi hz0 hz1 hz2 rfl (by decide) _ _ _ rfl ((HO2.out.alloc _).alloc _) ⟨wr.heap.size + 1, 0, none⟩ 1 1 x.cells rfl rfl HC1.out ?c2 ?c3 ?c4 ?c5 ?_)
      case c2 => exact x.one
      case c3 => have := HLT.out; unfold maxLen; omega
      case c4 => have := HLT.out; omega
      case c5 => have := HWS.out; simp [hsz]; omega
      intro v' w3 hown3 hgr3 _
      have HO3 : Aside (w3.ownsRow (w.heap.size + 1) 62 3 v' (got.length + 1) ((got.flatMap fun p => p.2.cells) ++ x.cells)) := hown3
      have HG3 : Aside _ := hgr3
      clear hown3 hgr3
      go_wp2
      go_roundg (m.length - (got.length + 1))
      case measure => have := HLT.out; omega
      case rel =>
        have hr3 := HG3.out
        have hne : ∀ k, k ≤ w.heap.size → some k ≠ u3.ownBlock := fun k hk e => by
          rcases hbl.out with h | ⟨g, h, h1, h2⟩
          · rw [h] at e; cases e
          · rw [h] at e; cases e; omega
        have hsame : ∀ k, k ≤ w.heap.size → k < w2.heap.size → w3.heap[k]? = w2.heap[k]? := fun k hk hk2 => by
          rw [hr3.block k (by simp; omega) (hne k hk)]
          rw [Below.heap_alloc _ _ _ (by simp; omega), Below.heap_alloc _ _ _ hk2]
        have hl := HGO.out.lt
        refine ⟨got ++ [(k, x)], HGO.out.of_heap (hsame r (by have := HL.out; omega) hl.1) (hsame _ (Nat.le_refl _) hl.2), ?_, ?_, by simp⟩
        · have : w3.ownsRow _ _ _ _ _ _ := HO3.out
          rw [List.flatMap_append]
          show w3.ownsRow _ _ _ _ _ _
          simpa using this
        · refine (((HB2.out.alloc HB2.out.size _).alloc (by have := HB2.out.size; simp; omega) _).grown hr3 (by have := HB2.out.size; simp; omega) (fun k e => ?_))
          rcases hbl.out with h | ⟨g, h, h1, h2⟩
          · rw [h] at e; cases e
          · rw [h] at e; cases e; omega
end Go.Proofs.Ytgpagjocjcpbhaa
