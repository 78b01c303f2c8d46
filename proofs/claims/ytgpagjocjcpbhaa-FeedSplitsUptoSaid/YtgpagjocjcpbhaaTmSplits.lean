/-
  The walk over FeedSplits.
-/
import Derived.Test.YtgpagjocjcpbhaaTmAlive
import Derived.Test.YtgpagjocjcpbhaaTmSplit
import Derived.Test.YtgpagjocjcpbhaaTmApp
import Derived.Shelf.SlSortCmp.QuietGrown
namespace Go.Proofs.Ytgpagjocjcpbhaa
open Go.Shelf Go.RowKit Go.Lib Go.Sort Go.Tm.Stab Go.Tm

/-- A step of a case. -/
structure _root_.Go.Tm.Sp where
  kind : Int
  feed : Int
  at_ : Int
  lo : Stp
  hi : Stp
  deriving Inhabited
def _root_.Go.Tm.Sp.cells (s : Sp) : List Value := [.int .i64 s.kind, .int .i64 s.feed, .int .i64 s.at_, .int .u64 s.lo.wall, .int .u32 s.lo.logical, .int .u32 s.lo.node, .int .u64 s.hi.wall, .int .u32 s.hi.logical, .int .u32 s.hi.node]
theorem _root_.Go.Tm.Sp.one (s : Sp) : ∀ v ∈ s.cells, v.oneCell' = true := by
  intro v hv
  simp only [Sp.cells, List.mem_cons, List.not_mem_nil, or_false] at hv
  rcases hv with rfl | rfl | rfl | rfl | rfl | rfl | rfl | rfl | rfl <;> rfl

/-- A result that can be read: its events, its commits. -/
def Good (w : World) (r : RV) : Prop := ∃ evs cms, Rd Ev.cells 20 w 0 (slv r.events) evs ∧ Rd Ent.cells 7 w 0 (slv r.commits) cms ∧ evs.length ≤ 1048576 ∧ cms.length ≤ 1048576 ∧ ∀ e ∈ cms, e.txn.ok

theorem good_zero (w : World) : Good w RV.zero := ⟨[], [], Rd.nil _ _, Rd.nil _ _, by simp, by simp, by simp⟩
theorem Good.keep {w w' : World} {r : RV} (h : Good w r) (hb : Below w.heap.size w w') : Good w' r := by
  obtain ⟨evs, cms, h1, h2, h3⟩ := h
  exact ⟨evs, cms, h1.keep hb, h2.keep hb, h3⟩

theorem range_of_cells {W : World} {g : Nat} {t : TypeId} {cs : List Value} (h : W.heap[g]? = some (.cells cs.toArray t (0, 0))) : W.rangeAt g 0 cs := fun j u hj => by
  rw [Nat.zero_add, cell_of_cells h]
  simpa using hj

theorem own_below {w w' : World} {base : Nat} {e : TypeId} {size : Nat} {v : Value} {n : Nat} {xs : List Value} (h : w.ownsRow base e size v n xs) (hb : Below w.heap.size w w') : w'.ownsRow base e size v n xs :=
  h.kept ⟨hb.os, hb.tape, hb.output, hb.size, fun k hk _ => hb.block k hk⟩ (by
    by_cases h : v.ownBlock = none
    · exact Or.inl h
    · exact Or.inr h)

theorem rd_grown {α : Type} {enc : α → List Value} {k : Nat} {w w' : World} {B : Nat} {v : Value} {l : List α} {row : Option Nat} (h : Rd enc k w B v l) (hg : w.grownBy w' row) (hr : ∀ g, row = some g → g < B) : Rd enc k w' B v l := by
  obtain ⟨a, c, rfl, hc, h⟩ := h
  refine ⟨a, c, rfl, hc, ?_⟩
  rcases h with h | ⟨b, off, ha, hB, hlt, hcell⟩
  · exact Or.inl h
  · refine Or.inr ⟨b, off, ha, hB, Nat.lt_of_lt_of_le hlt hg.size, fun i x hi j u hj => ?_⟩
    rw [World.cell?_of_block (w := w) (a := ⟨b, off + i * k + j, none⟩) (hg.block b hlt (fun e => by have := hr b e.symm; omega))]
    exact hcell i x hi j u hj

/-- What a round of FeedSplits keeps behind its first variables. -/
structure SpSt (w : World) (ns nr nm : Nat) (box : Array Value) (s : Sp) (r : RV) (W : World) : Prop where
  below : Below w.heap.size w W
  hbox : W.heap[w.heap.size]? = some (.cells box 25 (0, 0))
  hs : W.heap[ns]? = some (.cells s.cells.toArray 32 (0, 0))
  hr : W.heap[nr]? = some (.cells r.cells.toArray 41 (0, 0))
  hm : W.heap[nm]? = some (.cells s.hi.cells.toArray 30 (0, 0))
  ht : W.heap[nm + 1]? = some (.cells Stp.top.cells.toArray 30 (0, 0))

theorem SpSt.keep {w : World} {ns nr nm : Nat} {box : Array Value} {s : Sp} {r : RV} {W W' : World} (h : SpSt w ns nr nm box s r W) (hb : Below W.heap.size W W') : SpSt w ns nr nm box s r W' := by
  have k : ∀ {n : Nat} {o : Obj}, W.heap[n]? = some o → W'.heap[n]? = some o := fun {n o} e => (hb.block n (Array.getElem?_eq_some_iff.1 e).1).trans e
  exact ⟨h.below.trans (hb.mono h.below.size), k h.hbox, k h.hs, k h.hr, k h.hm, k h.ht⟩

set_option maxHeartbeats 4000000 in
set_option maxRecDepth 1000000 in
theorem splits_calls (va vs : Value) (lr : List RV) (ls : List Sp) (w : World) (ha : Rd RV.cells 13 w 0 va lr) (hs : Rd Sp.cells 9 w 0 vs ls) (hlr : lr.length ≤ 1048576) (hls : ls.length ≤ 1048576) (hg : ∀ r ∈ lr, Good w r)
    (hok : ∀ s ∈ ls, s.lo.ok ∧ s.hi.ok ∧ -9223372036854775808 ≤ s.at_ ∧ s.at_ ≤ 9223372036854775807) :
    Calls Try.prog 3 #[.agg #[va, vs]] w fun e w' => e = .returned (.bool true) ∧ Below w.heap.size w w' := by
  have HA : Aside (Rd RV.cells 13 w 0 va lr) := ha
  have HG : Aside (∀ r ∈ lr, Good w r) := hg
  have HOK : Hid (∀ s ∈ ls, s.lo.ok ∧ s.hi.ok ∧ -9223372036854775808 ≤ s.at_ ∧ s.at_ ≤ 9223372036854775807) := hok
  have HL : Hid (lr.length ≤ 1048576) := hlr
  obtain ⟨a2, c2, rfl, hc2, hr2⟩ := hs
  have HS : Hid (ls = [] ∨ ∃ b off, a2 = some ⟨b, off, none⟩ ∧ 0 ≤ b ∧ b < w.heap.size ∧ ∀ i x, ls[i]? = some x → ∀ j u, (Sp.cells x)[j]? = some u → w.cell? ⟨b, off + i * 9 + j, none⟩ = some u) := hr2
  clear ha hg hok hlr hr2 hc2
  obtain ⟨a1, c1, rfl, _, _⟩ := HA.out
  go_enter Try.func3, Try.ntmps3
  go_wp2_with fail
  refine Calls.mono (alive_calls _) ?_
  rintro e w1 ⟨rfl, hb1⟩
  have HB1 : Aside (Below w.heap.size w w1 ∧ w1.heap[w.heap.size]? = some (.cells #[.slice a1 lr.length c1, .slice a2 ls.length c2] 25 (0, 0))) :=
    ⟨((Below.refl _ _).alloc (Nat.le_refl _) _).trans (hb1.mono (by simp)), (hb1.block _ (by simp)).trans (World.alloc_heap_new _ _)⟩
  clear hb1
  go_wp2_with fail
  go_loopg [4] ls.length (fun gq v wr => ∃ k : Nat, v = .int .i64 k ∧ k ≤ ls.length ∧ Aside (Below w.heap.size w wr ∧ wr.heap[w.heap.size]? = some (.cells #[.slice a1 lr.length c1, .slice a2 ls.length c2] 25 (0, 0))) ∧ ls.length - k ≤ gq)
  case atStart => exact ⟨0, rfl, Nat.zero_le _, HB1.out, Nat.le_refl _⟩
  case round =>
    clear HB1
    obtain ⟨k, rfl, hk, HB, hg⟩ := hrel
    have b0 : wr.cell? ⟨w.heap.size, 0, none⟩ = some (.slice a1 lr.length c1) := cell_of_cells HB.out.2 0
    have b1 : wr.cell? ⟨w.heap.size, 1, none⟩ = some (.slice a2 ls.length c2) := cell_of_cells HB.out.2 1
    have hlw : w.heap.size < wr.heap.size := (Array.getElem?_eq_some_iff.1 HB.out.2).1
    by_cases hlt : k < ls.length
    · obtain ⟨s, hsx⟩ : ∃ s, ls[k]? = some s := ⟨ls[k], List.getElem?_eq_getElem hlt⟩
      obtain ⟨b, off, haw, HX⟩ : ∃ b off, a2 = some ⟨b, off, none⟩ ∧ Aside (wr.rangeAt b (off + k * 9) s.cells) := by
        rcases HS.out with h | ⟨b, off, h1, _, h3, h4⟩
        · rw [h] at hlt; simp at hlt
        · refine ⟨b, off, h1, fun j u hj => ?_⟩
          rw [HB.out.1.cell (p := ⟨b, off + k * 9 + j, none⟩) h3]
          exact h4 k s hsx j u hj
      have hi1 : (k : Int) < (ls.length : Int) := by omega
      have hi2 : (k : Int).toNat = k := by omega
      have HSO : Hid (s.lo.ok ∧ s.hi.ok ∧ -9223372036854775808 ≤ s.at_ ∧ s.at_ ≤ 9223372036854775807) := HOK.out s (List.mem_of_getElem? hsx)
      subst haw
      clear hsx
      go_upto_region 8 with (first | (refine wpList_load_mid rfl 32 _ rfl b (off + k * 9) rfl s.cells _ HX.out Try.underlying32 rfl rfl ?_) | (refine wpList_store_new rfl 32 _ _ rfl _ s.cells.toArray rfl rfl rfl rfl (all_oneCell_toArray s.one) ?_))
      have HW2 : Aside (Below wr.heap.size wr (wr.alloc (.cells s.cells.toArray 32)) ∧ (wr.alloc (.cells s.cells.toArray 32)).heap[wr.heap.size]? = some (.cells s.cells.toArray 32 (0, 0)) ∧ (wr.alloc (.cells s.cells.toArray 32)).heap.size = wr.heap.size + 1) := ⟨(Below.refl _ _).alloc (Nat.le_refl _) _, World.alloc_heap_new _ _, by simp⟩
      generalize wr.alloc (.cells s.cells.toArray 32) = w2 at HW2 ⊢
      have HWB : Aside (Below w.heap.size w w2) := HB.out.1.trans (HW2.out.1.mono HB.out.1.size)
      have hbx : w2.heap[w.heap.size]? = some (.cells #[.slice a1 lr.length c1, .slice (some ⟨b, off, none⟩) ls.length c2] 25 (0, 0)) := (HW2.out.1.block _ hlw).trans HB.out.2
      clear b0 b1
      have b0 : w2.cell? ⟨w.heap.size, 0, none⟩ = some (.slice a1 lr.length c1) := cell_of_cells hbx 0
      have b1 : w2.cell? ⟨w.heap.size, 1, none⟩ = some (.slice (some ⟨b, off, none⟩) ls.length c2) := cell_of_cells hbx 1
      have s2 : w2.cell? ⟨wr.heap.size, 2, none⟩ = some (.int .i64 s.at_) := cell_of_cells HW2.out.2.1 2
      have CON : Aside (Calls Try.prog 5 #[.agg #[.slice a1 lr.length c1, .slice (some ⟨b, off, none⟩) ls.length c2], .int .i64 s.at_] w2 _) := pick_calls _ _ lr s.at_ w2 (HA.out.keep HWB.out) HL.out HSO.out.2.2.1 HSO.out.2.2.2
      have HBX : Aside (w2.heap[w.heap.size]? = some (.cells #[.slice a1 lr.length c1, .slice (some ⟨b, off, none⟩) ls.length c2] 25 (0, 0))) := hbx
      have HLW : Hid (w.heap.size < wr.heap.size) := hlw
      clear hbx hlw
      go_wp2_with fail
      refine Calls.mono CON.out ?_
      clear CON b0 b1 s2
      rintro e w3 ⟨r, rfl, hr, hb3⟩
      have HGR : Aside (Good w r) := by
        rcases hr with h | h
        · exact HG.out r h
        · rw [h]; exact good_zero w
      have HB3 : Aside (Below w2.heap.size w2 w3) := hb3
      clear hr hb3
      go_upto_region 9 with (first | (refine wpList_store_new rfl 41 _ _ rfl _ r.cells.toArray rfl rfl rfl rfl (all_oneCell_toArray (rv_one r)) ?_))
      have HW4 : Aside (Below w3.heap.size w3 (w3.alloc (.cells r.cells.toArray 41)) ∧ (w3.alloc (.cells r.cells.toArray 41)).heap[w3.heap.size]? = some (.cells r.cells.toArray 41 (0, 0)) ∧ (w3.alloc (.cells r.cells.toArray 41)).heap.size = w3.heap.size + 1) := ⟨(Below.refl _ _).alloc (Nat.le_refl _) _, World.alloc_heap_new _ _, by simp⟩
      generalize w3.alloc (.cells r.cells.toArray 41) = w4 at HW4 ⊢
      have HL4 : Hid (w.heap.size < wr.heap.size ∧ wr.heap.size < w2.heap.size ∧ w2.heap.size ≤ w3.heap.size ∧ w3.heap.size + 1 = w4.heap.size) := ⟨HLW.out, by rw [HW2.out.2.2]; omega, HB3.out.size, HW4.out.2.2.symm⟩
      have HB4 : Aside (Below w2.heap.size w2 w4) := HB3.out.trans (HW4.out.1.mono HB3.out.size)
      have HS4 : Aside (w4.heap[wr.heap.size]? = some (.cells s.cells.toArray 32 (0, 0))) := (HB4.out.block _ HL4.out.2.1).trans HW2.out.2.1
      have s3 : w4.cell? ⟨wr.heap.size, 3, none⟩ = some (.int .u64 s.lo.wall) := cell_of_cells HS4.out 3
      have s4 : w4.cell? ⟨wr.heap.size, 4, none⟩ = some (.int .u32 s.lo.logical) := cell_of_cells HS4.out 4
      have s5 : w4.cell? ⟨wr.heap.size, 5, none⟩ = some (.int .u32 s.lo.node) := cell_of_cells HS4.out 5
      have s6 : w4.cell? ⟨wr.heap.size, 6, none⟩ = some (.int .u64 s.hi.wall) := cell_of_cells HS4.out 6
      have s7 : w4.cell? ⟨wr.heap.size, 7, none⟩ = some (.int .u32 s.hi.logical) := cell_of_cells HS4.out 7
      have s8 : w4.cell? ⟨wr.heap.size, 8, none⟩ = some (.int .u32 s.hi.node) := cell_of_cells HS4.out 8
      have hlt4 : wr.heap.size < w4.heap.size := by have := HL4.out; omega
      have hlt5 : wr.heap.size < w4.heap.size + 1 := by omega
      go_wp2_with fail
      refine Calls.mono (below_calls s.hi s.lo _) ?_
      rintro e w5 ⟨rfl, hg5⟩
      have HST : Aside (SpSt w wr.heap.size w3.heap.size w4.heap.size #[.slice a1 lr.length c1, .slice (some ⟨b, off, none⟩) ls.length c2] s r w5) := by
        have hb5 := hg5.below
        have e0 := HL4.out
        have kk : ∀ {n : Nat} {o : Obj}, _ → w5.heap[n]? = some o := fun {n o} e => (hb5.block n (Array.getElem?_eq_some_iff.1 e).1).trans e
        have e1 : w.heap.size < w4.heap.size := by omega
        have e2 : wr.heap.size < w4.heap.size := by omega
        have e3 : w3.heap.size < w4.heap.size := by omega
        have e4 : Below w.heap.size w w4 := HWB.out.trans (HB4.out.mono (by omega))
        refine ⟨?_, kk ?_, kk ?_, kk ?_, kk ?_, kk ?_⟩
        · exact ((e4.alloc (by omega) _).alloc (by simp; omega) _).trans (hb5.mono (by simp; omega))
        · rw [Below.heap_alloc _ _ _ (by simp; omega), Below.heap_alloc _ _ _ (by omega)]
          exact (HB4.out.block _ (by omega)).trans HBX.out
        · rw [Below.heap_alloc _ _ _ (by simp; omega), Below.heap_alloc _ _ _ (by omega)]
          exact HS4.out
        · rw [Below.heap_alloc _ _ _ (by simp; omega), Below.heap_alloc _ _ _ (by omega)]
          exact HW4.out.2.1
        · rw [Below.heap_alloc _ _ _ (by simp), World.alloc_heap_new]
          rfl
        · rw [alloc_new_at _ _ (by simp)]
          rfl
      have HW5 : Hid (w.heap.size < w5.heap.size) := (Array.getElem?_eq_some_iff.1 HST.out.hbox).1
      clear hg5 s3 s4 s5 s6 s7 s8 hlt4 hlt5 HS4 HB4 HB3 HW4 HL4 HWB HW2 HBX HLW
      generalize wr.heap.size = ns at *
      generalize w3.heap.size = nr at *
      generalize w4.heap.size = nm at *
      obtain ⟨bv, hbv⟩ : ∃ bv, s.hi.lt s.lo = bv := ⟨_, rfl⟩
      have HBV : Hid (s.hi.lt s.lo = bv) := hbv
      rw [hbv]
      clear hbv
      cases bv
      · have s3 : w5.cell? ⟨ns, 3, none⟩ = some (.int .u64 s.lo.wall) := cell_of_cells HST.out.hs 3
        have s4 : w5.cell? ⟨ns, 4, none⟩ = some (.int .u32 s.lo.logical) := cell_of_cells HST.out.hs 4
        have s5 : w5.cell? ⟨ns, 5, none⟩ = some (.int .u32 s.lo.node) := cell_of_cells HST.out.hs 5
        have m0 : w5.cell? ⟨nm, 0, none⟩ = some (.int .u64 s.hi.wall) := cell_of_cells HST.out.hm 0
        have m1 : w5.cell? ⟨nm, 1, none⟩ = some (.int .u32 s.hi.logical) := cell_of_cells HST.out.hm 1
        have m2 : w5.cell? ⟨nm, 2, none⟩ = some (.int .u32 s.hi.node) := cell_of_cells HST.out.hm 2
        obtain ⟨evs, cms, hE, hC, hel, hcl, hco⟩ := HGR.out
        have HE : Aside (Rd Ev.cells 20 w 0 (slv r.events) evs) := hE
        have HC : Aside (Rd Ent.cells 7 w 0 (slv r.commits) cms) := hC
        have HN : Hid (evs.length ≤ 1048576 ∧ cms.length ≤ 1048576 ∧ ∀ e ∈ cms, e.txn.ok) := ⟨hel, hcl, hco⟩
        clear hE hC hel hcl hco
        have CON1 : Aside (Calls Try.prog 7 #[rv r, sv s.lo, sv s.hi] w5 _) := changes_calls r evs cms s.lo s.hi w5 (HE.out.keep HST.out.below) (HC.out.keep HST.out.below) HN.out.1 HN.out.2.1
        have HRR : Aside (w5.rangeAt nr 0 r.cells) := range_of_cells HST.out.hr
        go_wp2_with (refine wpList_load_mid rfl 41 _ rfl nr 0 rfl r.cells _ HRR.out Try.underlying41 rfl rfl ?_)
        refine Calls.mono CON1.out ?_
        clear CON1 HRR s3 s4 s5 m0 m1 m2
        rintro e w6 ⟨va, la, rfl, hpa, hya, howa, hb6⟩
        have HA1 : Aside (la.Perm (comm cms) ∧ ByAt la ∧ w6.ownsRow w5.heap.size 47 6 va (changes evs la s.lo s.hi).length ((changes evs la s.lo s.hi).flatMap Ver.cells) ∧ Below w5.heap.size w5 w6) := ⟨hpa, hya, howa, hb6⟩
        have HST6 : Aside (SpSt w ns nr nm #[.slice a1 lr.length c1, .slice (some ⟨b, off, none⟩) ls.length c2] s r w6) := HST.out.keep hb6
        clear hpa hya howa hb6 HST
        have m0 : w6.cell? ⟨nm, 0, none⟩ = some (.int .u64 s.hi.wall) := cell_of_cells HST6.out.hm 0
        have m1 : w6.cell? ⟨nm, 1, none⟩ = some (.int .u32 s.hi.logical) := cell_of_cells HST6.out.hm 1
        have m2 : w6.cell? ⟨nm, 2, none⟩ = some (.int .u32 s.hi.node) := cell_of_cells HST6.out.hm 2
        have t0 : w6.cell? ⟨nm + 1, 0, none⟩ = some (.int .u64 18446744073709551615) := cell_of_cells HST6.out.ht 0
        have t1 : w6.cell? ⟨nm + 1, 1, none⟩ = some (.int .u32 4294967295) := cell_of_cells HST6.out.ht 1
        have t2 : w6.cell? ⟨nm + 1, 2, none⟩ = some (.int .u32 4294967295) := cell_of_cells HST6.out.ht 2
        have CON2 : Aside (Calls Try.prog 7 #[rv r, sv s.hi, sv Stp.top] w6 _) := changes_calls r evs cms s.hi Stp.top w6 (HE.out.keep HST6.out.below) (HC.out.keep HST6.out.below) HN.out.1 HN.out.2.1
        have HRR : Aside (w6.rangeAt nr 0 r.cells) := range_of_cells HST6.out.hr
        go_wp2_with (refine wpList_load_mid rfl 41 _ rfl nr 0 rfl r.cells _ HRR.out Try.underlying41 rfl rfl ?_)
        refine Calls.mono CON2.out ?_
        clear CON2 HRR m0 m1 m2 t0 t1 t2
        rintro e w7 ⟨vb, lb, rfl, hpb, hyb, howb, hb7⟩
        have HA2 : Aside (lb.Perm (comm cms) ∧ ByAt lb ∧ w7.ownsRow w6.heap.size 47 6 vb (changes evs lb s.hi Stp.top).length ((changes evs lb s.hi Stp.top).flatMap Ver.cells) ∧ Below w6.heap.size w6 w7) := ⟨hpb, hyb, howb, hb7⟩
        have HST7 : Aside (SpSt w ns nr nm #[.slice a1 lr.length c1, .slice (some ⟨b, off, none⟩) ls.length c2] s r w7) := HST6.out.keep hb7
        clear hpb hyb howb hb7 HST6
        have s3 : w7.cell? ⟨ns, 3, none⟩ = some (.int .u64 s.lo.wall) := cell_of_cells HST7.out.hs 3
        have s4 : w7.cell? ⟨ns, 4, none⟩ = some (.int .u32 s.lo.logical) := cell_of_cells HST7.out.hs 4
        have s5 : w7.cell? ⟨ns, 5, none⟩ = some (.int .u32 s.lo.node) := cell_of_cells HST7.out.hs 5
        have t0 : w7.cell? ⟨nm + 1, 0, none⟩ = some (.int .u64 18446744073709551615) := cell_of_cells HST7.out.ht 0
        have t1 : w7.cell? ⟨nm + 1, 1, none⟩ = some (.int .u32 4294967295) := cell_of_cells HST7.out.ht 1
        have t2 : w7.cell? ⟨nm + 1, 2, none⟩ = some (.int .u32 4294967295) := cell_of_cells HST7.out.ht 2
        have CON3 : Aside (Calls Try.prog 7 #[rv r, sv s.lo, sv Stp.top] w7 _) := changes_calls r evs cms s.lo Stp.top w7 (HE.out.keep HST7.out.below) (HC.out.keep HST7.out.below) HN.out.1 HN.out.2.1
        have HRR : Aside (w7.rangeAt nr 0 r.cells) := range_of_cells HST7.out.hr
        go_wp2_with (refine wpList_load_mid rfl 41 _ rfl nr 0 rfl r.cells _ HRR.out Try.underlying41 rfl rfl ?_)
        refine Calls.mono CON3.out ?_
        clear CON3 HRR s3 s4 s5 t0 t1 t2
        rintro e w8 ⟨vc, lc, rfl, hpc, hyc, howc, hb8⟩
        have HA3 : Aside (lc.Perm (comm cms) ∧ ByAt lc ∧ w8.ownsRow w7.heap.size 47 6 vc (changes evs lc s.lo Stp.top).length ((changes evs lc s.lo Stp.top).flatMap Ver.cells) ∧ Below w7.heap.size w7 w8) := ⟨hpc, hyc, howc, hb8⟩
        have HST8 : Aside (SpSt w ns nr nm #[.slice a1 lr.length c1, .slice (some ⟨b, off, none⟩) ls.length c2] s r w8) := HST7.out.keep hb8
        clear hpc hyc howc hb8 HST7
        have HK : Hid (∀ {l l' : List Ent} {lo hi : Stp}, l.Perm (comm cms) → ByAt l → l'.Perm (comm cms) → ByAt l' → changes evs l lo hi = changes evs l' lo hi) := fun h1 h2 h3 h4 => changes_keys (keys_eq HN.out.2.2 h1 h2 h3 h4)
        obtain ⟨A, hA⟩ : ∃ A, changes evs la s.lo s.hi = A := ⟨_, rfl⟩
        have HAA : Aside (changes evs la s.lo s.hi = A) := hA
        have HAB : Hid (∀ x ∈ A, x.at_.lt s.lo = false ∧ x.at_.lt s.hi = true) := fun x hx => changes_between (hA ▸ hx)
        have HAL : Hid (A.length ≤ 1099511627776) := by
          have := changes_length evs la s.lo s.hi
          have e1 := HA1.out.1.length_eq
          have e2 := comm_len cms
          have e3 := HN.out
          have : la.length * evs.length ≤ 1048576 * 1048576 := Nat.mul_le_mul (by omega) e3.1
          show A.length ≤ _
          rw [← hA]; omega
        rw [hA] at HA1
        clear hA
        have HAR : Aside (Rd Ver.cells 6 w8 w5.heap.size va A) := ((Rd.of_own Ver.len HA1.out.2.2.1).keep HA2.out.2.2.2).keep HA3.out.2.2.2
        obtain ⟨aa, ca, rfl, hca, hra⟩ := HAR.out
        have HRA : Hid (A = [] ∨ ∃ b off, aa = some ⟨b, off, none⟩ ∧ b < w8.heap.size ∧ ∀ i x, A[i]? = some x → ∀ j u, (Ver.cells x)[j]? = some u → w8.cell? ⟨b, off + i * 6 + j, none⟩ = some u) := by
          rcases hra with h | ⟨b, off, h1, h2, h3, h4⟩
          · exact Or.inl h
          · exact Or.inr ⟨b, off, h1, h3, h4⟩
        clear hca hra HB HX
        have mixed : Try.prog.follows .mixedOrders = true := by kernel_rfl
        go_wp2_with fail
        go_loopg [12] A.length (fun gq v wr => ∃ j : Nat, v = .int .i64 j ∧ j ≤ A.length ∧ Aside (Grw w8 wr) ∧ A.length - j ≤ gq)
        case atStart => exact ⟨0, rfl, Nat.zero_le _, Grw.refl _, Nat.le_refl _⟩
        case round =>
          obtain ⟨j, rfl, hj, HG, hg2⟩ := hrel
          by_cases hlt2 : j < A.length
          · obtain ⟨x, hx⟩ : ∃ x, A[j]? = some x := ⟨A[j], List.getElem?_eq_getElem hlt2⟩
            have hxb := HAB.out x (List.mem_of_getElem? hx)
            obtain ⟨b3, off3, e1, hb3, hcc⟩ : ∃ b off, aa = some ⟨b, off, none⟩ ∧ b < w8.heap.size ∧ ∀ j u, (Ver.cells x)[j]? = some u → w8.cell? ⟨b, off + _ * 6 + j, none⟩ = some u := by
              rcases HRA.out with h | ⟨b, off, h1, h2, h3⟩
              · rw [h] at hlt2; simp at hlt2
              · exact ⟨b, off, h1, h2, h3 j x hx⟩
            have hs8 := HG.out.size
            have hgc : ∀ i u, (Ver.cells x)[i]? = some u → ∀ n os, (grow (wr.drewN n) os).cell? ⟨b3, off3 + j * 6 + i, none⟩ = some u := fun i u hi => cell_grown (by simp only; omega) ((HG.out.below.cell (p := ⟨b3, off3 + j * 6 + i, none⟩) hb3).trans (hcc i u hi))
            have hst := HST8.out.keep HG.out.below
            have hgs : ∀ {n i : Nat} {cs : Array Value} {t : TypeId} {u : Value}, wr.heap[n]? = some (.cells cs t (0, 0)) → cs[i]? = some u → ∀ k os, (grow (wr.drewN k) os).cell? ⟨n, i, none⟩ = some u := fun {n i cs t u} h hu => cell_grown (Array.getElem?_eq_some_iff.1 h).1 ((cell_of_cells h i).trans hu)
            have p1 := hgc 1 _ rfl
            have p2 := hgc 2 _ rfl
            have p3 := hgc 3 _ rfl
            have q3 := hgs hst.hs (i := 3) (u := .int .u64 s.lo.wall) rfl
            have q4 := hgs hst.hs (i := 4) (u := .int .u32 s.lo.logical) rfl
            have q5 := hgs hst.hs (i := 5) (u := .int .u32 s.lo.node) rfl
            have r0 := hgs hst.hm (i := 0) (u := .int .u64 s.hi.wall) rfl
            have r1 := hgs hst.hm (i := 1) (u := .int .u32 s.hi.logical) rfl
            have r2 := hgs hst.hm (i := 2) (u := .int .u32 s.hi.node) rfl
            have hc1 : ∀ n os, Calls Try.prog 6 #[sv x.at_, sv s.lo] (grow (wr.drewN n) os) fun e w' => e = .returned (.bool false) ∧ ∃ q os', w' = grow ((grow (wr.drewN n) os).drewN q) os' := fun n os => (below_calls _ _ _).mono fun e w' h => ⟨by rw [h.1, hxb.1], h.2⟩
            have hc2 : ∀ n os, Calls Try.prog 6 #[sv x.at_, sv s.hi] (grow (wr.drewN n) os) fun e w' => e = .returned (.bool true) ∧ ∃ q os', w' = grow ((grow (wr.drewN n) os).drewN q) os' := fun n os => (below_calls _ _ _).mono fun e w' h => ⟨by rw [h.1, hxb.2], h.2⟩
            have hi1 : (j : Int) < (A.length : Int) := by omega
            have hi2 : (j : Int).toNat = j := by omega
            have hjb : j < 1099511627776 := by have := HAL.out; omega
            subst e1
            clear hgc hgs hst hcc hx hxb hs8
            go_wp2_with fail
            go_quiet_grown (first | (with_reducible exact Calls.grown_of (hc1 _ _)) | (with_reducible exact Calls.grown_of (hc2 _ _)))
            clear p1 p2 p3 q3 q4 q5 r0 r1 r2 hc1 hc2
            have HG2 : Aside (Grw w8 (grow (wr.drewN nq) osq)) := (HG.out.drewN nq).grow osq
            generalize grow (wr.drewN nq) osq = wz at HG2 ⊢
            go_wp2_with fail
            go_roundg (A.length - (j + 1))
            case measure => omega
            case rel => exact ⟨j + 1, by push_cast; rfl, hlt2, HG2.out, Nat.le_refl _⟩
          · have hi1 : ¬ (j : Int) < (A.length : Int) := by omega
            obtain ⟨B, hB⟩ : ∃ B, changes evs lb s.hi Stp.top = B := ⟨_, rfl⟩
            have HBL : Hid (A.length + B.length ≤ 1099511627776 ∧ A ++ B = changes evs lc s.lo Stp.top) := by
              have e1 := HA1.out
              have e2 := HA2.out
              have e3 := HA3.out
              have h1 : changes evs la s.lo s.hi = changes evs lc s.lo s.hi := HK.out e1.1 e1.2.1 e3.1 e3.2.1
              have h2 : changes evs lb s.hi Stp.top = changes evs lc s.hi Stp.top := HK.out e2.1 e2.2.1 e3.1 e3.2.1
              have h3 : A ++ B = changes evs lc s.lo Stp.top := by
                rw [← HAA.out, ← hB, h1, h2]
                exact changes_split e3.2.1 HBV.out (top_max HSO.out.2.1)
              have h4 := changes_length evs lc s.lo Stp.top
              rw [← h3, List.length_append] at h4
              have h5 := e3.1.length_eq
              have h6 := comm_len cms
              have h7 := HN.out
              have : lc.length * evs.length ≤ 1048576 * 1048576 := Nat.mul_le_mul (by omega) h7.1
              exact ⟨by omega, h3⟩
            rw [hB] at HA2
            clear hB
            have HBW : Aside (Below w5.heap.size w5 w6 ∧ Below w6.heap.size w6 wr ∧ Below w7.heap.size w7 wr ∧ Below w8.heap.size w8 wr) := ⟨HA1.out.2.2.2, (HA2.out.2.2.2.trans (HA3.out.2.2.2.mono HA2.out.2.2.2.size)).trans (HG.out.below.mono (Nat.le_trans HA2.out.2.2.2.size HA3.out.2.2.2.size)), HA3.out.2.2.2.trans (HG.out.below.mono HA3.out.2.2.2.size), HG.out.below⟩
            have HO1 : Aside (wr.ownsRow w5.heap.size 47 6 (.slice aa A.length ca) A.length (A.flatMap Ver.cells)) := own_below HA1.out.2.2.1 HBW.out.2.1
            have HO2 : Aside (wr.ownsRow w6.heap.size 47 6 vb B.length (B.flatMap Ver.cells)) := own_below HA2.out.2.2.1 HBW.out.2.2.1
            have HRC : Aside (Rd Ver.cells 6 wr w7.heap.size vc (changes evs lc s.lo Stp.top)) := (Rd.of_own Ver.len HA3.out.2.2.1).keep HBW.out.2.2.2
            obtain ⟨ab, cb, rfl⟩ : ∃ a c, vb = .slice a B.length c := by
              obtain ⟨a, c, h, _⟩ := Rd.of_own Ver.len HO2.out
              exact ⟨a, c, h⟩
            have HRB : Aside (Reads wr wr.heap.size 6 ab B.length (B.flatMap Ver.cells)) := Reads.of_own HO2.out
            have HON : Hid ((∀ u ∈ B.flatMap Ver.cells, u.oneCell' = true) ∧ w5.heap.size ≤ wr.heap.size) := ⟨fun u hu => by
              obtain ⟨x, _, hx⟩ := List.mem_flatMap.1 hu
              exact x.one u hx, Nat.le_trans HBW.out.1.size HBW.out.2.1.size⟩
            obtain ⟨i0, hi0, hz0, hz1, hz2⟩ := info_parts infoVer
            have HLT : Hid (∀ g, (Value.slice aa A.length ca).ownBlock = some g → w5.heap.size ≤ g ∧ g < w7.heap.size) := fun g hg => by
              have := HA1.out.2.2.1.lt g hg
              have := HA2.out.2.2.2.size
              omega
            clear HA1 HA2 HA3 HAR HRA HAA HAB HO2
            have HMX : Hid (A.length + B.length ≤ maxLen ∧ (A.length + B.length) * 56 ≤ 140737488355328) := by
              have := HBL.out.1
              refine ⟨?_, ?_⟩
              · unfold maxLen; omega
              · omega
            go_wp2_with (at_builtin
                         refine wpList_append_any _ rfl (.tmp 78) (.tmp 79) _ rfl w5.heap.size 47 i0 _ 6 56 Try.underlying44 hi0 hz0 hz1 hz2 rfl (by omega) (.slice aa A.length ca) A.length _ rfl HO1.out wr.heap.size ab B.length cb _ rfl HRB.out HON.out.1 HMX.out.1 HMX.out.2 HON.out.2 ?_
                         intro v' w9 hown9 hg9 _
                         have HO9 : Aside _ := hown9
                         have HG9 : Aside _ := hg9
                         clear hown9 hg9)
            have hr1 : Rd Ver.cells 6 w9 0 v' (changes evs lc s.lo Stp.top) := by
              have h := HO9.out
              rw [← List.length_append, ← List.flatMap_append, HBL.out.2] at h
              exact (Rd.of_own Ver.len h).weaken (Nat.zero_le _)
            have hr2 : Rd Ver.cells 6 w9 0 vc (changes evs lc s.lo Stp.top) := (rd_grown HRC.out HG9.out (fun g hg => (HLT.out g hg).2)).weaken (Nat.zero_le _)
            have hl : (changes evs lc s.lo Stp.top).length ≤ 4398046511104 := by
              rw [← HBL.out.2, List.length_append]
              have := HBL.out.1
              omega
            refine Calls.mono (same_calls _ _ _ w9 hr1 hr2 hl) ?_
            clear hr1 hr2 hl
            rintro e w10 ⟨rfl, hg10⟩
            have HGA : Aside (Grw w9 w10) := hg10
            clear hg10
            go_wp2_with fail
            go_roundg (ls.length - (k + 1))
            case measure => omega
            case rel =>
              refine ⟨k + 1, by push_cast; rfl, hlt, ⟨?_, ?_⟩, Nat.le_refl _⟩
              · have h1 := HST8.out.below.trans (HG.out.below.mono HST8.out.below.size)
                have h2 := h1.grown HG9.out h1.size (fun g hg => by have := (HLT.out g hg).1; have := HW5.out; omega)
                exact h2.trans (HGA.out.below.mono h2.size)
              · have h0 := (HST8.out.keep HG.out.below).hbox
                have hl := (Array.getElem?_eq_some_iff.1 h0).1
                have h3 := (HG9.out.block _ hl (fun e => by have := (HLT.out _ e.symm).1; have := HW5.out; omega)).trans h0
                exact (HGA.out.below.block _ (Array.getElem?_eq_some_iff.1 h3).1).trans h3
      · go_wp2_with fail
        go_roundg (ls.length - (k + 1))
        case measure => omega
        case rel => exact ⟨k + 1, by push_cast; rfl, hlt, ⟨HST.out.below, HST.out.hbox⟩, Nat.le_refl _⟩
    · have hi1 : ¬ (k : Int) < (ls.length : Int) := by omega
      go_wp2_with fail
      go_ret
      exact ⟨rfl, HB.out.1⟩
end Go.Proofs.Ytgpagjocjcpbhaa
