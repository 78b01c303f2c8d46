/-
  The walk over audit.read: what each transaction has written, by its events.
-/
import Derived.Test.YtgpagjocjcpbhaaTmHst2
import Derived.Deep.DeepCutAuto
import Derived.StillTailTactics
namespace Go.Proofs.Ytgpagjocjcpbhaa
open Go.Shelf Go.RowKit Go.Lib Go.Sort Go.Tm.Stab Go.Tm

set_option maxHeartbeats 4000000 in
set_option maxRecDepth 1000000 in
theorem read_calls (r : RV) (evs : List Ev) (cms : List Ent) (w : World) (hE : Rd Ev.cells 20 w 0 (slv r.events) evs) (hC : Rd Ent.cells 7 w 0 (slv r.commits) cms) (hel : evs.length ≤ 1048576) (hcl : cms.length ≤ 1048576) :
    Calls Try.prog 20 #[rv r] w fun e w' => e = .returned (.pointer (some ⟨w.heap.size + 1 + 1 + 1, 0, none⟩)) ∧ ∃ L, Hs2 w r w' L evs := by
  obtain ⟨i0, hi, hz0, hz1, hz2⟩ := info_parts infoEnt
  have HE : Aside (Rd Ev.cells 20 w 0 (slv r.events) evs) := hE
  obtain ⟨ca, cc, hsl, hcc, hrow⟩ := hC
  have hc1 : r.commits.1 = ca := by injection hsl
  have hc2 : r.commits.2.1 = cms.length := by injection hsl
  have HC : Hid (r.commits.1 = ca ∧ r.commits.2.1 = cms.length) := ⟨hc1, hc2⟩
  have HR : Hid (cms = [] ∨ ∃ b off, ca = some ⟨b, off, none⟩ ∧ 0 ≤ b ∧ b < w.heap.size ∧ ∀ i x, cms[i]? = some x → ∀ j u, (Ent.cells x)[j]? = some u → w.cell? ⟨b, off + i * 7 + j, none⟩ = some u) := hrow
  clear hsl hc1 hc2 hrow hE hcc
  go_enter Try.func20, Try.ntmps20
  have hmm := @run_makeMap Try.prog
  have hmn : ∀ (w : World) (r : Option Nat), (binOp .eql 77 (.map r) (.map none)).run Try.prog w = .ok (.bool r.isNone) w := fun w r => run_eql_map_nil w _ _ _ r Try.underlying77
  go_wp2
  go_loopg [17] cms.length (fun gq v wr => ∃ (n : Nat) (cv : Value) (am : List (Tx × Stp)), v = .int .i64 n ∧ n ≤ cms.length ∧ Aside (Hst w r wr 58 cv (comm (cms.take n)) am []) ∧ cms.length - n ≤ gq)
  case atStart =>
    exact ⟨0, .slice none 0 0, [], rfl, Nat.zero_le _, hst_start w r _ _ _ , Nat.le_refl _⟩
  case round =>
    obtain ⟨n, cv, am, rfl, hn, HS, hg⟩ := hrel
    have HCo := HC.out.2
    have HNC : Hid (n ≤ cms.length) := hn
    by_cases hlt : n < cms.length
    · have hi1 : (n : Int) < (r.commits.2.1 : Int) := by omega
      have hi2 : (n : Int).toNat = n := by omega
      obtain ⟨x, hx⟩ : ∃ x, cms[n]? = some x := ⟨cms[n], List.getElem?_eq_getElem hlt⟩
      obtain ⟨b, off, hca, hbl, hcell⟩ : ∃ b off, r.commits.1 = some ⟨b, off, none⟩ ∧ b < w.heap.size ∧ ∀ j u, (Ent.cells x)[j]? = some u → wr.cell? ⟨b, off + n * 7 + j, none⟩ = some u := by
        rcases HR.out with h | ⟨b, off, h1, _, h3, h4⟩
        · rw [h] at hlt; simp at hlt
        · refine ⟨b, off, HC.out.1.trans h1, h3, fun j u hj => ?_⟩
          rw [HS.out.below.cell (p := ⟨b, off + n * 7 + j, none⟩) h3]
          exact h4 n x hx j u hj
      have k0 := hcell 0 _ rfl
      have k1 := hcell 1 _ rfl
      have k2 := hcell 2 _ rfl
      have k3 := hcell 3 _ rfl
      have k4 := hcell 4 _ rfl
      have k5 := hcell 5 _ rfl
      have k6 := hcell 6 _ rfl
      rw [Nat.add_zero] at k0
      clear hcell HCo
      have HX : Hid (cms[n]? = some x) := hx
      have f13 := HS.out.c13
      have hws : w.heap.size + 1 + 1 + 1 < wr.heap.size := by have := HS.out.size; omega
      clear hx
      by_cases hcm : x.outcome = 1
      · have hb1 : (x.outcome == 1) = true := by simp [hcm]
        have HCM : Hid (x.outcome = 1) := hcm
        have HLT : Hid (n < cms.length) := hlt
        have HCN : Hid ((comm (cms.take n)).length + 1 ≤ maxLen ∧ ((comm (cms.take n)).length + 1) * 40 ≤ 140737488355328) := by
          have := comm_len (cms.take n)
          rw [List.length_take] at this
          show _ ∧ _
          unfold maxLen
          omega
        clear hcm
        go_wp2_with fail
        have HCA : Hid (r.commits.1 = some ⟨b, off, none⟩) := hca
        clear hca
        go_cut [] (fun wx => ∃ cv', Aside (Hst w r wx 58 cv' (comm (cms.take n) ++ [x]) am []) ∧ wx.heap[wr.heap.size]? = some (.cells x.cells.toArray 58 (0, 0)))
        case first =>
          have e13 := HS.out.f13
          have hws2 : w.heap.size + 1 + 1 + 1 < wr.heap.size + 1 := by omega
          go_region_law (refine step_append_own rfl _ _ 38 rfl (w.heap.size + 4) 58 i0 (.agg #[.int .u32 0, .int .u32 0, .int .u32 0, .int .i64 0, .int .u64 0, .int .u32 0, .int .u32 0]) 7 40 Try.underlying38 hi hz0 hz1 hz2 rfl (by decide) cv (comm (cms.take n)).length (List.flatMap Ent.cells (comm (cms.take n))) rfl (HS.out.own_behind _ _).drew ⟨wr.heap.size + 1, 0, none⟩ 1 1 x.cells rfl rfl (last_cells2 wr x.cells 58) x.one HCN.out.1 HCN.out.2 (HS.out.base2 _ _) ?_
                         intro v' w6 hown6 hgr6 _
                         obtain ⟨g, cap, rfl⟩ := own_form hown6
                         have HO6 : Aside (w6.ownsRow (w.heap.size + 4) 58 7 (.slice (some ⟨g, 0, none⟩) ((comm (cms.take n)).length + 1) cap) ((comm (cms.take n)).length + 1) (List.flatMap Ent.cells (comm (cms.take n)) ++ x.cells)) := hown6
                         have HG6 : Aside (wr.grownBy w6 cv.ownBlock) := grown_pre2 hgr6
                         have HE6 : Aside (w6.heap[wr.heap.size]? = some (.cells x.cells.toArray 58 (0, 0))) := HS.out.held hgr6
                         have g13 := HS.out.g13 HG6.out
                         have h13 := HS.out.h13 HG6.out
                         clear hown6 hgr6)
          all_goals go_wp2_with fail
          all_goals go_meet
          all_goals exact ⟨_, HS.out.appended HG6.out HO6.out, (Below.heap_setCell _ _ _ _ (by simp; omega)).trans HE6.out⟩
        case rest =>
          obtain ⟨cv', HS6, he6⟩ := hcut
          have HE6 : Aside (wc.heap[wr.heap.size]? = some (.cells x.cells.toArray 58 (0, 0))) := he6
          have q14 := HS6.out.c14
          have p0 : wc.cell? ⟨wr.heap.size, 0, none⟩ = some (.int .u32 x.txn.client) := cell_of_cells he6 0
          have p1 : wc.cell? ⟨wr.heap.size, 1, none⟩ = some (.int .u32 x.txn.seq) := cell_of_cells he6 1
          have p4 : wc.cell? ⟨wr.heap.size, 4, none⟩ = some (.int .u64 x.at_.wall) := cell_of_cells he6 4
          have p5 : wc.cell? ⟨wr.heap.size, 5, none⟩ = some (.int .u32 x.at_.logical) := cell_of_cells he6 5
          have p6 : wc.cell? ⟨wr.heap.size, 6, none⟩ = some (.int .u32 x.at_.node) := cell_of_cells he6 6
          clear he6 f13
          go_wp2_with fail
          go_still_tail 8, (by kernel_rfl)
          change wpList _ _ _ _ _ wc.drew
          obtain ⟨o, hup, hmap⟩ := run_update (P := Try.prog) (w := wc.drew) txn_law Try.underlying78 (HS6.out.at_.of_heap rfl) x.txn x.at_
          have HM : Aside (MapIs (wc.drew.putObj (w.heap.size + 1) o) (w.heap.size + 1) tv sv (insM am x.txn x.at_)) := hmap
          clear hmap
          go_wp2_with fail
          go_roundg (cms.length - (n + 1))
          case measure => have := HLT.out; omega
          case rel =>
            have hcs := comm_succ HX.out
            rw [if_pos HCM.out] at hcs
            refine ⟨n + 1, cv', insM am x.txn x.at_, by push_cast; rfl, HLT.out, ?_, Nat.le_refl _⟩
            have h1 : Hst w r wc.drew 58 cv' (comm (cms.take n) ++ [x]) am [] := HS6.out.keep (Below.refl _ _).drew
            rw [hcs]
            exact h1.putAt HM.out
      · have hb1 : (x.outcome == 1) = false := by simp [hcm]
        have HCM : Hid (¬ x.outcome = 1) := hcm
        clear hcm
        go_wp2_with fail
        go_roundg (cms.length - (n + 1))
        case measure => omega
        case rel =>
          have hcs := comm_succ HX.out
          rw [if_neg HCM.out, List.append_nil] at hcs
          refine ⟨n + 1, cv, am, by push_cast; rfl, hlt, ?_, Nat.le_refl _⟩
          rw [hcs]
          exact HS.out.keep ((Below.refl _ _).alloc (Nat.le_refl _) _)
    · have hi1 : ¬ (n : Int) < (r.commits.2.1 : Int) := by omega
      have hnn : n = cms.length := by omega
      have f13 := HS.out.c13
      have con := sortEnts_calls 26 (enters_of Try.func26 (by kernel_rfl) rfl) auditCompare_calls cv (comm (cms.take n)) wr (Held.of_own Ent.len HS.out.own) (by
        have := comm_len (cms.take n)
        rw [List.length_take] at this
        omega)
      change Calls Try.prog 16 _ _ _ at con
      have CON : Aside _ := con
      clear HCo con hnn hn hg
      go_wp2_with fail
      refine Calls.mono CON.out ?_
      clear CON f13
      rintro e w2 ⟨rfl, l', _, _, _, hgr, _⟩
      have H2 : Aside (Hs2 w r w2 [] []) := HS.out.read hgr
      have c7 := H2.out.c7
      clear hgr HS HNC
      obtain ⟨ea, ec, hsl, hec, hrow⟩ := HE.out
      have he1 : r.events.1 = ea := by injection hsl
      have he2 : r.events.2.1 = evs.length := by injection hsl
      have HEV : Hid (r.events.1 = ea ∧ r.events.2.1 = evs.length) := ⟨he1, he2⟩
      have HER : Hid (evs = [] ∨ ∃ b off, ea = some ⟨b, off, none⟩ ∧ 0 ≤ b ∧ b < w.heap.size ∧ ∀ i x, evs[i]? = some x → ∀ j u, (Ev.cells x)[j]? = some u → w.cell? ⟨b, off + i * 20 + j, none⟩ = some u) := hrow
      clear hsl he1 he2 hrow hec HE HR hi1 hlt
      go_wp2_with fail
      go_loopg [51] evs.length (fun gq v wr => ∃ (n : Nat) (L : List (Tx × Nat)), v = .int .i64 n ∧ n ≤ evs.length ∧ Aside (Hs2 w r wr L (evs.take n)) ∧ evs.length - n ≤ gq)
      case atStart =>
        exact ⟨0, [], rfl, Nat.zero_le _, H2, Nat.le_refl _⟩
      case round =>
        clear c7 H2
        obtain ⟨n, L, rfl, hn, HS, hg⟩ := hrel
        have HEo := HEV.out.2
        by_cases hlt : n < evs.length
        · have hi1 : (n : Int) < (r.events.2.1 : Int) := by omega
          have hi2 : (n : Int).toNat = n := by omega
          obtain ⟨x, hx⟩ : ∃ x, evs[n]? = some x := ⟨evs[n], List.getElem?_eq_getElem hlt⟩
          obtain ⟨b, off, hca, hbl, hcell⟩ : ∃ b off, r.events.1 = some ⟨b, off, none⟩ ∧ b < w.heap.size ∧ ∀ j u, (Ev.cells x)[j]? = some u → wr.cell? ⟨b, off + n * 20 + j, none⟩ = some u := by
            rcases HER.out with h | ⟨b, off, h1, _, h3, h4⟩
            · rw [h] at hlt; simp at hlt
            · refine ⟨b, off, HEV.out.1.trans h1, h3, fun j u hj => ?_⟩
              rw [HS.out.below.cell (p := ⟨b, off + n * 20 + j, none⟩) h3]
              exact h4 n x hx j u hj
          have HX : Hid (evs[n]? = some x) := hx
          have HLT : Hid (n < evs.length) := hlt
          have HCELL : Aside (wr.rangeAt b (off + n * 20) x.cells) := hcell
          have hws : w.heap.size + 1 + 1 + 1 < wr.heap.size := by have := HS.out.size; omega
          clear hcell HEo hx
          go_upto_region 13 with (first | (refine wpList_load_mid rfl 70 _ rfl b (off + n * 20) rfl x.cells _ HCELL.out Try.underlying70 rfl rfl ?_) | (refine wpList_store_new rfl 70 _ _ rfl _ x.cells.toArray rfl rfl rfl rfl (all_oneCell_toArray x.one) ?_))
          rw [← hca]
          have HA : Hid ((wr.alloc (.cells x.cells.toArray 70)).heap[wr.heap.size]? = some (.cells x.cells.toArray 70 (0, 0))) := World.alloc_heap_new _ _
          have HG : Hid (evs.length - n ≤ gk) := hg
          clear hca HCELL hbl hg
          go_wp2_with (first | (refine wpList_load_mid rfl 68 _ rfl wr.heap.size 2 rfl x.ans.cells _ (range_ans HA.out) Try.underlying68 rfl rfl ?_))
          refine Calls.mono (isWrite_calls x.ans _) ?_
          rintro e w3 ⟨rfl, hgr⟩
          have HS3 : Aside (Hs2 w r w3 L (evs.take n)) := HS.out.keep (((Below.refl _ _).alloc (Nat.le_refl _) _).trans (hgr.below.mono (by simp)))
          have HE3 : Aside (w3.heap[wr.heap.size]? = some (.cells x.cells.toArray 70 (0, 0))) := (hgr.below.block _ (by simp)).trans HA.out
          have hws3 : Hid (w.heap.size + 4 ≤ wr.heap.size ∧ wr.heap.size < w3.heap.size) := ⟨HS.out.size, by have := hgr.size; simp at this; omega⟩
          clear hgr HA HS
          cases hiw : x.ans.isWrite with
          | false =>
            have HIW : Hid (x.ans.isWrite = false) := hiw
            clear hiw
            go_wp2_with fail
            go_roundg (evs.length - (n + 1))
            case measure => have := HLT.out; have := HG.out; omega
            case rel =>
              have ht : evs.take (n + 1) = evs.take n ++ [x] := by rw [List.take_add_one, HX.out]; rfl
              refine ⟨n + 1, L, by push_cast; rfl, HLT.out, ?_, Nat.le_refl _⟩
              rw [ht]
              exact HS3.out.skip HIW.out
          | true =>
            have HIW : Hid (x.ans.isWrite = true) := hiw
            clear hiw
            have c15 := HS3.out.c15
            have p3 : w3.cell? ⟨wr.heap.size, 3, none⟩ = some (.int .u32 x.ans.txn.client) := cell_of_cells HE3.out 3
            have p4 : w3.cell? ⟨wr.heap.size, 4, none⟩ = some (.int .u32 x.ans.txn.seq) := cell_of_cells HE3.out 4
            have hl := run_lookup (P := Try.prog) (w := w3.drew) txn_law Try.underlying79 (z := .map none) (fun w => by go_simp) (HS3.out.writes.of_heap rfl) x.ans.txn
            obtain ⟨m8, hq⟩ : ∃ m8, getM L x.ans.txn = m8 := ⟨_, rfl⟩
            have hlk : (Instr.lookup 79 (.map (some (w.heap.size + 1 + 1))) (tv x.ans.txn) false).run Try.prog w3.drew = .ok (.map m8) w3.drew := by
              rw [hq] at hl
              cases m8 <;> exact hl
            have HQ : Hid (getM L x.ans.txn = m8) := hq
            clear hl hq
            go_wp2_with fail
            go_still_tail 7, (by kernel_rfl)
            change wpList _ _ _ _ _ w3.drew
            go_upto_if 67 with fail
            go_cut [8] (fun v8 wx => ∃ (ri : Nat) (L' : List (Tx × Nat)), v8 = .map (some ri) ∧ Aside (Hs2 w r wx L' (evs.take n)) ∧ Hid ((x.ans.txn, ri) ∈ L') ∧ Hid (wx.heap[wr.heap.size]? = some (.cells x.cells.toArray 70 (0, 0))) ∧ Hid (w.heap.size + 4 ≤ wr.heap.size ∧ wr.heap.size < wx.heap.size))
            case first =>
              clear hlk
              cases m8 with
              | some ri =>
                go_wp2_with fail
                go_meet
                case rel => exact ⟨ri, L, rfl, HS3.out.keep (Below.refl _ _).drew, getM_mem HQ.out, HE3.out, hws3.out⟩
              | none =>
                clear p3 p4 c15
                have h4 : Hs2 w r (w3.alloc (.map #[] 0)).drew L (evs.take n) := HS3.out.keep ((Below.refl _ _).alloc (Nat.le_refl _) _).drew
                have he4 : (w3.alloc (.map #[] 0)).drew.heap[wr.heap.size]? = some (.cells x.cells.toArray 70 (0, 0)) := (Below.heap_alloc _ _ _ hws3.out.2).trans HE3.out
                have hm4 : MapIs (w3.alloc (.map #[] 0)).drew w3.heap.size Value.string wv ([] : List (ByteArray × Wr)) := made_at w3 rfl
                have hsz4 : w3.heap.size + 1 = (w3.alloc (.map #[] 0)).drew.heap.size := by show _ = (w3.alloc (.map #[] 0)).heap.size; simp
                have HF : Hid (∀ p ∈ L, p.2 ≠ w3.heap.size) := fun p hp e => by have := (HS3.out.inner p hp).lt; omega
                go_wp2_with fail
                generalize (w3.alloc (.map #[] 0)).drew = w4 at *
                have HS4 : Aside (Hs2 w r w4 L (evs.take n)) := h4
                have HE4 : Hid (w4.heap[wr.heap.size]? = some (.cells x.cells.toArray 70 (0, 0))) := he4
                have HM4 : Aside (MapIs w4 w3.heap.size Value.string wv ([] : List (ByteArray × Wr))) := hm4
                have HZ4 : Hid (w3.heap.size + 1 = w4.heap.size) := hsz4
                have c15 := h4.c15
                have p3 : w4.cell? ⟨wr.heap.size, 3, none⟩ = some (.int .u32 x.ans.txn.client) := cell_of_cells he4 3
                have p4 : w4.cell? ⟨wr.heap.size, 4, none⟩ = some (.int .u32 x.ans.txn.seq) := cell_of_cells he4 4
                clear h4 he4 hm4 hsz4
                go_still_tail 8, (by kernel_rfl)
                change wpList _ _ _ _ _ w4.drew
                obtain ⟨o, hup, hmap⟩ := run_update (P := Try.prog) (w := w4.drew) txn_law Try.underlying79 (HS4.out.writes.of_heap rfl) x.ans.txn w3.heap.size
                have HM : Aside (MapIs (w4.drew.putObj (w.heap.size + 2) o) (w.heap.size + 2) tv (fun r => Value.map (some r)) (insM L x.ans.txn w3.heap.size)) := hmap
                have hup2 : (Instr.mapUpdate 79 (.map (some (w.heap.size + 1 + 1))) (tv x.ans.txn) (.map (some w3.heap.size))).run Try.prog w4.drew = .ok () (w4.drew.putObj (w.heap.size + 1 + 1) o) := hup
                clear hmap hup
                go_wp2_with fail
                go_meet
                case rel =>
                  have hL : x.ans.txn ∉ L.map (·.1) := getM_none.1 HQ.out
                  have h5 := hws3.out
                  have h6 := HZ4.out
                  refine ⟨w3.heap.size, insM L x.ans.txn w3.heap.size, rfl, (HS4.out.keep (w1 := w4.drew) (Below.refl _ _).drew).putWrites hL (HM4.out.of_heap rfl) (by omega) HF.out HM.out, ?_, ?_, ?_⟩
                  · show _ ∈ _
                    rw [insM_new _ hL]; simp
                  · show (w4.drew.putObj (w.heap.size + 2) o).heap[wr.heap.size]? = _
                    rw [World.putObj_heap_other (by omega)]; exact HE4.out
                  · show _ ∧ _
                    refine ⟨h5.1, ?_⟩
                    show wr.heap.size < (w4.drew.putObj (w.heap.size + 2) o).heap.size
                    rw [World.putObj_size]
                    show wr.heap.size < w4.heap.size
                    omega
            case rest =>
              obtain ⟨ri, L', rfl, HS4, HP4, HE4, hws4⟩ := hcut
              clear hlk p3 p4 c15 HS3 HE3 hws3 HQ
              have p5 : wc.cell? ⟨wr.heap.size, 5, none⟩ = some (.int .i64 x.ans.op.kind) := cell_of_cells HE4.out 5
              have p6 : wc.cell? ⟨wr.heap.size, 6, none⟩ = some (.bool x.ans.op.ro) := cell_of_cells HE4.out 6
              have p7 : wc.cell? ⟨wr.heap.size, 7, none⟩ = some (.bool x.ans.op.asOf) := cell_of_cells HE4.out 7
              have p8 : wc.cell? ⟨wr.heap.size, 8, none⟩ = some (.bool x.ans.op.back) := cell_of_cells HE4.out 8
              have p9 : wc.cell? ⟨wr.heap.size, 9, none⟩ = some (.string x.ans.op.token) := cell_of_cells HE4.out 9
              have p10 : wc.cell? ⟨wr.heap.size, 10, none⟩ = some (.string x.ans.op.key) := cell_of_cells HE4.out 10
              have p11 : wc.cell? ⟨wr.heap.size, 11, none⟩ = some (.string x.ans.op.hi) := cell_of_cells HE4.out 11
              have p12 : wc.cell? ⟨wr.heap.size, 12, none⟩ = some (.string x.ans.op.value) := cell_of_cells HE4.out 12
              have p13 : wc.cell? ⟨wr.heap.size, 13, none⟩ = some (.int .i64 x.ans.op.limit) := cell_of_cells HE4.out 13
              go_wp2_with fail
              go_region_with (refine Calls.mono (writeOf_calls x.ans.op _) ?_
                              rintro e w5 ⟨rfl, hgr⟩
                              have HS5 : Aside (Hs2 w r w5 L' (evs.take n)) := HS4.out.keep ((Below.refl _ wc).drew.trans hgr.below)
                              have q10 : w5.cell? ⟨wr.heap.size, 10, none⟩ = some (.string x.ans.op.key) := (hgr.below.cell (p := ⟨wr.heap.size, 10, none⟩) hws4.out.2).trans p10
                              obtain ⟨o, hup, hmap⟩ := run_update (P := Try.prog) (w := w5) (string_law Try.underlying9) Try.underlying77 (HS5.out.inner _ HP4.out) x.ans.op.key x.ans.op.write
                              have HM : Aside (MapIs (w5.putObj ri o) ri Value.string wv (insM (lastW (evs.take n) x.ans.txn) x.ans.op.key x.ans.op.write)) := hmap
                              clear hmap hgr)
              all_goals go_wp2_with fail
              all_goals
                go_roundg (evs.length - (n + 1))
                case measure => have := HLT.out; have := HG.out; omega
                case rel =>
                  have ht : evs.take (n + 1) = evs.take n ++ [x] := by rw [List.take_add_one, HX.out]; rfl
                  refine ⟨n + 1, L', by push_cast; rfl, HLT.out, ?_, Nat.le_refl _⟩
                  rw [ht]
                  exact HS5.out.putInner HP4.out HIW.out HM.out
        · have hi1 : ¬ (n : Int) < (r.events.2.1 : Int) := by omega
          have HN : Hid (n = evs.length) := by show _ = _; omega
          clear HEo hn hg
          go_wp2_with fail
          go_ret
          refine ⟨rfl, L, ?_⟩
          have := HS.out
          rw [HN.out, List.take_length] at this
          exact this
end Go.Proofs.Ytgpagjocjcpbhaa
