/-
  FeedSplits, where what it reads is of bulk at most 1048576: changes up to a stamp and from it on are the changes in one, and lie between their stamps; the input reads as it did. Conditions: none beside the statement's own bound.
-/
import Derived.Test.YtgpagjocjcpbhaaTmData
import Derived.Test.YtgpagjocjcpbhaaRows
import Derived.ProofKit
import Derived.OpenShut
import Derived.JoinedCond
import Derived.Carry
namespace Go.Proofs.Ytgpagjocjcpbhaa.feedSplits
open Go.ChangeShapes Go.WideShapes Go.ChangeAt Go.RowKit Go.Tm

theorem own : ownKnob Try.prog.godebug = none := by kernel_rfl
theorem laidOut : laidOutB Try.prog = true := by kernel_rfl
theorem leavesCase : leaves Try.prog 6 25 = [22, 23] := by kernel_rfl
theorem leavesStep : leaves Try.prog 6 32 = [3, 3, 3, 27, 28, 28, 27, 28, 28] := by kernel_rfl

section
variable {H : Type} {enc : TypeId × Value → H} {P : Program}
theorem post_of_below {f : Func} {s : ChangeSpec} {apart fresh handsOn again : Bool} {W W' : World} {args : Array Value} {v : Value} {ds gs : List (DataW H)} {before pa pv : List MemPlace}
    (hW : DataW.Whole enc P f.params.toList s.vars apart W args.toList ds gs before)
    (hres : ∀ (b : Nat) (sp : Nat → Bool) (hd : Bool), DataW.TrodAll enc P W' b sp hd f.resultTypes.toList (v.resultList f.resultTypes.size) (s.fn H (ds ++ gs)).results [])
    (hargs : ∀ sp : Nat → Bool, (∀ p ∈ before, sp p.block = true) → DataW.TrodAll enc P W' 0 sp true f.params.toList args.toList (s.fn H (ds ++ gs)).args pa)
    (hvars : ∀ sp : Nat → Bool, (∀ p ∈ before, sp p.block = true) → DataW.TrodVars enc P W' sp s.vars (s.fn H (ds ++ gs)).vars pv)
    (hps : before = pa ++ pv) (hb : Below W.heap.size W W')
    (hok : ∀ (j : Nat) (t : TypeId) (r : Value), f.resultTypes[j]? = some t → (v.resultList f.resultTypes.size)[j]? = some r → Value.okWide P W' .any 0 t r) :
    s.post enc P f apart fresh handsOn again W args v W' := by
  have hlt : ∀ p ∈ before, p.block < W.heap.size := fun p hp => hW.lt p hp
  have hold : ∀ p ∈ before, (fun b => decide (b < W.heap.size)) p.block = true := fun p hp => by simpa using hlt p hp
  refine ⟨ds, gs, before, [], pa, pv, hW, hres _ _ _, hargs _ hold, hvars _ hold, World.keptBut_mono (fun p hp => ⟨hp, ?_⟩) (hb.frame (· ∈ before)), fun _ => ?_⟩
  · rw [hps, List.mem_append] at hp
    exact Or.inr hp
  · obtain ⟨_, _, _, _, _, hz, hn⟩ := hW
    refine ⟨hok, _, _, ([] ++ pa) ++ pv, ⟨[] ++ pa, pv, trodAll_append (hargs _ (fun _ _ => rfl)) (hres _ _ _), hvars _ (fun _ _ => rfl), rfl, ?_, ?_⟩, ?_⟩
    · intro b off hp
      have hin : MemPlace.cell b off ∈ before := by rw [hps]; simpa using hp
      rw [hb.frozen (hlt _ hin)]
      exact hz b off hin
    · intro ha
      have := hn ha
      rw [hps] at this
      simpa using this
    · intro p hp _
      rw [hps]
      simpa using hp
end

theorem open_step {H : Type} {enc : TypeId × Value → H} {w : World} {spare : Nat → Bool} {held : Bool} {N b o : Nat} (h : LeafFrom enc w 0 spare held N (leaves Try.prog 6 32) b o) :
    ∃ a : Sp, (∀ j u, (Sp.cells a)[j]? = some u → w.cell? ⟨b, o + j, none⟩ = some u) ∧ a.lo.ok ∧ a.hi.ok ∧ -9223372036854775808 ≤ a.at_ ∧ a.at_ ≤ 9223372036854775807 := by
  rw [leavesStep] at h
  obtain ⟨z0, c0, w0⟩ := h.int 0 rfl Try.underlying3
  obtain ⟨z1, c1, w1⟩ := h.int 1 rfl Try.underlying3
  obtain ⟨z2, c2, w2⟩ := h.int 2 rfl Try.underlying3
  obtain ⟨z3, c3, w3⟩ := h.int 3 rfl Try.underlying27
  obtain ⟨z4, c4, w4⟩ := h.int 4 rfl Try.underlying28
  obtain ⟨z5, c5, w5⟩ := h.int 5 rfl Try.underlying28
  obtain ⟨z6, c6, w6⟩ := h.int 6 rfl Try.underlying27
  obtain ⟨z7, c7, w7⟩ := h.int 7 rfl Try.underlying28
  obtain ⟨z8, c8, w8⟩ := h.int 8 rfl Try.underlying28
  refine ⟨⟨z0, z1, z2, ⟨z3, z4, z5⟩, ⟨z6, z7, z8⟩⟩, fun j u hj => ?_, ?_, ?_, (wf_i64 w2).1, (wf_i64 w2).2⟩
  · match j, hj with
    | 0, hj => cases hj; exact c0
    | 1, hj => cases hj; exact c1
    | 2, hj => cases hj; exact c2
    | 3, hj => cases hj; exact c3
    | 4, hj => cases hj; exact c4
    | 5, hj => cases hj; exact c5
    | 6, hj => cases hj; exact c6
    | 7, hj => cases hj; exact c7
    | 8, hj => cases hj; exact c8
  · have := wf_u64 w3; have := wf_u32 w4; have := wf_u32 w5
    unfold Stp.ok; simp only; omega
  · have := wf_u64 w6; have := wf_u32 w7; have := wf_u32 w8
    unfold Stp.ok; simp only; omega

theorem open_case {H : Type} {enc : TypeId × Value → H} {w : World} {spare : Nat → Bool} {held : Bool} {fuel : Nat} {cs : Array Value} {x : DataW H × List MemPlace} (hcs : cs.size = Try.prog.cellsOf 25)
    (h : DataW.trod enc Try.prog w 0 spare held fuel 25 cs.toList = some x) (hN : Rows.uptoBulk x.1 ≤ 1048576) :
    ∃ (va vs : Value) (lr : List RV) (ls : List Sp), cs = #[va, vs] ∧ Rd RV.cells 13 w 0 va lr ∧ Rd Sp.cells 9 w 0 vs ls ∧ lr.length ≤ 1048576 ∧ ls.length ≤ 1048576 ∧ (∀ r ∈ lr, Good w r) ∧
      ∀ s ∈ ls, s.lo.ok ∧ s.hi.ok ∧ -9223372036854775808 ≤ s.at_ ∧ s.at_ ≤ 9223372036854775807 := by
  have hl : cs.toList.length = Try.prog.cellsOf 25 := by rw [Array.length_toList]; exact hcs
  obtain ⟨_, hf⟩ := flat (enc := enc) (P := Try.prog) (w := w) (base := 0) (spare := spare) (held := held) 6 _ fuel cs.toList x (by kernel_rfl) h hl
  rw [leavesCase] at hf
  obtain ⟨va, m0, y0, e0, t0, b0⟩ := hf 0 _ rfl
  obtain ⟨vs, m1, y1, e1, t1, b1⟩ := hf 1 _ rfl
  have hc2 : Try.prog.cellsOf 25 = 2 := by kernel_rfl
  have hcs2 : cs = #[va, vs] := by
    obtain ⟨l⟩ := cs
    rw [hc2] at hl
    match l, hl with
    | [p, q], _ => simp at e0 e1; rw [e0, e1]
  obtain ⟨lr, hr1, hr2, hr3⟩ := open_rd (ec := RV.cells) (Q := fun r => Good w r) (n := 6) (k := 13) Try.underlying22 (by kernel_rfl) (by kernel_rfl) (by omega) t0 (Nat.le_trans b0 hN) (fun b o h => open_res (Nat.le_refl _) h)
  obtain ⟨ls, hs1, hs2, hs3⟩ := open_rd (ec := Sp.cells) (Q := fun s : Sp => s.lo.ok ∧ s.hi.ok ∧ -9223372036854775808 ≤ s.at_ ∧ s.at_ ≤ 9223372036854775807) (n := 6) (k := 9) Try.underlying23 (by kernel_rfl) (by kernel_rfl) (by omega) t1 (Nat.le_trans b1 hN) (fun b o h => open_step h)
  exact ⟨va, vs, lr, ls, hcs2, hr1, hs1, hr2, hs2, hr3, hs3⟩

set_option maxRecDepth 100000 in
theorem contract (H : Type) (enc : TypeId × Value → H) (W : World) (base : Nat) (args : Array Value) (ds gs : List (DataW H)) (before : List MemPlace)
    (hval : ∀ (j : Nat) t v, Try.f3.params[j]? = some t → args[j]? = some v → Value.okWide Try.prog W .any base t v)
    (hW : DataW.Whole enc Try.prog Try.f3.params.toList Rows.feedSplitsSpec.vars false W args.toList ds gs before) (hk : Rows.uptoSmall H (ds ++ gs) = true) :
    Calls Try.prog 3 args W fun e W' => ∃ v, e = .returned v ∧ Rows.feedSplitsSpec.post enc Try.prog Try.f3 false true false false W args v W' := by
  have hW' := hW
  obtain ⟨p, q, hA0, hV, rfl, hfz, hnd⟩ := hW
  have hA : DataW.TrodAll enc Try.prog W 0 (fun _ => true) true Try.f3.params.toList args.toList ds p := hA0
  rw [Try.params3] at hA hval
  obtain ⟨v0, vs0, d0, ds0, p0, q0, hargs, rfl, rfl, h0, r0⟩ := trodAll_cons hA
  obtain ⟨rfl, rfl, rfl⟩ := trodAll_nil r0
  obtain rfl : args = #[v0] := by cases args; simp_all
  obtain ⟨rfl, rfl⟩ := trodVars_none hV
  have h0k := h0
  obtain ⟨cs, rfl, hcs⟩ := okWide_struct Try.underlying25 (hval 0 _ v0 rfl rfl)
  obtain ⟨fuel, hf⟩ := h0
  have hk2 := of_decide_eq_true hk
  simp only [List.append_nil, Rows.uptoBulkAll, Nat.add_zero] at hk2
  obtain ⟨va, vs, lr, ls, rfl, hr, hs, hlr, hls, hgr, hgs⟩ := open_case hcs hf hk2
  clear hA0
  simp only [List.append_nil] at hW'
  have hlt : ∀ x ∈ p0, x.block < W.heap.size := fun x hx => by simpa using hW'.lt x hx
  refine (splits_calls va vs lr ls W hr hs hlr hls hgr hgs).mono fun e W' ⟨he, hb⟩ => ?_
  subst he
  refine ⟨_, rfl, post_of_below (pa := p0) (pv := []) hW' (fun _ _ _ => (trodAll_cons_mk (shut_bool Try.underlying4 _) trodAll_mk0)) (fun sp hsp => ?_) (fun _ _ => rfl) (by simp)
    hb (ok_one (by kernel_rfl) rfl (okWide_bool_mk Try.underlying4 _))⟩
  have := WideElems.Trod_stays laidOut (by kernel_rfl) (of_decide_eq_true (by kernel_rfl)) h0k (fun x hx => hb.same (hlt x hx)) (sp' := sp) (fun x hx => hsp x hx)
  have h2 := trodAll_cons_mk this trodAll_mk0
  rw [List.append_nil] at h2
  exact h2

set_option maxRecDepth 100000 in
theorem lifted (os : Os) (started : os.Started) (H : Type) (enc : TypeId × Value → H) (F : Stop.Interp) :
    ReturnsInHanded {} Try.checked os 3 .any ((Rows.OpenSpec.upto Rows.feedSplitsSpec).pre6 enc Try.prog Try.f3 Rows.feedSplitsUptoRow.domain false) (((Rows.OpenSpec.upto Rows.feedSplitsSpec).at F).post enc Try.prog Try.f3 false true false false) := by
  refine returnsInHanded_of_cond (C := Try.checked) (s := Rows.OpenSpec.upto Rows.feedSplitsSpec) (k := Rows.uptoSmall) rfl own started (by kernel_rfl) Try.func3
    (OpenSpec.witness (enc := enc) (C := Try.checked) (s := Rows.OpenSpec.upto Rows.feedSplitsSpec) (k := Rows.uptoSmall) rfl false ⟨#[], #[.agg #[.slice none 0 0, .slice none 0 0]], []⟩ 8 (by kernel_rfl) (by kernel_rfl) (by kernel_rfl)
      (x := ([.agg [.nil, .nil]], [], [])) (by kernel_rfl) rfl (by kernel_rfl)) ?_
  intro W base args ds gs before hval hW _ hk _
  exact contract H enc W base args ds gs before hval hW hk

theorem over : Rows.feedSplitsUptoRow.holds Try.pinned (Rows.OpenSpec.upto Rows.feedSplitsSpec) :=
  OpenClaim.holds_of_cond 3 Try.f3 rfl rfl rfl rfl rfl rfl rfl ⟨rfl, rfl, rfl, rfl, rfl⟩ rfl rfl rfl rfl rfl (by kernel_rfl) Try.func3 (by kernel_rfl)
    (of_decide_eq_true (by kernel_rfl)) (by unfold Func.isWrapper; first | (rw [if_pos (by decide +kernel)]; kernel_rfl) | (rw [if_neg (by decide +kernel)]; exact ⟨rfl, rfl⟩))
    (fun os started H enc _ F => lifted os started H enc F)

theorem proved : Rows.FeedSplitsUptoSaid :=
  over
end Go.Proofs.Ytgpagjocjcpbhaa.feedSplits
