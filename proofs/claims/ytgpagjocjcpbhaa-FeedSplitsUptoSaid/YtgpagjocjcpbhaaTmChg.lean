/-
  The walk over feed.Changes: a range over the commits in order, a range over each one's writes, appends to a boxed list.
-/
import Derived.Test.YtgpagjocjcpbhaaTmIter
import Derived.Test.YtgpagjocjcpbhaaTmPure
namespace Go.Proofs.Ytgpagjocjcpbhaa
open Go.Shelf Go.RowKit Go.Lib Go.Sort Go.Tm.Stab Go.Tm
attribute [local go_sem] Oper.semAt_some

theorem infoVer : (Try.prog.info? 47).map (fun i => (i.zero, i.size, i.bytes)) = some (some (.agg #[.string ⟨#[]⟩, .int .u64 0, .int .u32 0, .int .u32 0, .bool false, .string ⟨#[]⟩]), 6, 56) := by kernel_rfl

/-- What feed.Changes hands back. -/
def ChgPost (w : World) (evs : List Ev) (cms : List Ent) (lo hi : Stp) (e : Ending) (w' : World) : Prop :=
  ∃ v l, e = .returned v ∧ l.Perm (comm cms) ∧ ByAt l ∧ w'.ownsRow w.heap.size 47 6 v (changes evs l lo hi).length ((changes evs l lo hi).flatMap Ver.cells) ∧ Below w.heap.size w w'

/-- The list that has come so far, of those from lo on. -/
def sofar (evs : List Ev) (lo : Stp) (pre : List Ent) : List Ver := (pre.filter fun e => !e.at_.lt lo).flatMap (entVers evs)

theorem own_mono {w : World} {base base' : Nat} {e : TypeId} {size n : Nat} {v : Value} {xs : List Value} (h : w.ownsRow base e size v n xs) (hb : base' ≤ base) : w.ownsRow base' e size v n xs := by
  obtain ⟨h1, h2⟩ := h
  refine ⟨h1, ?_⟩
  rcases h2 with h2 | ⟨g, cap, cur, hv, hg, r⟩
  · exact Or.inl h2
  · exact Or.inr ⟨g, cap, cur, hv, Nat.le_trans hb hg, r⟩
theorem takeWhile_all {α : Type} {p : α → Bool} : ∀ {l : List α}, (∀ e ∈ l, p e = true) → l.takeWhile p = l
  | [], _ => rfl
  | x :: l, h => by rw [List.takeWhile_cons, if_pos (h x List.mem_cons_self), takeWhile_all (fun e he => h e (List.mem_cons_of_mem _ he))]
theorem takeWhile_cut {α : Type} {p : α → Bool} : ∀ {ini : List α} {x : α} {rest : List α}, (∀ e ∈ ini, p e = true) → p x = false → (ini ++ x :: rest).takeWhile p = ini
  | [], x, rest, _, h => by rw [List.nil_append, List.takeWhile_cons, if_neg (by rw [h]; simp)]
  | y :: ini, x, rest, hi, h => by rw [List.cons_append, List.takeWhile_cons, if_pos (hi y List.mem_cons_self), takeWhile_cut (fun e he => hi e (List.mem_cons_of_mem _ he)) h]
theorem changes_all {evs : List Ev} {lo hi : Stp} {l : List Ent} (h : ∀ e ∈ l, e.at_.lt hi = true) : changes evs l lo hi = sofar evs lo l := by
  unfold changes sofar
  rw [takeWhile_all h]
theorem changes_cut {evs : List Ev} {lo hi : Stp} {l ini : List Ent} {last : Ent} (hp : ini ++ [last] <+: l) (h : ∀ e ∈ ini, e.at_.lt hi = true) (hl : last.at_.lt hi = false) : changes evs l lo hi = sofar evs lo ini := by
  obtain ⟨rest, rfl⟩ := hp
  unfold changes sofar
  rw [List.append_assoc, List.singleton_append, takeWhile_cut h hl]

/-- What the loop carries: the boxed list; nothing else of what lay has turned. -/
def Core (w W0 : World) (ob : Nat) (evs : List Ev) (lo hi : Stp) (pre : List Ent) (W : World) : Prop :=
  (∃ v, Boxed W ob 44 v ∧ W.ownsRow W0.heap.size 47 6 v (sofar evs lo pre).length ((sofar evs lo pre).flatMap Ver.cells) ∧ True) ∧ But W0.heap.size ob W0 W ∧ Below w.heap.size w W ∧ ∀ e ∈ pre, e.at_.lt hi = true

theorem core_own (w W0 : World) (ob : Nat) (evs : List Ev) (lo hi : Stp) (hw : w.heap.size ≤ W0.heap.size) : OwnFrom W0.heap.size (Core w W0 ob evs lo hi) := by
  rintro s X Y row ⟨h1, h2, h3, h4⟩ hg hr
  refine ⟨holdsRow_own W0.heap.size ob 44 47 6 (fun s => (sofar evs lo s).length) (fun s => (sofar evs lo s).flatMap Ver.cells) (fun _ _ => True) s X Y row h1 hg (fun r e => (hr r e).2), ?_, ?_, h4⟩
  · exact h2.trans ⟨hg.size, fun k hk _ => hg.block k (Nat.lt_of_lt_of_le hk h2.size) (fun e => by have := (hr k e.symm).1; omega)⟩
  · exact h3.grown hg h3.size (fun k e => Nat.le_trans hw (hr k e).1)

theorem core_keep {w W0 : World} {ob : Nat} {evs : List Ev} {lo hi : Stp} {pre : List Ent} {W W' : World} (h : Core w W0 ob evs lo hi pre W) (hw : w.heap.size ≤ W0.heap.size) (hb : Below W.heap.size W W') : Core w W0 ob evs lo hi pre W' := by
  have hg : W.grownBy W' none := ⟨hb.os, hb.tape, hb.output, hb.size, fun k hk _ => hb.block k hk⟩
  exact core_own w W0 ob evs lo hi hw pre W W' none h hg (fun r e => by cases e)
theorem sofar_snoc (evs : List Ev) (lo : Stp) (pre : List Ent) (x : Ent) : sofar evs lo (pre ++ [x]) = sofar evs lo pre ++ if x.at_.lt lo = true then [] else entVers evs x := by
  unfold sofar
  rw [List.filter_append, List.flatMap_append]
  congr 1
  cases h : x.at_.lt lo <;> simp [h]

theorem sofar_len (evs : List Ev) (lo : Stp) (pre : List Ent) : (sofar evs lo pre).length ≤ pre.length * evs.length := by
  unfold sofar
  exact Nat.le_trans (flatVers_length _ _) (Nat.mul_le_mul_right _ (List.length_filter_le _ _))
theorem bound_ok {evs : List Ev} {lo : Stp} {pre : List Ent} {x : Ent} {k L : Nat} (h1 : pre.length < L) (h2 : L ≤ 1048576) (h3 : evs.length ≤ 1048576) (hk : k < (writesOf evs x.txn).length) : (sofar evs lo pre ++ (entVers evs x).take k).length + 1 ≤ maxLen ∧ ((sofar evs lo pre ++ (entVers evs x).take k).length + 1) * 56 ≤ 140737488355328 := by
  have a1 := sofar_len evs lo pre
  have a2 : pre.length * evs.length ≤ 1048575 * 1048576 := Nat.mul_le_mul (by omega) h3
  have a3 := writesOf_length evs x.txn
  rw [List.length_append, List.length_take]
  unfold maxLen
  omega

theorem meas_ok {L k : Nat} (h : k < L) (hw : wrap64 ((k : Int) + 1) = (k : Int) + 1) : L - (wrap64 ((k : Int) + 1)).toNat < L - ((k : Nat) : Int).toNat := by
  rw [hw]
  omega
theorem wrap_ok {k L : Nat} (h : k < L) (hL : L ≤ 1048576) : wrap64 ((k : Int) + 1) = (k : Int) + 1 := by unfold wrap64; omega

/-- One append onto the boxed list, and its store. -/
theorem boxed_appended {W Wp w1 : World} {n₀ B : Nat} {t e : TypeId} {size : Nat} {v v' : Value} {k m : Nat} {xs ys : List Value}
    (hv : Boxed W B t v) (hrow : W.ownsRow n₀ e size v k xs) (hn₀ : n₀ ≤ W.heap.size) (hB : B < n₀) (hp : Below W.heap.size W Wp)
    (hown' : w1.ownsRow n₀ e size v' m ys) (hgrow : Wp.grownBy w1 v.ownBlock) :
    Boxed w1 B t v ∧ Boxed (w1.setCell ⟨B, 0, none⟩ v') B t v' ∧ (w1.setCell ⟨B, 0, none⟩ v').ownsRow n₀ e size v' m ys ∧ But n₀ B W (w1.setCell ⟨B, 0, none⟩ v') ∧ (∀ n₁, n₁ ≤ B → Below n₁ W (w1.setCell ⟨B, 0, none⟩ v')) ∧ KeepsOthers W (w1.setCell ⟨B, 0, none⟩ v') ∧
      (∀ k cs t', t' ≠ e → k ≠ B → W.heap[k]? = some (.cells cs t' (0, 0)) → (w1.setCell ⟨B, 0, none⟩ v').heap[k]? = some (.cells cs t' (0, 0))) := by
  have hne : ∀ k, k < n₀ → some k ≠ v.ownBlock := fun k hk e => by have := (hrow.lt k e.symm).1; omega
  have hb : ∀ k, k < n₀ → w1.heap[k]? = W.heap[k]? := fun k hk => (hgrow.block k (Nat.lt_of_lt_of_le hk (Nat.le_trans hn₀ hp.size)) (hne k hk)).trans (hp.block k (Nat.lt_of_lt_of_le hk hn₀))
  have h1 : Boxed w1 B t v := (hb B hB).trans hv
  have hown : ∀ k, v.ownBlock = some k → ∃ cur, W.heap[k]? = some (.cells cur e (0, 0)) := fun k hk => by
    rcases hrow.2 with ⟨rfl, _⟩ | ⟨g, cap, cur, rfl, _, hg, _⟩
    · cases hk
    · cases hk; exact ⟨cur, hg⟩
  have hoth : ∀ k o, W.heap[k]? = some o → k ≠ B → some k ≠ v.ownBlock → (w1.setCell ⟨B, 0, none⟩ v').heap[k]? = some o := fun k o hk hkB hko => by
    have hlt := (Array.getElem?_eq_some_iff.1 hk).1
    rw [Below.heap_setCell _ _ _ _ hkB, hgrow.block k (Nat.lt_of_lt_of_le hlt hp.size) hko, hp.block k hlt]; exact hk
  refine ⟨h1, h1.set v', ownsRow_setCell_below hown' hB v', ⟨?_, fun k hk hne => ?_⟩, fun n₁ h => ⟨?_, ?_, ?_, ?_, fun k hk => ?_⟩, ⟨?_, fun k o hk ho => ?_⟩, fun k cs t' ht hkB hk => ?_⟩
  · have : (w1.setCell ⟨B, 0, none⟩ v').heap.size = w1.heap.size := by simp [World.setCell]
    rw [this]; exact Nat.le_trans hp.size hgrow.size
  · rw [Below.heap_setCell _ _ _ _ hne]; exact hb k hk
  · exact hgrow.os.trans hp.os
  · exact hgrow.tape.trans hp.tape
  · exact hgrow.output.trans hp.output
  · have : (w1.setCell ⟨B, 0, none⟩ v').heap.size = w1.heap.size := by simp [World.setCell]
    rw [this]; exact Nat.le_trans hp.size hgrow.size
  · rw [Below.heap_setCell _ _ _ _ (by show k ≠ B; omega)]; exact hb k (by omega)
  · have : (w1.setCell ⟨B, 0, none⟩ v').heap.size = w1.heap.size := by simp [World.setCell]
    rw [this]; exact Nat.le_trans hp.size hgrow.size
  · refine hoth k o hk (fun e => ?_) (fun e => ?_)
    · subst e
      rw [show W.heap[k]? = _ from hv] at hk; cases hk; cases ho
    · obtain ⟨cur, hc⟩ := hown k e.symm
      rw [hc] at hk; cases hk; cases ho
  · refine hoth k _ hk hkB (fun e => ?_)
    obtain ⟨cur, hc⟩ := hown k e.symm
    rw [hc] at hk
    injection hk with hk
    injection hk with _ h2
    exact ht h2.symm

theorem keeps_below {W W' : World} (h : Below W.heap.size W W') : KeepsOthers W W' := ⟨h.size, fun k o hk _ => (h.block k (Array.getElem?_eq_some_iff.1 hk).1).trans hk⟩

set_option maxRecDepth 1000000 in
set_option maxHeartbeats 4000000 in
theorem changes_in (n : Nat) (hn : 6 ≤ n) (r : RV) (evs : List Ev) (cms : List Ent) (lo hi : Stp) (w : World) (hE : Rd Ev.cells 20 w 0 (slv r.events) evs) (hC : Rd Ent.cells 7 w 0 (slv r.commits) cms) (hel : evs.length ≤ 1048576) (hcl : cms.length ≤ 1048576) :
    CallsIn Fence.wide n Try.prog 7 #[rv r, sv lo, sv hi] w (ChgPost w evs cms lo hi) := by
  have h1 : 1 ≤ n := by omega
  have HE : Aside (Rd Ev.cells 20 w 0 (slv r.events) evs) := hE
  have HC : Aside (Rd Ent.cells 7 w 0 (slv r.commits) cms) := hC
  have HL : Hid (evs.length ≤ 1048576 ∧ cms.length ≤ 1048576) := ⟨hel, hcl⟩
  obtain ⟨i0, hi0, hz0, hz1, hz2⟩ := info_parts infoVer
  clear hE hC hel hcl
  refine callsIn_of_wp_marks Try.func7 rfl trivial ?_ rfl
  simp only [Try.ntmps7, List.size_toArray, List.length_cons, List.length_nil, Nat.reduceAdd, Nat.reduceSub, Array.replicate_succ, Array.replicate_zero, List.push_toArray, List.append_toArray, List.nil_append, List.cons_append]
  have hB0 : Below w.heap.size w ((((w.alloc (.cells (rv r).cells 41)).alloc (.cells lo.cells.toArray 30)).alloc (.cells hi.cells.toArray 30)).alloc (.cells #[.slice none 0 0] 44)) := ((((Below.refl _ _).alloc (Nat.le_refl _) _).alloc (by simp) _).alloc (by simp; omega) _).alloc (by simp; omega) _
  have CON : Aside (Calls Try.prog 10 #[rv r] ((((w.alloc (.cells (rv r).cells 41)).alloc (.cells lo.cells.toArray 30)).alloc (.cells hi.cells.toArray 30)).alloc (.cells #[.slice none 0 0] 44)) _) := inOrder_calls r cms _ (HC.out.keep hB0) HL.out.2
  have HB0 : Hid _ := hB0
  clear hB0
  gi_wp2
  refine ⟨trivial, (callsIn_wide.2 CON.out).mono ?_⟩
  clear CON
  rintro e W0 ⟨nb, v0, l, tb, rfl, hbx, hnb, hrd, hp, hby, hbl⟩
  have HBX : Hid (W0.heap[nb]? = some (.cells #[v0] tb (0, 0))) := hbx
  have HRD : Aside (Rd Ent.cells 7 W0 (w.heap.size + 4) v0 l) := by
    have := hrd
    simp only [World.size_alloc] at this
    exact this
  have HPB : Hid (l.Perm (comm cms) ∧ ByAt l) := ⟨hp, hby⟩
  have HBW : Aside (Below w.heap.size w W0) := HB0.out.trans (hbl.mono (by simp; omega))
  have HSZ : Hid (w.heap.size + 4 ≤ W0.heap.size) := by have := hbl.size; simp only [World.size_alloc] at this; exact this
  have BR : Hid (W0.heap[w.heap.size]? = some (.cells (rv r).cells 41 (0, 0))) := by
    show _ = _
    rw [hbl.block _ (by simp; omega), Below.heap_alloc _ _ _ (by simp; omega), Below.heap_alloc _ _ _ (by simp; omega), Below.heap_alloc _ _ _ (by simp), World.alloc_heap_new]
  have BL : Hid (W0.heap[w.heap.size + 1]? = some (.cells lo.cells.toArray 30 (0, 0))) := by
    show _ = _
    rw [hbl.block _ (by simp), Below.heap_alloc _ _ _ (by simp), Below.heap_alloc _ _ _ (by simp)]
    exact alloc_new_at _ _ (by simp)
  have BH : Hid (W0.heap[w.heap.size + 2]? = some (.cells hi.cells.toArray 30 (0, 0))) := by
    show _ = _
    rw [hbl.block _ (by simp), Below.heap_alloc _ _ _ (by simp)]
    exact alloc_new_at _ _ (by simp)
  have BO : Aside (Boxed W0 (w.heap.size + 1 + 1 + 1) 44 (.slice none 0 0)) := by
    show W0.heap[_]? = _
    rw [hbl.block _ (by simp)]
    exact alloc_new_at _ _ (by simp)
  clear hbx hnb hrd hp hby hbl HB0
  gi_wp2
  refine wpIn_rangeFunc_ownH rfl h1 (gf := 18) (lb := #[.pointer (some ⟨nb, 0, none⟩)]) rfl trivial (enters_of Try.func18 (by kernel_rfl) rfl)
    (ord_stops (n - 1) nb (w.heap.size + 1 + 1 + 1) (w.heap.size + 4) v0 l W0 (cell_of_cells HBX.out 0) HRD.out (by omega) (by have := HPB.out.1.length_eq; have := comm_len cms; have := HL.out; omega)) (fun h k => h.trans k)
    (fun W k o o' hk hko _ _ => ⟨by simp, fun q hq hne => World.putObj_heap_other (by omega)⟩) (Below.refl _ _) (fun _ => rfl)
    (Core w W0 (w.heap.size + 1 + 1 + 1) evs lo hi)
    (fun c pre W => c = .exit 0 ∧ ∃ ini last, pre = ini ++ [last] ∧ last.at_.lt hi = false ∧ Core w W0 (w.heap.size + 1 + 1 + 1) evs lo hi ini W)
    (core_own _ _ _ _ _ _ (by have := HSZ.out; omega))
    (fun c s X Y row hs hg hr => by obtain ⟨h1, ini, last, h2, h3, h4⟩ := hs; exact ⟨h1, ini, last, h2, h3, core_own _ _ _ _ _ _ (by have := HSZ.out; omega) ini X Y row h4 hg hr⟩)
    ⟨⟨_, BO.out, World.ownsRow_nil _ _ _ _, trivial⟩, But.refl _ _ _, HBW.out, by simp⟩
    (fun x a' W => ∃ Bx, W0.heap.size ≤ Bx ∧ W.heap[Bx]? = some (.cells x.cells.toArray 58 (0, 0)) ∧ a' = { tmps := #[rv r, sv lo, sv hi, .pointer (some ⟨w.heap.size, 0, none⟩), .pointer (some ⟨w.heap.size + 1, 0, none⟩), .pointer (some ⟨w.heap.size + 1 + 1, 0, none⟩), .slice none 0 0, .pointer (some ⟨w.heap.size + 1 + 1 + 1, 0, none⟩), .pointer (some ⟨Bx, 0, none⟩), undef, undef, rv r, .func (.func 18) #[] #[.pointer (some ⟨nb, 0, none⟩)], ev x, undef, undef, undef, undef, undef, undef, undef, undef, undef, undef, undef, undef, undef, undef, undef, undef, undef, undef, undef, undef, undef, undef, undef, undef, undef, undef, undef, undef, undef, undef, undef, undef], defers := [] })
    (fun x a' _ X Y row hs hg hr => by
      obtain ⟨Bx, h1, h2, h3⟩ := hs
      refine ⟨Bx, h1, (hg.block Bx (Array.getElem?_eq_some_iff.1 h2).1 (fun e => ?_)).trans h2, h3⟩
      obtain ⟨_, o, ho, hc⟩ := hr Bx e.symm
      rw [h2] at ho; cases ho; cases hc)
    ?assign ?body ?done ?stop
  case assign =>
    rintro l pre x W K hI hK
    gi_wp2
    exact hK _ _ ((KeepsOthers.alloc _ _).from _) ⟨by simp, fun k hk _ => Below.heap_alloc _ _ _ (Nat.lt_of_lt_of_le hk hI.2.1.size)⟩ ((core_own _ _ _ _ _ _ (by have := HSZ.out; omega)).alloc _ hI) ⟨W.heap.size, hI.2.1.size, World.alloc_heap_new _ _, rfl⟩
  case body =>
    rintro lp pre x a' W hlp hrec ⟨⟨v, hb, hown, _⟩, hbut, hbel, hall⟩ ⟨Bx, hBx, hx, rfl⟩ hlt
    have HLT : Hid (pre.length < l.length) := hlt
    have HBO : Aside (Boxed W (w.heap.size + 1 + 1 + 1) 44 v) := hb
    have HO : Aside (W.ownsRow W0.heap.size 47 6 v (sofar evs lo pre).length ((sofar evs lo pre).flatMap Ver.cells)) := hown
    have HA : Hid (∀ e ∈ pre, e.at_.lt hi = true) := hall
    have HBU : Aside (But W0.heap.size (w.heap.size + 1 + 1 + 1) W0 W) := hbut
    have HBE : Aside (Below w.heap.size w W) := hbel
    have HX : Aside (W.heap[Bx]? = some (.cells x.cells.toArray 58 (0, 0))) := hx
    have p4 : W.cell? ⟨Bx, 4, none⟩ = some (.int .u64 x.at_.wall) := cell_of_cells hx 4
    have p5 : W.cell? ⟨Bx, 5, none⟩ = some (.int .u32 x.at_.logical) := cell_of_cells hx 5
    have p6 : W.cell? ⟨Bx, 6, none⟩ = some (.int .u32 x.at_.node) := cell_of_cells hx 6
    have hh : W.heap[w.heap.size + 2]? = some (.cells hi.cells.toArray 30 (0, 0)) := (hbut.block _ (by have := HSZ.out; omega) (by omega)).trans BH.out
    have q0 : W.cell? ⟨w.heap.size + 1 + 1, 0, none⟩ = some (.int .u64 hi.wall) := cell_of_cells hh 0
    have q1 : W.cell? ⟨w.heap.size + 1 + 1, 1, none⟩ = some (.int .u32 hi.logical) := cell_of_cells hh 1
    have q2 : W.cell? ⟨w.heap.size + 1 + 1, 2, none⟩ = some (.int .u32 hi.node) := cell_of_cells hh 2
    have h3 : 1 ≤ n - 1 - 1 := by omega
    clear hlt hb hown hall hbut hbel hx hh
    have HCO : Aside (Core w W0 (w.heap.size + 1 + 1 + 1) evs lo hi pre W) := ⟨⟨v, HBO.out, HO.out, trivial⟩, HBU.out, HBE.out, HA.out⟩
    have HSW : Hid (w.heap.size ≤ W0.heap.size) := by have := HSZ.out; show _ ≤ _; omega
    have HBW : Hid (W0.heap.size ≤ W.heap.size ∧ Bx < W.heap.size) := ⟨HBU.out.size, (Array.getElem?_eq_some_iff.1 HX.out).1⟩
    gi_wp2
    refine ⟨trivial, (CallsIn.inRound lp (callsIn_wide.2 (less_calls x.at_ hi W))).mono ?_⟩
    rintro e W1 ⟨rfl, hg1⟩
    have HG1 : Aside (Below W.heap.size W W1) := hg1.below
    clear hg1 p4 p5 p6 q0 q1 q2
    cases hlh : x.at_.lt hi with
    | false =>
      have HLH : Hid (x.at_.lt hi = false) := hlh
      clear hlh
      gi_wp2
      exact ⟨(keeps_below HG1.out).from _, rfl, pre, x, rfl, HLH.out, core_keep HCO.out HSW.out HG1.out⟩
    | true =>
      have HLH : Hid (x.at_.lt hi = true) := hlh
      clear hlh
      have hx1 : W1.heap[Bx]? = some (.cells x.cells.toArray 58 (0, 0)) := (HG1.out.block _ HBW.out.2).trans HX.out
      have p4 : W1.cell? ⟨Bx, 4, none⟩ = some (.int .u64 x.at_.wall) := cell_of_cells hx1 4
      have p5 : W1.cell? ⟨Bx, 5, none⟩ = some (.int .u32 x.at_.logical) := cell_of_cells hx1 5
      have p6 : W1.cell? ⟨Bx, 6, none⟩ = some (.int .u32 x.at_.node) := cell_of_cells hx1 6
      have hh : W1.heap[w.heap.size + 1]? = some (.cells lo.cells.toArray 30 (0, 0)) := (HG1.out.block _ (by have := HSZ.out; have := HBW.out; omega)).trans ((HBU.out.block _ (by have := HSZ.out; omega) (by omega)).trans BL.out)
      have q0 : W1.cell? ⟨w.heap.size + 1, 0, none⟩ = some (.int .u64 lo.wall) := cell_of_cells hh 0
      have q1 : W1.cell? ⟨w.heap.size + 1, 1, none⟩ = some (.int .u32 lo.logical) := cell_of_cells hh 1
      have q2 : W1.cell? ⟨w.heap.size + 1, 2, none⟩ = some (.int .u32 lo.node) := cell_of_cells hh 2
      clear hx1 hh
      gi_wp2
      refine ⟨trivial, (CallsIn.inRound lp (callsIn_wide.2 (less_calls x.at_ lo W1))).mono ?_⟩
      rintro e W2 ⟨rfl, hg2⟩
      have HG2 : Aside (Below W.heap.size W W2) := HG1.out.trans (hg2.below.mono HG1.out.size)
      clear hg2 p4 p5 p6 q0 q1 q2
      have HAX : Hid (∀ e ∈ pre ++ [x], e.at_.lt hi = true) := fun e he => by
        rcases List.mem_append.1 he with h | h
        · exact HA.out e h
        · rw [List.mem_singleton.1 h]; exact HLH.out
      cases hll : x.at_.lt lo with
      | true =>
        have HLL : Hid (x.at_.lt lo = true) := hll
        clear hll
        gi_wp2
        have hc := core_keep HCO.out HSW.out HG2.out
        refine ⟨(keeps_below HG2.out).from _, ⟨HG2.out.size, fun k hk _ => HG2.out.block k (Nat.lt_of_lt_of_le hk HBW.out.1)⟩, ?_, hc.2.1, hc.2.2.1, HAX.out⟩
        have hs := sofar_snoc evs lo pre x
        rw [if_pos HLL.out, List.append_nil] at hs
        rw [hs]
        exact hc.1
      | false =>
        have HLL : Hid (x.at_.lt lo = false) := hll
        clear hll
        have hx2 : W2.heap[Bx]? = some (.cells x.cells.toArray 58 (0, 0)) := (HG2.out.block _ HBW.out.2).trans HX.out
        have p0 : W2.cell? ⟨Bx, 0, none⟩ = some (.int .u32 x.txn.client) := cell_of_cells hx2 0
        have p1 : W2.cell? ⟨Bx, 1, none⟩ = some (.int .u32 x.txn.seq) := cell_of_cells hx2 1
        have hr : W2.heap[w.heap.size]? = some (.cells (rv r).cells 41 (0, 0)) := (HG2.out.block _ (by have := HSZ.out; have := HBW.out; omega)).trans ((HBU.out.block _ (by have := HSZ.out; omega) (by omega)).trans BR.out)
        have CON : Aside (Calls Try.prog 12 #[rv r, tv x.txn] W2 _) := writes_calls r evs cms x.txn W2 (HE.out.keep (HBE.out.trans (HG2.out.mono HBE.out.size))) (HC.out.keep (HBE.out.trans (HG2.out.mono HBE.out.size))) HL.out.1 HL.out.2
        have HRR : Aside (W2.rangeAt w.heap.size 0 (rv r).cells.toList) := fun j u hj => by
          rw [Nat.zero_add, cell_of_cells hr]
          simpa using hj
        clear hx2 hr
        gi_wp2_with (refine wpListIn_load_mid rfl 41 _ rfl w.heap.size 0 rfl (rv r).cells.toList _ HRR.out Try.underlying41 rfl rfl ?_)
        refine ⟨trivial, (CallsIn.inRound lp (callsIn_wide.2 CON.out)).mono ?_⟩
        clear CON p0 p1
        rintro e W3 ⟨vw, ws, rfl, hrd, hp3, hby3, hb3, hty⟩
        have HWS : Hid (ws = writesOf evs x.txn) := writes_eq hp3 hby3
        have HG3 : Aside (Below W.heap.size W W3) := HG2.out.trans (hb3.mono HG2.out.size)
        have HW23 : Hid (W.heap.size ≤ W2.heap.size ∧ W2.heap.size ≤ W3.heap.size) := ⟨HG2.out.size, hb3.size⟩
        have HLW : Hid (ws.length ≤ 1048576) := by
          show _ ≤ _
          rw [HWS.out]
          exact Nat.le_trans (writesOf_length _ _) HL.out.1
        obtain ⟨aw, cw, rfl, hcw, hrow⟩ := hrd
        have HROW : Hid (ws = [] ∨ ∃ b off cur, aw = some ⟨b, off, none⟩ ∧ W3.heap[b]? = some (.cells cur 62 (0, 0)) ∧ W0.heap.size ≤ b ∧ ∀ i y, ws[i]? = some y → ∀ j u, (Wr.cells y)[j]? = some u → cur[off + i * 3 + j]? = some u) := by
          rcases hrow with h | ⟨b, off, rfl, hb1, hb2, hcell⟩
          · exact Or.inl h
          · obtain ⟨cur, hcur⟩ := hty b rfl
            refine Or.inr ⟨b, off, cur, rfl, hcur, by have := HBW.out.1; have := HW23.out; omega, fun i y hi j u hj => ?_⟩
            have := hcell i y hi j u hj
            rw [cell_of_cells hcur] at this
            exact this
        clear hrow hty hcw hb3 hp3 hby3
        gi_wp2
        gi_loopw [28] (fun i wr => ∃ k : Nat, k ≤ ws.length ∧ i = .int .i64 k ∧ Aside (∃ v, Boxed wr (w.heap.size + 1 + 1 + 1) 44 v ∧ wr.ownsRow W0.heap.size 47 6 v (sofar evs lo pre ++ (versOf x.at_ ws).take k).length ((sofar evs lo pre ++ (versOf x.at_ ws).take k).flatMap Ver.cells)) ∧
            Aside (KeepsOthers W wr ∧ But W0.heap.size (w.heap.size + 1 + 1 + 1) W wr ∧ Below w.heap.size W wr) ∧ Aside (∀ b cur, W0.heap.size ≤ b → W3.heap[b]? = some (.cells cur 62 (0, 0)) → wr.heap[b]? = some (.cells cur 62 (0, 0))) ∧
            Aside (wr.heap[Bx]? = some (.cells x.cells.toArray 58 (0, 0))))
          (fun i _ => ws.length - (intOf i).toNat)
        case atStart =>
          have hc := core_keep HCO.out HSW.out HG3.out
          refine ⟨0, Nat.zero_le _, rfl, ?_, ⟨keeps_below HG3.out, ⟨HG3.out.size, fun q hq _ => HG3.out.block q (Nat.lt_of_lt_of_le hq HBW.out.1)⟩, HG3.out.mono (Nat.le_trans HSW.out HBW.out.1)⟩, fun _ _ _ h => h, (HG3.out.block _ HBW.out.2).trans HX.out⟩
          obtain ⟨v', h1, h2, _⟩ := hc.1
          refine ⟨v', h1, ?_⟩
          rw [List.take_zero, List.append_nil]
          exact h2
        case round =>
          obtain ⟨k, hk, rfl, HV, HK, HRW, HBX2⟩ := hrel
          obtain ⟨v', hbv, hov⟩ := HV.out
          have HBV : Aside (Boxed wr (w.heap.size + 1 + 1 + 1) 44 v') := hbv
          obtain ⟨sf, hsf⟩ : ∃ sf, sf = sofar evs lo pre ++ (versOf x.at_ ws).take k := ⟨_, rfl⟩
          rw [← hsf] at hov
          have HSF : Hid (sf = sofar evs lo pre ++ (versOf x.at_ ws).take k) := hsf
          have HOV : Aside (wr.ownsRow W0.heap.size 47 6 v' sf.length (sf.flatMap Ver.cells)) := hov
          have cS := hbv.cell
          clear HV hbv hov hsf
          by_cases hlt : k < ws.length
          · obtain ⟨y, hy⟩ : ∃ y, ws[k]? = some y := ⟨ws[k], List.getElem?_eq_getElem hlt⟩
            obtain ⟨b, off, cur, haw, hcur, hbl, hcell⟩ : ∃ b off cur, aw = some ⟨b, off, none⟩ ∧ wr.heap[b]? = some (.cells cur 62 (0, 0)) ∧ W0.heap.size ≤ b ∧ ∀ j u, (Wr.cells y)[j]? = some u → cur[off + k * 3 + j]? = some u := by
              rcases HROW.out with h | ⟨b, off, cur, h1, h2, h3, h4⟩
              · rw [h] at hlt; simp at hlt
              · exact ⟨b, off, cur, h1, HRW.out b cur h3 h2, h3, fun j u hj => h4 k y hy j u hj⟩
            subst haw
            have k0 : wr.cell? ⟨b, off + k * 3, none⟩ = some (.string y.key) := (cell_of_cells hcur _).trans (hcell 0 _ rfl)
            have k1 : wr.cell? ⟨b, off + k * 3 + 1, none⟩ = some (.bool y.del) := (cell_of_cells hcur _).trans (hcell 1 _ rfl)
            have k2 : wr.cell? ⟨b, off + k * 3 + 2, none⟩ = some (.string y.value) := (cell_of_cells hcur _).trans (hcell 2 _ rfl)
            have p4 : wr.cell? ⟨Bx, 4, none⟩ = some (.int .u64 x.at_.wall) := cell_of_cells HBX2.out 4
            have p5 : wr.cell? ⟨Bx, 5, none⟩ = some (.int .u32 x.at_.logical) := cell_of_cells HBX2.out 5
            have p6 : wr.cell? ⟨Bx, 6, none⟩ = some (.int .u32 x.at_.node) := cell_of_cells HBX2.out 6
            have hi1 : (k : Int) < (ws.length : Int) := by omega
            have hi2 : (k : Int).toNat = k := by omega
            have HY : Hid (ws[k]? = some y) := hy
            have HBD : Hid (sf.length + 1 ≤ maxLen ∧ (sf.length + 1) * 56 ≤ 140737488355328) := by
              have hlt2 := hlt
              rw [HSF.out]
              rw [HWS.out] at hlt2 ⊢
              exact bound_ok HLT.out (by have := HPB.out.1.length_eq; have := comm_len cms; have := HL.out; omega) HL.out.1 hlt2
            have HSB : Hid (W0.heap.size ≤ wr.heap.size ∧ w.heap.size + 1 + 1 + 1 < W0.heap.size) := ⟨Nat.le_trans HBW.out.1 HK.out.1.size, by have := HSZ.out; omega⟩
            have hltO : w.heap.size + 1 + 1 + 1 < wr.heap.size := HBV.out.lt
            have hk20 : ws.length ≤ 1048576 := HLW.out
            have hkk : (k : Int) < 1048576 := by omega
            have hltB : Bx < wr.heap.size := (Array.getElem?_eq_some_iff.1 HBX2.out).1
            clear hy hcell hcur hbl
            gi_wp2_with (gi_at_builtin; refine wpListIn_append_own _ rfl _ _ 44 rfl W0.heap.size 47 i0 (.agg #[.string ⟨#[]⟩, .int .u64 0, .int .u32 0, .int .u32 0, .bool false, .string ⟨#[]⟩]) 6 56 Try.underlying44 hi0 hz0 hz1 hz2 rfl (by decide) v' sf.length (sf.flatMap Ver.cells) rfl ((HOV.out.alloc _).alloc _) ⟨wr.heap.size + 1, 0, none⟩ 1 1 (Ver.cells ⟨y.key, x.at_, y.del, y.value⟩) rfl rfl (last_cells (wr.alloc _) (Ver.cells ⟨y.key, x.at_, y.del, y.value⟩) 47 (wr.heap.size + 1) (by simp)) (Ver.one _) HBD.out.1 HBD.out.2 (by have := HSB.out; simp; omega) ?_
                         intro v2 w4 hown4 hgr4 _
                         obtain ⟨g, cap, rfl⟩ := own_form hown4
                         have HAP : Aside _ := boxed_appended HBV.out HOV.out HSB.out.1 HSB.out.2 (((Below.refl _ _).alloc (Nat.le_refl _) _).alloc (by simp) _) hown4 hgr4
                         have hc4 := HAP.out.1.cell
                         have hf4 := HAP.out.1.frozen
                         clear hown4 hgr4)
            go_roundw
            case measure => simp [intOf]; omega
            case rel =>
              obtain ⟨_, a2, a3, a4, a5, a6, a7⟩ := HAP.out
              have ht : sofar evs lo pre ++ (versOf x.at_ ws).take (k + 1) = sf ++ [⟨y.key, x.at_, y.del, y.value⟩] := by
                rw [HSF.out, List.append_assoc]
                congr 1
                rw [List.take_add_one]
                congr 1
                unfold versOf
                rw [List.getElem?_map, HY.out]
                rfl
              refine ⟨k + 1, hlt, by simp, ⟨_, a2, ?_⟩, ⟨HK.out.1.trans a6, HK.out.2.1.trans a4, HK.out.2.2.trans (a5 _ (by omega))⟩, fun b cur hb h => a7 _ _ _ (by decide) (by have := HSB.out; omega) (HRW.out b cur hb h), a7 _ _ _ (by decide) (by have := HSB.out; omega) HBX2.out⟩
              rw [ht, List.length_append, List.flatMap_append]
              simpa using a3
          · have HKE : Hid (k = ws.length) := by show _ = _; omega
            have hi1 : ¬ (k : Int) < (ws.length : Int) := by omega
            gi_wp2
            obtain ⟨h1, h2, h3⟩ := HK.out
            refine ⟨h1.from _, h2, ⟨v', HBV.out, ?_, trivial⟩, HBU.out.trans h2, HBE.out.trans h3, HAX.out⟩
            have hs := sofar_snoc evs lo pre x
            rw [if_neg (by rw [HLL.out]; simp), show entVers evs x = versOf x.at_ ws by rw [HWS.out]; rfl] at hs
            have he : (versOf x.at_ ws).take k = versOf x.at_ ws := by
              rw [HKE.out]
              exact List.take_of_length_le (by unfold versOf; rw [List.length_map]; exact Nat.le_refl _)
            have := HOV.out
            rw [HSF.out, he, ← hs] at this
            exact this
  case done =>
    rintro D ys W hD rfl ⟨⟨v, hb, hown, _⟩, hbut, hbel, hall⟩ hK
    have cS := hb.cell
    have HO : Aside (W.ownsRow W0.heap.size 47 6 v (sofar evs lo ys).length ((sofar evs lo ys).flatMap Ver.cells)) := hown
    have HA : Hid (∀ e ∈ ys, e.at_.lt hi = true) := hall
    have HBE : Aside (Below w.heap.size w W) := hbel
    clear hb hown hall hbel hbut
    gi_wp2
    refine ⟨by simp, .inl ⟨_, _, rfl, run_takeDeferred hK, ?_⟩⟩
    refine ⟨_, results_tmp rfl _ _ _, ?_⟩
    refine ⟨v, ys, rfl, HPB.out.1, HPB.out.2, ?_, HBE.out.trans (belowK_b (w := w) (Nat.le_refl _) W D _ _ (by have := HSZ.out; omega) hK rfl rfl)⟩
    rw [changes_all HA.out]
    exact ownsRow_putObj (own_mono HO.out (by have := HSZ.out; omega)) _ hK rfl
  case stop =>
    rintro D c pre W hD hpre ⟨rfl, ini, last, rfl, hlast, ⟨v, hb, hown, _⟩, hbut, hbel, hall⟩ hK
    have cS := hb.cell
    have HO : Aside (W.ownsRow W0.heap.size 47 6 v (sofar evs lo ini).length ((sofar evs lo ini).flatMap Ver.cells)) := hown
    have HA : Hid (∀ e ∈ ini, e.at_.lt hi = true) := hall
    have HLA : Hid (last.at_.lt hi = false) := hlast
    have HPR : Hid (ini ++ [last] <+: l) := hpre
    have HBE : Aside (Below w.heap.size w W) := hbel
    clear hb hown hall hbel hbut hlast hpre
    gi_wp2
    refine ⟨by simp, .inl ⟨_, _, rfl, run_takeDeferred hK, ?_⟩⟩
    refine ⟨_, results_tmp rfl _ _ _, ?_⟩
    refine ⟨v, l, rfl, HPB.out.1, HPB.out.2, ?_, HBE.out.trans (belowK_b (w := w) (Nat.le_refl _) W D _ _ (by have := HSZ.out; omega) hK rfl rfl)⟩
    rw [changes_cut HPR.out HA.out HLA.out]
    exact ownsRow_putObj (own_mono HO.out (by have := HSZ.out; omega)) _ hK rfl
end Go.Proofs.Ytgpagjocjcpbhaa
