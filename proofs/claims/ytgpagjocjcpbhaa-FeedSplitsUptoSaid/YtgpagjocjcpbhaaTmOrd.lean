/-
  The walk over feed.inOrder: the commits that were committed, in their order, behind an iterator.
-/
import Derived.Test.YtgpagjocjcpbhaaTmWrites
import Derived.Test.YtgpagjocjcpbhaaTmShelf
namespace Go.Proofs
open Go.RowKit Go.Lib Go.Shelf
section
variable {P : Program} {ρ : Ren}
set_option maxHeartbeats 1000000 in
/-- slices.Clone at an empty slice that is not nil, wherever it points. -/
theorem Tm.clone_empty (L : SlLaysE0.n41 P ρ) (i0 : TypeInfo) (z : Value) (size bytes : Nat) (hi : P.info? (ρ.t 23) = some i0) (hz0 : i0.zero = some z) (hz1 : i0.size = size) (hz2 : i0.bytes = bytes) (hzs : z.cells.size = size) (hsz : 0 < size)
    (z23 : ∀ w, (Go.sizeOf (ρ.t 23)).run P w = .ok size w) (p : Addr) (c : Nat) (w : World) :
    Calls P (ρ.f 41) #[.slice (some p) 0 c] w fun e w' => ∃ v', e = .returned v' ∧ w'.ownsRow w.heap.size (ρ.t 23) size v' 0 [] ∧ Below w.heap.size w w' := by
  have mixed := L.mixed; have t4 := L.t4; have a4 := L.a4; have z4 := L.z4; have v4 := L.v4; have t22 := L.t22; have a22 := L.a22; have z22 := L.z22; have v22 := L.v22
  have q22 : ∀ (w : World) (a : Option Addr) (n c n' c' : Nat), (binOp .eql (ρ.t 22) (.slice a n c) (.slice none n' c')).run P w = .ok (.bool a.isNone) w := fun w a n c n' c' => Lib.run_eql_slice_nil w _ _ a n c n' c' L.t22
  have u22 : ∀ w, Sem.run P (underlying (ρ.t 22)) w = .ok (TypeDesc.slice (ρ.t 23)) w := run_underlying t22
  obtain ⟨_, _, FG⟩ := L.f41
  go_enter FG, SlBodyN.n41_ntmps ρ
  go_wp2_with (at_builtin; refine wpList_append_own _ rfl _ _ (ρ.t 22) rfl w.heap.size (ρ.t 23) i0 z size bytes t22 hi hz0 hz1 hz2 hzs hsz _ _ _ rfl (World.ownsRow_made w #[] 0 (Nat.le_refl _) (Nat.zero_le _) (by simp)) p 0 c [] rfl ?qc1 ?qc2 ?qc3 ?qc4 ?qc5 ?qc6 ?_)
  case qc1 => simp
  case qc2 => intro j u hj; simp at hj
  case qc3 => simp
  case qc4 => unfold maxLen; omega
  case qc5 => omega
  case qc6 => simp
  intro v' w1 hown hgrow hnil
  go_wp2
  go_ret
  refine ⟨v', rfl, by simpa using hown, ?_⟩
  exact ((Below.refl _ w).alloc (Nat.le_refl _) _).grown hgrow (by simp) (by intro k hk; simp [Value.ownBlock] at hk; omega)
end
end Go.Proofs
namespace Go.Proofs.Ytgpagjocjcpbhaa
open Go.Shelf Go.RowKit Go.Lib Go.Sort Go.Tm.Stab Go.Tm

theorem cloneEnts_calls (v : Value) (l : List Ent) (w : World) (h : Rd Ent.cells 7 w 0 v l) (hl : l.length ≤ 1048576) :
    Calls Try.prog 14 #[v] w fun e w' => ∃ v', e = .returned v' ∧ Held Ent.cells 7 w' v' l ∧ (∀ b, v'.ownBlock = some b → w.heap.size ≤ b) ∧ Below w.heap.size w w' := by
  obtain ⟨i0, hi, hz0, hz1, hz2⟩ := info_parts infoEnt
  obtain ⟨a, c, rfl, hc, h⟩ := h
  have hfl : ∀ l : List Ent, (l.flatMap Ent.cells).length = l.length * 7 := fun l => by
    induction l with
    | nil => rfl
    | cons x l ih => rw [List.flatMap_cons, List.length_append, ih, Ent.len, List.length_cons]; omega
  have hgo : ∀ {v' w'} {n : Nat} (hn : n = l.length), w'.ownsRow w.heap.size 58 7 v' n (l.flatMap Ent.cells) → Below w.heap.size w w' → Held Ent.cells 7 w' v' l ∧ (∀ b, v'.ownBlock = some b → w.heap.size ≤ b) ∧ Below w.heap.size w w' := fun hn ho hb => by
    subst hn
    exact ⟨Held.of_own Ent.len ho, fun b hb => (ho.lt b hb).1, hb⟩
  cases a with
  | none =>
    have h0 : l = [] := by
      rcases h with h | ⟨b, off, h, _⟩
      · exact h
      · cases h
    subst h0
    refine Calls.mono (AnyE.slices_Clone_nil Try.lClone 0 c w) ?_
    rintro e w' ⟨rfl, rfl⟩
    exact ⟨_, rfl, hgo rfl (World.ownsRow_nil _ _ _ _) (Below.refl _ _)⟩
  | some p =>
    by_cases h0 : l = []
    · subst h0
      refine Calls.mono (Tm.clone_empty Try.lClone i0 _ 7 40 hi hz0 hz1 hz2 rfl (by decide) Try.sizeOf58 p c w) ?_
      rintro e w' ⟨v', rfl, ho, hb⟩
      exact ⟨_, rfl, hgo rfl ho hb⟩
    · obtain ⟨b, off, h1, _, hb, hcell⟩ := h.resolve_left h0
      cases h1
      refine Calls.mono (AnyE.slices_Clone Try.lClone i0 _ 7 40 hi hz0 hz1 hz2 rfl (by decide) Try.sizeOf58 b off l.length c (l.flatMap Ent.cells) w (hfl l) (by unfold maxLen; omega) (by omega) ?_ ?_) ?_
      · intro j u hj
        have hj7 : j < l.length * 7 := by rw [← hfl]; exact (List.getElem?_eq_some_iff.1 hj).1
        have hk : j / 7 < l.length := by omega
        have hx : (Ent.cells l[j / 7])[j % 7]? = some u := by
          have : ∀ (l : List Ent) (i : Nat) (hi : i < l.length) (q : Nat), q < 7 → (l.flatMap Ent.cells)[i * 7 + q]? = (Ent.cells l[i])[q]? := by
            intro l
            induction l with
            | nil => intro i hi; simp at hi
            | cons x l ih =>
              intro i hi q hq
              cases i with
              | zero => rw [Nat.zero_mul, Nat.zero_add, List.flatMap_cons, List.getElem?_append_left (by rw [Ent.len]; exact hq)]; rfl
              | succ i =>
                rw [List.flatMap_cons, List.getElem?_append_right (by rw [Ent.len]; omega), Ent.len, show (i + 1) * 7 + q - 7 = i * 7 + q by omega]
                simp only [List.getElem_cons_succ]
                exact ih i (by simpa using hi) q hq
          have h2 := this l (j / 7) hk (j % 7) (by omega)
          rw [show j / 7 * 7 + j % 7 = j by omega] at h2
          exact h2.symm.trans hj
        have := hcell (j / 7) _ (List.getElem?_eq_getElem hk) (j % 7) u hx
        rw [show off + j = off + j / 7 * 7 + j % 7 by omega]
        exact this
      · intro u hu
        obtain ⟨x, _, hx⟩ := List.mem_flatMap.1 hu
        exact x.one u hx
      · rintro e w' ⟨v', rfl, ho, _, hb⟩
        exact ⟨_, rfl, hgo rfl ho hb⟩

theorem denv : DEnv Try.prog (Ent.cells ⟨⟨0, 0⟩, 0, 0, ⟨0, 0, 0⟩⟩) where
  tF := Try.underlying73
  aF := Try.isAgg73
  zF := Try.sizeOf73
  vE := Try.zeroValue58

set_option maxRecDepth 100000 in
theorem indexNone_calls (a : Option Addr) (cap : Nat) (f : Value) (w : World) :
    Calls Try.prog 21 #[.slice a 0 cap, f] w fun e w' => e = .returned (.int .i64 (-1)) ∧ w = w' := by
  go_enter Try.func21, Try.ntmps21
  go_wp2
  refine wp_loop_rounds 1 ?_
  rw [rounds_succ]
  go_wp2
  go_ret
  exact ⟨rfl, rfl⟩

set_option maxRecDepth 100000 in
theorem deleteNone_calls (a : Option Addr) (cap : Nat) (f : Value) (w : World) :
    Calls Try.prog 13 #[.slice a 0 cap, f] w fun e w' => e = .returned (.slice a 0 cap) ∧ w = w' := by
  go_enter Try.func13, Try.ntmps13
  go_wp2_with (go_at_call 21; refine (indexNone_calls _ _ _ _).mono ?_; rintro e w' ⟨rfl, rfl⟩)
  go_ret
  exact ⟨rfl, rfl⟩

theorem swk_grownBy {α : Type} [Inhabited α] {enc : α → List Value} {k : Nat} {w w' : World} {b off : Nat} {d : Array α} (h : SWK enc k w b off d w') : w.grownBy w' (some b) := by
  obtain ⟨n, os, hw⟩ := h
  rw [hw]
  refine ⟨rfl, rfl, rfl, size_sortWorldK_c _ _ _ _ _ _ _ _, fun k hk hne => ?_⟩
  have hne' : k ≠ b := fun e => hne (by rw [e])
  unfold sortWorldK
  rw [heap_grow_old _ _ (by rw [size_putRowK]; exact hk)]
  unfold putRowK putRow mapBlock
  simp only [Array.getElem?_modify]
  rw [if_neg (fun e => hne' e.symm)]
  rfl

theorem holds_prefix {α : Type} [Inhabited α] {enc : α → List Value} {k : Nat} (hk : ∀ x, (enc x).length = k) {w : World} {b off : Nat} {d : Array α} {l : List α} (h : HoldsK enc k w b off d) (hl : l.length ≤ d.size) (hd : ∀ j, j < l.length → l[j]? = some d[j]!) : HoldsK enc k w b off l.toArray := by
  intro j hj
  rw [size_flatK, List.size_toArray] at hj
  have k0 : 0 < k := by rcases Nat.eq_zero_or_pos k with h | h; · subst h; simp at hj
                        · exact h
  have hi : j / k < l.length := (Nat.div_lt_iff_lt_mul k0).2 hj
  have hc := h.cell (show j / k < d.size by omega) (Nat.mod_lt j k0)
  have e1 : off + j / k * k + j % k = off + j := by rw [Nat.add_assoc, Nat.mul_comm, Nat.div_add_mod]
  rw [e1] at hc
  refine ⟨?_, hc.2⟩
  rw [hc.1, get_flatK _ _ _ _ (by simpa using hj)]
  have e2 : d[j / k]! = l.toArray[j / k]! := by
    have := hd (j / k) hi
    rw [List.getElem?_eq_getElem hi] at this
    rw [getElem!_pos l.toArray (j / k) (by simpa using hi)]
    simpa using (Option.some.inj this).symm
  rw [e2]; rfl

theorem delEnts_calls (v : Value) (l : List Ent) (w : World) (h : Held Ent.cells 7 w v l) (hl : l.length ≤ 1048576) :
    Calls Try.prog 13 #[v, .func (.func 15) #[] #[]] w fun e w' => ∃ v', e = .returned v' ∧ Held Ent.cells 7 w' v' (comm l) ∧ v'.ownBlock = v.ownBlock ∧ w.grownBy w' v.ownBlock := by
  obtain ⟨a, c, rfl, hc, h⟩ := h
  by_cases h0 : l = []
  · subst h0
    refine Calls.mono (deleteNone_calls a c _ w) ?_
    rintro e w' ⟨rfl, rfl⟩
    exact ⟨_, rfl, ⟨a, c, rfl, Nat.zero_le _, Or.inl rfl⟩, rfl, ⟨rfl, rfl, rfl, Nat.le_refl _, fun _ _ _ => rfl⟩⟩
  · obtain ⟨b, off, rfl, hb, hh⟩ := h.resolve_left h0
    have con := deleteFunc_calls (enc := Ent.cells) Try.senv ⟨⟨0, 0⟩, 0, 0, ⟨0, 0, 0⟩⟩ denv Try.func21 Try.func13 (fun e => e.outcome != 1) 15 #[] (enters_of Try.func15 (by kernel_rfl) rfl)
      (fun x w => notCommitted_calls x w) Ent.len Ent.one hh hb (by simp; omega) c (by simpa using hc)
    rw [List.size_toArray] at con
    refine Calls.mono con ?_
    rintro e w' ⟨rfl, d', hS, hsz, hd⟩
    have hf : (l.toArray.toList.filter fun x => !(x.outcome != 1)) = comm l := by
      unfold comm
      refine List.filter_congr fun x _ => ?_
      by_cases hx : x.outcome = 1 <;> simp [hx]
    rw [hf] at hd ⊢
    have hlen := comm_len l
    have hsz : d'.size = l.length := by simpa using hsz
    refine ⟨_, rfl, ⟨_, c, rfl, by omega, Or.inr ⟨b, off, rfl, hS.lt hb, ?_⟩⟩, rfl, swk_grownBy hS⟩
    exact holds_prefix Ent.len (hS.holds hb hh (by rw [hsz]; simp)) (by omega) hd

theorem held_keep {α : Type} [Inhabited α] {enc : α → List Value} {k : Nat} {w w' : World} {v : Value} {l : List α} (h : Held enc k w v l) (hb : Below w.heap.size w w') : Held enc k w' v l := by
  obtain ⟨a, c, rfl, hc, h⟩ := h
  refine ⟨a, c, rfl, hc, ?_⟩
  rcases h with h | ⟨b, off, rfl, hlt, hh⟩
  · exact Or.inl h
  · refine Or.inr ⟨b, off, rfl, Nat.lt_of_lt_of_le hlt hb.size, fun j hj => ?_⟩
    have := hh j hj
    exact ⟨(hb.cell (p := ⟨b, off + j, none⟩) hlt).trans this.1, (hb.frozen (p := ⟨b, off + j, none⟩) hlt).trans this.2⟩

/-- What feed.inOrder hands back: the iterator over the list in the box nb. -/
def OrdPost (w : World) (cms : List Ent) (e : Ending) (w' : World) : Prop :=
  ∃ nb v l t, e = .returned (.func (.func 18) #[] #[.pointer (some ⟨nb, 0, none⟩)]) ∧ w'.heap[nb]? = some (.cells #[v] t (0, 0)) ∧ w.heap.size ≤ nb ∧ Rd Ent.cells 7 w' w.heap.size v l ∧ l.Perm (comm cms) ∧ ByAt l ∧ Below w.heap.size w w'

set_option maxRecDepth 1000000 in
theorem inOrder_calls (r : RV) (cms : List Ent) (w : World) (hC : Rd Ent.cells 7 w 0 (slv r.commits) cms) (hcl : cms.length ≤ 1048576) :
    Calls Try.prog 10 #[rv r] w (OrdPost w cms) := by
  have HC : Aside (Rd Ent.cells 7 w 0 (slv r.commits) cms) := hC
  have HL : Hid (cms.length ≤ 1048576) := hcl
  clear hC hcl
  go_enter Try.func10, Try.ntmps10
  have hB : Below w.heap.size w (w.alloc (.cells (rv r).cells 41)) := (Below.refl _ _).alloc (Nat.le_refl _) _
  have CON : Aside (Calls Try.prog 14 #[slv r.commits] (w.alloc (.cells (rv r).cells 41)) _) := cloneEnts_calls (slv r.commits) cms _ (HC.out.keep hB) HL.out
  have HB : Hid (Below w.heap.size w (w.alloc (.cells (rv r).cells 41))) := hB
  clear hB
  go_wp2_with fail
  refine Calls.mono CON.out ?_
  clear CON
  rintro e w1 ⟨v1, rfl, h1, hf1, hb1⟩
  have CON : Aside (Calls Try.prog 13 #[v1, .func (.func 15) #[] #[]] w1 _) := delEnts_calls v1 cms w1 h1 HL.out
  have HF1 : Hid (∀ b, v1.ownBlock = some b → w.heap.size + 1 ≤ b) := fun b hb => by have := hf1 b hb; simpa using this
  have HB1 : Hid (Below w.heap.size w w1) := HB.out.trans (hb1.mono (by simp))
  clear h1 hf1 hb1 HB
  go_wp2_with fail
  refine Calls.mono CON.out ?_
  clear CON
  rintro e w2 ⟨v2, rfl, h2, hv2, hg2⟩
  have HH2 : Aside (Held Ent.cells 7 w2 v2 (comm cms)) := h2
  have HV2 : Hid (∀ b, v2.ownBlock = some b → w.heap.size + 1 ≤ b) := fun b hb => HF1.out b (by rw [← hv2]; exact hb)
  have HB2 : Hid (Below w.heap.size w w2) := HB1.out.grown hg2 HB1.out.size (fun k e => by have := HF1.out k e; omega)
  obtain ⟨a2, c2, rfl, hc2, hrest⟩ := h2
  clear hrest hc2 hv2 hg2 HF1 HB1
  have CON : Aside (Calls Try.prog 16 #[.slice a2 (comm cms).length c2, .func (.func 17) #[] #[]] (w2.alloc (.cells #[.slice a2 (comm cms).length c2] 38)) _) := sortEnts_calls 17 (enters_of Try.func17 (by kernel_rfl) rfl) compareEntries_calls (.slice a2 (comm cms).length c2) (comm cms) (w2.alloc (.cells #[.slice a2 (comm cms).length c2] 38)) (held_keep HH2.out ((Below.refl _ _).alloc (Nat.le_refl _) _)) (by have := comm_len cms; have := HL.out; omega)
  have HW2 : Hid (w.heap.size ≤ w2.heap.size) := HB2.out.size
  have HLT : Hid (∀ b, (Value.slice a2 (comm cms).length c2).ownBlock = some b → comm cms ≠ [] → b < w2.heap.size) := fun b hb hne => by
    obtain ⟨a, c, he, _, hrest⟩ := HH2.out
    rcases hrest with h | ⟨b', off, rfl, hlt, _⟩
    · exact (hne h).elim
    · cases he
      cases hb
      exact hlt
  go_wp2_with fail
  refine Calls.mono CON.out ?_
  clear CON
  rintro e w3 ⟨rfl, l', hp, hby, hh, hg, hnil⟩
  have HH : Aside (Held Ent.cells 7 w3 (.slice a2 (comm cms).length c2) l') := hh
  have HPB : Hid (l'.Perm (comm cms) ∧ ByAt l') := ⟨hp, hby⟩
  have HBX : Hid (w3.heap[w2.heap.size]? = some (.cells #[.slice a2 (comm cms).length c2] 38 (0, 0))) := by
    show _ = _
    by_cases h0 : comm cms = []
    · rw [hnil h0]; exact World.alloc_heap_new _ _
    · rw [hg.block _ (by simp) (fun e => by have := HLT.out _ e.symm h0; omega)]; exact World.alloc_heap_new _ _
  have HB3 : Hid (Below w.heap.size w w3) := by
    show Below _ _ _
    refine (HB2.out.alloc HW2.out _).grown hg (by simp; have := HW2.out; omega) (fun k e => by have := HV2.out k e; omega)
  clear hh hp hby hg hnil
  go_wp2_with fail
  go_ret
  exact ⟨w2.heap.size, _, l', _, rfl, HBX.out, HW2.out, HH.out.rd Ent.len (fun b hb => by have := HV2.out b hb; omega), HPB.out.1, HPB.out.2, HB3.out⟩
end Go.Proofs.Ytgpagjocjcpbhaa
