/-
  The walk over slices.symMergeCmpFunc at api.Entry: two sorted rows that lie side by side are merged in place. Over a program that is a variable. (Printed by wip/gen_symm.py, a program of this session's own.)
-/
import Derived.Test.YtgpagjocjcpbhaaTmSwr
namespace Go.Proofs.Ytgpagjocjcpbhaa
open Go.Shelf Go.RowKit Go.Lib Go.Sort Go.Tm.Stab
variable {P : Program} {k : Nat} {α : Type} [Inhabited α] {enc : α → List Value} {w0 : World} {blk off : Nat} {d0 : Array α}


set_option maxHeartbeats 4000000 in
set_option maxRecDepth 1000000 in
theorem symMerge_left (E : SEnv P k) (_ : P.funcs[45]? = some Try.f45) (_ : P.funcs[34]? = some Try.f34) (hf : P.funcs[31]? = some Try.f31)
    (R : RowK enc k w0 blk off d0) (hsz : d0.size < 4611686018427387904) (cf : α → α → Int) (hO : SWO (ltOf cf)) (g : Nat) (cb : Array Value) (eg : ∀ args w, (callFunc g args).run P w = .ok (.enter g args) w)
    (hcmp : CmpLays P g cb enc k cf blk off d0.size w0) (cap : Nat) (a m b : Nat) (d : Array α) (W : World) (hS : SWK enc k w0 blk off d W) (hs : d.size = d0.size) (ham : m = a + 1) (hmb : m < b) (hb : b ≤ d.size) (hl : SortedIn (ltOf cf) a m d) (hr : SortedIn (ltOf cf) m b d) :
    Calls P 31 #[.slice (some ⟨blk, off, none⟩) d0.size cap, .int .i64 a, .int .i64 m, .int .i64 b, .func (.func g) #[] cb] W fun e w' => e = .returned (.tuple #[]) ∧
      ∃ d', SWK enc k w0 blk off d' w' ∧ SortedIn (ltOf cf) a b d' ∧ ∀ x y, x ≤ a → b ≤ y → y ≤ d.size → PermIn x y d d' := by
  have mixed := E.mixed; have tS := E.tS; have aS := E.aS; have zS := E.zS; have aE := E.aE; have zE := E.zE; have tI := E.tI; have aI := E.aI; have zI := E.zI; have tU := E.tU; have aU := E.aU; have zU := E.zU; have tB := E.tB; have aB := E.aB; have zB := E.zB
  have HR : Hid (RowK enc k w0 blk off d0) := R
  have HS : Aside (SWK enc k w0 blk off d W) := hS
  have HK : Hid (d.size = d0.size) := hs
  have HC : Aside (CmpLays P g cb enc k cf blk off d0.size w0) := hcmp
  have HO : Hid (SWO (ltOf cf)) := hO
  have HL : Hid (SortedIn (ltOf cf) a m d) := hl
  have HRR : Hid (SortedIn (ltOf cf) m b d) := hr
  clear R hS hs E hcmp hO hl hr
  have hbz : b ≤ d0.size := by have := HK.out; omega
  have HAM : Hid (m = a + 1) := ham
  have ham' : a < m := by omega
  have q1 : ((m : Int) - (a : Int) == 1) = true := beq_iff_eq.2 (by omega)
  clear ham
  go_enter hf, Try.ntmps31
  go_wp2
  go_loopg [10, 11] (b - m) (fun gq vi vj wr => ∃ (i j : Nat), vi = .int .i64 i ∧ vj = .int .i64 j ∧ m ≤ i ∧ i ≤ j ∧ j ≤ b ∧ j - i ≤ gq ∧ Aside (SWK enc k w0 blk off d wr) ∧
      Hid (i = m ∨ ltOf cf d[i - 1]! d[a]! = true) ∧ Hid (j = b ∨ ltOf cf d[j]! d[a]! = false))
  case atStart => exact ⟨m, b, rfl, rfl, Nat.le_refl _, by omega, Nat.le_refl _, Nat.le_refl _, HS, Or.inl rfl, Or.inl rfl⟩
  case round =>
    clear HS
    obtain ⟨i, j, rfl, rfl, hmi, hij, hjb, hg, HS, H1, H2⟩ := hrel
    by_cases hlt : i < j
    · have hltz : decide ((i : Int) < (j : Int)) = true := decide_eq_true (by omega)
      cases hlv : ltOf cf d[(i + j) / 2]! d[a]! with
      | true =>
        have ex1 : (((i : Int) + (j : Int)) / 2).toNat = (i + j) / 2 := by omega
        have px1 : (0 : Int) ≤ ((i : Int) + (j : Int)) / 2 := by omega
        have bx1 : ((i : Int) + (j : Int)) / 2 < (d0.size : Int) := by omega
        have rx1 : IntKind.i64.wrap (((i : Int) + (j : Int)) / 2) = ((i : Int) + (j : Int)) / 2 := by rw [IntKind.wrap_i64]; omega
        have ey1 : ((a : Int)).toNat = a := by omega
        have py1 : (0 : Int) ≤ (a : Int) := by omega
        have by1 : (a : Int) < (d0.size : Int) := by omega
        have ry1 : IntKind.i64.wrap ((a : Int)) = (a : Int) := by rw [IntKind.wrap_i64]; omega
        obtain ⟨cx1, hcx1⟩ : ∃ x, x = d[(i + j) / 2]! := ⟨_, rfl⟩
        obtain ⟨cy1, hcy1⟩ : ∃ x, x = d[a]! := ⟨_, rfl⟩
        have lx1 := HS.out.ld HR.out HK.out P ((i + j) / 2) (by have := HK.out; omega)
        have ly1 := HS.out.ld HR.out HK.out P (a) (by have := HK.out; omega)
        rw [← hcx1] at lx1
        rw [← hcy1] at ly1
        have hc1 := HS.out.cmp HC.out HK.out cx1 cy1
        have hv1 : cf cx1 cy1 < 0 := by rw [hcx1, hcy1]; exact of_decide_eq_true hlv
        have hd1 : decide (cf cx1 cy1 < 0) = true := decide_eq_true hv1
        have HLV : Hid _ := hlv
        clear hcx1 hcy1 hlv
        go_wp2_with fail
        go_quiet_grown (first | (go_at_fn g; refine Calls.grown_of (hc1 _ _)))
        have S2 : Aside _ := HS.out.grown nq osq
        clear HS lx1 ly1 hc1
        generalize grow (wr.drewN nq) osq = wz at S2 ⊢
        clear nq osq
        go_wp2
        go_roundg (j - ((i + j) / 2 + 1))
        case measure => omega
        case rel => exact ⟨(i + j) / 2 + 1, j, by go_num, rfl, by omega, by omega, by omega, Nat.le_refl _, S2, Or.inr (by rw [Nat.add_sub_cancel]; exact HLV.out), H2⟩
      | false =>
        have ex2 : (((i : Int) + (j : Int)) / 2).toNat = (i + j) / 2 := by omega
        have px2 : (0 : Int) ≤ ((i : Int) + (j : Int)) / 2 := by omega
        have bx2 : ((i : Int) + (j : Int)) / 2 < (d0.size : Int) := by omega
        have rx2 : IntKind.i64.wrap (((i : Int) + (j : Int)) / 2) = ((i : Int) + (j : Int)) / 2 := by rw [IntKind.wrap_i64]; omega
        have ey2 : ((a : Int)).toNat = a := by omega
        have py2 : (0 : Int) ≤ (a : Int) := by omega
        have by2 : (a : Int) < (d0.size : Int) := by omega
        have ry2 : IntKind.i64.wrap ((a : Int)) = (a : Int) := by rw [IntKind.wrap_i64]; omega
        obtain ⟨cx2, hcx2⟩ : ∃ x, x = d[(i + j) / 2]! := ⟨_, rfl⟩
        obtain ⟨cy2, hcy2⟩ : ∃ x, x = d[a]! := ⟨_, rfl⟩
        have lx2 := HS.out.ld HR.out HK.out P ((i + j) / 2) (by have := HK.out; omega)
        have ly2 := HS.out.ld HR.out HK.out P (a) (by have := HK.out; omega)
        rw [← hcx2] at lx2
        rw [← hcy2] at ly2
        have hc2 := HS.out.cmp HC.out HK.out cx2 cy2
        have hv2 : ¬ cf cx2 cy2 < 0 := by rw [hcx2, hcy2]; exact of_decide_eq_false hlv
        have hd2 : decide (cf cx2 cy2 < 0) = false := decide_eq_false hv2
        have HLV : Hid _ := hlv
        clear hcx2 hcy2 hlv
        go_wp2_with fail
        go_quiet_grown (first | (go_at_fn g; refine Calls.grown_of (hc2 _ _)))
        have S2 : Aside _ := HS.out.grown nq osq
        clear HS lx2 ly2 hc2
        generalize grow (wr.drewN nq) osq = wz at S2 ⊢
        clear nq osq
        go_wp2
        go_roundg ((i + j) / 2 - i)
        case measure => omega
        case rel => exact ⟨i, (i + j) / 2, rfl, by go_num, by omega, by omega, by omega, Nat.le_refl _, S2, H1, Or.inr HLV.out⟩
    · have hltz : decide ((i : Int) < (j : Int)) = false := decide_eq_false (by omega)
      have hje : i = j := by omega
      have H2' : Hid (i = b ∨ ltOf cf d[i]! d[a]! = false) := by rw [hje]; exact H2
      clear H2 hje
      go_wp2
      go_loopg [13] (i - 1 - a) (fun gq vk w2 => ∃ (kk : Nat) (dk : Array α), vk = .int .i64 kk ∧ a ≤ kk ∧ kk ≤ i - 1 ∧ i - 1 - kk ≤ gq ∧ Aside (SWK enc k w0 blk off dk w2) ∧ Hid (Idx d dk (rot a (a + 1) (kk + 1))) ∧ Hid (∀ x y, x ≤ a → b ≤ y → y ≤ d.size → PermIn x y d dk))
      case atStart => exact ⟨a, d, rfl, Nat.le_refl _, by omega, Nat.le_refl _, HS, rot_none (Or.inr rfl), fun x y _ _ _ => permIn_refl _ _ _⟩
      case round =>
        clear HS
        obtain ⟨kk, dk, rfl, hak, hki, hgk, HS, HI, HP⟩ := hrel
        have HKK : Hid (dk.size = d0.size) := HI.out.1.trans HK.out
        have pi1 : (1 : Int) ≤ (i : Int) := by omega
        by_cases hlk : kk < i - 1
        · have hlkz : decide ((kk : Int) < (i : Int) - 1) = true := decide_eq_true (by omega)
          have hlky : (kk : Int) < (i : Int) - 1 := by omega
          have ex3 : ((kk : Int)).toNat = kk := by omega
          have px3 : (0 : Int) ≤ (kk : Int) := by omega
          have bx3 : (kk : Int) < (d0.size : Int) := by omega
          have rx3 : IntKind.i64.wrap ((kk : Int)) = (kk : Int) := by rw [IntKind.wrap_i64]; omega
          have ey3 : ((kk : Int) + 1).toNat = kk + 1 := by omega
          have py3 : (0 : Int) ≤ (kk : Int) + 1 := by omega
          have by3 : (kk : Int) + 1 < (d0.size : Int) := by omega
          have ry3 : IntKind.i64.wrap ((kk : Int) + 1) = (kk : Int) + 1 := by rw [IntKind.wrap_i64]; omega
          have lx3 := HS.out.ld1 HR.out HKK.out P (kk) (by have := HKK.out; omega)
          have ly3 := HS.out.ld1 HR.out HKK.out P (kk + 1) (by have := HKK.out; omega)
          have sx3 := HS.out.st1 HR.out HKK.out P (kk) (by have := HKK.out; omega) dk[kk + 1]!
          have sy3 := HS.out.st2 HR.out HKK.out P (kk) (kk + 1) (by have := HKK.out; omega) (by have := HKK.out; omega) dk[kk + 1]! dk[kk]!
          have SF : Aside _ := HS.out.swapped HR.out (kk) (kk + 1) (by have := HKK.out; omega) (by have := HKK.out; omega)
          have nx3 : (enc dk[kk]!).length = k := HR.out.hk _
          have ny3 : (enc dk[kk + 1]!).length = k := HR.out.hk _
          clear HS
          generalize enc dk[kk]! = cA3 at SF lx3 sy3 nx3
          generalize enc dk[kk + 1]! = cB3 at SF ly3 sx3 sy3 ny3
          go_wp2_with fail
          go_big_region_o
          clear lx3 ly3 sx3 sy3
          all_goals go_wp2
          go_roundg (i - 1 - (kk + 1))
          case measure => omega
          case rel =>
            refine ⟨kk + 1, Sort.swp dk kk (kk + 1), by go_num, by omega, by omega, Nat.le_refl _, SF, rot_up hak (by have := HK.out; omega) HI.out, fun x y hx hy hyd => ?_⟩
            exact permIn_trans _ _ _ _ _ (HP.out x y hx hy hyd) (swp_permIn _ _ _ _ _ (by omega) (by omega) (by omega) (by omega) (by rw [HI.out.1]; exact hyd))
        · have hlkz : decide ((kk : Int) < (i : Int) - 1) = false := decide_eq_false (by omega)
          have hlky : ¬ (kk : Int) < (i : Int) - 1 := by omega
          have HKE : Hid (kk + 1 = i) := by show _ = _; omega
          go_wp2
          refine bodyPost_ret (results_none rfl _ _ _) rfl ?_
          have hI := HI.out
          rw [HKE.out] at hI
          refine ⟨rfl, dk, HS.out, ?_, HP.out⟩
          have ham := HAM.out
          subst ham
          exact insert_up HO.out (by omega) (by omega) hb HRR.out H1.out H2'.out hI

set_option maxHeartbeats 4000000 in
set_option maxRecDepth 1000000 in
theorem symMerge_right (E : SEnv P k) (_ : P.funcs[45]? = some Try.f45) (_ : P.funcs[34]? = some Try.f34) (hf : P.funcs[31]? = some Try.f31)
    (R : RowK enc k w0 blk off d0) (hsz : d0.size < 4611686018427387904) (cf : α → α → Int) (hO : SWO (ltOf cf)) (g : Nat) (cb : Array Value) (eg : ∀ args w, (callFunc g args).run P w = .ok (.enter g args) w)
    (hcmp : CmpLays P g cb enc k cf blk off d0.size w0) (cap : Nat) (a m b : Nat) (d : Array α) (W : World) (hS : SWK enc k w0 blk off d W) (hs : d.size = d0.size) (ham : a + 1 < m) (hmb : b = m + 1) (hb : b ≤ d.size) (hl : SortedIn (ltOf cf) a m d) (hr : SortedIn (ltOf cf) m b d) :
    Calls P 31 #[.slice (some ⟨blk, off, none⟩) d0.size cap, .int .i64 a, .int .i64 m, .int .i64 b, .func (.func g) #[] cb] W fun e w' => e = .returned (.tuple #[]) ∧
      ∃ d', SWK enc k w0 blk off d' w' ∧ SortedIn (ltOf cf) a b d' ∧ ∀ x y, x ≤ a → b ≤ y → y ≤ d.size → PermIn x y d d' := by
  have mixed := E.mixed; have tS := E.tS; have aS := E.aS; have zS := E.zS; have aE := E.aE; have zE := E.zE; have tI := E.tI; have aI := E.aI; have zI := E.zI; have tU := E.tU; have aU := E.aU; have zU := E.zU; have tB := E.tB; have aB := E.aB; have zB := E.zB
  have HR : Hid (RowK enc k w0 blk off d0) := R
  have HS : Aside (SWK enc k w0 blk off d W) := hS
  have HK : Hid (d.size = d0.size) := hs
  have HC : Aside (CmpLays P g cb enc k cf blk off d0.size w0) := hcmp
  have HO : Hid (SWO (ltOf cf)) := hO
  have HL : Hid (SortedIn (ltOf cf) a m d) := hl
  have HRR : Hid (SortedIn (ltOf cf) m b d) := hr
  clear R hS hs E hcmp hO hl hr
  have hbz : b ≤ d0.size := by have := HK.out; omega
  have HMB : Hid (b = m + 1) := hmb
  have hmb' : m < b := by omega
  have q1 : ((m : Int) - (a : Int) == 1) = false := beq_eq_false_iff_ne.2 (by omega)
  have q2 : ((b : Int) - (m : Int) == 1) = true := beq_iff_eq.2 (by omega)
  clear hmb
  go_enter hf, Try.ntmps31
  go_wp2
  go_loopg [14, 15] (m - a) (fun gq vi vj wr => ∃ (i j : Nat), vi = .int .i64 i ∧ vj = .int .i64 j ∧ a ≤ i ∧ i ≤ j ∧ j ≤ m ∧ j - i ≤ gq ∧ Aside (SWK enc k w0 blk off d wr) ∧
      Hid (i = a ∨ ltOf cf d[m]! d[i - 1]! = false) ∧ Hid (j = m ∨ ltOf cf d[m]! d[j]! = true))
  case atStart => exact ⟨a, m, rfl, rfl, Nat.le_refl _, by omega, Nat.le_refl _, Nat.le_refl _, HS, Or.inl rfl, Or.inl rfl⟩
  case round =>
    clear HS
    obtain ⟨i, j, rfl, rfl, hmi, hij, hjb, hg, HS, H1, H2⟩ := hrel
    by_cases hlt : i < j
    · have hltz : decide ((i : Int) < (j : Int)) = true := decide_eq_true (by omega)
      cases hlv : ltOf cf d[m]! d[(i + j) / 2]! with
      | false =>
        have ex4 : ((m : Int)).toNat = m := by omega
        have px4 : (0 : Int) ≤ (m : Int) := by omega
        have bx4 : (m : Int) < (d0.size : Int) := by omega
        have rx4 : IntKind.i64.wrap ((m : Int)) = (m : Int) := by rw [IntKind.wrap_i64]; omega
        have ey4 : (((i : Int) + (j : Int)) / 2).toNat = (i + j) / 2 := by omega
        have py4 : (0 : Int) ≤ ((i : Int) + (j : Int)) / 2 := by omega
        have by4 : ((i : Int) + (j : Int)) / 2 < (d0.size : Int) := by omega
        have ry4 : IntKind.i64.wrap (((i : Int) + (j : Int)) / 2) = ((i : Int) + (j : Int)) / 2 := by rw [IntKind.wrap_i64]; omega
        obtain ⟨cx4, hcx4⟩ : ∃ x, x = d[m]! := ⟨_, rfl⟩
        obtain ⟨cy4, hcy4⟩ : ∃ x, x = d[(i + j) / 2]! := ⟨_, rfl⟩
        have lx4 := HS.out.ld HR.out HK.out P (m) (by have := HK.out; omega)
        have ly4 := HS.out.ld HR.out HK.out P ((i + j) / 2) (by have := HK.out; omega)
        rw [← hcx4] at lx4
        rw [← hcy4] at ly4
        have hc4 := HS.out.cmp HC.out HK.out cx4 cy4
        have hv4 : ¬ cf cx4 cy4 < 0 := by rw [hcx4, hcy4]; exact of_decide_eq_false hlv
        have hd4 : decide (cf cx4 cy4 < 0) = false := decide_eq_false hv4
        have HLV : Hid _ := hlv
        clear hcx4 hcy4 hlv
        go_wp2_with fail
        go_quiet_grown (first | (go_at_fn g; refine Calls.grown_of (hc4 _ _)))
        have S2 : Aside _ := HS.out.grown nq osq
        clear HS lx4 ly4 hc4
        generalize grow (wr.drewN nq) osq = wz at S2 ⊢
        clear nq osq
        go_wp2
        go_roundg (j - ((i + j) / 2 + 1))
        case measure => omega
        case rel => exact ⟨(i + j) / 2 + 1, j, by go_num, rfl, by omega, by omega, by omega, Nat.le_refl _, S2, Or.inr (by rw [Nat.add_sub_cancel]; exact HLV.out), H2⟩
      | true =>
        have ex5 : ((m : Int)).toNat = m := by omega
        have px5 : (0 : Int) ≤ (m : Int) := by omega
        have bx5 : (m : Int) < (d0.size : Int) := by omega
        have rx5 : IntKind.i64.wrap ((m : Int)) = (m : Int) := by rw [IntKind.wrap_i64]; omega
        have ey5 : (((i : Int) + (j : Int)) / 2).toNat = (i + j) / 2 := by omega
        have py5 : (0 : Int) ≤ ((i : Int) + (j : Int)) / 2 := by omega
        have by5 : ((i : Int) + (j : Int)) / 2 < (d0.size : Int) := by omega
        have ry5 : IntKind.i64.wrap (((i : Int) + (j : Int)) / 2) = ((i : Int) + (j : Int)) / 2 := by rw [IntKind.wrap_i64]; omega
        obtain ⟨cx5, hcx5⟩ : ∃ x, x = d[m]! := ⟨_, rfl⟩
        obtain ⟨cy5, hcy5⟩ : ∃ x, x = d[(i + j) / 2]! := ⟨_, rfl⟩
        have lx5 := HS.out.ld HR.out HK.out P (m) (by have := HK.out; omega)
        have ly5 := HS.out.ld HR.out HK.out P ((i + j) / 2) (by have := HK.out; omega)
        rw [← hcx5] at lx5
        rw [← hcy5] at ly5
        have hc5 := HS.out.cmp HC.out HK.out cx5 cy5
        have hv5 : cf cx5 cy5 < 0 := by rw [hcx5, hcy5]; exact of_decide_eq_true hlv
        have hd5 : decide (cf cx5 cy5 < 0) = true := decide_eq_true hv5
        have HLV : Hid _ := hlv
        clear hcx5 hcy5 hlv
        go_wp2_with fail
        go_quiet_grown (first | (go_at_fn g; refine Calls.grown_of (hc5 _ _)))
        have S2 : Aside _ := HS.out.grown nq osq
        clear HS lx5 ly5 hc5
        generalize grow (wr.drewN nq) osq = wz at S2 ⊢
        clear nq osq
        go_wp2
        go_roundg ((i + j) / 2 - i)
        case measure => omega
        case rel => exact ⟨i, (i + j) / 2, rfl, by go_num, by omega, by omega, by omega, Nat.le_refl _, S2, H1, Or.inr HLV.out⟩
    · have hltz : decide ((i : Int) < (j : Int)) = false := decide_eq_false (by omega)
      have hje : i = j := by omega
      have H2' : Hid (i = m ∨ ltOf cf d[m]! d[i]! = true) := by rw [hje]; exact H2
      clear H2 hje
      go_wp2
      go_loopg [17] (m - i) (fun gq vk w2 => ∃ (kk : Nat) (dk : Array α), vk = .int .i64 kk ∧ i ≤ kk ∧ kk ≤ m ∧ kk - i ≤ gq ∧ Aside (SWK enc k w0 blk off dk w2) ∧ Hid (Idx d dk (rot kk m (m + 1))) ∧ Hid (∀ x y, x ≤ a → b ≤ y → y ≤ d.size → PermIn x y d dk))
      case atStart => exact ⟨m, d, rfl, by omega, Nat.le_refl _, Nat.le_refl _, HS, rot_none (Or.inl rfl), fun x y _ _ _ => permIn_refl _ _ _⟩
      case round =>
        clear HS
        obtain ⟨kk, dk, rfl, hak, hki, hgk, HS, HI, HP⟩ := hrel
        have HKK : Hid (dk.size = d0.size) := HI.out.1.trans HK.out
        by_cases hlk : i < kk
        · have hlkz : decide ((i : Int) < (kk : Int)) = true := decide_eq_true (by omega)
          have hlky : (i : Int) < (kk : Int) := by omega
          obtain ⟨kp, rfl⟩ : ∃ kp, kk = kp + 1 := ⟨kk - 1, by omega⟩
          have hcast : ((kp + 1 : Nat) : Int) = (kp : Int) + 1 := by omega
          have hsub : (kp : Int) + 1 - 1 = (kp : Int) := by omega
          have ex6 : ((kp : Int) + 1).toNat = kp + 1 := by omega
          have px6 : (0 : Int) ≤ (kp : Int) + 1 := by omega
          have bx6 : (kp : Int) + 1 < (d0.size : Int) := by omega
          have rx6 : IntKind.i64.wrap ((kp : Int) + 1) = (kp : Int) + 1 := by rw [IntKind.wrap_i64]; omega
          have ey6 : ((kp : Int)).toNat = kp := by omega
          have py6 : (0 : Int) ≤ (kp : Int) := by omega
          have by6 : (kp : Int) < (d0.size : Int) := by omega
          have ry6 : IntKind.i64.wrap ((kp : Int)) = (kp : Int) := by rw [IntKind.wrap_i64]; omega
          have lx6 := HS.out.ld1 HR.out HKK.out P (kp + 1) (by have := HKK.out; omega)
          have ly6 := HS.out.ld1 HR.out HKK.out P (kp) (by have := HKK.out; omega)
          have sx6 := HS.out.st1 HR.out HKK.out P (kp + 1) (by have := HKK.out; omega) dk[kp]!
          have sy6 := HS.out.st2 HR.out HKK.out P (kp + 1) (kp) (by have := HKK.out; omega) (by have := HKK.out; omega) dk[kp]! dk[kp + 1]!
          have SF : Aside _ := HS.out.swapped HR.out (kp + 1) (kp) (by have := HKK.out; omega) (by have := HKK.out; omega)
          have nx6 : (enc dk[kp + 1]!).length = k := HR.out.hk _
          have ny6 : (enc dk[kp]!).length = k := HR.out.hk _
          clear HS
          generalize enc dk[kp + 1]! = cA6 at SF lx6 sy6 nx6
          generalize enc dk[kp]! = cB6 at SF ly6 sx6 sy6 ny6
          go_wp2_with fail
          go_big_region_o
          clear lx6 ly6 sx6 sy6
          all_goals go_wp2
          go_roundg (kp - i)
          case measure => omega
          case rel =>
            refine ⟨kp, Sort.swp dk (kp + 1) kp, by go_num, by omega, by omega, Nat.le_refl _, SF, rot_down hki (by have := HK.out; omega) HI.out, fun x y hx hy hyd => ?_⟩
            exact permIn_trans _ _ _ _ _ (HP.out x y hx hy hyd) (swp_permIn _ _ _ _ _ (by omega) (by omega) (by omega) (by omega) (by rw [HI.out.1]; exact hyd))
        · have hlkz : decide ((i : Int) < (kk : Int)) = false := decide_eq_false (by omega)
          have hlky : ¬ (i : Int) < (kk : Int) := by omega
          have HKE : Hid (kk = i) := by show _ = _; omega
          go_wp2
          refine bodyPost_ret (results_none rfl _ _ _) rfl ?_
          have hI := HI.out
          rw [HKE.out] at hI
          refine ⟨rfl, dk, HS.out, ?_, HP.out⟩
          have hmb := HMB.out
          subst hmb
          exact insert_down HO.out (by omega) (by omega) (by omega) HL.out H1.out H2'.out hI

end Go.Proofs.Ytgpagjocjcpbhaa
