/-
  The walk over slices.symMergeCmpFunc at api.Entry: two sorted rows that lie side by side are merged in place. Over a program that is a variable. (Printed by wip/gen_symm.py, a program of this session's own.)
-/
import Derived.Test.YtgpagjocjcpbhaaTmSym
namespace Go.Proofs.Ytgpagjocjcpbhaa
open Go.Shelf Go.RowKit Go.Lib Go.Sort Go.Tm.Stab
variable {P : Program} {k : Nat} {α : Type} [Inhabited α] {enc : α → List Value} {w0 : World} {blk off : Nat} {d0 : Array α}


/-- The symmetric merge, whatever the two rows' lengths: by induction on how many elements there are. -/
def SymOk (P : Program) (enc : α → List Value) (k : Nat) (w0 : World) (blk off : Nat) (d0 : Array α) (cf : α → α → Int) (g : Nat) (cb : Array Value) (cap n : Nat) : Prop :=
  ∀ (xa xm xb : Int) (a m b : Nat) (d : Array α) (W : World), xa = a → xm = m → xb = b → b - a ≤ n → SWK enc k w0 blk off d W → d.size = d0.size → a < m → m < b → b ≤ d.size → SortedIn (ltOf cf) a m d → SortedIn (ltOf cf) m b d →
    Calls P 31 #[.slice (some ⟨blk, off, none⟩) d0.size cap, .int .i64 xa, .int .i64 xm, .int .i64 xb, .func (.func g) #[] cb] W fun e w' => e = .returned (.tuple #[]) ∧
      ∃ d', SWK enc k w0 blk off d' w' ∧ SortedIn (ltOf cf) a b d' ∧ ∀ x y, x ≤ a → b ≤ y → y ≤ d.size → PermIn x y d d'

set_option maxHeartbeats 8000000 in
set_option maxRecDepth 1000000 in
theorem symMerge_low (E : SEnv P k) (hfs : P.funcs[45]? = some Try.f45) (hfr : P.funcs[34]? = some Try.f34) (hf : P.funcs[31]? = some Try.f31)
    (R : RowK enc k w0 blk off d0) (hsz : d0.size < 4611686018427387904) (cf : α → α → Int) (hO : SWO (ltOf cf)) (g : Nat) (cb : Array Value) (eg : ∀ args w, (callFunc g args).run P w = .ok (.enter g args) w)
    (hcmp : CmpLays P g cb enc k cf blk off d0.size w0) (cap : Nat) (n : Nat) (ih : SymOk P enc k w0 blk off d0 cf g cb cap n) (a m b : Nat) (d : Array α) (W : World) (hS : SWK enc k w0 blk off d W) (hs : d.size = d0.size) (hn : b - a ≤ n + 1) (ham : a + 1 < m) (hmb : m + 1 < b) (hb : b ≤ d.size) (hl : SortedIn (ltOf cf) a m d) (hr : SortedIn (ltOf cf) m b d)
    (hmm : (a + b) / 2 < m) :
    Calls P 31 #[.slice (some ⟨blk, off, none⟩) d0.size cap, .int .i64 a, .int .i64 m, .int .i64 b, .func (.func g) #[] cb] W fun e w' => e = .returned (.tuple #[]) ∧
      ∃ d', SWK enc k w0 blk off d' w' ∧ SortedIn (ltOf cf) a b d' ∧ ∀ x y, x ≤ a → b ≤ y → y ≤ d.size → PermIn x y d d' := by
  have IH : Aside (SymOk P enc k w0 blk off d0 cf g cb cap n) := ih
  have rot : ∀ (xs xm xe : Int) (s' m' e' : Nat) (W' : World), xs = s' → xm = m' → xe = e' → s' < m' → m' < e' → e' ≤ d.size → SWK enc k w0 blk off d W' → Calls P 34 #[.slice (some ⟨blk, off, none⟩) d0.size cap, .int .i64 xs, .int .i64 xm, .int .i64 xe, .func (.func g) #[] cb] W' fun e w' => e = .returned (.tuple #[]) ∧
      ∃ d', SWK enc k w0 blk off d' w' ∧ Idx d d' (rot s' m' e') ∧ ∀ x y, x ≤ s' → e' ≤ y → y ≤ d.size → PermIn x y d d' := by
    rintro _ _ _ s' m' e' W' rfl rfl rfl h1 h2 h3 h4
    exact rotate_calls E hfs hfr R d cap s' m' e' _ W' h4 hs hsz h1 h2 h3
  have mixed := E.mixed; have tS := E.tS; have aS := E.aS; have zS := E.zS; have aE := E.aE; have zE := E.zE; have tI := E.tI; have aI := E.aI; have zI := E.zI; have tU := E.tU; have aU := E.aU; have zU := E.zU; have tB := E.tB; have aB := E.aB; have zB := E.zB
  have HR : Hid (RowK enc k w0 blk off d0) := R
  have HS : Aside (SWK enc k w0 blk off d W) := hS
  have HK : Hid (d.size = d0.size) := hs
  have HC : Aside (CmpLays P g cb enc k cf blk off d0.size w0) := hcmp
  have HO : Hid (SWO (ltOf cf)) := hO
  have HL : Hid (SortedIn (ltOf cf) a m d) := hl
  have HRR : Hid (SortedIn (ltOf cf) m b d) := hr
  clear R hS hs E hcmp hO hl hr
  have hbz : b ≤ d0.size := by have := HK.out; omega
  have ROT0 : Aside _ := rot
  have efs : ∀ args w, (callFunc 34 args).run P w = .ok (.enter 34 args) w := enters_of hfr (by kernel_rfl) rfl
  have eff : ∀ args w, (callFunc 31 args).run P w = .ok (.enter 31 args) w := enters_of hf (by kernel_rfl) rfl
  clear rot ih hfs hfr
  have q1 : ((m : Int) - (a : Int) == 1) = false := beq_eq_false_iff_ne.2 (by omega)
  have q2 : ((b : Int) - (m : Int) == 1) = false := beq_eq_false_iff_ne.2 (by omega)
  have q3 : decide (((a : Int) + (b : Int)) / 2 < (m : Int)) = true := decide_eq_true (by omega)
  have q3' : ((a : Int) + (b : Int)) / 2 < (m : Int) := by omega
  go_enter hf, Try.ntmps31
  go_wp2
  go_loopg [20, 21] (((a + b) / 2) - ((a + b) / 2 + m - b)) (fun gq vs vr wr => ∃ (s r : Nat), vs = .int .i64 s ∧ vr = .int .i64 r ∧ ((a + b) / 2 + m - b) ≤ s ∧ s ≤ r ∧ r ≤ ((a + b) / 2) ∧ r - s ≤ gq ∧ Aside (SWK enc k w0 blk off d wr) ∧
      Hid (s = ((a + b) / 2 + m - b) ∨ ltOf cf d[(a + b) / 2 + m - s]! d[s - 1]! = false) ∧ Hid (r = ((a + b) / 2) ∨ ltOf cf d[(a + b) / 2 + m - 1 - r]! d[r]! = true))
  case atStart => exact ⟨((a + b) / 2 + m - b), ((a + b) / 2), by go_num, by go_num, Nat.le_refl _, by omega, Nat.le_refl _, Nat.le_refl _, HS, Or.inl rfl, Or.inl rfl⟩
  case round =>
    clear HS
    obtain ⟨s, r, rfl, rfl, hls, hsr, hrh, hg, HS, H1, H2⟩ := hrel
    by_cases hlt : s < r
    · have hltz : decide ((s : Int) < (r : Int)) = true := decide_eq_true (by omega)
      clear ROT0 IH
      have pz : ((s : Int) + (r : Int)) / 2 ≤ ((a : Int) + (b : Int)) / 2 + (m : Int) - 1 := by omega
      cases hlv : ltOf cf d[(a + b) / 2 + m - 1 - (s + r) / 2]! d[(s + r) / 2]! with
      | false =>
        have ex1 : (((a : Int) + (b : Int)) / 2 + (m : Int) - 1 - ((s : Int) + (r : Int)) / 2).toNat = (a + b) / 2 + m - 1 - (s + r) / 2 := by omega
        have px1 : (0 : Int) ≤ ((a : Int) + (b : Int)) / 2 + (m : Int) - 1 - ((s : Int) + (r : Int)) / 2 := by omega
        have bx1 : ((a : Int) + (b : Int)) / 2 + (m : Int) - 1 - ((s : Int) + (r : Int)) / 2 < (d0.size : Int) := by omega
        have rx1 : IntKind.i64.wrap (((a : Int) + (b : Int)) / 2 + (m : Int) - 1 - ((s : Int) + (r : Int)) / 2) = ((a : Int) + (b : Int)) / 2 + (m : Int) - 1 - ((s : Int) + (r : Int)) / 2 := by rw [IntKind.wrap_i64]; omega
        have ey1 : (((s : Int) + (r : Int)) / 2).toNat = (s + r) / 2 := by omega
        have py1 : (0 : Int) ≤ ((s : Int) + (r : Int)) / 2 := by omega
        have by1 : ((s : Int) + (r : Int)) / 2 < (d0.size : Int) := by omega
        have ry1 : IntKind.i64.wrap (((s : Int) + (r : Int)) / 2) = ((s : Int) + (r : Int)) / 2 := by rw [IntKind.wrap_i64]; omega
        obtain ⟨cx1, hcx1⟩ : ∃ x, x = d[(a + b) / 2 + m - 1 - (s + r) / 2]! := ⟨_, rfl⟩
        obtain ⟨cy1, hcy1⟩ : ∃ x, x = d[(s + r) / 2]! := ⟨_, rfl⟩
        have lx1 := HS.out.ld HR.out HK.out P ((a + b) / 2 + m - 1 - (s + r) / 2) (by have := HK.out; omega)
        have ly1 := HS.out.ld HR.out HK.out P ((s + r) / 2) (by have := HK.out; omega)
        rw [← hcx1] at lx1
        rw [← hcy1] at ly1
        have hc1 := HS.out.cmp HC.out HK.out cx1 cy1
        have hv1 : ¬ cf cx1 cy1 < 0 := by rw [hcx1, hcy1]; exact of_decide_eq_false hlv
        have hd1 : decide (cf cx1 cy1 < 0) = false := decide_eq_false hv1
        have HLV : Hid _ := hlv
        clear hcx1 hcy1 hlv
        go_wp2_with fail
        go_quiet_grown (first | (go_at_fn g; refine Calls.grown_of (hc1 _ _)))
        have S2 : Aside _ := HS.out.grown nq osq
        clear HS lx1 ly1 hc1
        generalize grow (wr.drewN nq) osq = wz at S2 ⊢
        clear nq osq
        go_wp2
        go_roundg (r - ((s + r) / 2 + 1))
        case measure => omega
        case rel => exact ⟨(s + r) / 2 + 1, r, by go_num, rfl, by omega, by omega, by omega, Nat.le_refl _, S2, Or.inr (by rw [Nat.add_sub_cancel, show (a + b) / 2 + m - ((s + r) / 2 + 1) = (a + b) / 2 + m - 1 - (s + r) / 2 by omega]; exact HLV.out), H2⟩
      | true =>
        have ex2 : (((a : Int) + (b : Int)) / 2 + (m : Int) - 1 - ((s : Int) + (r : Int)) / 2).toNat = (a + b) / 2 + m - 1 - (s + r) / 2 := by omega
        have px2 : (0 : Int) ≤ ((a : Int) + (b : Int)) / 2 + (m : Int) - 1 - ((s : Int) + (r : Int)) / 2 := by omega
        have bx2 : ((a : Int) + (b : Int)) / 2 + (m : Int) - 1 - ((s : Int) + (r : Int)) / 2 < (d0.size : Int) := by omega
        have rx2 : IntKind.i64.wrap (((a : Int) + (b : Int)) / 2 + (m : Int) - 1 - ((s : Int) + (r : Int)) / 2) = ((a : Int) + (b : Int)) / 2 + (m : Int) - 1 - ((s : Int) + (r : Int)) / 2 := by rw [IntKind.wrap_i64]; omega
        have ey2 : (((s : Int) + (r : Int)) / 2).toNat = (s + r) / 2 := by omega
        have py2 : (0 : Int) ≤ ((s : Int) + (r : Int)) / 2 := by omega
        have by2 : ((s : Int) + (r : Int)) / 2 < (d0.size : Int) := by omega
        have ry2 : IntKind.i64.wrap (((s : Int) + (r : Int)) / 2) = ((s : Int) + (r : Int)) / 2 := by rw [IntKind.wrap_i64]; omega
        obtain ⟨cx2, hcx2⟩ : ∃ x, x = d[(a + b) / 2 + m - 1 - (s + r) / 2]! := ⟨_, rfl⟩
        obtain ⟨cy2, hcy2⟩ : ∃ x, x = d[(s + r) / 2]! := ⟨_, rfl⟩
        have lx2 := HS.out.ld HR.out HK.out P ((a + b) / 2 + m - 1 - (s + r) / 2) (by have := HK.out; omega)
        have ly2 := HS.out.ld HR.out HK.out P ((s + r) / 2) (by have := HK.out; omega)
        rw [← hcx2] at lx2
        rw [← hcy2] at ly2
        have hc2 := HS.out.cmp HC.out HK.out cx2 cy2
        have hv2 : cf cx2 cy2 < 0 := by rw [hcx2, hcy2]; exact of_decide_eq_true hlv
        have hd2 : decide (cf cx2 cy2 < 0) = true := decide_eq_true hv2
        have HLV : Hid _ := hlv
        clear hcx2 hcy2 hlv
        go_wp2_with fail
        go_quiet_grown (first | (go_at_fn g; refine Calls.grown_of (hc2 _ _)))
        have S2 : Aside _ := HS.out.grown nq osq
        clear HS lx2 ly2 hc2
        generalize grow (wr.drewN nq) osq = wz at S2 ⊢
        clear nq osq
        go_wp2
        go_roundg ((s + r) / 2 - s)
        case measure => omega
        case rel => exact ⟨s, (s + r) / 2, rfl, by go_num, by omega, by omega, by omega, Nat.le_refl _, S2, H1, Or.inr HLV.out⟩
    · have hltz : decide ((s : Int) < (r : Int)) = false := decide_eq_false (by omega)
      have hje : s = r := by omega
      have h1' : s = a ∨ ((a + b) / 2 + m - s) = b ∨ ltOf cf d[((a + b) / 2 + m - s)]! d[s - 1]! = false := by
        rcases H1.out with h | h
        · omega
        · exact Or.inr (Or.inr h)
      have h2' : s = m ∨ ((a + b) / 2 + m - s) = m ∨ ltOf cf d[((a + b) / 2 + m - s) - 1]! d[s]! = true := by
        rcases H2.out with h | h
        · omega
        · exact Or.inr (Or.inr (by rw [hje, show (a + b) / 2 + m - r - 1 = (a + b) / 2 + m - 1 - r by omega]; exact h))
      clear H1 H2
      have H1 : Hid _ := h1'
      have H2 : Hid _ := h2'
      have hsz1 : s ≤ m := by omega
      have hsz2 : m ≤ ((a + b) / 2 + m - s) := by omega
      have hsz3 : ((a + b) / 2 + m - s) ≤ b := by omega
      have hsz4 : s ≤ (a + b) / 2 := by omega
      have hsz5 : a ≤ s := by omega
      have rot := fun xs xm xe s' m' e' h1 h2 h3 h4 h5 h6 => ROT0.out xs xm xe s' m' e' wr h1 h2 h3 h4 h5 h6 HS.out
      have ROT : Aside _ := rot
      clear ROT0 rot h1' h2'
      clear hls hrh hg hje hsr
      by_cases hA : s < m
      · have gA : decide ((s : Int) < (m : Int)) = true := decide_eq_true (by omega)
        have gA' : (s : Int) < (m : Int) := by omega
        by_cases hB : m < ((a + b) / 2 + m - s)
        · have gB : decide ((m : Int) < ((a : Int) + (b : Int)) / 2 + (m : Int) - (s : Int)) = true := decide_eq_true (by omega)
          have gB' : (m : Int) < ((a : Int) + (b : Int)) / 2 + (m : Int) - (s : Int) := by omega
          try (exfalso; omega)
          all_goals
            go_wp2_with fail
            refine Calls.mono (ROT.out _ _ (((a : Int) + (b : Int)) / 2 + (m : Int) - (s : Int)) s m ((a + b) / 2 + m - s) rfl rfl (by omega) (by omega) (by omega) (by omega)) ?_
            rintro e w1 ⟨rfl, d1, S1, I1, P1⟩
            have S1 : Aside _ := S1
            have HV : Hid (Halves (ltOf cf) a s ((a + b) / 2) ((a + b) / 2 + m - s) b d1) := halves HO.out (by omega) (by omega) (by omega) (by omega) hb (by omega) HL.out HRR.out H1.out H2.out I1
            have H1S : Hid (d1.size = d.size) := I1.1
            have PP1 : Hid (∀ x y, x ≤ a → b ≤ y → y ≤ d.size → PermIn x y d d1) := fun x y hx hy hyd => P1 x y (by omega) (by omega) hyd
            clear I1 P1
            by_cases hA : a < s
            · have gA : decide ((a : Int) < (s : Int)) = true := decide_eq_true (by omega)
              have gA' : (a : Int) < (s : Int) := by omega
              by_cases hB : s < (a + b) / 2
              · have gB : decide ((s : Int) < ((a : Int) + (b : Int)) / 2) = true := decide_eq_true (by omega)
                have gB' : (s : Int) < ((a : Int) + (b : Int)) / 2 := by omega
                try (exfalso; omega)
                all_goals
                  go_wp2_with fail
                  refine Calls.mono (IH.out _ _ (((a : Int) + (b : Int)) / 2) a s ((a + b) / 2) d1 _ rfl rfl (by omega) (by omega) S1.out (H1S.out.trans HK.out) (by omega) (by omega) (by have := H1S.out; omega) HV.out.h1 HV.out.h2) ?_
                  rintro e w2 ⟨rfl, d2, S2, T2, P2⟩
                  have S2 : Aside _ := S2
                  have P2 : Hid _ := P2
                  have hsz2 := (P2.out a b (Nat.le_refl _) (by omega) (by have := H1S.out; omega)).1
                  have H2S : Hid (d2.size = d.size) := hsz2.trans H1S.out
                  have HF := HV.out.first (by omega) (by omega) (by have := H1S.out; omega) (P2.out a ((a + b) / 2) (Nat.le_refl _) (Nat.le_refl _) (by have := H1S.out; omega)) T2
                  have T2 : Hid (SortedIn (ltOf cf) ((a + b) / 2) ((a + b) / 2 + m - s) d2 ∧ SortedIn (ltOf cf) ((a + b) / 2 + m - s) b d2 ∧ SortedIn (ltOf cf) a ((a + b) / 2) d2 ∧ ∀ i j, a ≤ i → i < (a + b) / 2 → (a + b) / 2 ≤ j → j < b → ltOf cf d2[j]! d2[i]! = false) := ⟨HF.2.1, HF.2.2.1, HF.1, HF.2.2.2⟩
                  have PP2 : Hid (∀ x y, x ≤ a → b ≤ y → y ≤ d.size → PermIn x y d d2) := fun x y hx hy hyd => permIn_trans _ _ _ _ _ (PP1.out x y hx hy hyd) (P2.out x y hx (by omega) (by have := H1S.out; omega))
                  clear HF hsz2
                  by_cases hA : (a + b) / 2 < ((a + b) / 2 + m - s)
                  · have gA : decide (((a : Int) + (b : Int)) / 2 < ((a : Int) + (b : Int)) / 2 + (m : Int) - (s : Int)) = true := decide_eq_true (by omega)
                    have gA' : ((a : Int) + (b : Int)) / 2 < ((a : Int) + (b : Int)) / 2 + (m : Int) - (s : Int) := by omega
                    by_cases hB : ((a + b) / 2 + m - s) < b
                    · have gB : decide (((a : Int) + (b : Int)) / 2 + (m : Int) - (s : Int) < (b : Int)) = true := decide_eq_true (by omega)
                      have gB' : ((a : Int) + (b : Int)) / 2 + (m : Int) - (s : Int) < (b : Int) := by omega
                      try (exfalso; omega)
                      all_goals
                        go_wp2_with fail
                        refine Calls.mono (IH.out (((a : Int) + (b : Int)) / 2) (((a : Int) + (b : Int)) / 2 + (m : Int) - (s : Int)) _ ((a + b) / 2) ((a + b) / 2 + m - s) b d2 _ (by omega) (by omega) rfl (by omega) S2.out (H2S.out.trans HK.out) (by omega) (by omega) (by have := H2S.out; omega) T2.out.1 T2.out.2.1) ?_
                        rintro e w3 ⟨rfl, d3, S3, T3, P3⟩
                        have S3 : Aside _ := S3
                        have T3 : Hid _ := T3
                        have P3 : Hid _ := P3
                        go_wp2
                        go_end0
                        refine ⟨rfl, d3, S3.out, last_half (by have := H2S.out; omega) T2.out.2.2.1 T2.out.2.2.2 (P3.out _ _ (Nat.le_refl _) (Nat.le_refl _) (by have := H2S.out; omega)) T3.out, ?_⟩
                        intro x y hx hy hyd
                        exact permIn_trans _ _ _ _ _ (PP2.out x y hx hy hyd) (P3.out x y (by omega) hy (by have := H2S.out; omega))
                    · have gB : decide (((a : Int) + (b : Int)) / 2 + (m : Int) - (s : Int) < (b : Int)) = false := decide_eq_false (by omega)
                      have gB' : ¬ ((a : Int) + (b : Int)) / 2 + (m : Int) - (s : Int) < (b : Int) := by omega
                      try (exfalso; omega)
                      all_goals
                        go_wp2
                        go_end0
                        have TS : SortedIn (ltOf cf) ((a + b) / 2) b d2 := by
                          have h1 := T2.out.1; have h2 := T2.out.2.1
                          by_cases hx : (a + b) / 2 < ((a + b) / 2 + m - s)
                          · have : b ≤ ((a + b) / 2 + m - s) := by omega
                            have hbe : ((a + b) / 2 + m - s) = b := by omega
                            rw [hbe] at h1; exact h1
                          · have hbe : ((a + b) / 2 + m - s) = (a + b) / 2 := by omega
                            rw [hbe] at h2; exact h2
                        refine ⟨rfl, d2, S2.out, joined T2.out.2.2.1 TS T2.out.2.2.2, PP2.out⟩
                  · have gA : decide (((a : Int) + (b : Int)) / 2 < ((a : Int) + (b : Int)) / 2 + (m : Int) - (s : Int)) = false := decide_eq_false (by omega)
                    have gA' : ¬ ((a : Int) + (b : Int)) / 2 < ((a : Int) + (b : Int)) / 2 + (m : Int) - (s : Int) := by omega
                    try (exfalso; omega)
                    all_goals
                      go_wp2
                      go_end0
                      have TS : SortedIn (ltOf cf) ((a + b) / 2) b d2 := by
                        have h1 := T2.out.1; have h2 := T2.out.2.1
                        by_cases hx : (a + b) / 2 < ((a + b) / 2 + m - s)
                        · have : b ≤ ((a + b) / 2 + m - s) := by omega
                          have hbe : ((a + b) / 2 + m - s) = b := by omega
                          rw [hbe] at h1; exact h1
                        · have hbe : ((a + b) / 2 + m - s) = (a + b) / 2 := by omega
                          rw [hbe] at h2; exact h2
                      refine ⟨rfl, d2, S2.out, joined T2.out.2.2.1 TS T2.out.2.2.2, PP2.out⟩
              · have gB : decide ((s : Int) < ((a : Int) + (b : Int)) / 2) = false := decide_eq_false (by omega)
                have gB' : ¬ (s : Int) < ((a : Int) + (b : Int)) / 2 := by omega
                try (exfalso; omega)
                all_goals
                  have TA : SortedIn (ltOf cf) a ((a + b) / 2) d1 := by
                    have h1 := HV.out.h1; have h2 := HV.out.h2
                    by_cases hx : a < s
                    · have hbe : s = (a + b) / 2 := by omega
                      rw [hbe] at h1; exact h1
                    · have hbe : s = a := by omega
                      rw [hbe] at h2; exact h2
                  obtain ⟨d2, S2, T2, H2S, PP2⟩ : ∃ d2 : Array α, Aside (SWK enc k w0 blk off d2 _) ∧ Hid (SortedIn (ltOf cf) ((a + b) / 2) ((a + b) / 2 + m - s) d2 ∧ SortedIn (ltOf cf) ((a + b) / 2 + m - s) b d2 ∧ SortedIn (ltOf cf) a ((a + b) / 2) d2 ∧ ∀ i j, a ≤ i → i < (a + b) / 2 → (a + b) / 2 ≤ j → j < b → ltOf cf d2[j]! d2[i]! = false) ∧ Hid (d2.size = d.size) ∧ Hid (∀ x y, x ≤ a → b ≤ y → y ≤ d.size → PermIn x y d d2) :=
                    ⟨d1, S1, ⟨HV.out.h3, HV.out.h4, TA, HV.out.cross⟩, H1S, PP1⟩
                  clear TA S1 H1S PP1 HV
                  by_cases hA : (a + b) / 2 < ((a + b) / 2 + m - s)
                  · have gA : decide (((a : Int) + (b : Int)) / 2 < ((a : Int) + (b : Int)) / 2 + (m : Int) - (s : Int)) = true := decide_eq_true (by omega)
                    have gA' : ((a : Int) + (b : Int)) / 2 < ((a : Int) + (b : Int)) / 2 + (m : Int) - (s : Int) := by omega
                    by_cases hB : ((a + b) / 2 + m - s) < b
                    · have gB : decide (((a : Int) + (b : Int)) / 2 + (m : Int) - (s : Int) < (b : Int)) = true := decide_eq_true (by omega)
                      have gB' : ((a : Int) + (b : Int)) / 2 + (m : Int) - (s : Int) < (b : Int) := by omega
                      try (exfalso; omega)
                      all_goals
                        go_wp2_with fail
                        refine Calls.mono (IH.out (((a : Int) + (b : Int)) / 2) (((a : Int) + (b : Int)) / 2 + (m : Int) - (s : Int)) _ ((a + b) / 2) ((a + b) / 2 + m - s) b d2 _ (by omega) (by omega) rfl (by omega) S2.out (H2S.out.trans HK.out) (by omega) (by omega) (by have := H2S.out; omega) T2.out.1 T2.out.2.1) ?_
                        rintro e w3 ⟨rfl, d3, S3, T3, P3⟩
                        have S3 : Aside _ := S3
                        have T3 : Hid _ := T3
                        have P3 : Hid _ := P3
                        go_wp2
                        go_end0
                        refine ⟨rfl, d3, S3.out, last_half (by have := H2S.out; omega) T2.out.2.2.1 T2.out.2.2.2 (P3.out _ _ (Nat.le_refl _) (Nat.le_refl _) (by have := H2S.out; omega)) T3.out, ?_⟩
                        intro x y hx hy hyd
                        exact permIn_trans _ _ _ _ _ (PP2.out x y hx hy hyd) (P3.out x y (by omega) hy (by have := H2S.out; omega))
                    · have gB : decide (((a : Int) + (b : Int)) / 2 + (m : Int) - (s : Int) < (b : Int)) = false := decide_eq_false (by omega)
                      have gB' : ¬ ((a : Int) + (b : Int)) / 2 + (m : Int) - (s : Int) < (b : Int) := by omega
                      try (exfalso; omega)
                      all_goals
                        go_wp2
                        go_end0
                        have TS : SortedIn (ltOf cf) ((a + b) / 2) b d2 := by
                          have h1 := T2.out.1; have h2 := T2.out.2.1
                          by_cases hx : (a + b) / 2 < ((a + b) / 2 + m - s)
                          · have : b ≤ ((a + b) / 2 + m - s) := by omega
                            have hbe : ((a + b) / 2 + m - s) = b := by omega
                            rw [hbe] at h1; exact h1
                          · have hbe : ((a + b) / 2 + m - s) = (a + b) / 2 := by omega
                            rw [hbe] at h2; exact h2
                        refine ⟨rfl, d2, S2.out, joined T2.out.2.2.1 TS T2.out.2.2.2, PP2.out⟩
                  · have gA : decide (((a : Int) + (b : Int)) / 2 < ((a : Int) + (b : Int)) / 2 + (m : Int) - (s : Int)) = false := decide_eq_false (by omega)
                    have gA' : ¬ ((a : Int) + (b : Int)) / 2 < ((a : Int) + (b : Int)) / 2 + (m : Int) - (s : Int) := by omega
                    try (exfalso; omega)
                    all_goals
                      go_wp2
                      go_end0
                      have TS : SortedIn (ltOf cf) ((a + b) / 2) b d2 := by
                        have h1 := T2.out.1; have h2 := T2.out.2.1
                        by_cases hx : (a + b) / 2 < ((a + b) / 2 + m - s)
                        · have : b ≤ ((a + b) / 2 + m - s) := by omega
                          have hbe : ((a + b) / 2 + m - s) = b := by omega
                          rw [hbe] at h1; exact h1
                        · have hbe : ((a + b) / 2 + m - s) = (a + b) / 2 := by omega
                          rw [hbe] at h2; exact h2
                      refine ⟨rfl, d2, S2.out, joined T2.out.2.2.1 TS T2.out.2.2.2, PP2.out⟩
            · have gA : decide ((a : Int) < (s : Int)) = false := decide_eq_false (by omega)
              have gA' : ¬ (a : Int) < (s : Int) := by omega
              try (exfalso; omega)
              all_goals
                have TA : SortedIn (ltOf cf) a ((a + b) / 2) d1 := by
                  have h1 := HV.out.h1; have h2 := HV.out.h2
                  by_cases hx : a < s
                  · have hbe : s = (a + b) / 2 := by omega
                    rw [hbe] at h1; exact h1
                  · have hbe : s = a := by omega
                    rw [hbe] at h2; exact h2
                obtain ⟨d2, S2, T2, H2S, PP2⟩ : ∃ d2 : Array α, Aside (SWK enc k w0 blk off d2 _) ∧ Hid (SortedIn (ltOf cf) ((a + b) / 2) ((a + b) / 2 + m - s) d2 ∧ SortedIn (ltOf cf) ((a + b) / 2 + m - s) b d2 ∧ SortedIn (ltOf cf) a ((a + b) / 2) d2 ∧ ∀ i j, a ≤ i → i < (a + b) / 2 → (a + b) / 2 ≤ j → j < b → ltOf cf d2[j]! d2[i]! = false) ∧ Hid (d2.size = d.size) ∧ Hid (∀ x y, x ≤ a → b ≤ y → y ≤ d.size → PermIn x y d d2) :=
                  ⟨d1, S1, ⟨HV.out.h3, HV.out.h4, TA, HV.out.cross⟩, H1S, PP1⟩
                clear TA S1 H1S PP1 HV
                by_cases hA : (a + b) / 2 < ((a + b) / 2 + m - s)
                · have gA : decide (((a : Int) + (b : Int)) / 2 < ((a : Int) + (b : Int)) / 2 + (m : Int) - (s : Int)) = true := decide_eq_true (by omega)
                  have gA' : ((a : Int) + (b : Int)) / 2 < ((a : Int) + (b : Int)) / 2 + (m : Int) - (s : Int) := by omega
                  by_cases hB : ((a + b) / 2 + m - s) < b
                  · have gB : decide (((a : Int) + (b : Int)) / 2 + (m : Int) - (s : Int) < (b : Int)) = true := decide_eq_true (by omega)
                    have gB' : ((a : Int) + (b : Int)) / 2 + (m : Int) - (s : Int) < (b : Int) := by omega
                    try (exfalso; omega)
                    all_goals
                      go_wp2_with fail
                      refine Calls.mono (IH.out (((a : Int) + (b : Int)) / 2) (((a : Int) + (b : Int)) / 2 + (m : Int) - (s : Int)) _ ((a + b) / 2) ((a + b) / 2 + m - s) b d2 _ (by omega) (by omega) rfl (by omega) S2.out (H2S.out.trans HK.out) (by omega) (by omega) (by have := H2S.out; omega) T2.out.1 T2.out.2.1) ?_
                      rintro e w3 ⟨rfl, d3, S3, T3, P3⟩
                      have S3 : Aside _ := S3
                      have T3 : Hid _ := T3
                      have P3 : Hid _ := P3
                      go_wp2
                      go_end0
                      refine ⟨rfl, d3, S3.out, last_half (by have := H2S.out; omega) T2.out.2.2.1 T2.out.2.2.2 (P3.out _ _ (Nat.le_refl _) (Nat.le_refl _) (by have := H2S.out; omega)) T3.out, ?_⟩
                      intro x y hx hy hyd
                      exact permIn_trans _ _ _ _ _ (PP2.out x y hx hy hyd) (P3.out x y (by omega) hy (by have := H2S.out; omega))
                  · have gB : decide (((a : Int) + (b : Int)) / 2 + (m : Int) - (s : Int) < (b : Int)) = false := decide_eq_false (by omega)
                    have gB' : ¬ ((a : Int) + (b : Int)) / 2 + (m : Int) - (s : Int) < (b : Int) := by omega
                    try (exfalso; omega)
                    all_goals
                      go_wp2
                      go_end0
                      have TS : SortedIn (ltOf cf) ((a + b) / 2) b d2 := by
                        have h1 := T2.out.1; have h2 := T2.out.2.1
                        by_cases hx : (a + b) / 2 < ((a + b) / 2 + m - s)
                        · have : b ≤ ((a + b) / 2 + m - s) := by omega
                          have hbe : ((a + b) / 2 + m - s) = b := by omega
                          rw [hbe] at h1; exact h1
                        · have hbe : ((a + b) / 2 + m - s) = (a + b) / 2 := by omega
                          rw [hbe] at h2; exact h2
                      refine ⟨rfl, d2, S2.out, joined T2.out.2.2.1 TS T2.out.2.2.2, PP2.out⟩
                · have gA : decide (((a : Int) + (b : Int)) / 2 < ((a : Int) + (b : Int)) / 2 + (m : Int) - (s : Int)) = false := decide_eq_false (by omega)
                  have gA' : ¬ ((a : Int) + (b : Int)) / 2 < ((a : Int) + (b : Int)) / 2 + (m : Int) - (s : Int) := by omega
                  try (exfalso; omega)
                  all_goals
                    go_wp2
                    go_end0
                    have TS : SortedIn (ltOf cf) ((a + b) / 2) b d2 := by
                      have h1 := T2.out.1; have h2 := T2.out.2.1
                      by_cases hx : (a + b) / 2 < ((a + b) / 2 + m - s)
                      · have : b ≤ ((a + b) / 2 + m - s) := by omega
                        have hbe : ((a + b) / 2 + m - s) = b := by omega
                        rw [hbe] at h1; exact h1
                      · have hbe : ((a + b) / 2 + m - s) = (a + b) / 2 := by omega
                        rw [hbe] at h2; exact h2
                    refine ⟨rfl, d2, S2.out, joined T2.out.2.2.1 TS T2.out.2.2.2, PP2.out⟩
        · have gB : decide ((m : Int) < ((a : Int) + (b : Int)) / 2 + (m : Int) - (s : Int)) = false := decide_eq_false (by omega)
          have gB' : ¬ (m : Int) < ((a : Int) + (b : Int)) / 2 + (m : Int) - (s : Int) := by omega
          try (exfalso; omega)
          all_goals
            obtain ⟨d1, S1, HV, H1S, PP1⟩ : ∃ d1 : Array α, Aside (SWK enc k w0 blk off d1 wr) ∧ Hid (Halves (ltOf cf) a s ((a + b) / 2) ((a + b) / 2 + m - s) b d1) ∧ Hid (d1.size = d.size) ∧ Hid (∀ x y, x ≤ a → b ≤ y → y ≤ d.size → PermIn x y d d1) :=
              ⟨d, HS, halves HO.out (by omega) (by omega) (by omega) (by omega) hb (by omega) HL.out HRR.out H1.out H2.out (rot_none (by omega)), rfl, fun x y _ _ _ => permIn_refl _ _ _⟩
            clear HS
            by_cases hA : a < s
            · have gA : decide ((a : Int) < (s : Int)) = true := decide_eq_true (by omega)
              have gA' : (a : Int) < (s : Int) := by omega
              by_cases hB : s < (a + b) / 2
              · have gB : decide ((s : Int) < ((a : Int) + (b : Int)) / 2) = true := decide_eq_true (by omega)
                have gB' : (s : Int) < ((a : Int) + (b : Int)) / 2 := by omega
                try (exfalso; omega)
                all_goals
                  go_wp2_with fail
                  refine Calls.mono (IH.out _ _ (((a : Int) + (b : Int)) / 2) a s ((a + b) / 2) d1 _ rfl rfl (by omega) (by omega) S1.out (H1S.out.trans HK.out) (by omega) (by omega) (by have := H1S.out; omega) HV.out.h1 HV.out.h2) ?_
                  rintro e w2 ⟨rfl, d2, S2, T2, P2⟩
                  have S2 : Aside _ := S2
                  have P2 : Hid _ := P2
                  have hsz2 := (P2.out a b (Nat.le_refl _) (by omega) (by have := H1S.out; omega)).1
                  have H2S : Hid (d2.size = d.size) := hsz2.trans H1S.out
                  have HF := HV.out.first (by omega) (by omega) (by have := H1S.out; omega) (P2.out a ((a + b) / 2) (Nat.le_refl _) (Nat.le_refl _) (by have := H1S.out; omega)) T2
                  have T2 : Hid (SortedIn (ltOf cf) ((a + b) / 2) ((a + b) / 2 + m - s) d2 ∧ SortedIn (ltOf cf) ((a + b) / 2 + m - s) b d2 ∧ SortedIn (ltOf cf) a ((a + b) / 2) d2 ∧ ∀ i j, a ≤ i → i < (a + b) / 2 → (a + b) / 2 ≤ j → j < b → ltOf cf d2[j]! d2[i]! = false) := ⟨HF.2.1, HF.2.2.1, HF.1, HF.2.2.2⟩
                  have PP2 : Hid (∀ x y, x ≤ a → b ≤ y → y ≤ d.size → PermIn x y d d2) := fun x y hx hy hyd => permIn_trans _ _ _ _ _ (PP1.out x y hx hy hyd) (P2.out x y hx (by omega) (by have := H1S.out; omega))
                  clear HF hsz2
                  by_cases hA : (a + b) / 2 < ((a + b) / 2 + m - s)
                  · have gA : decide (((a : Int) + (b : Int)) / 2 < ((a : Int) + (b : Int)) / 2 + (m : Int) - (s : Int)) = true := decide_eq_true (by omega)
                    have gA' : ((a : Int) + (b : Int)) / 2 < ((a : Int) + (b : Int)) / 2 + (m : Int) - (s : Int) := by omega
                    by_cases hB : ((a + b) / 2 + m - s) < b
                    · have gB : decide (((a : Int) + (b : Int)) / 2 + (m : Int) - (s : Int) < (b : Int)) = true := decide_eq_true (by omega)
                      have gB' : ((a : Int) + (b : Int)) / 2 + (m : Int) - (s : Int) < (b : Int) := by omega
                      try (exfalso; omega)
                      all_goals
                        go_wp2_with fail
                        refine Calls.mono (IH.out (((a : Int) + (b : Int)) / 2) (((a : Int) + (b : Int)) / 2 + (m : Int) - (s : Int)) _ ((a + b) / 2) ((a + b) / 2 + m - s) b d2 _ (by omega) (by omega) rfl (by omega) S2.out (H2S.out.trans HK.out) (by omega) (by omega) (by have := H2S.out; omega) T2.out.1 T2.out.2.1) ?_
                        rintro e w3 ⟨rfl, d3, S3, T3, P3⟩
                        have S3 : Aside _ := S3
                        have T3 : Hid _ := T3
                        have P3 : Hid _ := P3
                        go_wp2
                        go_end0
                        refine ⟨rfl, d3, S3.out, last_half (by have := H2S.out; omega) T2.out.2.2.1 T2.out.2.2.2 (P3.out _ _ (Nat.le_refl _) (Nat.le_refl _) (by have := H2S.out; omega)) T3.out, ?_⟩
                        intro x y hx hy hyd
                        exact permIn_trans _ _ _ _ _ (PP2.out x y hx hy hyd) (P3.out x y (by omega) hy (by have := H2S.out; omega))
                    · have gB : decide (((a : Int) + (b : Int)) / 2 + (m : Int) - (s : Int) < (b : Int)) = false := decide_eq_false (by omega)
                      have gB' : ¬ ((a : Int) + (b : Int)) / 2 + (m : Int) - (s : Int) < (b : Int) := by omega
                      try (exfalso; omega)
                      all_goals
                        go_wp2
                        go_end0
                        have TS : SortedIn (ltOf cf) ((a + b) / 2) b d2 := by
                          have h1 := T2.out.1; have h2 := T2.out.2.1
                          by_cases hx : (a + b) / 2 < ((a + b) / 2 + m - s)
                          · have : b ≤ ((a + b) / 2 + m - s) := by omega
                            have hbe : ((a + b) / 2 + m - s) = b := by omega
                            rw [hbe] at h1; exact h1
                          · have hbe : ((a + b) / 2 + m - s) = (a + b) / 2 := by omega
                            rw [hbe] at h2; exact h2
                        refine ⟨rfl, d2, S2.out, joined T2.out.2.2.1 TS T2.out.2.2.2, PP2.out⟩
                  · have gA : decide (((a : Int) + (b : Int)) / 2 < ((a : Int) + (b : Int)) / 2 + (m : Int) - (s : Int)) = false := decide_eq_false (by omega)
                    have gA' : ¬ ((a : Int) + (b : Int)) / 2 < ((a : Int) + (b : Int)) / 2 + (m : Int) - (s : Int) := by omega
                    try (exfalso; omega)
                    all_goals
                      go_wp2
                      go_end0
                      have TS : SortedIn (ltOf cf) ((a + b) / 2) b d2 := by
                        have h1 := T2.out.1; have h2 := T2.out.2.1
                        by_cases hx : (a + b) / 2 < ((a + b) / 2 + m - s)
                        · have : b ≤ ((a + b) / 2 + m - s) := by omega
                          have hbe : ((a + b) / 2 + m - s) = b := by omega
                          rw [hbe] at h1; exact h1
                        · have hbe : ((a + b) / 2 + m - s) = (a + b) / 2 := by omega
                          rw [hbe] at h2; exact h2
                      refine ⟨rfl, d2, S2.out, joined T2.out.2.2.1 TS T2.out.2.2.2, PP2.out⟩
              · have gB : decide ((s : Int) < ((a : Int) + (b : Int)) / 2) = false := decide_eq_false (by omega)
                have gB' : ¬ (s : Int) < ((a : Int) + (b : Int)) / 2 := by omega
                try (exfalso; omega)
                all_goals
                  have TA : SortedIn (ltOf cf) a ((a + b) / 2) d1 := by
                    have h1 := HV.out.h1; have h2 := HV.out.h2
                    by_cases hx : a < s
                    · have hbe : s = (a + b) / 2 := by omega
                      rw [hbe] at h1; exact h1
                    · have hbe : s = a := by omega
                      rw [hbe] at h2; exact h2
                  obtain ⟨d2, S2, T2, H2S, PP2⟩ : ∃ d2 : Array α, Aside (SWK enc k w0 blk off d2 _) ∧ Hid (SortedIn (ltOf cf) ((a + b) / 2) ((a + b) / 2 + m - s) d2 ∧ SortedIn (ltOf cf) ((a + b) / 2 + m - s) b d2 ∧ SortedIn (ltOf cf) a ((a + b) / 2) d2 ∧ ∀ i j, a ≤ i → i < (a + b) / 2 → (a + b) / 2 ≤ j → j < b → ltOf cf d2[j]! d2[i]! = false) ∧ Hid (d2.size = d.size) ∧ Hid (∀ x y, x ≤ a → b ≤ y → y ≤ d.size → PermIn x y d d2) :=
                    ⟨d1, S1, ⟨HV.out.h3, HV.out.h4, TA, HV.out.cross⟩, H1S, PP1⟩
                  clear TA S1 H1S PP1 HV
                  by_cases hA : (a + b) / 2 < ((a + b) / 2 + m - s)
                  · have gA : decide (((a : Int) + (b : Int)) / 2 < ((a : Int) + (b : Int)) / 2 + (m : Int) - (s : Int)) = true := decide_eq_true (by omega)
                    have gA' : ((a : Int) + (b : Int)) / 2 < ((a : Int) + (b : Int)) / 2 + (m : Int) - (s : Int) := by omega
                    by_cases hB : ((a + b) / 2 + m - s) < b
                    · have gB : decide (((a : Int) + (b : Int)) / 2 + (m : Int) - (s : Int) < (b : Int)) = true := decide_eq_true (by omega)
                      have gB' : ((a : Int) + (b : Int)) / 2 + (m : Int) - (s : Int) < (b : Int) := by omega
                      try (exfalso; omega)
                      all_goals
                        go_wp2_with fail
                        refine Calls.mono (IH.out (((a : Int) + (b : Int)) / 2) (((a : Int) + (b : Int)) / 2 + (m : Int) - (s : Int)) _ ((a + b) / 2) ((a + b) / 2 + m - s) b d2 _ (by omega) (by omega) rfl (by omega) S2.out (H2S.out.trans HK.out) (by omega) (by omega) (by have := H2S.out; omega) T2.out.1 T2.out.2.1) ?_
                        rintro e w3 ⟨rfl, d3, S3, T3, P3⟩
                        have S3 : Aside _ := S3
                        have T3 : Hid _ := T3
                        have P3 : Hid _ := P3
                        go_wp2
                        go_end0
                        refine ⟨rfl, d3, S3.out, last_half (by have := H2S.out; omega) T2.out.2.2.1 T2.out.2.2.2 (P3.out _ _ (Nat.le_refl _) (Nat.le_refl _) (by have := H2S.out; omega)) T3.out, ?_⟩
                        intro x y hx hy hyd
                        exact permIn_trans _ _ _ _ _ (PP2.out x y hx hy hyd) (P3.out x y (by omega) hy (by have := H2S.out; omega))
                    · have gB : decide (((a : Int) + (b : Int)) / 2 + (m : Int) - (s : Int) < (b : Int)) = false := decide_eq_false (by omega)
                      have gB' : ¬ ((a : Int) + (b : Int)) / 2 + (m : Int) - (s : Int) < (b : Int) := by omega
                      try (exfalso; omega)
                      all_goals
                        go_wp2
                        go_end0
                        have TS : SortedIn (ltOf cf) ((a + b) / 2) b d2 := by
                          have h1 := T2.out.1; have h2 := T2.out.2.1
                          by_cases hx : (a + b) / 2 < ((a + b) / 2 + m - s)
                          · have : b ≤ ((a + b) / 2 + m - s) := by omega
                            have hbe : ((a + b) / 2 + m - s) = b := by omega
                            rw [hbe] at h1; exact h1
                          · have hbe : ((a + b) / 2 + m - s) = (a + b) / 2 := by omega
                            rw [hbe] at h2; exact h2
                        refine ⟨rfl, d2, S2.out, joined T2.out.2.2.1 TS T2.out.2.2.2, PP2.out⟩
                  · have gA : decide (((a : Int) + (b : Int)) / 2 < ((a : Int) + (b : Int)) / 2 + (m : Int) - (s : Int)) = false := decide_eq_false (by omega)
                    have gA' : ¬ ((a : Int) + (b : Int)) / 2 < ((a : Int) + (b : Int)) / 2 + (m : Int) - (s : Int) := by omega
                    try (exfalso; omega)
                    all_goals
                      go_wp2
                      go_end0
                      have TS : SortedIn (ltOf cf) ((a + b) / 2) b d2 := by
                        have h1 := T2.out.1; have h2 := T2.out.2.1
                        by_cases hx : (a + b) / 2 < ((a + b) / 2 + m - s)
                        · have : b ≤ ((a + b) / 2 + m - s) := by omega
                          have hbe : ((a + b) / 2 + m - s) = b := by omega
                          rw [hbe] at h1; exact h1
                        · have hbe : ((a + b) / 2 + m - s) = (a + b) / 2 := by omega
                          rw [hbe] at h2; exact h2
                      refine ⟨rfl, d2, S2.out, joined T2.out.2.2.1 TS T2.out.2.2.2, PP2.out⟩
            · have gA : decide ((a : Int) < (s : Int)) = false := decide_eq_false (by omega)
              have gA' : ¬ (a : Int) < (s : Int) := by omega
              try (exfalso; omega)
              all_goals
                have TA : SortedIn (ltOf cf) a ((a + b) / 2) d1 := by
                  have h1 := HV.out.h1; have h2 := HV.out.h2
                  by_cases hx : a < s
                  · have hbe : s = (a + b) / 2 := by omega
                    rw [hbe] at h1; exact h1
                  · have hbe : s = a := by omega
                    rw [hbe] at h2; exact h2
                obtain ⟨d2, S2, T2, H2S, PP2⟩ : ∃ d2 : Array α, Aside (SWK enc k w0 blk off d2 _) ∧ Hid (SortedIn (ltOf cf) ((a + b) / 2) ((a + b) / 2 + m - s) d2 ∧ SortedIn (ltOf cf) ((a + b) / 2 + m - s) b d2 ∧ SortedIn (ltOf cf) a ((a + b) / 2) d2 ∧ ∀ i j, a ≤ i → i < (a + b) / 2 → (a + b) / 2 ≤ j → j < b → ltOf cf d2[j]! d2[i]! = false) ∧ Hid (d2.size = d.size) ∧ Hid (∀ x y, x ≤ a → b ≤ y → y ≤ d.size → PermIn x y d d2) :=
                  ⟨d1, S1, ⟨HV.out.h3, HV.out.h4, TA, HV.out.cross⟩, H1S, PP1⟩
                clear TA S1 H1S PP1 HV
                by_cases hA : (a + b) / 2 < ((a + b) / 2 + m - s)
                · have gA : decide (((a : Int) + (b : Int)) / 2 < ((a : Int) + (b : Int)) / 2 + (m : Int) - (s : Int)) = true := decide_eq_true (by omega)
                  have gA' : ((a : Int) + (b : Int)) / 2 < ((a : Int) + (b : Int)) / 2 + (m : Int) - (s : Int) := by omega
                  by_cases hB : ((a + b) / 2 + m - s) < b
                  · have gB : decide (((a : Int) + (b : Int)) / 2 + (m : Int) - (s : Int) < (b : Int)) = true := decide_eq_true (by omega)
                    have gB' : ((a : Int) + (b : Int)) / 2 + (m : Int) - (s : Int) < (b : Int) := by omega
                    try (exfalso; omega)
                    all_goals
                      go_wp2_with fail
                      refine Calls.mono (IH.out (((a : Int) + (b : Int)) / 2) (((a : Int) + (b : Int)) / 2 + (m : Int) - (s : Int)) _ ((a + b) / 2) ((a + b) / 2 + m - s) b d2 _ (by omega) (by omega) rfl (by omega) S2.out (H2S.out.trans HK.out) (by omega) (by omega) (by have := H2S.out; omega) T2.out.1 T2.out.2.1) ?_
                      rintro e w3 ⟨rfl, d3, S3, T3, P3⟩
                      have S3 : Aside _ := S3
                      have T3 : Hid _ := T3
                      have P3 : Hid _ := P3
                      go_wp2
                      go_end0
                      refine ⟨rfl, d3, S3.out, last_half (by have := H2S.out; omega) T2.out.2.2.1 T2.out.2.2.2 (P3.out _ _ (Nat.le_refl _) (Nat.le_refl _) (by have := H2S.out; omega)) T3.out, ?_⟩
                      intro x y hx hy hyd
                      exact permIn_trans _ _ _ _ _ (PP2.out x y hx hy hyd) (P3.out x y (by omega) hy (by have := H2S.out; omega))
                  · have gB : decide (((a : Int) + (b : Int)) / 2 + (m : Int) - (s : Int) < (b : Int)) = false := decide_eq_false (by omega)
                    have gB' : ¬ ((a : Int) + (b : Int)) / 2 + (m : Int) - (s : Int) < (b : Int) := by omega
                    try (exfalso; omega)
                    all_goals
                      go_wp2
                      go_end0
                      have TS : SortedIn (ltOf cf) ((a + b) / 2) b d2 := by
                        have h1 := T2.out.1; have h2 := T2.out.2.1
                        by_cases hx : (a + b) / 2 < ((a + b) / 2 + m - s)
                        · have : b ≤ ((a + b) / 2 + m - s) := by omega
                          have hbe : ((a + b) / 2 + m - s) = b := by omega
                          rw [hbe] at h1; exact h1
                        · have hbe : ((a + b) / 2 + m - s) = (a + b) / 2 := by omega
                          rw [hbe] at h2; exact h2
                      refine ⟨rfl, d2, S2.out, joined T2.out.2.2.1 TS T2.out.2.2.2, PP2.out⟩
                · have gA : decide (((a : Int) + (b : Int)) / 2 < ((a : Int) + (b : Int)) / 2 + (m : Int) - (s : Int)) = false := decide_eq_false (by omega)
                  have gA' : ¬ ((a : Int) + (b : Int)) / 2 < ((a : Int) + (b : Int)) / 2 + (m : Int) - (s : Int) := by omega
                  try (exfalso; omega)
                  all_goals
                    go_wp2
                    go_end0
                    have TS : SortedIn (ltOf cf) ((a + b) / 2) b d2 := by
                      have h1 := T2.out.1; have h2 := T2.out.2.1
                      by_cases hx : (a + b) / 2 < ((a + b) / 2 + m - s)
                      · have : b ≤ ((a + b) / 2 + m - s) := by omega
                        have hbe : ((a + b) / 2 + m - s) = b := by omega
                        rw [hbe] at h1; exact h1
                      · have hbe : ((a + b) / 2 + m - s) = (a + b) / 2 := by omega
                        rw [hbe] at h2; exact h2
                    refine ⟨rfl, d2, S2.out, joined T2.out.2.2.1 TS T2.out.2.2.2, PP2.out⟩
      · have gA : decide ((s : Int) < (m : Int)) = false := decide_eq_false (by omega)
        have gA' : ¬ (s : Int) < (m : Int) := by omega
        try (exfalso; omega)
        all_goals
          obtain ⟨d1, S1, HV, H1S, PP1⟩ : ∃ d1 : Array α, Aside (SWK enc k w0 blk off d1 wr) ∧ Hid (Halves (ltOf cf) a s ((a + b) / 2) ((a + b) / 2 + m - s) b d1) ∧ Hid (d1.size = d.size) ∧ Hid (∀ x y, x ≤ a → b ≤ y → y ≤ d.size → PermIn x y d d1) :=
            ⟨d, HS, halves HO.out (by omega) (by omega) (by omega) (by omega) hb (by omega) HL.out HRR.out H1.out H2.out (rot_none (by omega)), rfl, fun x y _ _ _ => permIn_refl _ _ _⟩
          clear HS
          by_cases hA : a < s
          · have gA : decide ((a : Int) < (s : Int)) = true := decide_eq_true (by omega)
            have gA' : (a : Int) < (s : Int) := by omega
            by_cases hB : s < (a + b) / 2
            · have gB : decide ((s : Int) < ((a : Int) + (b : Int)) / 2) = true := decide_eq_true (by omega)
              have gB' : (s : Int) < ((a : Int) + (b : Int)) / 2 := by omega
              try (exfalso; omega)
              all_goals
                go_wp2_with fail
                refine Calls.mono (IH.out _ _ (((a : Int) + (b : Int)) / 2) a s ((a + b) / 2) d1 _ rfl rfl (by omega) (by omega) S1.out (H1S.out.trans HK.out) (by omega) (by omega) (by have := H1S.out; omega) HV.out.h1 HV.out.h2) ?_
                rintro e w2 ⟨rfl, d2, S2, T2, P2⟩
                have S2 : Aside _ := S2
                have P2 : Hid _ := P2
                have hsz2 := (P2.out a b (Nat.le_refl _) (by omega) (by have := H1S.out; omega)).1
                have H2S : Hid (d2.size = d.size) := hsz2.trans H1S.out
                have HF := HV.out.first (by omega) (by omega) (by have := H1S.out; omega) (P2.out a ((a + b) / 2) (Nat.le_refl _) (Nat.le_refl _) (by have := H1S.out; omega)) T2
                have T2 : Hid (SortedIn (ltOf cf) ((a + b) / 2) ((a + b) / 2 + m - s) d2 ∧ SortedIn (ltOf cf) ((a + b) / 2 + m - s) b d2 ∧ SortedIn (ltOf cf) a ((a + b) / 2) d2 ∧ ∀ i j, a ≤ i → i < (a + b) / 2 → (a + b) / 2 ≤ j → j < b → ltOf cf d2[j]! d2[i]! = false) := ⟨HF.2.1, HF.2.2.1, HF.1, HF.2.2.2⟩
                have PP2 : Hid (∀ x y, x ≤ a → b ≤ y → y ≤ d.size → PermIn x y d d2) := fun x y hx hy hyd => permIn_trans _ _ _ _ _ (PP1.out x y hx hy hyd) (P2.out x y hx (by omega) (by have := H1S.out; omega))
                clear HF hsz2
                by_cases hA : (a + b) / 2 < ((a + b) / 2 + m - s)
                · have gA : decide (((a : Int) + (b : Int)) / 2 < ((a : Int) + (b : Int)) / 2 + (m : Int) - (s : Int)) = true := decide_eq_true (by omega)
                  have gA' : ((a : Int) + (b : Int)) / 2 < ((a : Int) + (b : Int)) / 2 + (m : Int) - (s : Int) := by omega
                  by_cases hB : ((a + b) / 2 + m - s) < b
                  · have gB : decide (((a : Int) + (b : Int)) / 2 + (m : Int) - (s : Int) < (b : Int)) = true := decide_eq_true (by omega)
                    have gB' : ((a : Int) + (b : Int)) / 2 + (m : Int) - (s : Int) < (b : Int) := by omega
                    try (exfalso; omega)
                    all_goals
                      go_wp2_with fail
                      refine Calls.mono (IH.out (((a : Int) + (b : Int)) / 2) (((a : Int) + (b : Int)) / 2 + (m : Int) - (s : Int)) _ ((a + b) / 2) ((a + b) / 2 + m - s) b d2 _ (by omega) (by omega) rfl (by omega) S2.out (H2S.out.trans HK.out) (by omega) (by omega) (by have := H2S.out; omega) T2.out.1 T2.out.2.1) ?_
                      rintro e w3 ⟨rfl, d3, S3, T3, P3⟩
                      have S3 : Aside _ := S3
                      have T3 : Hid _ := T3
                      have P3 : Hid _ := P3
                      go_wp2
                      go_end0
                      refine ⟨rfl, d3, S3.out, last_half (by have := H2S.out; omega) T2.out.2.2.1 T2.out.2.2.2 (P3.out _ _ (Nat.le_refl _) (Nat.le_refl _) (by have := H2S.out; omega)) T3.out, ?_⟩
                      intro x y hx hy hyd
                      exact permIn_trans _ _ _ _ _ (PP2.out x y hx hy hyd) (P3.out x y (by omega) hy (by have := H2S.out; omega))
                  · have gB : decide (((a : Int) + (b : Int)) / 2 + (m : Int) - (s : Int) < (b : Int)) = false := decide_eq_false (by omega)
                    have gB' : ¬ ((a : Int) + (b : Int)) / 2 + (m : Int) - (s : Int) < (b : Int) := by omega
                    try (exfalso; omega)
                    all_goals
                      go_wp2
                      go_end0
                      have TS : SortedIn (ltOf cf) ((a + b) / 2) b d2 := by
                        have h1 := T2.out.1; have h2 := T2.out.2.1
                        by_cases hx : (a + b) / 2 < ((a + b) / 2 + m - s)
                        · have : b ≤ ((a + b) / 2 + m - s) := by omega
                          have hbe : ((a + b) / 2 + m - s) = b := by omega
                          rw [hbe] at h1; exact h1
                        · have hbe : ((a + b) / 2 + m - s) = (a + b) / 2 := by omega
                          rw [hbe] at h2; exact h2
                      refine ⟨rfl, d2, S2.out, joined T2.out.2.2.1 TS T2.out.2.2.2, PP2.out⟩
                · have gA : decide (((a : Int) + (b : Int)) / 2 < ((a : Int) + (b : Int)) / 2 + (m : Int) - (s : Int)) = false := decide_eq_false (by omega)
                  have gA' : ¬ ((a : Int) + (b : Int)) / 2 < ((a : Int) + (b : Int)) / 2 + (m : Int) - (s : Int) := by omega
                  try (exfalso; omega)
                  all_goals
                    go_wp2
                    go_end0
                    have TS : SortedIn (ltOf cf) ((a + b) / 2) b d2 := by
                      have h1 := T2.out.1; have h2 := T2.out.2.1
                      by_cases hx : (a + b) / 2 < ((a + b) / 2 + m - s)
                      · have : b ≤ ((a + b) / 2 + m - s) := by omega
                        have hbe : ((a + b) / 2 + m - s) = b := by omega
                        rw [hbe] at h1; exact h1
                      · have hbe : ((a + b) / 2 + m - s) = (a + b) / 2 := by omega
                        rw [hbe] at h2; exact h2
                    refine ⟨rfl, d2, S2.out, joined T2.out.2.2.1 TS T2.out.2.2.2, PP2.out⟩
            · have gB : decide ((s : Int) < ((a : Int) + (b : Int)) / 2) = false := decide_eq_false (by omega)
              have gB' : ¬ (s : Int) < ((a : Int) + (b : Int)) / 2 := by omega
              try (exfalso; omega)
              all_goals
                have TA : SortedIn (ltOf cf) a ((a + b) / 2) d1 := by
                  have h1 := HV.out.h1; have h2 := HV.out.h2
                  by_cases hx : a < s
                  · have hbe : s = (a + b) / 2 := by omega
                    rw [hbe] at h1; exact h1
                  · have hbe : s = a := by omega
                    rw [hbe] at h2; exact h2
                obtain ⟨d2, S2, T2, H2S, PP2⟩ : ∃ d2 : Array α, Aside (SWK enc k w0 blk off d2 _) ∧ Hid (SortedIn (ltOf cf) ((a + b) / 2) ((a + b) / 2 + m - s) d2 ∧ SortedIn (ltOf cf) ((a + b) / 2 + m - s) b d2 ∧ SortedIn (ltOf cf) a ((a + b) / 2) d2 ∧ ∀ i j, a ≤ i → i < (a + b) / 2 → (a + b) / 2 ≤ j → j < b → ltOf cf d2[j]! d2[i]! = false) ∧ Hid (d2.size = d.size) ∧ Hid (∀ x y, x ≤ a → b ≤ y → y ≤ d.size → PermIn x y d d2) :=
                  ⟨d1, S1, ⟨HV.out.h3, HV.out.h4, TA, HV.out.cross⟩, H1S, PP1⟩
                clear TA S1 H1S PP1 HV
                by_cases hA : (a + b) / 2 < ((a + b) / 2 + m - s)
                · have gA : decide (((a : Int) + (b : Int)) / 2 < ((a : Int) + (b : Int)) / 2 + (m : Int) - (s : Int)) = true := decide_eq_true (by omega)
                  have gA' : ((a : Int) + (b : Int)) / 2 < ((a : Int) + (b : Int)) / 2 + (m : Int) - (s : Int) := by omega
                  by_cases hB : ((a + b) / 2 + m - s) < b
                  · have gB : decide (((a : Int) + (b : Int)) / 2 + (m : Int) - (s : Int) < (b : Int)) = true := decide_eq_true (by omega)
                    have gB' : ((a : Int) + (b : Int)) / 2 + (m : Int) - (s : Int) < (b : Int) := by omega
                    try (exfalso; omega)
                    all_goals
                      go_wp2_with fail
                      refine Calls.mono (IH.out (((a : Int) + (b : Int)) / 2) (((a : Int) + (b : Int)) / 2 + (m : Int) - (s : Int)) _ ((a + b) / 2) ((a + b) / 2 + m - s) b d2 _ (by omega) (by omega) rfl (by omega) S2.out (H2S.out.trans HK.out) (by omega) (by omega) (by have := H2S.out; omega) T2.out.1 T2.out.2.1) ?_
                      rintro e w3 ⟨rfl, d3, S3, T3, P3⟩
                      have S3 : Aside _ := S3
                      have T3 : Hid _ := T3
                      have P3 : Hid _ := P3
                      go_wp2
                      go_end0
                      refine ⟨rfl, d3, S3.out, last_half (by have := H2S.out; omega) T2.out.2.2.1 T2.out.2.2.2 (P3.out _ _ (Nat.le_refl _) (Nat.le_refl _) (by have := H2S.out; omega)) T3.out, ?_⟩
                      intro x y hx hy hyd
                      exact permIn_trans _ _ _ _ _ (PP2.out x y hx hy hyd) (P3.out x y (by omega) hy (by have := H2S.out; omega))
                  · have gB : decide (((a : Int) + (b : Int)) / 2 + (m : Int) - (s : Int) < (b : Int)) = false := decide_eq_false (by omega)
                    have gB' : ¬ ((a : Int) + (b : Int)) / 2 + (m : Int) - (s : Int) < (b : Int) := by omega
                    try (exfalso; omega)
                    all_goals
                      go_wp2
                      go_end0
                      have TS : SortedIn (ltOf cf) ((a + b) / 2) b d2 := by
                        have h1 := T2.out.1; have h2 := T2.out.2.1
                        by_cases hx : (a + b) / 2 < ((a + b) / 2 + m - s)
                        · have : b ≤ ((a + b) / 2 + m - s) := by omega
                          have hbe : ((a + b) / 2 + m - s) = b := by omega
                          rw [hbe] at h1; exact h1
                        · have hbe : ((a + b) / 2 + m - s) = (a + b) / 2 := by omega
                          rw [hbe] at h2; exact h2
                      refine ⟨rfl, d2, S2.out, joined T2.out.2.2.1 TS T2.out.2.2.2, PP2.out⟩
                · have gA : decide (((a : Int) + (b : Int)) / 2 < ((a : Int) + (b : Int)) / 2 + (m : Int) - (s : Int)) = false := decide_eq_false (by omega)
                  have gA' : ¬ ((a : Int) + (b : Int)) / 2 < ((a : Int) + (b : Int)) / 2 + (m : Int) - (s : Int) := by omega
                  try (exfalso; omega)
                  all_goals
                    go_wp2
                    go_end0
                    have TS : SortedIn (ltOf cf) ((a + b) / 2) b d2 := by
                      have h1 := T2.out.1; have h2 := T2.out.2.1
                      by_cases hx : (a + b) / 2 < ((a + b) / 2 + m - s)
                      · have : b ≤ ((a + b) / 2 + m - s) := by omega
                        have hbe : ((a + b) / 2 + m - s) = b := by omega
                        rw [hbe] at h1; exact h1
                      · have hbe : ((a + b) / 2 + m - s) = (a + b) / 2 := by omega
                        rw [hbe] at h2; exact h2
                    refine ⟨rfl, d2, S2.out, joined T2.out.2.2.1 TS T2.out.2.2.2, PP2.out⟩
          · have gA : decide ((a : Int) < (s : Int)) = false := decide_eq_false (by omega)
            have gA' : ¬ (a : Int) < (s : Int) := by omega
            try (exfalso; omega)
            all_goals
              have TA : SortedIn (ltOf cf) a ((a + b) / 2) d1 := by
                have h1 := HV.out.h1; have h2 := HV.out.h2
                by_cases hx : a < s
                · have hbe : s = (a + b) / 2 := by omega
                  rw [hbe] at h1; exact h1
                · have hbe : s = a := by omega
                  rw [hbe] at h2; exact h2
              obtain ⟨d2, S2, T2, H2S, PP2⟩ : ∃ d2 : Array α, Aside (SWK enc k w0 blk off d2 _) ∧ Hid (SortedIn (ltOf cf) ((a + b) / 2) ((a + b) / 2 + m - s) d2 ∧ SortedIn (ltOf cf) ((a + b) / 2 + m - s) b d2 ∧ SortedIn (ltOf cf) a ((a + b) / 2) d2 ∧ ∀ i j, a ≤ i → i < (a + b) / 2 → (a + b) / 2 ≤ j → j < b → ltOf cf d2[j]! d2[i]! = false) ∧ Hid (d2.size = d.size) ∧ Hid (∀ x y, x ≤ a → b ≤ y → y ≤ d.size → PermIn x y d d2) :=
                ⟨d1, S1, ⟨HV.out.h3, HV.out.h4, TA, HV.out.cross⟩, H1S, PP1⟩
              clear TA S1 H1S PP1 HV
              by_cases hA : (a + b) / 2 < ((a + b) / 2 + m - s)
              · have gA : decide (((a : Int) + (b : Int)) / 2 < ((a : Int) + (b : Int)) / 2 + (m : Int) - (s : Int)) = true := decide_eq_true (by omega)
                have gA' : ((a : Int) + (b : Int)) / 2 < ((a : Int) + (b : Int)) / 2 + (m : Int) - (s : Int) := by omega
                by_cases hB : ((a + b) / 2 + m - s) < b
                · have gB : decide (((a : Int) + (b : Int)) / 2 + (m : Int) - (s : Int) < (b : Int)) = true := decide_eq_true (by omega)
                  have gB' : ((a : Int) + (b : Int)) / 2 + (m : Int) - (s : Int) < (b : Int) := by omega
                  try (exfalso; omega)
                  all_goals
                    go_wp2_with fail
                    refine Calls.mono (IH.out (((a : Int) + (b : Int)) / 2) (((a : Int) + (b : Int)) / 2 + (m : Int) - (s : Int)) _ ((a + b) / 2) ((a + b) / 2 + m - s) b d2 _ (by omega) (by omega) rfl (by omega) S2.out (H2S.out.trans HK.out) (by omega) (by omega) (by have := H2S.out; omega) T2.out.1 T2.out.2.1) ?_
                    rintro e w3 ⟨rfl, d3, S3, T3, P3⟩
                    have S3 : Aside _ := S3
                    have T3 : Hid _ := T3
                    have P3 : Hid _ := P3
                    go_wp2
                    go_end0
                    refine ⟨rfl, d3, S3.out, last_half (by have := H2S.out; omega) T2.out.2.2.1 T2.out.2.2.2 (P3.out _ _ (Nat.le_refl _) (Nat.le_refl _) (by have := H2S.out; omega)) T3.out, ?_⟩
                    intro x y hx hy hyd
                    exact permIn_trans _ _ _ _ _ (PP2.out x y hx hy hyd) (P3.out x y (by omega) hy (by have := H2S.out; omega))
                · have gB : decide (((a : Int) + (b : Int)) / 2 + (m : Int) - (s : Int) < (b : Int)) = false := decide_eq_false (by omega)
                  have gB' : ¬ ((a : Int) + (b : Int)) / 2 + (m : Int) - (s : Int) < (b : Int) := by omega
                  try (exfalso; omega)
                  all_goals
                    go_wp2
                    go_end0
                    have TS : SortedIn (ltOf cf) ((a + b) / 2) b d2 := by
                      have h1 := T2.out.1; have h2 := T2.out.2.1
                      by_cases hx : (a + b) / 2 < ((a + b) / 2 + m - s)
                      · have : b ≤ ((a + b) / 2 + m - s) := by omega
                        have hbe : ((a + b) / 2 + m - s) = b := by omega
                        rw [hbe] at h1; exact h1
                      · have hbe : ((a + b) / 2 + m - s) = (a + b) / 2 := by omega
                        rw [hbe] at h2; exact h2
                    refine ⟨rfl, d2, S2.out, joined T2.out.2.2.1 TS T2.out.2.2.2, PP2.out⟩
              · have gA : decide (((a : Int) + (b : Int)) / 2 < ((a : Int) + (b : Int)) / 2 + (m : Int) - (s : Int)) = false := decide_eq_false (by omega)
                have gA' : ¬ ((a : Int) + (b : Int)) / 2 < ((a : Int) + (b : Int)) / 2 + (m : Int) - (s : Int) := by omega
                try (exfalso; omega)
                all_goals
                  go_wp2
                  go_end0
                  have TS : SortedIn (ltOf cf) ((a + b) / 2) b d2 := by
                    have h1 := T2.out.1; have h2 := T2.out.2.1
                    by_cases hx : (a + b) / 2 < ((a + b) / 2 + m - s)
                    · have : b ≤ ((a + b) / 2 + m - s) := by omega
                      have hbe : ((a + b) / 2 + m - s) = b := by omega
                      rw [hbe] at h1; exact h1
                    · have hbe : ((a + b) / 2 + m - s) = (a + b) / 2 := by omega
                      rw [hbe] at h2; exact h2
                  refine ⟨rfl, d2, S2.out, joined T2.out.2.2.1 TS T2.out.2.2.2, PP2.out⟩

set_option maxHeartbeats 8000000 in
set_option maxRecDepth 1000000 in
theorem symMerge_high (E : SEnv P k) (hfs : P.funcs[45]? = some Try.f45) (hfr : P.funcs[34]? = some Try.f34) (hf : P.funcs[31]? = some Try.f31)
    (R : RowK enc k w0 blk off d0) (hsz : d0.size < 4611686018427387904) (cf : α → α → Int) (hO : SWO (ltOf cf)) (g : Nat) (cb : Array Value) (eg : ∀ args w, (callFunc g args).run P w = .ok (.enter g args) w)
    (hcmp : CmpLays P g cb enc k cf blk off d0.size w0) (cap : Nat) (n : Nat) (ih : SymOk P enc k w0 blk off d0 cf g cb cap n) (a m b : Nat) (d : Array α) (W : World) (hS : SWK enc k w0 blk off d W) (hs : d.size = d0.size) (hn : b - a ≤ n + 1) (ham : a + 1 < m) (hmb : m + 1 < b) (hb : b ≤ d.size) (hl : SortedIn (ltOf cf) a m d) (hr : SortedIn (ltOf cf) m b d)
    (hmm : m ≤ (a + b) / 2) :
    Calls P 31 #[.slice (some ⟨blk, off, none⟩) d0.size cap, .int .i64 a, .int .i64 m, .int .i64 b, .func (.func g) #[] cb] W fun e w' => e = .returned (.tuple #[]) ∧
      ∃ d', SWK enc k w0 blk off d' w' ∧ SortedIn (ltOf cf) a b d' ∧ ∀ x y, x ≤ a → b ≤ y → y ≤ d.size → PermIn x y d d' := by
  have IH : Aside (SymOk P enc k w0 blk off d0 cf g cb cap n) := ih
  have rot : ∀ (xs xm xe : Int) (s' m' e' : Nat) (W' : World), xs = s' → xm = m' → xe = e' → s' < m' → m' < e' → e' ≤ d.size → SWK enc k w0 blk off d W' → Calls P 34 #[.slice (some ⟨blk, off, none⟩) d0.size cap, .int .i64 xs, .int .i64 xm, .int .i64 xe, .func (.func g) #[] cb] W' fun e w' => e = .returned (.tuple #[]) ∧
      ∃ d', SWK enc k w0 blk off d' w' ∧ Idx d d' (rot s' m' e') ∧ ∀ x y, x ≤ s' → e' ≤ y → y ≤ d.size → PermIn x y d d' := by
    rintro _ _ _ s' m' e' W' rfl rfl rfl h1 h2 h3 h4
    exact rotate_calls E hfs hfr R d cap s' m' e' _ W' h4 hs hsz h1 h2 h3
  have mixed := E.mixed; have tS := E.tS; have aS := E.aS; have zS := E.zS; have aE := E.aE; have zE := E.zE; have tI := E.tI; have aI := E.aI; have zI := E.zI; have tU := E.tU; have aU := E.aU; have zU := E.zU; have tB := E.tB; have aB := E.aB; have zB := E.zB
  have HR : Hid (RowK enc k w0 blk off d0) := R
  have HS : Aside (SWK enc k w0 blk off d W) := hS
  have HK : Hid (d.size = d0.size) := hs
  have HC : Aside (CmpLays P g cb enc k cf blk off d0.size w0) := hcmp
  have HO : Hid (SWO (ltOf cf)) := hO
  have HL : Hid (SortedIn (ltOf cf) a m d) := hl
  have HRR : Hid (SortedIn (ltOf cf) m b d) := hr
  clear R hS hs E hcmp hO hl hr
  have hbz : b ≤ d0.size := by have := HK.out; omega
  have ROT0 : Aside _ := rot
  have efs : ∀ args w, (callFunc 34 args).run P w = .ok (.enter 34 args) w := enters_of hfr (by kernel_rfl) rfl
  have eff : ∀ args w, (callFunc 31 args).run P w = .ok (.enter 31 args) w := enters_of hf (by kernel_rfl) rfl
  clear rot ih hfs hfr
  have q1 : ((m : Int) - (a : Int) == 1) = false := beq_eq_false_iff_ne.2 (by omega)
  have q2 : ((b : Int) - (m : Int) == 1) = false := beq_eq_false_iff_ne.2 (by omega)
  have q3 : decide (((a : Int) + (b : Int)) / 2 < (m : Int)) = false := decide_eq_false (by omega)
  have q3' : ¬ ((a : Int) + (b : Int)) / 2 < (m : Int) := by omega
  go_enter hf, Try.ntmps31
  go_wp2
  go_loopg [20, 21] (m - a) (fun gq vs vr wr => ∃ (s r : Nat), vs = .int .i64 s ∧ vr = .int .i64 r ∧ a ≤ s ∧ s ≤ r ∧ r ≤ m ∧ r - s ≤ gq ∧ Aside (SWK enc k w0 blk off d wr) ∧
      Hid (s = a ∨ ltOf cf d[(a + b) / 2 + m - s]! d[s - 1]! = false) ∧ Hid (r = m ∨ ltOf cf d[(a + b) / 2 + m - 1 - r]! d[r]! = true))
  case atStart => exact ⟨a, m, by go_num, by go_num, Nat.le_refl _, by omega, Nat.le_refl _, Nat.le_refl _, HS, Or.inl rfl, Or.inl rfl⟩
  case round =>
    clear HS
    obtain ⟨s, r, rfl, rfl, hls, hsr, hrh, hg, HS, H1, H2⟩ := hrel
    by_cases hlt : s < r
    · have hltz : decide ((s : Int) < (r : Int)) = true := decide_eq_true (by omega)
      clear ROT0 IH
      have pz : ((s : Int) + (r : Int)) / 2 ≤ ((a : Int) + (b : Int)) / 2 + (m : Int) - 1 := by omega
      cases hlv : ltOf cf d[(a + b) / 2 + m - 1 - (s + r) / 2]! d[(s + r) / 2]! with
      | false =>
        have ex3 : (((a : Int) + (b : Int)) / 2 + (m : Int) - 1 - ((s : Int) + (r : Int)) / 2).toNat = (a + b) / 2 + m - 1 - (s + r) / 2 := by omega
        have px3 : (0 : Int) ≤ ((a : Int) + (b : Int)) / 2 + (m : Int) - 1 - ((s : Int) + (r : Int)) / 2 := by omega
        have bx3 : ((a : Int) + (b : Int)) / 2 + (m : Int) - 1 - ((s : Int) + (r : Int)) / 2 < (d0.size : Int) := by omega
        have rx3 : IntKind.i64.wrap (((a : Int) + (b : Int)) / 2 + (m : Int) - 1 - ((s : Int) + (r : Int)) / 2) = ((a : Int) + (b : Int)) / 2 + (m : Int) - 1 - ((s : Int) + (r : Int)) / 2 := by rw [IntKind.wrap_i64]; omega
        have ey3 : (((s : Int) + (r : Int)) / 2).toNat = (s + r) / 2 := by omega
        have py3 : (0 : Int) ≤ ((s : Int) + (r : Int)) / 2 := by omega
        have by3 : ((s : Int) + (r : Int)) / 2 < (d0.size : Int) := by omega
        have ry3 : IntKind.i64.wrap (((s : Int) + (r : Int)) / 2) = ((s : Int) + (r : Int)) / 2 := by rw [IntKind.wrap_i64]; omega
        obtain ⟨cx3, hcx3⟩ : ∃ x, x = d[(a + b) / 2 + m - 1 - (s + r) / 2]! := ⟨_, rfl⟩
        obtain ⟨cy3, hcy3⟩ : ∃ x, x = d[(s + r) / 2]! := ⟨_, rfl⟩
        have lx3 := HS.out.ld HR.out HK.out P ((a + b) / 2 + m - 1 - (s + r) / 2) (by have := HK.out; omega)
        have ly3 := HS.out.ld HR.out HK.out P ((s + r) / 2) (by have := HK.out; omega)
        rw [← hcx3] at lx3
        rw [← hcy3] at ly3
        have hc3 := HS.out.cmp HC.out HK.out cx3 cy3
        have hv3 : ¬ cf cx3 cy3 < 0 := by rw [hcx3, hcy3]; exact of_decide_eq_false hlv
        have hd3 : decide (cf cx3 cy3 < 0) = false := decide_eq_false hv3
        have HLV : Hid _ := hlv
        clear hcx3 hcy3 hlv
        go_wp2_with fail
        go_quiet_grown (first | (go_at_fn g; refine Calls.grown_of (hc3 _ _)))
        have S2 : Aside _ := HS.out.grown nq osq
        clear HS lx3 ly3 hc3
        generalize grow (wr.drewN nq) osq = wz at S2 ⊢
        clear nq osq
        go_wp2
        go_roundg (r - ((s + r) / 2 + 1))
        case measure => omega
        case rel => exact ⟨(s + r) / 2 + 1, r, by go_num, rfl, by omega, by omega, by omega, Nat.le_refl _, S2, Or.inr (by rw [Nat.add_sub_cancel, show (a + b) / 2 + m - ((s + r) / 2 + 1) = (a + b) / 2 + m - 1 - (s + r) / 2 by omega]; exact HLV.out), H2⟩
      | true =>
        have ex4 : (((a : Int) + (b : Int)) / 2 + (m : Int) - 1 - ((s : Int) + (r : Int)) / 2).toNat = (a + b) / 2 + m - 1 - (s + r) / 2 := by omega
        have px4 : (0 : Int) ≤ ((a : Int) + (b : Int)) / 2 + (m : Int) - 1 - ((s : Int) + (r : Int)) / 2 := by omega
        have bx4 : ((a : Int) + (b : Int)) / 2 + (m : Int) - 1 - ((s : Int) + (r : Int)) / 2 < (d0.size : Int) := by omega
        have rx4 : IntKind.i64.wrap (((a : Int) + (b : Int)) / 2 + (m : Int) - 1 - ((s : Int) + (r : Int)) / 2) = ((a : Int) + (b : Int)) / 2 + (m : Int) - 1 - ((s : Int) + (r : Int)) / 2 := by rw [IntKind.wrap_i64]; omega
        have ey4 : (((s : Int) + (r : Int)) / 2).toNat = (s + r) / 2 := by omega
        have py4 : (0 : Int) ≤ ((s : Int) + (r : Int)) / 2 := by omega
        have by4 : ((s : Int) + (r : Int)) / 2 < (d0.size : Int) := by omega
        have ry4 : IntKind.i64.wrap (((s : Int) + (r : Int)) / 2) = ((s : Int) + (r : Int)) / 2 := by rw [IntKind.wrap_i64]; omega
        obtain ⟨cx4, hcx4⟩ : ∃ x, x = d[(a + b) / 2 + m - 1 - (s + r) / 2]! := ⟨_, rfl⟩
        obtain ⟨cy4, hcy4⟩ : ∃ x, x = d[(s + r) / 2]! := ⟨_, rfl⟩
        have lx4 := HS.out.ld HR.out HK.out P ((a + b) / 2 + m - 1 - (s + r) / 2) (by have := HK.out; omega)
        have ly4 := HS.out.ld HR.out HK.out P ((s + r) / 2) (by have := HK.out; omega)
        rw [← hcx4] at lx4
        rw [← hcy4] at ly4
        have hc4 := HS.out.cmp HC.out HK.out cx4 cy4
        have hv4 : cf cx4 cy4 < 0 := by rw [hcx4, hcy4]; exact of_decide_eq_true hlv
        have hd4 : decide (cf cx4 cy4 < 0) = true := decide_eq_true hv4
        have HLV : Hid _ := hlv
        clear hcx4 hcy4 hlv
        go_wp2_with fail
        go_quiet_grown (first | (go_at_fn g; refine Calls.grown_of (hc4 _ _)))
        have S2 : Aside _ := HS.out.grown nq osq
        clear HS lx4 ly4 hc4
        generalize grow (wr.drewN nq) osq = wz at S2 ⊢
        clear nq osq
        go_wp2
        go_roundg ((s + r) / 2 - s)
        case measure => omega
        case rel => exact ⟨s, (s + r) / 2, rfl, by go_num, by omega, by omega, by omega, Nat.le_refl _, S2, H1, Or.inr HLV.out⟩
    · have hltz : decide ((s : Int) < (r : Int)) = false := decide_eq_false (by omega)
      have hje : s = r := by omega
      have h1' : s = a ∨ ((a + b) / 2 + m - s) = b ∨ ltOf cf d[((a + b) / 2 + m - s)]! d[s - 1]! = false := by
        rcases H1.out with h | h
        · omega
        · exact Or.inr (Or.inr h)
      have h2' : s = m ∨ ((a + b) / 2 + m - s) = m ∨ ltOf cf d[((a + b) / 2 + m - s) - 1]! d[s]! = true := by
        rcases H2.out with h | h
        · omega
        · exact Or.inr (Or.inr (by rw [hje, show (a + b) / 2 + m - r - 1 = (a + b) / 2 + m - 1 - r by omega]; exact h))
      clear H1 H2
      have H1 : Hid _ := h1'
      have H2 : Hid _ := h2'
      have hsz1 : s ≤ m := by omega
      have hsz2 : m ≤ ((a + b) / 2 + m - s) := by omega
      have hsz3 : ((a + b) / 2 + m - s) ≤ b := by omega
      have hsz4 : s ≤ (a + b) / 2 := by omega
      have hsz5 : a ≤ s := by omega
      have rot := fun xs xm xe s' m' e' h1 h2 h3 h4 h5 h6 => ROT0.out xs xm xe s' m' e' wr h1 h2 h3 h4 h5 h6 HS.out
      have ROT : Aside _ := rot
      clear ROT0 rot h1' h2'
      clear hls hrh hg hje hsr
      by_cases hA : s < m
      · have gA : decide ((s : Int) < (m : Int)) = true := decide_eq_true (by omega)
        have gA' : (s : Int) < (m : Int) := by omega
        by_cases hB : m < ((a + b) / 2 + m - s)
        · have gB : decide ((m : Int) < ((a : Int) + (b : Int)) / 2 + (m : Int) - (s : Int)) = true := decide_eq_true (by omega)
          have gB' : (m : Int) < ((a : Int) + (b : Int)) / 2 + (m : Int) - (s : Int) := by omega
          try (exfalso; omega)
          all_goals
            go_wp2_with fail
            refine Calls.mono (ROT.out _ _ (((a : Int) + (b : Int)) / 2 + (m : Int) - (s : Int)) s m ((a + b) / 2 + m - s) rfl rfl (by omega) (by omega) (by omega) (by omega)) ?_
            rintro e w1 ⟨rfl, d1, S1, I1, P1⟩
            have S1 : Aside _ := S1
            have HV : Hid (Halves (ltOf cf) a s ((a + b) / 2) ((a + b) / 2 + m - s) b d1) := halves HO.out (by omega) (by omega) (by omega) (by omega) hb (by omega) HL.out HRR.out H1.out H2.out I1
            have H1S : Hid (d1.size = d.size) := I1.1
            have PP1 : Hid (∀ x y, x ≤ a → b ≤ y → y ≤ d.size → PermIn x y d d1) := fun x y hx hy hyd => P1 x y (by omega) (by omega) hyd
            clear I1 P1
            by_cases hA : a < s
            · have gA : decide ((a : Int) < (s : Int)) = true := decide_eq_true (by omega)
              have gA' : (a : Int) < (s : Int) := by omega
              by_cases hB : s < (a + b) / 2
              · have gB : decide ((s : Int) < ((a : Int) + (b : Int)) / 2) = true := decide_eq_true (by omega)
                have gB' : (s : Int) < ((a : Int) + (b : Int)) / 2 := by omega
                try (exfalso; omega)
                all_goals
                  go_wp2_with fail
                  refine Calls.mono (IH.out _ _ (((a : Int) + (b : Int)) / 2) a s ((a + b) / 2) d1 _ rfl rfl (by omega) (by omega) S1.out (H1S.out.trans HK.out) (by omega) (by omega) (by have := H1S.out; omega) HV.out.h1 HV.out.h2) ?_
                  rintro e w2 ⟨rfl, d2, S2, T2, P2⟩
                  have S2 : Aside _ := S2
                  have P2 : Hid _ := P2
                  have hsz2 := (P2.out a b (Nat.le_refl _) (by omega) (by have := H1S.out; omega)).1
                  have H2S : Hid (d2.size = d.size) := hsz2.trans H1S.out
                  have HF := HV.out.first (by omega) (by omega) (by have := H1S.out; omega) (P2.out a ((a + b) / 2) (Nat.le_refl _) (Nat.le_refl _) (by have := H1S.out; omega)) T2
                  have T2 : Hid (SortedIn (ltOf cf) ((a + b) / 2) ((a + b) / 2 + m - s) d2 ∧ SortedIn (ltOf cf) ((a + b) / 2 + m - s) b d2 ∧ SortedIn (ltOf cf) a ((a + b) / 2) d2 ∧ ∀ i j, a ≤ i → i < (a + b) / 2 → (a + b) / 2 ≤ j → j < b → ltOf cf d2[j]! d2[i]! = false) := ⟨HF.2.1, HF.2.2.1, HF.1, HF.2.2.2⟩
                  have PP2 : Hid (∀ x y, x ≤ a → b ≤ y → y ≤ d.size → PermIn x y d d2) := fun x y hx hy hyd => permIn_trans _ _ _ _ _ (PP1.out x y hx hy hyd) (P2.out x y hx (by omega) (by have := H1S.out; omega))
                  clear HF hsz2
                  by_cases hA : (a + b) / 2 < ((a + b) / 2 + m - s)
                  · have gA : decide (((a : Int) + (b : Int)) / 2 < ((a : Int) + (b : Int)) / 2 + (m : Int) - (s : Int)) = true := decide_eq_true (by omega)
                    have gA' : ((a : Int) + (b : Int)) / 2 < ((a : Int) + (b : Int)) / 2 + (m : Int) - (s : Int) := by omega
                    by_cases hB : ((a + b) / 2 + m - s) < b
                    · have gB : decide (((a : Int) + (b : Int)) / 2 + (m : Int) - (s : Int) < (b : Int)) = true := decide_eq_true (by omega)
                      have gB' : ((a : Int) + (b : Int)) / 2 + (m : Int) - (s : Int) < (b : Int) := by omega
                      try (exfalso; omega)
                      all_goals
                        go_wp2_with fail
                        refine Calls.mono (IH.out (((a : Int) + (b : Int)) / 2) (((a : Int) + (b : Int)) / 2 + (m : Int) - (s : Int)) _ ((a + b) / 2) ((a + b) / 2 + m - s) b d2 _ (by omega) (by omega) rfl (by omega) S2.out (H2S.out.trans HK.out) (by omega) (by omega) (by have := H2S.out; omega) T2.out.1 T2.out.2.1) ?_
                        rintro e w3 ⟨rfl, d3, S3, T3, P3⟩
                        have S3 : Aside _ := S3
                        have T3 : Hid _ := T3
                        have P3 : Hid _ := P3
                        go_wp2
                        go_end0
                        refine ⟨rfl, d3, S3.out, last_half (by have := H2S.out; omega) T2.out.2.2.1 T2.out.2.2.2 (P3.out _ _ (Nat.le_refl _) (Nat.le_refl _) (by have := H2S.out; omega)) T3.out, ?_⟩
                        intro x y hx hy hyd
                        exact permIn_trans _ _ _ _ _ (PP2.out x y hx hy hyd) (P3.out x y (by omega) hy (by have := H2S.out; omega))
                    · have gB : decide (((a : Int) + (b : Int)) / 2 + (m : Int) - (s : Int) < (b : Int)) = false := decide_eq_false (by omega)
                      have gB' : ¬ ((a : Int) + (b : Int)) / 2 + (m : Int) - (s : Int) < (b : Int) := by omega
                      try (exfalso; omega)
                      all_goals
                        go_wp2
                        go_end0
                        have TS : SortedIn (ltOf cf) ((a + b) / 2) b d2 := by
                          have h1 := T2.out.1; have h2 := T2.out.2.1
                          by_cases hx : (a + b) / 2 < ((a + b) / 2 + m - s)
                          · have : b ≤ ((a + b) / 2 + m - s) := by omega
                            have hbe : ((a + b) / 2 + m - s) = b := by omega
                            rw [hbe] at h1; exact h1
                          · have hbe : ((a + b) / 2 + m - s) = (a + b) / 2 := by omega
                            rw [hbe] at h2; exact h2
                        refine ⟨rfl, d2, S2.out, joined T2.out.2.2.1 TS T2.out.2.2.2, PP2.out⟩
                  · have gA : decide (((a : Int) + (b : Int)) / 2 < ((a : Int) + (b : Int)) / 2 + (m : Int) - (s : Int)) = false := decide_eq_false (by omega)
                    have gA' : ¬ ((a : Int) + (b : Int)) / 2 < ((a : Int) + (b : Int)) / 2 + (m : Int) - (s : Int) := by omega
                    try (exfalso; omega)
                    all_goals
                      go_wp2
                      go_end0
                      have TS : SortedIn (ltOf cf) ((a + b) / 2) b d2 := by
                        have h1 := T2.out.1; have h2 := T2.out.2.1
                        by_cases hx : (a + b) / 2 < ((a + b) / 2 + m - s)
                        · have : b ≤ ((a + b) / 2 + m - s) := by omega
                          have hbe : ((a + b) / 2 + m - s) = b := by omega
                          rw [hbe] at h1; exact h1
                        · have hbe : ((a + b) / 2 + m - s) = (a + b) / 2 := by omega
                          rw [hbe] at h2; exact h2
                      refine ⟨rfl, d2, S2.out, joined T2.out.2.2.1 TS T2.out.2.2.2, PP2.out⟩
              · have gB : decide ((s : Int) < ((a : Int) + (b : Int)) / 2) = false := decide_eq_false (by omega)
                have gB' : ¬ (s : Int) < ((a : Int) + (b : Int)) / 2 := by omega
                try (exfalso; omega)
                all_goals
                  have TA : SortedIn (ltOf cf) a ((a + b) / 2) d1 := by
                    have h1 := HV.out.h1; have h2 := HV.out.h2
                    by_cases hx : a < s
                    · have hbe : s = (a + b) / 2 := by omega
                      rw [hbe] at h1; exact h1
                    · have hbe : s = a := by omega
                      rw [hbe] at h2; exact h2
                  obtain ⟨d2, S2, T2, H2S, PP2⟩ : ∃ d2 : Array α, Aside (SWK enc k w0 blk off d2 _) ∧ Hid (SortedIn (ltOf cf) ((a + b) / 2) ((a + b) / 2 + m - s) d2 ∧ SortedIn (ltOf cf) ((a + b) / 2 + m - s) b d2 ∧ SortedIn (ltOf cf) a ((a + b) / 2) d2 ∧ ∀ i j, a ≤ i → i < (a + b) / 2 → (a + b) / 2 ≤ j → j < b → ltOf cf d2[j]! d2[i]! = false) ∧ Hid (d2.size = d.size) ∧ Hid (∀ x y, x ≤ a → b ≤ y → y ≤ d.size → PermIn x y d d2) :=
                    ⟨d1, S1, ⟨HV.out.h3, HV.out.h4, TA, HV.out.cross⟩, H1S, PP1⟩
                  clear TA S1 H1S PP1 HV
                  by_cases hA : (a + b) / 2 < ((a + b) / 2 + m - s)
                  · have gA : decide (((a : Int) + (b : Int)) / 2 < ((a : Int) + (b : Int)) / 2 + (m : Int) - (s : Int)) = true := decide_eq_true (by omega)
                    have gA' : ((a : Int) + (b : Int)) / 2 < ((a : Int) + (b : Int)) / 2 + (m : Int) - (s : Int) := by omega
                    by_cases hB : ((a + b) / 2 + m - s) < b
                    · have gB : decide (((a : Int) + (b : Int)) / 2 + (m : Int) - (s : Int) < (b : Int)) = true := decide_eq_true (by omega)
                      have gB' : ((a : Int) + (b : Int)) / 2 + (m : Int) - (s : Int) < (b : Int) := by omega
                      try (exfalso; omega)
                      all_goals
                        go_wp2_with fail
                        refine Calls.mono (IH.out (((a : Int) + (b : Int)) / 2) (((a : Int) + (b : Int)) / 2 + (m : Int) - (s : Int)) _ ((a + b) / 2) ((a + b) / 2 + m - s) b d2 _ (by omega) (by omega) rfl (by omega) S2.out (H2S.out.trans HK.out) (by omega) (by omega) (by have := H2S.out; omega) T2.out.1 T2.out.2.1) ?_
                        rintro e w3 ⟨rfl, d3, S3, T3, P3⟩
                        have S3 : Aside _ := S3
                        have T3 : Hid _ := T3
                        have P3 : Hid _ := P3
                        go_wp2
                        go_end0
                        refine ⟨rfl, d3, S3.out, last_half (by have := H2S.out; omega) T2.out.2.2.1 T2.out.2.2.2 (P3.out _ _ (Nat.le_refl _) (Nat.le_refl _) (by have := H2S.out; omega)) T3.out, ?_⟩
                        intro x y hx hy hyd
                        exact permIn_trans _ _ _ _ _ (PP2.out x y hx hy hyd) (P3.out x y (by omega) hy (by have := H2S.out; omega))
                    · have gB : decide (((a : Int) + (b : Int)) / 2 + (m : Int) - (s : Int) < (b : Int)) = false := decide_eq_false (by omega)
                      have gB' : ¬ ((a : Int) + (b : Int)) / 2 + (m : Int) - (s : Int) < (b : Int) := by omega
                      try (exfalso; omega)
                      all_goals
                        go_wp2
                        go_end0
                        have TS : SortedIn (ltOf cf) ((a + b) / 2) b d2 := by
                          have h1 := T2.out.1; have h2 := T2.out.2.1
                          by_cases hx : (a + b) / 2 < ((a + b) / 2 + m - s)
                          · have : b ≤ ((a + b) / 2 + m - s) := by omega
                            have hbe : ((a + b) / 2 + m - s) = b := by omega
                            rw [hbe] at h1; exact h1
                          · have hbe : ((a + b) / 2 + m - s) = (a + b) / 2 := by omega
                            rw [hbe] at h2; exact h2
                        refine ⟨rfl, d2, S2.out, joined T2.out.2.2.1 TS T2.out.2.2.2, PP2.out⟩
                  · have gA : decide (((a : Int) + (b : Int)) / 2 < ((a : Int) + (b : Int)) / 2 + (m : Int) - (s : Int)) = false := decide_eq_false (by omega)
                    have gA' : ¬ ((a : Int) + (b : Int)) / 2 < ((a : Int) + (b : Int)) / 2 + (m : Int) - (s : Int) := by omega
                    try (exfalso; omega)
                    all_goals
                      go_wp2
                      go_end0
                      have TS : SortedIn (ltOf cf) ((a + b) / 2) b d2 := by
                        have h1 := T2.out.1; have h2 := T2.out.2.1
                        by_cases hx : (a + b) / 2 < ((a + b) / 2 + m - s)
                        · have : b ≤ ((a + b) / 2 + m - s) := by omega
                          have hbe : ((a + b) / 2 + m - s) = b := by omega
                          rw [hbe] at h1; exact h1
                        · have hbe : ((a + b) / 2 + m - s) = (a + b) / 2 := by omega
                          rw [hbe] at h2; exact h2
                      refine ⟨rfl, d2, S2.out, joined T2.out.2.2.1 TS T2.out.2.2.2, PP2.out⟩
            · have gA : decide ((a : Int) < (s : Int)) = false := decide_eq_false (by omega)
              have gA' : ¬ (a : Int) < (s : Int) := by omega
              try (exfalso; omega)
              all_goals
                have TA : SortedIn (ltOf cf) a ((a + b) / 2) d1 := by
                  have h1 := HV.out.h1; have h2 := HV.out.h2
                  by_cases hx : a < s
                  · have hbe : s = (a + b) / 2 := by omega
                    rw [hbe] at h1; exact h1
                  · have hbe : s = a := by omega
                    rw [hbe] at h2; exact h2
                obtain ⟨d2, S2, T2, H2S, PP2⟩ : ∃ d2 : Array α, Aside (SWK enc k w0 blk off d2 _) ∧ Hid (SortedIn (ltOf cf) ((a + b) / 2) ((a + b) / 2 + m - s) d2 ∧ SortedIn (ltOf cf) ((a + b) / 2 + m - s) b d2 ∧ SortedIn (ltOf cf) a ((a + b) / 2) d2 ∧ ∀ i j, a ≤ i → i < (a + b) / 2 → (a + b) / 2 ≤ j → j < b → ltOf cf d2[j]! d2[i]! = false) ∧ Hid (d2.size = d.size) ∧ Hid (∀ x y, x ≤ a → b ≤ y → y ≤ d.size → PermIn x y d d2) :=
                  ⟨d1, S1, ⟨HV.out.h3, HV.out.h4, TA, HV.out.cross⟩, H1S, PP1⟩
                clear TA S1 H1S PP1 HV
                by_cases hA : (a + b) / 2 < ((a + b) / 2 + m - s)
                · have gA : decide (((a : Int) + (b : Int)) / 2 < ((a : Int) + (b : Int)) / 2 + (m : Int) - (s : Int)) = true := decide_eq_true (by omega)
                  have gA' : ((a : Int) + (b : Int)) / 2 < ((a : Int) + (b : Int)) / 2 + (m : Int) - (s : Int) := by omega
                  by_cases hB : ((a + b) / 2 + m - s) < b
                  · have gB : decide (((a : Int) + (b : Int)) / 2 + (m : Int) - (s : Int) < (b : Int)) = true := decide_eq_true (by omega)
                    have gB' : ((a : Int) + (b : Int)) / 2 + (m : Int) - (s : Int) < (b : Int) := by omega
                    try (exfalso; omega)
                    all_goals
                      go_wp2_with fail
                      refine Calls.mono (IH.out (((a : Int) + (b : Int)) / 2) (((a : Int) + (b : Int)) / 2 + (m : Int) - (s : Int)) _ ((a + b) / 2) ((a + b) / 2 + m - s) b d2 _ (by omega) (by omega) rfl (by omega) S2.out (H2S.out.trans HK.out) (by omega) (by omega) (by have := H2S.out; omega) T2.out.1 T2.out.2.1) ?_
                      rintro e w3 ⟨rfl, d3, S3, T3, P3⟩
                      have S3 : Aside _ := S3
                      have T3 : Hid _ := T3
                      have P3 : Hid _ := P3
                      go_wp2
                      go_end0
                      refine ⟨rfl, d3, S3.out, last_half (by have := H2S.out; omega) T2.out.2.2.1 T2.out.2.2.2 (P3.out _ _ (Nat.le_refl _) (Nat.le_refl _) (by have := H2S.out; omega)) T3.out, ?_⟩
                      intro x y hx hy hyd
                      exact permIn_trans _ _ _ _ _ (PP2.out x y hx hy hyd) (P3.out x y (by omega) hy (by have := H2S.out; omega))
                  · have gB : decide (((a : Int) + (b : Int)) / 2 + (m : Int) - (s : Int) < (b : Int)) = false := decide_eq_false (by omega)
                    have gB' : ¬ ((a : Int) + (b : Int)) / 2 + (m : Int) - (s : Int) < (b : Int) := by omega
                    try (exfalso; omega)
                    all_goals
                      go_wp2
                      go_end0
                      have TS : SortedIn (ltOf cf) ((a + b) / 2) b d2 := by
                        have h1 := T2.out.1; have h2 := T2.out.2.1
                        by_cases hx : (a + b) / 2 < ((a + b) / 2 + m - s)
                        · have : b ≤ ((a + b) / 2 + m - s) := by omega
                          have hbe : ((a + b) / 2 + m - s) = b := by omega
                          rw [hbe] at h1; exact h1
                        · have hbe : ((a + b) / 2 + m - s) = (a + b) / 2 := by omega
                          rw [hbe] at h2; exact h2
                      refine ⟨rfl, d2, S2.out, joined T2.out.2.2.1 TS T2.out.2.2.2, PP2.out⟩
                · have gA : decide (((a : Int) + (b : Int)) / 2 < ((a : Int) + (b : Int)) / 2 + (m : Int) - (s : Int)) = false := decide_eq_false (by omega)
                  have gA' : ¬ ((a : Int) + (b : Int)) / 2 < ((a : Int) + (b : Int)) / 2 + (m : Int) - (s : Int) := by omega
                  try (exfalso; omega)
                  all_goals
                    go_wp2
                    go_end0
                    have TS : SortedIn (ltOf cf) ((a + b) / 2) b d2 := by
                      have h1 := T2.out.1; have h2 := T2.out.2.1
                      by_cases hx : (a + b) / 2 < ((a + b) / 2 + m - s)
                      · have : b ≤ ((a + b) / 2 + m - s) := by omega
                        have hbe : ((a + b) / 2 + m - s) = b := by omega
                        rw [hbe] at h1; exact h1
                      · have hbe : ((a + b) / 2 + m - s) = (a + b) / 2 := by omega
                        rw [hbe] at h2; exact h2
                    refine ⟨rfl, d2, S2.out, joined T2.out.2.2.1 TS T2.out.2.2.2, PP2.out⟩
        · have gB : decide ((m : Int) < ((a : Int) + (b : Int)) / 2 + (m : Int) - (s : Int)) = false := decide_eq_false (by omega)
          have gB' : ¬ (m : Int) < ((a : Int) + (b : Int)) / 2 + (m : Int) - (s : Int) := by omega
          try (exfalso; omega)
          all_goals
            obtain ⟨d1, S1, HV, H1S, PP1⟩ : ∃ d1 : Array α, Aside (SWK enc k w0 blk off d1 wr) ∧ Hid (Halves (ltOf cf) a s ((a + b) / 2) ((a + b) / 2 + m - s) b d1) ∧ Hid (d1.size = d.size) ∧ Hid (∀ x y, x ≤ a → b ≤ y → y ≤ d.size → PermIn x y d d1) :=
              ⟨d, HS, halves HO.out (by omega) (by omega) (by omega) (by omega) hb (by omega) HL.out HRR.out H1.out H2.out (rot_none (by omega)), rfl, fun x y _ _ _ => permIn_refl _ _ _⟩
            clear HS
            by_cases hA : a < s
            · have gA : decide ((a : Int) < (s : Int)) = true := decide_eq_true (by omega)
              have gA' : (a : Int) < (s : Int) := by omega
              by_cases hB : s < (a + b) / 2
              · have gB : decide ((s : Int) < ((a : Int) + (b : Int)) / 2) = true := decide_eq_true (by omega)
                have gB' : (s : Int) < ((a : Int) + (b : Int)) / 2 := by omega
                try (exfalso; omega)
                all_goals
                  go_wp2_with fail
                  refine Calls.mono (IH.out _ _ (((a : Int) + (b : Int)) / 2) a s ((a + b) / 2) d1 _ rfl rfl (by omega) (by omega) S1.out (H1S.out.trans HK.out) (by omega) (by omega) (by have := H1S.out; omega) HV.out.h1 HV.out.h2) ?_
                  rintro e w2 ⟨rfl, d2, S2, T2, P2⟩
                  have S2 : Aside _ := S2
                  have P2 : Hid _ := P2
                  have hsz2 := (P2.out a b (Nat.le_refl _) (by omega) (by have := H1S.out; omega)).1
                  have H2S : Hid (d2.size = d.size) := hsz2.trans H1S.out
                  have HF := HV.out.first (by omega) (by omega) (by have := H1S.out; omega) (P2.out a ((a + b) / 2) (Nat.le_refl _) (Nat.le_refl _) (by have := H1S.out; omega)) T2
                  have T2 : Hid (SortedIn (ltOf cf) ((a + b) / 2) ((a + b) / 2 + m - s) d2 ∧ SortedIn (ltOf cf) ((a + b) / 2 + m - s) b d2 ∧ SortedIn (ltOf cf) a ((a + b) / 2) d2 ∧ ∀ i j, a ≤ i → i < (a + b) / 2 → (a + b) / 2 ≤ j → j < b → ltOf cf d2[j]! d2[i]! = false) := ⟨HF.2.1, HF.2.2.1, HF.1, HF.2.2.2⟩
                  have PP2 : Hid (∀ x y, x ≤ a → b ≤ y → y ≤ d.size → PermIn x y d d2) := fun x y hx hy hyd => permIn_trans _ _ _ _ _ (PP1.out x y hx hy hyd) (P2.out x y hx (by omega) (by have := H1S.out; omega))
                  clear HF hsz2
                  by_cases hA : (a + b) / 2 < ((a + b) / 2 + m - s)
                  · have gA : decide (((a : Int) + (b : Int)) / 2 < ((a : Int) + (b : Int)) / 2 + (m : Int) - (s : Int)) = true := decide_eq_true (by omega)
                    have gA' : ((a : Int) + (b : Int)) / 2 < ((a : Int) + (b : Int)) / 2 + (m : Int) - (s : Int) := by omega
                    by_cases hB : ((a + b) / 2 + m - s) < b
                    · have gB : decide (((a : Int) + (b : Int)) / 2 + (m : Int) - (s : Int) < (b : Int)) = true := decide_eq_true (by omega)
                      have gB' : ((a : Int) + (b : Int)) / 2 + (m : Int) - (s : Int) < (b : Int) := by omega
                      try (exfalso; omega)
                      all_goals
                        go_wp2_with fail
                        refine Calls.mono (IH.out (((a : Int) + (b : Int)) / 2) (((a : Int) + (b : Int)) / 2 + (m : Int) - (s : Int)) _ ((a + b) / 2) ((a + b) / 2 + m - s) b d2 _ (by omega) (by omega) rfl (by omega) S2.out (H2S.out.trans HK.out) (by omega) (by omega) (by have := H2S.out; omega) T2.out.1 T2.out.2.1) ?_
                        rintro e w3 ⟨rfl, d3, S3, T3, P3⟩
                        have S3 : Aside _ := S3
                        have T3 : Hid _ := T3
                        have P3 : Hid _ := P3
                        go_wp2
                        go_end0
                        refine ⟨rfl, d3, S3.out, last_half (by have := H2S.out; omega) T2.out.2.2.1 T2.out.2.2.2 (P3.out _ _ (Nat.le_refl _) (Nat.le_refl _) (by have := H2S.out; omega)) T3.out, ?_⟩
                        intro x y hx hy hyd
                        exact permIn_trans _ _ _ _ _ (PP2.out x y hx hy hyd) (P3.out x y (by omega) hy (by have := H2S.out; omega))
                    · have gB : decide (((a : Int) + (b : Int)) / 2 + (m : Int) - (s : Int) < (b : Int)) = false := decide_eq_false (by omega)
                      have gB' : ¬ ((a : Int) + (b : Int)) / 2 + (m : Int) - (s : Int) < (b : Int) := by omega
                      try (exfalso; omega)
                      all_goals
                        go_wp2
                        go_end0
                        have TS : SortedIn (ltOf cf) ((a + b) / 2) b d2 := by
                          have h1 := T2.out.1; have h2 := T2.out.2.1
                          by_cases hx : (a + b) / 2 < ((a + b) / 2 + m - s)
                          · have : b ≤ ((a + b) / 2 + m - s) := by omega
                            have hbe : ((a + b) / 2 + m - s) = b := by omega
                            rw [hbe] at h1; exact h1
                          · have hbe : ((a + b) / 2 + m - s) = (a + b) / 2 := by omega
                            rw [hbe] at h2; exact h2
                        refine ⟨rfl, d2, S2.out, joined T2.out.2.2.1 TS T2.out.2.2.2, PP2.out⟩
                  · have gA : decide (((a : Int) + (b : Int)) / 2 < ((a : Int) + (b : Int)) / 2 + (m : Int) - (s : Int)) = false := decide_eq_false (by omega)
                    have gA' : ¬ ((a : Int) + (b : Int)) / 2 < ((a : Int) + (b : Int)) / 2 + (m : Int) - (s : Int) := by omega
                    try (exfalso; omega)
                    all_goals
                      go_wp2
                      go_end0
                      have TS : SortedIn (ltOf cf) ((a + b) / 2) b d2 := by
                        have h1 := T2.out.1; have h2 := T2.out.2.1
                        by_cases hx : (a + b) / 2 < ((a + b) / 2 + m - s)
                        · have : b ≤ ((a + b) / 2 + m - s) := by omega
                          have hbe : ((a + b) / 2 + m - s) = b := by omega
                          rw [hbe] at h1; exact h1
                        · have hbe : ((a + b) / 2 + m - s) = (a + b) / 2 := by omega
                          rw [hbe] at h2; exact h2
                      refine ⟨rfl, d2, S2.out, joined T2.out.2.2.1 TS T2.out.2.2.2, PP2.out⟩
              · have gB : decide ((s : Int) < ((a : Int) + (b : Int)) / 2) = false := decide_eq_false (by omega)
                have gB' : ¬ (s : Int) < ((a : Int) + (b : Int)) / 2 := by omega
                try (exfalso; omega)
                all_goals
                  have TA : SortedIn (ltOf cf) a ((a + b) / 2) d1 := by
                    have h1 := HV.out.h1; have h2 := HV.out.h2
                    by_cases hx : a < s
                    · have hbe : s = (a + b) / 2 := by omega
                      rw [hbe] at h1; exact h1
                    · have hbe : s = a := by omega
                      rw [hbe] at h2; exact h2
                  obtain ⟨d2, S2, T2, H2S, PP2⟩ : ∃ d2 : Array α, Aside (SWK enc k w0 blk off d2 _) ∧ Hid (SortedIn (ltOf cf) ((a + b) / 2) ((a + b) / 2 + m - s) d2 ∧ SortedIn (ltOf cf) ((a + b) / 2 + m - s) b d2 ∧ SortedIn (ltOf cf) a ((a + b) / 2) d2 ∧ ∀ i j, a ≤ i → i < (a + b) / 2 → (a + b) / 2 ≤ j → j < b → ltOf cf d2[j]! d2[i]! = false) ∧ Hid (d2.size = d.size) ∧ Hid (∀ x y, x ≤ a → b ≤ y → y ≤ d.size → PermIn x y d d2) :=
                    ⟨d1, S1, ⟨HV.out.h3, HV.out.h4, TA, HV.out.cross⟩, H1S, PP1⟩
                  clear TA S1 H1S PP1 HV
                  by_cases hA : (a + b) / 2 < ((a + b) / 2 + m - s)
                  · have gA : decide (((a : Int) + (b : Int)) / 2 < ((a : Int) + (b : Int)) / 2 + (m : Int) - (s : Int)) = true := decide_eq_true (by omega)
                    have gA' : ((a : Int) + (b : Int)) / 2 < ((a : Int) + (b : Int)) / 2 + (m : Int) - (s : Int) := by omega
                    by_cases hB : ((a + b) / 2 + m - s) < b
                    · have gB : decide (((a : Int) + (b : Int)) / 2 + (m : Int) - (s : Int) < (b : Int)) = true := decide_eq_true (by omega)
                      have gB' : ((a : Int) + (b : Int)) / 2 + (m : Int) - (s : Int) < (b : Int) := by omega
                      try (exfalso; omega)
                      all_goals
                        go_wp2_with fail
                        refine Calls.mono (IH.out (((a : Int) + (b : Int)) / 2) (((a : Int) + (b : Int)) / 2 + (m : Int) - (s : Int)) _ ((a + b) / 2) ((a + b) / 2 + m - s) b d2 _ (by omega) (by omega) rfl (by omega) S2.out (H2S.out.trans HK.out) (by omega) (by omega) (by have := H2S.out; omega) T2.out.1 T2.out.2.1) ?_
                        rintro e w3 ⟨rfl, d3, S3, T3, P3⟩
                        have S3 : Aside _ := S3
                        have T3 : Hid _ := T3
                        have P3 : Hid _ := P3
                        go_wp2
                        go_end0
                        refine ⟨rfl, d3, S3.out, last_half (by have := H2S.out; omega) T2.out.2.2.1 T2.out.2.2.2 (P3.out _ _ (Nat.le_refl _) (Nat.le_refl _) (by have := H2S.out; omega)) T3.out, ?_⟩
                        intro x y hx hy hyd
                        exact permIn_trans _ _ _ _ _ (PP2.out x y hx hy hyd) (P3.out x y (by omega) hy (by have := H2S.out; omega))
                    · have gB : decide (((a : Int) + (b : Int)) / 2 + (m : Int) - (s : Int) < (b : Int)) = false := decide_eq_false (by omega)
                      have gB' : ¬ ((a : Int) + (b : Int)) / 2 + (m : Int) - (s : Int) < (b : Int) := by omega
                      try (exfalso; omega)
                      all_goals
                        go_wp2
                        go_end0
                        have TS : SortedIn (ltOf cf) ((a + b) / 2) b d2 := by
                          have h1 := T2.out.1; have h2 := T2.out.2.1
                          by_cases hx : (a + b) / 2 < ((a + b) / 2 + m - s)
                          · have : b ≤ ((a + b) / 2 + m - s) := by omega
                            have hbe : ((a + b) / 2 + m - s) = b := by omega
                            rw [hbe] at h1; exact h1
                          · have hbe : ((a + b) / 2 + m - s) = (a + b) / 2 := by omega
                            rw [hbe] at h2; exact h2
                        refine ⟨rfl, d2, S2.out, joined T2.out.2.2.1 TS T2.out.2.2.2, PP2.out⟩
                  · have gA : decide (((a : Int) + (b : Int)) / 2 < ((a : Int) + (b : Int)) / 2 + (m : Int) - (s : Int)) = false := decide_eq_false (by omega)
                    have gA' : ¬ ((a : Int) + (b : Int)) / 2 < ((a : Int) + (b : Int)) / 2 + (m : Int) - (s : Int) := by omega
                    try (exfalso; omega)
                    all_goals
                      go_wp2
                      go_end0
                      have TS : SortedIn (ltOf cf) ((a + b) / 2) b d2 := by
                        have h1 := T2.out.1; have h2 := T2.out.2.1
                        by_cases hx : (a + b) / 2 < ((a + b) / 2 + m - s)
                        · have : b ≤ ((a + b) / 2 + m - s) := by omega
                          have hbe : ((a + b) / 2 + m - s) = b := by omega
                          rw [hbe] at h1; exact h1
                        · have hbe : ((a + b) / 2 + m - s) = (a + b) / 2 := by omega
                          rw [hbe] at h2; exact h2
                      refine ⟨rfl, d2, S2.out, joined T2.out.2.2.1 TS T2.out.2.2.2, PP2.out⟩
            · have gA : decide ((a : Int) < (s : Int)) = false := decide_eq_false (by omega)
              have gA' : ¬ (a : Int) < (s : Int) := by omega
              try (exfalso; omega)
              all_goals
                have TA : SortedIn (ltOf cf) a ((a + b) / 2) d1 := by
                  have h1 := HV.out.h1; have h2 := HV.out.h2
                  by_cases hx : a < s
                  · have hbe : s = (a + b) / 2 := by omega
                    rw [hbe] at h1; exact h1
                  · have hbe : s = a := by omega
                    rw [hbe] at h2; exact h2
                obtain ⟨d2, S2, T2, H2S, PP2⟩ : ∃ d2 : Array α, Aside (SWK enc k w0 blk off d2 _) ∧ Hid (SortedIn (ltOf cf) ((a + b) / 2) ((a + b) / 2 + m - s) d2 ∧ SortedIn (ltOf cf) ((a + b) / 2 + m - s) b d2 ∧ SortedIn (ltOf cf) a ((a + b) / 2) d2 ∧ ∀ i j, a ≤ i → i < (a + b) / 2 → (a + b) / 2 ≤ j → j < b → ltOf cf d2[j]! d2[i]! = false) ∧ Hid (d2.size = d.size) ∧ Hid (∀ x y, x ≤ a → b ≤ y → y ≤ d.size → PermIn x y d d2) :=
                  ⟨d1, S1, ⟨HV.out.h3, HV.out.h4, TA, HV.out.cross⟩, H1S, PP1⟩
                clear TA S1 H1S PP1 HV
                by_cases hA : (a + b) / 2 < ((a + b) / 2 + m - s)
                · have gA : decide (((a : Int) + (b : Int)) / 2 < ((a : Int) + (b : Int)) / 2 + (m : Int) - (s : Int)) = true := decide_eq_true (by omega)
                  have gA' : ((a : Int) + (b : Int)) / 2 < ((a : Int) + (b : Int)) / 2 + (m : Int) - (s : Int) := by omega
                  by_cases hB : ((a + b) / 2 + m - s) < b
                  · have gB : decide (((a : Int) + (b : Int)) / 2 + (m : Int) - (s : Int) < (b : Int)) = true := decide_eq_true (by omega)
                    have gB' : ((a : Int) + (b : Int)) / 2 + (m : Int) - (s : Int) < (b : Int) := by omega
                    try (exfalso; omega)
                    all_goals
                      go_wp2_with fail
                      refine Calls.mono (IH.out (((a : Int) + (b : Int)) / 2) (((a : Int) + (b : Int)) / 2 + (m : Int) - (s : Int)) _ ((a + b) / 2) ((a + b) / 2 + m - s) b d2 _ (by omega) (by omega) rfl (by omega) S2.out (H2S.out.trans HK.out) (by omega) (by omega) (by have := H2S.out; omega) T2.out.1 T2.out.2.1) ?_
                      rintro e w3 ⟨rfl, d3, S3, T3, P3⟩
                      have S3 : Aside _ := S3
                      have T3 : Hid _ := T3
                      have P3 : Hid _ := P3
                      go_wp2
                      go_end0
                      refine ⟨rfl, d3, S3.out, last_half (by have := H2S.out; omega) T2.out.2.2.1 T2.out.2.2.2 (P3.out _ _ (Nat.le_refl _) (Nat.le_refl _) (by have := H2S.out; omega)) T3.out, ?_⟩
                      intro x y hx hy hyd
                      exact permIn_trans _ _ _ _ _ (PP2.out x y hx hy hyd) (P3.out x y (by omega) hy (by have := H2S.out; omega))
                  · have gB : decide (((a : Int) + (b : Int)) / 2 + (m : Int) - (s : Int) < (b : Int)) = false := decide_eq_false (by omega)
                    have gB' : ¬ ((a : Int) + (b : Int)) / 2 + (m : Int) - (s : Int) < (b : Int) := by omega
                    try (exfalso; omega)
                    all_goals
                      go_wp2
                      go_end0
                      have TS : SortedIn (ltOf cf) ((a + b) / 2) b d2 := by
                        have h1 := T2.out.1; have h2 := T2.out.2.1
                        by_cases hx : (a + b) / 2 < ((a + b) / 2 + m - s)
                        · have : b ≤ ((a + b) / 2 + m - s) := by omega
                          have hbe : ((a + b) / 2 + m - s) = b := by omega
                          rw [hbe] at h1; exact h1
                        · have hbe : ((a + b) / 2 + m - s) = (a + b) / 2 := by omega
                          rw [hbe] at h2; exact h2
                      refine ⟨rfl, d2, S2.out, joined T2.out.2.2.1 TS T2.out.2.2.2, PP2.out⟩
                · have gA : decide (((a : Int) + (b : Int)) / 2 < ((a : Int) + (b : Int)) / 2 + (m : Int) - (s : Int)) = false := decide_eq_false (by omega)
                  have gA' : ¬ ((a : Int) + (b : Int)) / 2 < ((a : Int) + (b : Int)) / 2 + (m : Int) - (s : Int) := by omega
                  try (exfalso; omega)
                  all_goals
                    go_wp2
                    go_end0
                    have TS : SortedIn (ltOf cf) ((a + b) / 2) b d2 := by
                      have h1 := T2.out.1; have h2 := T2.out.2.1
                      by_cases hx : (a + b) / 2 < ((a + b) / 2 + m - s)
                      · have : b ≤ ((a + b) / 2 + m - s) := by omega
                        have hbe : ((a + b) / 2 + m - s) = b := by omega
                        rw [hbe] at h1; exact h1
                      · have hbe : ((a + b) / 2 + m - s) = (a + b) / 2 := by omega
                        rw [hbe] at h2; exact h2
                    refine ⟨rfl, d2, S2.out, joined T2.out.2.2.1 TS T2.out.2.2.2, PP2.out⟩
      · have gA : decide ((s : Int) < (m : Int)) = false := decide_eq_false (by omega)
        have gA' : ¬ (s : Int) < (m : Int) := by omega
        try (exfalso; omega)
        all_goals
          obtain ⟨d1, S1, HV, H1S, PP1⟩ : ∃ d1 : Array α, Aside (SWK enc k w0 blk off d1 wr) ∧ Hid (Halves (ltOf cf) a s ((a + b) / 2) ((a + b) / 2 + m - s) b d1) ∧ Hid (d1.size = d.size) ∧ Hid (∀ x y, x ≤ a → b ≤ y → y ≤ d.size → PermIn x y d d1) :=
            ⟨d, HS, halves HO.out (by omega) (by omega) (by omega) (by omega) hb (by omega) HL.out HRR.out H1.out H2.out (rot_none (by omega)), rfl, fun x y _ _ _ => permIn_refl _ _ _⟩
          clear HS
          by_cases hA : a < s
          · have gA : decide ((a : Int) < (s : Int)) = true := decide_eq_true (by omega)
            have gA' : (a : Int) < (s : Int) := by omega
            by_cases hB : s < (a + b) / 2
            · have gB : decide ((s : Int) < ((a : Int) + (b : Int)) / 2) = true := decide_eq_true (by omega)
              have gB' : (s : Int) < ((a : Int) + (b : Int)) / 2 := by omega
              try (exfalso; omega)
              all_goals
                go_wp2_with fail
                refine Calls.mono (IH.out _ _ (((a : Int) + (b : Int)) / 2) a s ((a + b) / 2) d1 _ rfl rfl (by omega) (by omega) S1.out (H1S.out.trans HK.out) (by omega) (by omega) (by have := H1S.out; omega) HV.out.h1 HV.out.h2) ?_
                rintro e w2 ⟨rfl, d2, S2, T2, P2⟩
                have S2 : Aside _ := S2
                have P2 : Hid _ := P2
                have hsz2 := (P2.out a b (Nat.le_refl _) (by omega) (by have := H1S.out; omega)).1
                have H2S : Hid (d2.size = d.size) := hsz2.trans H1S.out
                have HF := HV.out.first (by omega) (by omega) (by have := H1S.out; omega) (P2.out a ((a + b) / 2) (Nat.le_refl _) (Nat.le_refl _) (by have := H1S.out; omega)) T2
                have T2 : Hid (SortedIn (ltOf cf) ((a + b) / 2) ((a + b) / 2 + m - s) d2 ∧ SortedIn (ltOf cf) ((a + b) / 2 + m - s) b d2 ∧ SortedIn (ltOf cf) a ((a + b) / 2) d2 ∧ ∀ i j, a ≤ i → i < (a + b) / 2 → (a + b) / 2 ≤ j → j < b → ltOf cf d2[j]! d2[i]! = false) := ⟨HF.2.1, HF.2.2.1, HF.1, HF.2.2.2⟩
                have PP2 : Hid (∀ x y, x ≤ a → b ≤ y → y ≤ d.size → PermIn x y d d2) := fun x y hx hy hyd => permIn_trans _ _ _ _ _ (PP1.out x y hx hy hyd) (P2.out x y hx (by omega) (by have := H1S.out; omega))
                clear HF hsz2
                by_cases hA : (a + b) / 2 < ((a + b) / 2 + m - s)
                · have gA : decide (((a : Int) + (b : Int)) / 2 < ((a : Int) + (b : Int)) / 2 + (m : Int) - (s : Int)) = true := decide_eq_true (by omega)
                  have gA' : ((a : Int) + (b : Int)) / 2 < ((a : Int) + (b : Int)) / 2 + (m : Int) - (s : Int) := by omega
                  by_cases hB : ((a + b) / 2 + m - s) < b
                  · have gB : decide (((a : Int) + (b : Int)) / 2 + (m : Int) - (s : Int) < (b : Int)) = true := decide_eq_true (by omega)
                    have gB' : ((a : Int) + (b : Int)) / 2 + (m : Int) - (s : Int) < (b : Int) := by omega
                    try (exfalso; omega)
                    all_goals
                      go_wp2_with fail
                      refine Calls.mono (IH.out (((a : Int) + (b : Int)) / 2) (((a : Int) + (b : Int)) / 2 + (m : Int) - (s : Int)) _ ((a + b) / 2) ((a + b) / 2 + m - s) b d2 _ (by omega) (by omega) rfl (by omega) S2.out (H2S.out.trans HK.out) (by omega) (by omega) (by have := H2S.out; omega) T2.out.1 T2.out.2.1) ?_
                      rintro e w3 ⟨rfl, d3, S3, T3, P3⟩
                      have S3 : Aside _ := S3
                      have T3 : Hid _ := T3
                      have P3 : Hid _ := P3
                      go_wp2
                      go_end0
                      refine ⟨rfl, d3, S3.out, last_half (by have := H2S.out; omega) T2.out.2.2.1 T2.out.2.2.2 (P3.out _ _ (Nat.le_refl _) (Nat.le_refl _) (by have := H2S.out; omega)) T3.out, ?_⟩
                      intro x y hx hy hyd
                      exact permIn_trans _ _ _ _ _ (PP2.out x y hx hy hyd) (P3.out x y (by omega) hy (by have := H2S.out; omega))
                  · have gB : decide (((a : Int) + (b : Int)) / 2 + (m : Int) - (s : Int) < (b : Int)) = false := decide_eq_false (by omega)
                    have gB' : ¬ ((a : Int) + (b : Int)) / 2 + (m : Int) - (s : Int) < (b : Int) := by omega
                    try (exfalso; omega)
                    all_goals
                      go_wp2
                      go_end0
                      have TS : SortedIn (ltOf cf) ((a + b) / 2) b d2 := by
                        have h1 := T2.out.1; have h2 := T2.out.2.1
                        by_cases hx : (a + b) / 2 < ((a + b) / 2 + m - s)
                        · have : b ≤ ((a + b) / 2 + m - s) := by omega
                          have hbe : ((a + b) / 2 + m - s) = b := by omega
                          rw [hbe] at h1; exact h1
                        · have hbe : ((a + b) / 2 + m - s) = (a + b) / 2 := by omega
                          rw [hbe] at h2; exact h2
                      refine ⟨rfl, d2, S2.out, joined T2.out.2.2.1 TS T2.out.2.2.2, PP2.out⟩
                · have gA : decide (((a : Int) + (b : Int)) / 2 < ((a : Int) + (b : Int)) / 2 + (m : Int) - (s : Int)) = false := decide_eq_false (by omega)
                  have gA' : ¬ ((a : Int) + (b : Int)) / 2 < ((a : Int) + (b : Int)) / 2 + (m : Int) - (s : Int) := by omega
                  try (exfalso; omega)
                  all_goals
                    go_wp2
                    go_end0
                    have TS : SortedIn (ltOf cf) ((a + b) / 2) b d2 := by
                      have h1 := T2.out.1; have h2 := T2.out.2.1
                      by_cases hx : (a + b) / 2 < ((a + b) / 2 + m - s)
                      · have : b ≤ ((a + b) / 2 + m - s) := by omega
                        have hbe : ((a + b) / 2 + m - s) = b := by omega
                        rw [hbe] at h1; exact h1
                      · have hbe : ((a + b) / 2 + m - s) = (a + b) / 2 := by omega
                        rw [hbe] at h2; exact h2
                    refine ⟨rfl, d2, S2.out, joined T2.out.2.2.1 TS T2.out.2.2.2, PP2.out⟩
            · have gB : decide ((s : Int) < ((a : Int) + (b : Int)) / 2) = false := decide_eq_false (by omega)
              have gB' : ¬ (s : Int) < ((a : Int) + (b : Int)) / 2 := by omega
              try (exfalso; omega)
              all_goals
                have TA : SortedIn (ltOf cf) a ((a + b) / 2) d1 := by
                  have h1 := HV.out.h1; have h2 := HV.out.h2
                  by_cases hx : a < s
                  · have hbe : s = (a + b) / 2 := by omega
                    rw [hbe] at h1; exact h1
                  · have hbe : s = a := by omega
                    rw [hbe] at h2; exact h2
                obtain ⟨d2, S2, T2, H2S, PP2⟩ : ∃ d2 : Array α, Aside (SWK enc k w0 blk off d2 _) ∧ Hid (SortedIn (ltOf cf) ((a + b) / 2) ((a + b) / 2 + m - s) d2 ∧ SortedIn (ltOf cf) ((a + b) / 2 + m - s) b d2 ∧ SortedIn (ltOf cf) a ((a + b) / 2) d2 ∧ ∀ i j, a ≤ i → i < (a + b) / 2 → (a + b) / 2 ≤ j → j < b → ltOf cf d2[j]! d2[i]! = false) ∧ Hid (d2.size = d.size) ∧ Hid (∀ x y, x ≤ a → b ≤ y → y ≤ d.size → PermIn x y d d2) :=
                  ⟨d1, S1, ⟨HV.out.h3, HV.out.h4, TA, HV.out.cross⟩, H1S, PP1⟩
                clear TA S1 H1S PP1 HV
                by_cases hA : (a + b) / 2 < ((a + b) / 2 + m - s)
                · have gA : decide (((a : Int) + (b : Int)) / 2 < ((a : Int) + (b : Int)) / 2 + (m : Int) - (s : Int)) = true := decide_eq_true (by omega)
                  have gA' : ((a : Int) + (b : Int)) / 2 < ((a : Int) + (b : Int)) / 2 + (m : Int) - (s : Int) := by omega
                  by_cases hB : ((a + b) / 2 + m - s) < b
                  · have gB : decide (((a : Int) + (b : Int)) / 2 + (m : Int) - (s : Int) < (b : Int)) = true := decide_eq_true (by omega)
                    have gB' : ((a : Int) + (b : Int)) / 2 + (m : Int) - (s : Int) < (b : Int) := by omega
                    try (exfalso; omega)
                    all_goals
                      go_wp2_with fail
                      refine Calls.mono (IH.out (((a : Int) + (b : Int)) / 2) (((a : Int) + (b : Int)) / 2 + (m : Int) - (s : Int)) _ ((a + b) / 2) ((a + b) / 2 + m - s) b d2 _ (by omega) (by omega) rfl (by omega) S2.out (H2S.out.trans HK.out) (by omega) (by omega) (by have := H2S.out; omega) T2.out.1 T2.out.2.1) ?_
                      rintro e w3 ⟨rfl, d3, S3, T3, P3⟩
                      have S3 : Aside _ := S3
                      have T3 : Hid _ := T3
                      have P3 : Hid _ := P3
                      go_wp2
                      go_end0
                      refine ⟨rfl, d3, S3.out, last_half (by have := H2S.out; omega) T2.out.2.2.1 T2.out.2.2.2 (P3.out _ _ (Nat.le_refl _) (Nat.le_refl _) (by have := H2S.out; omega)) T3.out, ?_⟩
                      intro x y hx hy hyd
                      exact permIn_trans _ _ _ _ _ (PP2.out x y hx hy hyd) (P3.out x y (by omega) hy (by have := H2S.out; omega))
                  · have gB : decide (((a : Int) + (b : Int)) / 2 + (m : Int) - (s : Int) < (b : Int)) = false := decide_eq_false (by omega)
                    have gB' : ¬ ((a : Int) + (b : Int)) / 2 + (m : Int) - (s : Int) < (b : Int) := by omega
                    try (exfalso; omega)
                    all_goals
                      go_wp2
                      go_end0
                      have TS : SortedIn (ltOf cf) ((a + b) / 2) b d2 := by
                        have h1 := T2.out.1; have h2 := T2.out.2.1
                        by_cases hx : (a + b) / 2 < ((a + b) / 2 + m - s)
                        · have : b ≤ ((a + b) / 2 + m - s) := by omega
                          have hbe : ((a + b) / 2 + m - s) = b := by omega
                          rw [hbe] at h1; exact h1
                        · have hbe : ((a + b) / 2 + m - s) = (a + b) / 2 := by omega
                          rw [hbe] at h2; exact h2
                      refine ⟨rfl, d2, S2.out, joined T2.out.2.2.1 TS T2.out.2.2.2, PP2.out⟩
                · have gA : decide (((a : Int) + (b : Int)) / 2 < ((a : Int) + (b : Int)) / 2 + (m : Int) - (s : Int)) = false := decide_eq_false (by omega)
                  have gA' : ¬ ((a : Int) + (b : Int)) / 2 < ((a : Int) + (b : Int)) / 2 + (m : Int) - (s : Int) := by omega
                  try (exfalso; omega)
                  all_goals
                    go_wp2
                    go_end0
                    have TS : SortedIn (ltOf cf) ((a + b) / 2) b d2 := by
                      have h1 := T2.out.1; have h2 := T2.out.2.1
                      by_cases hx : (a + b) / 2 < ((a + b) / 2 + m - s)
                      · have : b ≤ ((a + b) / 2 + m - s) := by omega
                        have hbe : ((a + b) / 2 + m - s) = b := by omega
                        rw [hbe] at h1; exact h1
                      · have hbe : ((a + b) / 2 + m - s) = (a + b) / 2 := by omega
                        rw [hbe] at h2; exact h2
                    refine ⟨rfl, d2, S2.out, joined T2.out.2.2.1 TS T2.out.2.2.2, PP2.out⟩
          · have gA : decide ((a : Int) < (s : Int)) = false := decide_eq_false (by omega)
            have gA' : ¬ (a : Int) < (s : Int) := by omega
            try (exfalso; omega)
            all_goals
              have TA : SortedIn (ltOf cf) a ((a + b) / 2) d1 := by
                have h1 := HV.out.h1; have h2 := HV.out.h2
                by_cases hx : a < s
                · have hbe : s = (a + b) / 2 := by omega
                  rw [hbe] at h1; exact h1
                · have hbe : s = a := by omega
                  rw [hbe] at h2; exact h2
              obtain ⟨d2, S2, T2, H2S, PP2⟩ : ∃ d2 : Array α, Aside (SWK enc k w0 blk off d2 _) ∧ Hid (SortedIn (ltOf cf) ((a + b) / 2) ((a + b) / 2 + m - s) d2 ∧ SortedIn (ltOf cf) ((a + b) / 2 + m - s) b d2 ∧ SortedIn (ltOf cf) a ((a + b) / 2) d2 ∧ ∀ i j, a ≤ i → i < (a + b) / 2 → (a + b) / 2 ≤ j → j < b → ltOf cf d2[j]! d2[i]! = false) ∧ Hid (d2.size = d.size) ∧ Hid (∀ x y, x ≤ a → b ≤ y → y ≤ d.size → PermIn x y d d2) :=
                ⟨d1, S1, ⟨HV.out.h3, HV.out.h4, TA, HV.out.cross⟩, H1S, PP1⟩
              clear TA S1 H1S PP1 HV
              by_cases hA : (a + b) / 2 < ((a + b) / 2 + m - s)
              · have gA : decide (((a : Int) + (b : Int)) / 2 < ((a : Int) + (b : Int)) / 2 + (m : Int) - (s : Int)) = true := decide_eq_true (by omega)
                have gA' : ((a : Int) + (b : Int)) / 2 < ((a : Int) + (b : Int)) / 2 + (m : Int) - (s : Int) := by omega
                by_cases hB : ((a + b) / 2 + m - s) < b
                · have gB : decide (((a : Int) + (b : Int)) / 2 + (m : Int) - (s : Int) < (b : Int)) = true := decide_eq_true (by omega)
                  have gB' : ((a : Int) + (b : Int)) / 2 + (m : Int) - (s : Int) < (b : Int) := by omega
                  try (exfalso; omega)
                  all_goals
                    go_wp2_with fail
                    refine Calls.mono (IH.out (((a : Int) + (b : Int)) / 2) (((a : Int) + (b : Int)) / 2 + (m : Int) - (s : Int)) _ ((a + b) / 2) ((a + b) / 2 + m - s) b d2 _ (by omega) (by omega) rfl (by omega) S2.out (H2S.out.trans HK.out) (by omega) (by omega) (by have := H2S.out; omega) T2.out.1 T2.out.2.1) ?_
                    rintro e w3 ⟨rfl, d3, S3, T3, P3⟩
                    have S3 : Aside _ := S3
                    have T3 : Hid _ := T3
                    have P3 : Hid _ := P3
                    go_wp2
                    go_end0
                    refine ⟨rfl, d3, S3.out, last_half (by have := H2S.out; omega) T2.out.2.2.1 T2.out.2.2.2 (P3.out _ _ (Nat.le_refl _) (Nat.le_refl _) (by have := H2S.out; omega)) T3.out, ?_⟩
                    intro x y hx hy hyd
                    exact permIn_trans _ _ _ _ _ (PP2.out x y hx hy hyd) (P3.out x y (by omega) hy (by have := H2S.out; omega))
                · have gB : decide (((a : Int) + (b : Int)) / 2 + (m : Int) - (s : Int) < (b : Int)) = false := decide_eq_false (by omega)
                  have gB' : ¬ ((a : Int) + (b : Int)) / 2 + (m : Int) - (s : Int) < (b : Int) := by omega
                  try (exfalso; omega)
                  all_goals
                    go_wp2
                    go_end0
                    have TS : SortedIn (ltOf cf) ((a + b) / 2) b d2 := by
                      have h1 := T2.out.1; have h2 := T2.out.2.1
                      by_cases hx : (a + b) / 2 < ((a + b) / 2 + m - s)
                      · have : b ≤ ((a + b) / 2 + m - s) := by omega
                        have hbe : ((a + b) / 2 + m - s) = b := by omega
                        rw [hbe] at h1; exact h1
                      · have hbe : ((a + b) / 2 + m - s) = (a + b) / 2 := by omega
                        rw [hbe] at h2; exact h2
                    refine ⟨rfl, d2, S2.out, joined T2.out.2.2.1 TS T2.out.2.2.2, PP2.out⟩
              · have gA : decide (((a : Int) + (b : Int)) / 2 < ((a : Int) + (b : Int)) / 2 + (m : Int) - (s : Int)) = false := decide_eq_false (by omega)
                have gA' : ¬ ((a : Int) + (b : Int)) / 2 < ((a : Int) + (b : Int)) / 2 + (m : Int) - (s : Int) := by omega
                try (exfalso; omega)
                all_goals
                  go_wp2
                  go_end0
                  have TS : SortedIn (ltOf cf) ((a + b) / 2) b d2 := by
                    have h1 := T2.out.1; have h2 := T2.out.2.1
                    by_cases hx : (a + b) / 2 < ((a + b) / 2 + m - s)
                    · have : b ≤ ((a + b) / 2 + m - s) := by omega
                      have hbe : ((a + b) / 2 + m - s) = b := by omega
                      rw [hbe] at h1; exact h1
                    · have hbe : ((a + b) / 2 + m - s) = (a + b) / 2 := by omega
                      rw [hbe] at h2; exact h2
                  refine ⟨rfl, d2, S2.out, joined T2.out.2.2.1 TS T2.out.2.2.2, PP2.out⟩

theorem symMerge_calls (E : SEnv P k) (hfs : P.funcs[45]? = some Try.f45) (hfr : P.funcs[34]? = some Try.f34) (hf : P.funcs[31]? = some Try.f31)
    (R : RowK enc k w0 blk off d0) (hsz : d0.size < 4611686018427387904) (cf : α → α → Int) (hO : SWO (ltOf cf)) (g : Nat) (cb : Array Value) (eg : ∀ args w, (callFunc g args).run P w = .ok (.enter g args) w)
    (hcmp : CmpLays P g cb enc k cf blk off d0.size w0) (cap : Nat) : ∀ n, SymOk P enc k w0 blk off d0 cf g cb cap n := by
  intro n
  induction n with
  | zero =>
    rintro _ _ _ a m b d W rfl rfl rfl hn hS hs ham hmb hb hl hr
    omega
  | succ n ih =>
    rintro _ _ _ a m b d W rfl rfl rfl hn hS hs ham hmb hb hl hr
    by_cases h1 : m = a + 1
    · exact symMerge_left E hfs hfr hf R hsz cf hO g cb eg hcmp cap a m b d W hS hs h1 hmb hb hl hr
    · by_cases h2 : b = m + 1
      · exact symMerge_right E hfs hfr hf R hsz cf hO g cb eg hcmp cap a m b d W hS hs (by omega) h2 hb hl hr
      · by_cases h3 : (a + b) / 2 < m
        · exact symMerge_low E hfs hfr hf R hsz cf hO g cb eg hcmp cap n ih a m b d W hS hs hn (by omega) (by omega) hb hl hr h3
        · exact symMerge_high E hfs hfr hf R hsz cf hO g cb eg hcmp cap n ih a m b d W hS hs hn (by omega) (by omega) hb hl hr (by omega)

end Go.Proofs.Ytgpagjocjcpbhaa
