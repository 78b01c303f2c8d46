/-
  The walks over slices.stableCmpFunc and slices.SortStableFunc at api.Entry: behind the call the row is a permutation of what it was, sorted by 'cmp(a, b) < 0'.
-/
import Derived.Test.YtgpagjocjcpbhaaTmSym2
import Derived.Test.YtgpagjocjcpbhaaTmShelf
namespace Go.Proofs.Ytgpagjocjcpbhaa
open Go.Shelf Go.RowKit Go.Lib Go.Sort Go.Tm.Stab
section
variable {P : Program} {k : Nat} {α : Type} [Inhabited α] {enc : α → List Value} {w0 : World} {blk off : Nat} {d0 : Array α}

/-- The insertion sort, from a world of the sort's to a world of the sort's. -/
def InsOk (P : Program) (enc : α → List Value) (k : Nat) (w0 : World) (blk off : Nat) (d0 : Array α) (cf : α → α → Int) (g : Nat) (cb : Array Value) (cap : Nat) : Prop :=
  ∀ (xa xb : Int) (a b : Nat) (d : Array α) (W : World), xa = a → xb = b → SWK enc k w0 blk off d W → d.size = d0.size → a ≤ b → b ≤ d.size →
    Calls P 30 #[.slice (some ⟨blk, off, none⟩) d0.size cap, .int .i64 xa, .int .i64 xb, .func (.func g) #[] cb] W fun e w' => e = .returned (.tuple #[]) ∧
      ∃ d', SWK enc k w0 blk off d' w' ∧ PermIn a b d d' ∧ SortedIn (ltOf cf) a b d'

theorem CmpLays.at {g : Nat} {cb : Array Value} {cf : α → α → Int} {size : Nat} {W : World} {d : Array α} (hC : CmpLays P g cb enc k cf blk off size w0) (hblk : blk < w0.heap.size) (hS : SWK enc k w0 blk off d W) (hs : d.size = size) : CmpLays P g cb enc k cf blk off size W := by
  intro m os dk hk x y
  obtain ⟨n', os', hW⟩ := hS.on hblk m dk os (hk.trans hs.symm)
  rw [hW]
  exact hC n' os' dk hk x y

set_option maxHeartbeats 4000000 in
set_option maxRecDepth 1000000 in
theorem stable_calls (E : SEnv P k) (hf : P.funcs[22]? = some Try.f22) (hfi : ∀ args w, (callFunc 30 args).run P w = .ok (.enter 30 args) w)
    (hfm : ∀ args w, (callFunc 31 args).run P w = .ok (.enter 31 args) w) (hsz : d0.size < 1152921504606846976) (cf : α → α → Int) (g : Nat) (cb : Array Value) (cap : Nat)
    (hins : InsOk P enc k w0 blk off d0 cf g cb cap) (hsym : ∀ n, SymOk P enc k w0 blk off d0 cf g cb cap n) (d : Array α) (W : World) (hS : SWK enc k w0 blk off d W) (hs : d.size = d0.size) :
    Calls P 22 #[.slice (some ⟨blk, off, none⟩) d0.size cap, .int .i64 (d0.size : Int), .func (.func g) #[] cb] W fun e w' => e = .returned (.tuple #[]) ∧
      ∃ d', SWK enc k w0 blk off d' w' ∧ PermIn 0 d0.size d d' ∧ SortedIn (ltOf cf) 0 d0.size d' := by
  have mixed := E.mixed; have tS := E.tS; have aS := E.aS; have zS := E.zS; have aE := E.aE; have zE := E.zE; have tI := E.tI; have aI := E.aI; have zI := E.zI; have tU := E.tU; have aU := E.aU; have zU := E.zU; have tB := E.tB; have aB := E.aB; have zB := E.zB
  have HS : Aside (SWK enc k w0 blk off d W) := hS
  have HK : Hid (d.size = d0.size) := hs
  have INS : Aside _ := hins
  have SYM : Aside _ := hsym
  clear E hS hs hins hsym
  go_enter hf, Try.ntmps22
  go_wp2
  go_loopg [7, 8] (d0.size + 20) (fun gq va vb wr => ∃ (q : Nat) (dk : Array α), va = .int .i64 (q * 20 : Nat) ∧ vb = .int .i64 (q * 20 + 20 : Nat) ∧ q * 20 ≤ d0.size ∧ d0.size + 20 - q * 20 ≤ gq ∧ Aside (SWK enc k w0 blk off dk wr) ∧ Hid (dk.size = d0.size) ∧ Hid (Runs (ltOf cf) 20 (q * 20) dk) ∧ Hid (PermIn 0 d0.size d dk))
  case atStart => exact ⟨0, d, rfl, rfl, by omega, by omega, HS, HK, Runs.zero, permIn_refl _ _ _⟩
  case round =>
    clear HS
    obtain ⟨q, dk, rfl, rfl, hqn, hg, HS, HKK, HR, HP⟩ := hrel
    by_cases hle : q * 20 + 20 ≤ d0.size
    · have hlez : ((q * 20 + 20 : Nat) : Int) ≤ (d0.size : Int) := by omega
      go_wp2_with fail
      refine Calls.mono (INS.out ((q : Int) * 20) ((q : Int) * 20 + 20) (q * 20) (q * 20 + 20) dk _ (by omega) (by omega) HS.out HKK.out (by omega) (by have := HKK.out; omega)) ?_
      rintro e w1 ⟨rfl, d1, S1, P1, T1⟩
      have S1 : Aside _ := S1
      have P1 : Hid _ := P1
      have T1 : Hid _ := T1
      go_wp2
      go_roundg (d0.size + 20 - (q + 1) * 20)
      case measure => omega
      case rel =>
        have hq : (q + 1) * 20 = q * 20 + 20 := by omega
        refine ⟨q + 1, d1, by go_num, by go_num, by omega, Nat.le_refl _, S1, P1.out.1.trans HKK.out, ?_, ?_⟩
        · show Runs _ _ _ _
          rw [hq]; exact HR.out.step P1.out T1.out (by omega) (Nat.le_refl _)
        · exact permIn_trans _ _ _ _ _ HP.out (permIn_mono _ _ _ _ _ _ (Nat.zero_le _) hle (by have := HKK.out; omega) P1.out)
    · have hlez : ¬ ((q * 20 + 20 : Nat) : Int) ≤ (d0.size : Int) := by omega
      go_wp2_with fail
      refine Calls.mono (INS.out ((q : Int) * 20) (d0.size : Int) (q * 20) d0.size dk _ (by omega) (by omega) HS.out HKK.out (by omega) (by have := HKK.out; omega)) ?_
      rintro e w1 ⟨rfl, d1, S1, P1, T1⟩
      have S1 : Aside _ := S1
      have HK1 : Hid (d1.size = d0.size) := P1.1.trans HKK.out
      have R1 : Hid (Runs (ltOf cf) 20 d0.size d1) := HR.out.step P1 T1 (by omega) (by omega)
      have P1 : Hid (PermIn 0 d0.size d d1) := permIn_trans _ _ _ _ _ HP.out (permIn_mono _ _ _ _ _ _ (Nat.zero_le _) (Nat.le_refl _) (by have := HKK.out; omega) P1)
      clear T1 HS HKK HR HP hg hqn hle hlez
      go_wp2
      -- the passes
      go_loopg [6, 7, 8, 9] d0.size (fun gq vs va vb vm w2 => ∃ (s : Nat) (dk : Array α), vs = .int .i64 s ∧ 20 ≤ s ∧ s ≤ 2 * d0.size + 40 ∧ d0.size - s ≤ gq ∧ Aside (SWK enc k w0 blk off dk w2) ∧ Hid (dk.size = d0.size) ∧ Hid (Runs (ltOf cf) s d0.size dk) ∧ Hid (PermIn 0 d0.size d dk))
      case atStart => exact ⟨20, d1, rfl, Nat.le_refl _, by omega, by omega, S1, HK1, R1, P1⟩
      case round =>
        clear S1 HK1 R1 P1
        obtain ⟨s, dk, rfl, hs20, hsn, hg, HS, HKK, HR, HP⟩ := hrel
        by_cases hlt : s < d0.size
        · have hltz : decide ((s : Int) < (d0.size : Int)) = true := decide_eq_true (by omega)
          go_wp2
          go_loopg [7, 8] (d0.size + 2 * s) (fun gq va vb w3 => ∃ (q a : Nat) (dj : Array α), va = .int .i64 a ∧ vb = .int .i64 (a + 2 * s : Nat) ∧ a ≤ d0.size ∧ d0.size + 2 * s - a ≤ gq ∧ Hid (a = q * (2 * s)) ∧ Aside (SWK enc k w0 blk off dj w3) ∧ Hid (dj.size = d0.size) ∧ Hid (Runs (ltOf cf) (2 * s) a dj) ∧ Hid (Onw (ltOf cf) s a d0.size dj) ∧ Hid (PermIn 0 d0.size d dj))
          case atStart => exact ⟨0, 0, dk, rfl, by go_num, by omega, by omega, (Nat.zero_mul _).symm, HS, HKK, Runs.zero, HR.out.rest, HP⟩
          case round =>
            clear HS HKK HR HP
            obtain ⟨q, a, dj, rfl, rfl, han, hgj, HA, HS, HKK, HR, HT, HP⟩ := hrel
            have hRes : ∀ e d1, a ≤ e → e ≤ d0.size → e ≤ a + 2 * s → dj.size = d0.size → PermIn a e dj d1 → SortedIn (ltOf cf) a e d1 → Runs (ltOf cf) (2 * s) e d1 ∧ Onw (ltOf cf) s e d0.size d1 ∧ PermIn 0 d0.size d d1 := fun e d1 h1 h2 h3 h4 h6 h7 => by
              have hA := HA.out
              have hR := HR.out
              subst hA
              exact ⟨hR.step h6 h7 h1 h3, HT.out.keep h6 h1, permIn_trans _ _ _ _ _ HP.out (permIn_mono _ _ _ _ _ _ (Nat.zero_le _) h2 (by omega) h6)⟩
            have RES : Aside _ := hRes
            clear hRes
            by_cases hle : a + 2 * s ≤ d0.size
            · have hlez : ((a + 2 * s : Nat) : Int) ≤ (d0.size : Int) := by omega
              have hlez' : (a : Int) + 2 * (s : Int) ≤ (d0.size : Int) := by omega
              have hl : SortedIn (ltOf cf) a (a + s) dj := by rw [HA.out]; exact Onw.left (by rw [← HA.out]; exact HT.out) (by rw [← HA.out]; omega)
              have hr : SortedIn (ltOf cf) (a + s) (a + 2 * s) dj := by rw [HA.out]; exact Onw.right (by rw [← HA.out]; exact HT.out) (by rw [← HA.out]; omega) (Nat.le_refl _)
              have HLL : Hid _ := hl
              have HRR : Hid _ := hr
              clear hl hr
              go_wp2_with fail
              refine Calls.mono (SYM.out _ (a : Int) ((a : Int) + (s : Int)) ((a : Int) + 2 * (s : Int)) a (a + s) (a + 2 * s) dj _ (by omega) (by omega) (by omega) (Nat.le_refl _) HS.out HKK.out (by omega) (by omega) (by have := HKK.out; omega) HLL.out HRR.out) ?_
              rintro e w1 ⟨rfl, d1, S1, T1, P1⟩
              have S1 : Aside _ := S1
              have P1' := P1 a (a + 2 * s) (Nat.le_refl _) (Nat.le_refl _) (by have := HKK.out; omega)
              have HK1 : Hid (d1.size = d0.size) := P1'.1.trans HKK.out
              have RS : Hid _ := RES.out (a + 2 * s) d1 (by omega) hle (Nat.le_refl _) HKK.out P1' T1
              clear P1 P1' T1 RES
              go_wp2
              go_roundg (d0.size + 2 * s - (a + 2 * s))
              case measure => omega
              case rel => exact ⟨q + 1, a + 2 * s, d1, by go_num, by go_num, hle, Nat.le_refl _, by (show _ = _); rw [Nat.add_mul, Nat.one_mul, ← HA.out], S1, HK1, RS.out.1, RS.out.2.1, RS.out.2.2⟩
            · have hlez : ¬ ((a + 2 * s : Nat) : Int) ≤ (d0.size : Int) := by omega
              have hlez' : ¬ (a : Int) + 2 * (s : Int) ≤ (d0.size : Int) := by omega
              by_cases hmn : a + s < d0.size
              · have hmnz : (a : Int) + (s : Int) < (d0.size : Int) := by omega
                have hl : SortedIn (ltOf cf) a (a + s) dj := by rw [HA.out]; exact Onw.left (by rw [← HA.out]; exact HT.out) (by rw [← HA.out]; omega)
                have hr : SortedIn (ltOf cf) (a + s) d0.size dj := by rw [HA.out]; exact Onw.right (by rw [← HA.out]; exact HT.out) (Nat.le_refl _) (by rw [← HA.out]; omega)
                have HLL : Hid _ := hl
                have HRR : Hid _ := hr
                clear hl hr
                go_wp2_with fail
                refine Calls.mono (SYM.out _ (a : Int) ((a : Int) + (s : Int)) (d0.size : Int) a (a + s) d0.size dj _ (by omega) (by omega) (by omega) (Nat.le_refl _) HS.out HKK.out (by omega) (by omega) (by have := HKK.out; omega) HLL.out HRR.out) ?_
                rintro e w1 ⟨rfl, d1, S1, T1, P1⟩
                have S1 : Aside _ := S1
                have P1' := P1 a d0.size (Nat.le_refl _) (Nat.le_refl _) (by have := HKK.out; omega)
                have HK1 : Hid (d1.size = d0.size) := P1'.1.trans HKK.out
                have RS : Hid _ := RES.out d0.size d1 han (Nat.le_refl _) (by omega) HKK.out P1' T1
                clear P1 P1' T1 RES
                go_wp2
                go_roundg (d0.size - 2 * s)
                case measure => omega
                case rel => exact ⟨2 * s, d1, by go_num, by omega, by omega, Nat.le_refl _, S1, HK1, RS.out.1, RS.out.2.2⟩
              · have hmnz : ¬ (a : Int) + (s : Int) < (d0.size : Int) := by omega
                have T1 : SortedIn (ltOf cf) a d0.size dj := by rw [HA.out]; exact Onw.last (by rw [← HA.out]; exact HT.out) (by rw [← HA.out]; omega)
                have RS : Hid _ := RES.out d0.size dj han (Nat.le_refl _) (by omega) HKK.out (permIn_refl _ _ _) T1
                clear T1 RES
                go_wp2
                go_roundg (d0.size - 2 * s)
                case measure => omega
                case rel => exact ⟨2 * s, dj, by go_num, by omega, by omega, Nat.le_refl _, HS, HKK, RS.out.1, RS.out.2.2⟩
        · have hltz : decide ((s : Int) < (d0.size : Int)) = false := decide_eq_false (by omega)
          go_wp2
          go_end0
          exact ⟨rfl, dk, HS.out, HP.out, HR.out.all (by omega)⟩
end

section
variable {α : Type} [Inhabited α] {enc : α → List Value}

theorem insOk {w0 : World} {blk off : Nat} {d0 : Array α} (R : RowK enc 7 w0 blk off d0) (hsz : d0.size < 1152921504606846976) (cf : α → α → Int) (hO : SWO (ltOf cf)) (g : Nat) (cb : Array Value) (eg : ∀ args w, (callFunc g args).run Try.prog w = .ok (.enter g args) w)
    (hcmp : CmpLays Try.prog g cb enc 7 cf blk off d0.size w0) (cap : Nat) : InsOk Try.prog enc 7 w0 blk off d0 cf g cb cap := by
  rintro _ _ a b d W rfl rfl hS hs hab hb
  have hC := CmpLays.at hcmp R.hblk hS hs
  rw [← hs] at hC
  have h := AnyQ.insertionSortCmpFunc Try.lIns 7 Try.isAgg58 Try.sizeOf58 enc R.hk R.h1 cf g cb blk off cap a b d W eg hC (hS.holds R.hblk R.hH hs) (hS.lt R.hblk) hab hb (by omega)
  rw [hs] at h
  refine Calls.mono h ?_
  rintro e w' ⟨rfl, n, os, rfl⟩
  have hi := insertionSort_holds (lt := ltOf cf) hO d a b hab hb
  exact ⟨rfl, _, hS.on R.hblk n _ os hi.1.1, hi.1, hi.2⟩

set_option maxHeartbeats 1000000 in
set_option maxRecDepth 1000000 in
/-- slices.SortStableFunc at a row that holds d. -/
theorem sortStable_calls (hk : ∀ x, (enc x).length = 7) (h1 : ∀ x, ∀ v ∈ enc x, v.oneCell' = true) (cf : α → α → Int) (hO : SWO (ltOf cf)) (g : Nat) (cb : Array Value) (eg : ∀ args w, (callFunc g args).run Try.prog w = .ok (.enter g args) w)
    (blk off cap : Nat) (d : Array α) (w : World) (hcmp : CmpLays Try.prog g cb enc 7 cf blk off d.size w) (hH : HoldsK enc 7 w blk off d) (hblk : blk < w.heap.size) (hsz : d.size < 1152921504606846976) :
    Calls Try.prog 16 #[.slice (some ⟨blk, off, none⟩) d.size cap, .func (.func g) #[] cb] w fun e w' => e = .returned (.tuple #[]) ∧
      ∃ d', SWK enc 7 w blk off d' w' ∧ PermIn 0 d.size d d' ∧ SortedIn (ltOf cf) 0 d.size d' := by
  have R : RowK enc 7 w blk off d := ⟨hk, h1, hH, hblk⟩
  have con := stable_calls Try.senv Try.func22 (enters_of Try.func30 (by kernel_rfl) rfl) (enters_of Try.func31 (by kernel_rfl) rfl) hsz cf g cb cap
    (insOk R hsz cf hO g cb eg hcmp cap)
    (symMerge_calls Try.senv Try.func45 Try.func34 Try.func31 R (by omega) cf hO g cb eg hcmp cap) d w (SWK.start hH) rfl
  have HC : Aside _ := con
  clear R con hcmp hH
  go_enter Try.func16, Try.ntmps16
  go_wp2_with fail
  refine Calls.mono HC.out ?_
  rintro e w1 ⟨rfl, d1, S1, P1, T1⟩
  have S1 : Aside _ := S1
  have P1 : Hid _ := P1
  have T1 : Hid _ := T1
  go_wp2
  go_end0
  exact ⟨rfl, d1, S1.out, P1.out, T1.out⟩

set_option maxHeartbeats 1000000 in
set_option maxRecDepth 1000000 in
theorem insNone_calls (a : Option Addr) (cap : Nat) (f : Value) (w : World) :
    Calls Try.prog 30 #[.slice a 0 cap, .int .i64 0, .int .i64 0, f] w fun e w' => e = .returned (.tuple #[]) ∧ w = w' := by
  go_enter Try.func30, Try.ntmps30
  go_wp2
  refine wp_loop_rounds 1 ?_
  rw [rounds_succ]
  go_wp2
  go_end0
  exact ⟨rfl, rfl⟩

set_option maxHeartbeats 1000000 in
set_option maxRecDepth 1000000 in
theorem stableNone_calls (a : Option Addr) (cap : Nat) (f : Value) (w : World) :
    Calls Try.prog 22 #[.slice a 0 cap, .int .i64 0, f] w fun e w' => e = .returned (.tuple #[]) ∧ w = w' := by
  go_enter Try.func22, Try.ntmps22
  go_wp2
  refine wp_loop_rounds 1 ?_
  rw [rounds_succ]
  go_wp2_with (go_at_call 30; refine (insNone_calls _ _ _ _).mono ?_; rintro e w' ⟨rfl, rfl⟩)
  refine wp_loop_rounds 1 ?_
  rw [rounds_succ]
  go_wp2
  go_end0
  exact ⟨rfl, rfl⟩

/-- slices.SortStableFunc at a slice without elements, nil or not. -/
theorem sortStableNone_calls (a : Option Addr) (cap : Nat) (f : Value) (w : World) :
    Calls Try.prog 16 #[.slice a 0 cap, f] w fun e w' => e = .returned (.tuple #[]) ∧ w = w' := by
  go_enter Try.func16, Try.ntmps16
  go_wp2_with (go_at_call 22; refine (stableNone_calls _ _ _ _).mono ?_; rintro e w' ⟨rfl, rfl⟩)
  go_end0
  exact ⟨rfl, rfl⟩
end
end Go.Proofs.Ytgpagjocjcpbhaa
