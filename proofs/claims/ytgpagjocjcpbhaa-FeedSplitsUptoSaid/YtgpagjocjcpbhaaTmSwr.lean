/-
  The walks over slices.swapRangeCmpFunc and slices.rotateCmpFunc at api.Entry: two ranges exchanged; a rotation. Over a program that is a variable, at elements of k cells.
-/
import Derived.Test.YtgpagjocjcpbhaaProg
import Derived.Test.YtgpagjocjcpbhaaTmStab
import Derived.Shelf.SlSortCmp.KitK
import Derived.WalkKit
import Derived.WalkSpells
import Derived.BigRegion
import Derived.Deep.LoopGhost
import Derived.KernelRfl
import Derived.Shelf.RegionOpenPlain
namespace Go.Proofs.Ytgpagjocjcpbhaa
open Go.Shelf Go.RowKit Go.Lib Go.Sort Go.Tm.Stab

/-- What the walks ask of the program's tables. -/
structure SEnv (P : Program) (k : Nat) : Prop where
  mixed : P.follows .mixedOrders = true
  tS : P.underlying 38 = some (.slice 58)
  aS : ∀ w, (isAgg 38).run P w = .ok false w
  zS : ∀ w, (Go.sizeOf 38).run P w = .ok 1 w
  aE : ∀ w, (isAgg 58).run P w = .ok true w
  zE : ∀ w, (Go.sizeOf 58).run P w = .ok k w
  tI : P.underlying 3 = some (.int .i64)
  aI : ∀ w, (isAgg 3).run P w = .ok false w
  zI : ∀ w, (Go.sizeOf 3).run P w = .ok 1 w
  vI : ∀ w, (zeroValue 3).run P w = .ok (.int .i64 0) w
  tU : P.underlying 87 = some (.int .u64)
  aU : ∀ w, (isAgg 87).run P w = .ok false w
  zU : ∀ w, (Go.sizeOf 87).run P w = .ok 1 w
  tB : P.underlying 4 = some .bool
  aB : ∀ w, (isAgg 4).run P w = .ok false w
  zB : ∀ w, (Go.sizeOf 4).run P w = .ok 1 w

theorem Try.senv : SEnv Try.prog 7 where
  mixed := by kernel_rfl
  tS := Try.underlying38
  aS := Try.isAgg38
  zS := Try.sizeOf38
  aE := Try.isAgg58
  zE := Try.sizeOf58
  tI := Try.underlying3
  aI := Try.isAgg3
  zI := Try.sizeOf3
  vI := Try.zeroValue3
  tU := Try.underlying87
  aU := Try.isAgg87
  zU := Try.sizeOf87
  tB := Try.underlying4
  aB := Try.isAgg4
  zB := Try.sizeOf4

variable {P : Program} {k : Nat} {α : Type} [Inhabited α] {enc : α → List Value} {w0 : World} {blk off : Nat} {d0 : Array α}

set_option maxHeartbeats 1000000 in
set_option maxRecDepth 1000000 in
theorem swapRange_calls (E : SEnv P k) (hf : P.funcs[45]? = some Try.f45) (R : RowK enc k w0 blk off d0) (d : Array α) (cap a b n : Nat) (f : Value) (W : World) (hS : SWK enc k w0 blk off d W) (hs : d.size = d0.size) (hsz : d0.size < 4611686018427387904)
    (han : a + n ≤ b) (hbn : b + n ≤ d.size) :
    Calls P 45 #[.slice (some ⟨blk, off, none⟩) d0.size cap, .int .i64 a, .int .i64 b, .int .i64 n, f] W fun e w' => e = .returned (.tuple #[]) ∧
      ∃ d', SWK enc k w0 blk off d' w' ∧ Idx d d' (swx a b n) ∧ ∀ x y, x ≤ a → b + n ≤ y → y ≤ d.size → PermIn x y d d' := by
  have mixed := E.mixed; have tS := E.tS; have aS := E.aS; have zS := E.zS; have aE := E.aE; have zE := E.zE; have tI := E.tI; have aI := E.aI; have zI := E.zI; have tB := E.tB; have aB := E.aB; have zB := E.zB
  have HR : Hid (RowK enc k w0 blk off d0) := R
  have HS : Aside (SWK enc k w0 blk off d W) := hS
  have HD : Hid (d.size = d0.size) := hs
  clear R hS hs
  have hbz : b + n ≤ d0.size := by have := HD.out; omega
  go_enter hf, Try.ntmps45
  go_wp2
  go_loopg [10] n (fun g vi wr => ∃ (i : Nat) (dk : Array α), vi = .int .i64 i ∧ i ≤ n ∧ n - i ≤ g ∧ Aside (SWK enc k w0 blk off dk wr) ∧ Hid (Idx d dk (swx a b i)) ∧ Hid (∀ x y, x ≤ a → b + n ≤ y → y ≤ d.size → PermIn x y d dk))
  case atStart => exact ⟨0, d, rfl, Nat.zero_le _, Nat.le_refl _, HS, Idx.refl _ _ (fun k _ => by unfold swx; rw [if_neg (by omega), if_neg (by omega)]), fun x y _ _ _ => permIn_refl _ _ _⟩
  case round =>
    clear HS
    obtain ⟨i, dk, rfl, hin, hg, HS, HI, HP⟩ := hrel
    by_cases hlt : i < n
    · have hltz : (i : Int) < (n : Int) := by omega
      have hks : dk.size = d0.size := HI.out.1.trans HD.out
      have p1 : (0 : Int) ≤ (a : Int) + (i : Int) := by omega
      have p2 : (0 : Int) ≤ (b : Int) + (i : Int) := by omega
      have b1 : (a : Int) + (i : Int) < (d0.size : Int) := by omega
      have b2 : (b : Int) + (i : Int) < (d0.size : Int) := by omega
      have e1 : ((a : Int) + (i : Int)).toNat = a + i := by omega
      have e2 : ((b : Int) + (i : Int)).toNat = b + i := by omega
      have l1 := HS.out.ld1 HR.out hks P (a + i) (by omega)
      have l2 := HS.out.ld1 HR.out hks P (b + i) (by omega)
      have s1 := HS.out.st1 HR.out hks P (a + i) (by omega) dk[b + i]!
      have s2 := HS.out.st2 HR.out hks P (a + i) (b + i) (by omega) (by omega) dk[b + i]! dk[a + i]!
      have SF : Aside _ := HS.out.swapped HR.out (a + i) (b + i) (by omega) (by omega)
      have n1 : (enc dk[a + i]!).length = k := HR.out.hk _
      have n2 : (enc dk[b + i]!).length = k := HR.out.hk _
      have HK : Hid (dk.size = d0.size) := hks
      clear hks HS
      generalize enc dk[a + i]! = cA at SF l1 s2 n1
      generalize enc dk[b + i]! = cB at SF l2 s1 s2 n2
      go_wp2_with fail
      go_big_region_o
      clear l1 l2 s1 s2
      all_goals go_wp2
      go_roundg (n - (i + 1))
      case measure => omega
      case rel =>
        refine ⟨i + 1, Sort.swp dk (a + i) (b + i), by go_num, by omega, Nat.le_refl _, SF, HI.out.swr (by omega) (by omega), fun x y hx hy hyd => ?_⟩
        exact permIn_trans _ _ _ _ _ (HP.out x y hx hy hyd) (swp_permIn _ _ _ _ _ (by omega) (by omega) (by omega) (by omega) (by rw [HI.out.1]; exact hyd))
    · have hltz : ¬ (i : Int) < (n : Int) := by omega
      have hi : i = n := by omega
      have HE : Hid (i = n) := hi
      clear hi
      go_wp2
      go_end0
      have hi := HE.out
      subst hi
      exact ⟨rfl, dk, HS.out, HI.out, HP.out⟩
set_option maxHeartbeats 2000000 in
set_option maxRecDepth 1000000 in
theorem rotate_calls (E : SEnv P k) (hfs : P.funcs[45]? = some Try.f45) (hf : P.funcs[34]? = some Try.f34)
    (R : RowK enc k w0 blk off d0) (d : Array α) (cap a m b : Nat) (f : Value) (W : World) (hS : SWK enc k w0 blk off d W) (hs : d.size = d0.size) (hsz : d0.size < 4611686018427387904)
    (ham : a < m) (hmb : m < b) (hb : b ≤ d.size) :
    Calls P 34 #[.slice (some ⟨blk, off, none⟩) d0.size cap, .int .i64 a, .int .i64 m, .int .i64 b, f] W fun e w' => e = .returned (.tuple #[]) ∧
      ∃ d', SWK enc k w0 blk off d' w' ∧ Idx d d' (rot a m b) ∧ ∀ x y, x ≤ a → b ≤ y → y ≤ d.size → PermIn x y d d' := by
  have mixed := E.mixed; have tS := E.tS; have aS := E.aS; have zS := E.zS; have aE := E.aE; have zE := E.zE; have tI := E.tI; have aI := E.aI; have zI := E.zI; have tB := E.tB; have aB := E.aB; have zB := E.zB
  have HR : Hid (RowK enc k w0 blk off d0) := R
  have HS : Aside (SWK enc k w0 blk off d W) := hS
  have HD : Hid (d.size = d0.size) := hs
  have EE : Hid (SEnv P k) := E
  have HFS : Hid (P.funcs[45]? = some Try.f45) := hfs
  clear R hS hs E hfs
  have hbz : b ≤ d0.size := by have := HD.out; omega
  have efs : ∀ args w, (callFunc 45 args).run P w = .ok (.enter 45 args) w := enters_of HFS.out (by kernel_rfl) rfl
  go_enter hf, Try.ntmps34
  go_wp2
  go_loopg [10, 11] (b - a) (fun g vi vj wr => ∃ (i j : Nat) (dk : Array α), vi = .int .i64 i ∧ vj = .int .i64 j ∧ 0 < i ∧ 0 < j ∧ i ≤ m - a ∧ j ≤ b - m ∧ i + j ≤ g ∧ Aside (SWK enc k w0 blk off dk wr) ∧ Hid (dk.size = d.size) ∧
      Hid (∀ d', Idx dk d' (rot (m - i) m (m + j)) → Idx d d' (rot a m b)) ∧ Hid (∀ x y, x ≤ a → b ≤ y → y ≤ d.size → PermIn x y d dk))
  case atStart =>
    refine ⟨m - a, b - m, d, by go_num, by go_num, by omega, by omega, Nat.le_refl _, Nat.le_refl _, by omega, HS, rfl, ?_, fun x y _ _ _ => permIn_refl _ _ _⟩
    intro d' h
    rw [show m - (m - a) = a by omega, show m + (b - m) = b by omega] at h
    exact h
  case round =>
    clear HS
    obtain ⟨i, j, dk, rfl, rfl, hi0, hj0, hia, hjb, hg, HS, HK, HI, HP⟩ := hrel
    have con : ∀ (a' b' n' : Nat) (f' : Value), a' + n' ≤ b' → b' + n' ≤ dk.size → Calls P 45 #[.slice (some ⟨blk, off, none⟩) d0.size cap, .int .i64 a', .int .i64 b', .int .i64 n', f'] wr fun e w' => e = .returned (.tuple #[]) ∧
        ∃ d', SWK enc k w0 blk off d' w' ∧ Idx dk d' (swx a' b' n') ∧ ∀ x y, x ≤ a' → b' + n' ≤ y → y ≤ dk.size → PermIn x y dk d' := fun a' b' n' f' h1 h2 =>
      swapRange_calls EE.out HFS.out HR.out dk cap a' b' n' f' wr HS.out (HK.out.trans HD.out) hsz h1 h2
    have HC : Aside _ := con
    clear con
    rcases Nat.lt_trichotomy i j with hij | hij | hij
    · -- the right block is longer
      have q1 : ((i : Int) != (j : Int)) = true := by rw [bne_iff_ne]; omega
      have q2 : decide ((j : Int) < (i : Int)) = false := decide_eq_false (by omega)
      have q3 : ¬ (j : Int) < (i : Int) := by omega
      go_wp2_with fail
      rw [show ((m : Int) - (i : Int)) = ((m - i : Nat) : Int) by omega, show ((m : Int) + (j : Int) - (i : Int)) = ((m + j - i : Nat) : Int) by omega]
      refine (HC.out (m - i) (m + j - i) i _ (by omega) (by have := HK.out; omega)).mono ?_
      rintro e w1 ⟨rfl, d1, S1, I1, P1⟩
      have S1 : Aside _ := S1
      have I1 : Hid _ := I1
      have P1 : Aside _ := P1
      go_wp2
      go_roundg (i + (j - i))
      case measure => omega
      case rel =>
        have hk := HK.out
        have hs1 := I1.out.1
        refine ⟨i, j - i, d1, rfl, by go_num, hi0, by omega, hia, by omega, Nat.le_refl _, S1, hs1.trans hk, ?_, ?_⟩
        · intro d' h
          exact HI.out d' (rot_right hij hi0 (by omega) (by omega) I1.out h)
        · intro x y hx hy hyd
          exact permIn_trans _ _ _ _ _ (HP.out x y hx hy hyd) (P1.out x y (by omega) (by omega) (by omega))
    · -- as long as each other: the end
      subst hij
      have q1 : ((i : Int) != (i : Int)) = false := by simp
      go_wp2_with fail
      rw [show ((m : Int) - (i : Int)) = ((m - i : Nat) : Int) by omega]
      refine (HC.out (m - i) m i _ (by omega) (by have := HK.out; omega)).mono ?_
      rintro e w1 ⟨rfl, d1, S1, I1, P1⟩
      have S1 : Aside _ := S1
      have I1 : Hid _ := I1
      have P1 : Aside _ := P1
      go_wp2
      go_end0
      have hk := HK.out
      refine ⟨rfl, d1, S1.out, HI.out d1 (rot_same (by omega) I1.out), ?_⟩
      intro x y hx hy hyd
      exact permIn_trans _ _ _ _ _ (HP.out x y hx hy hyd) (P1.out x y (by omega) (by omega) (by omega))
    · -- the left block is longer
      have q1 : ((i : Int) != (j : Int)) = true := by rw [bne_iff_ne]; omega
      have q2 : decide ((j : Int) < (i : Int)) = true := decide_eq_true (by omega)
      have q3 : (j : Int) < (i : Int) := by omega
      go_wp2_with fail
      rw [show ((m : Int) - (i : Int)) = ((m - i : Nat) : Int) by omega]
      refine (HC.out (m - i) m j _ (by omega) (by have := HK.out; omega)).mono ?_
      rintro e w1 ⟨rfl, d1, S1, I1, P1⟩
      have S1 : Aside _ := S1
      have I1 : Hid _ := I1
      have P1 : Aside _ := P1
      go_wp2
      go_roundg (i - j + j)
      case measure => omega
      case rel =>
        have hk := HK.out
        have hs1 := I1.out.1
        refine ⟨i - j, j, d1, by go_num, rfl, by omega, hj0, by omega, hjb, Nat.le_refl _, S1, hs1.trans hk, ?_, ?_⟩
        · intro d' h
          exact HI.out d' (rot_left hij hj0 (by omega) (by omega) I1.out h)
        · intro x y hx hy hyd
          exact permIn_trans _ _ _ _ _ (HP.out x y hx hy hyd) (P1.out x y (by omega) (by omega) (by omega))

end Go.Proofs.Ytgpagjocjcpbhaa
