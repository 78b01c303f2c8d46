/-
  The laws of this program's map keys: texts; transactions.
-/
import Derived.Test.YtgpagjocjcpbhaaTmLeaf
import Derived.Test.YtgpagjocjcpbhaaTmMap
namespace Go.Proofs.Ytgpagjocjcpbhaa
open Go.RowKit Go.Sort Go.Tm

theorem beq_bytes (a b : ByteArray) : (a == b) = decide (a = b) := by
  rw [beq_toListBytes]
  by_cases h : a = b
  · subst h; simp
  · rw [decide_eq_false h]
    rw [beq_eq_false_iff_ne]
    intro e
    apply h
    rw [ByteArray.toList_eq, ByteArray.toList_eq] at e
    obtain ⟨⟨x⟩⟩ := a
    obtain ⟨⟨y⟩⟩ := b
    simp at e
    rw [e]

theorem findNow_string (k : ByteArray) : ∀ (ks : List ByteArray) (es : List MapEntry) (i : Nat), es.map (·.key) = ks.map Value.string → Instr.findNow .string (.string k) es i = some (pick k ks es i)
  | [], [], i, _ => by simp [Instr.findNow, pick]
  | [], e :: es, i, h => by simp at h
  | x :: ks, [], i, h => by simp at h
  | x :: ks, e :: es, i, h => by
    rw [List.map_cons, List.map_cons, List.cons.injEq] at h
    rw [Instr.findNow, h.1]
    show (match Instr.sameNow .string (.string k) (.string x) with | some true => some (some (i, e.val)) | some false => Instr.findNow .string (.string k) es (i + 1) | none => none) = _
    rw [show Instr.sameNow .string (.string k) (.string x) = some (k == x) from rfl, beq_bytes, pick]
    by_cases hx : k = x
    · simp [hx]
    · simp [hx, findNow_string k ks es (i + 1) h.2]

theorem string_law {P : Program} {K : TypeId} (hK : P.underlying K = some .string) : KeyLaw P K Value.string where
  check em k w := MapKept.run_checkKey hK (by trivial) em 9999
  find k ks es w h := MapKept.run_findKey hK (findNow_string k ks es 0 h)
  same k := by simp [Instr.sameBits, beq_bytes]

theorem tv_inj {a b : Tx} : decide (a = b) = (a.client == b.client && a.seq == b.seq) := by
  by_cases h : a = b
  · subst h; simp
  · rw [decide_eq_false h]
    cases h1 : a.client == b.client <;> cases h2 : a.seq == b.seq <;> simp_all
    exact h (by cases a; cases b; simp_all)

theorem eq_txn (a b : Tx) (w : World) : (Op.equal 55 (tv a) (tv b)).run Try.prog w = .ok (decide (a = b)) w := by
  unfold Op.equal Op.maxDepth
  rw [tv_inj]
  go_simp
  cases h1 : a.client == b.client <;> cases h2 : a.seq == b.seq <;> simp_all

theorem findAsking_txn (k : Tx) (w : World) : ∀ (ks : List Tx) (es : List MapEntry) (i : Nat), es.map (·.key) = ks.map tv → (Instr.findAsking 55 (tv k) es i).run Try.prog w = .ok (pick k ks es i) w
  | [], [], i, _ => by simp [Instr.findAsking, pick]
  | [], e :: es, i, h => by simp at h
  | x :: ks, [], i, h => by simp at h
  | x :: ks, e :: es, i, h => by
    rw [List.map_cons, List.map_cons, List.cons.injEq] at h
    simp only [Instr.findAsking, h.1, Sem.run_bind, eq_txn, Result.andThen_ok, pick]
    by_cases hx : k = x
    · simp [hx]
    · simp only [hx, decide_false, Bool.false_eq_true, if_false]
      exact findAsking_txn k w ks es (i + 1) h.2

theorem check_u32 (em : Bool) (n : Nat) (a : Int) (w : World) : (Instr.checkKey em (n + 1) 28 (.int .u32 a)).run Try.prog w = .ok () w :=
  MapKept.run_checkKey (d := .int .u32) Try.underlying28 (by trivial) em n

theorem txn_law : KeyLaw Try.prog 55 tv where
  check em k w := by
    rw [show (10000 : Nat) = 9998 + 1 + 1 from rfl, Instr.checkKey]
    have h1 := check_u32 em 9998 k.client
    have h2 := check_u32 em 9998 k.seq
    generalize 9998 + 1 = n at h1 h2 ⊢
    have e1 : ∀ w, (part 28 #[.int .u32 k.client, .int .u32 k.seq] 0).run Try.prog w = .ok (.int .u32 k.client) w := fun w => by go_simp
    have e2 : ∀ w, (part 28 #[.int .u32 k.client, .int .u32 k.seq] 1).run Try.prog w = .ok (.int .u32 k.seq) w := fun w => by go_simp
    rw [Sem.run_bind, run_underlying Try.underlying55]
    simp only [Result.andThen_ok]
    simp [h1, h2, e1, e2]
  find k ks es w h := by
    unfold Instr.findKey
    rw [Sem.run_bind, run_underlying Try.underlying55]
    simp only [Result.andThen_ok]
    cases es with
    | nil =>
      have : ks = [] := by simpa using h.symm
      subst this
      simp [Instr.findNow, pick]
    | cons e es =>
      have hn : ∀ fs, Instr.findNow (.struct fs) (tv k) (e :: es) 0 = none := fun fs => by simp [Instr.findNow, Instr.sameNow]
      rw [hn]
      exact findAsking_txn k w ks (e :: es) 0 h
  same k := by simp [Instr.sameBits]
end Go.Proofs.Ytgpagjocjcpbhaa
