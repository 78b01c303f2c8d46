/-
  Plain words for the data of the store (stamps, transactions, entries, writes, versions, events) and how they lie in cells; worlds that have only grown. No program in sight.
-/
import Derived.WalkKit
import Derived.WalkSpells
import Derived.Sort.Grow
import Derived.Sort.Row
import Derived.Sort.WalkA
namespace Go.Tm
open Go.RowKit Go.Sort

/-! ### A world that has only grown -/
/-- w' is w after some draws, with some blocks laid behind it. -/
def Grw (w w' : World) : Prop := ∃ q os, w' = grow (w.drewN q) os

theorem Grw.refl (w : World) : Grw w w := ⟨0, #[], by rw [grow_empty]; rfl⟩
theorem Grw.trans {a b c : World} (h : Grw a b) (k : Grw b c) : Grw a c := by
  obtain ⟨q, os, rfl⟩ := h
  obtain ⟨q', os', rfl⟩ := k
  exact ⟨q + q', os ++ os', by rw [show (grow (a.drewN q) os).drewN q' = grow ((a.drewN q).drewN q') os from rfl, grow_grow, World.drewN_drewN]⟩
theorem Grw.alloc {a b : World} (h : Grw a b) (o : Obj) : Grw a (b.alloc o) := h.trans ⟨0, #[o], alloc_eq_grow b o⟩
theorem Grw.drewN {a b : World} (h : Grw a b) (n : Nat) : Grw a (b.drewN n) := h.trans ⟨n, #[], by rw [grow_empty]⟩
theorem Grw.drew {a b : World} (h : Grw a b) : Grw a b.drew := h.drewN 1
theorem Grw.grow {a b : World} (h : Grw a b) (os : Array Obj) : Grw a (Sort.grow b os) := h.trans ⟨0, os, rfl⟩
theorem Grw.below {w w' : World} (h : Grw w w') : Below w.heap.size w w' := by
  obtain ⟨q, os, rfl⟩ := h
  exact ⟨rfl, rfl, rfl, by rw [size_grow]; exact Nat.le_add_right _ _, fun k hk => heap_grow_old (w.drewN q) os hk⟩
theorem Grw.size {w w' : World} (h : Grw w w') : w.heap.size ≤ w'.heap.size := h.below.size
theorem Grw.setCell {a b : World} (h : Grw a b) {p : Addr} (hs : p.spot = none) (hp : a.heap.size ≤ p.block) (v : Value) : Grw a (b.setCell p v) := by
  obtain ⟨q, os, rfl⟩ := h
  obtain ⟨blk, o, s⟩ := p
  simp only at hs; subst hs
  exact ⟨q, _, by rw [setCell_eq, mapBlock_grow_new _ _ _ _ (by exact hp)]⟩

/-! ### The data -/
structure Stp where
  wall : Int
  logical : Int
  node : Int
  deriving DecidableEq, Inhabited
structure Tx where
  client : Int
  seq : Int
  deriving DecidableEq, Inhabited
structure Ent where
  txn : Tx
  home : Int
  outcome : Int
  at_ : Stp
  deriving DecidableEq, Inhabited
structure Wr where
  key : ByteArray
  del : Bool
  value : ByteArray
  deriving Inhabited
structure Ver where
  key : ByteArray
  at_ : Stp
  del : Bool
  value : ByteArray
  deriving Inhabited
structure Opn where
  kind : Int
  ro : Bool
  asOf : Bool
  back : Bool
  token : ByteArray
  key : ByteArray
  hi : ByteArray
  value : ByteArray
  limit : Int
  deriving Inhabited
/-- An answer; its pairs are a slice that is carried along unread. -/
structure Ans where
  client : Int
  txn : Tx
  op : Opn
  status : Int
  at_ : Stp
  pairs : Option Addr × Nat × Nat
  token : ByteArray
  deriving Inhabited
structure Ev where
  asked : Int
  answered : Int
  ans : Ans
  deriving Inhabited

def Stp.cells (s : Stp) : List Value := [.int .u64 s.wall, .int .u32 s.logical, .int .u32 s.node]
def Tx.cells (t : Tx) : List Value := [.int .u32 t.client, .int .u32 t.seq]
def Ent.cells (e : Ent) : List Value := [.int .u32 e.txn.client, .int .u32 e.txn.seq, .int .u32 e.home, .int .i64 e.outcome, .int .u64 e.at_.wall, .int .u32 e.at_.logical, .int .u32 e.at_.node]
def Wr.cells (x : Wr) : List Value := [.string x.key, .bool x.del, .string x.value]
def Ver.cells (v : Ver) : List Value := [.string v.key, .int .u64 v.at_.wall, .int .u32 v.at_.logical, .int .u32 v.at_.node, .bool v.del, .string v.value]
def Opn.cells (o : Opn) : List Value := [.int .i64 o.kind, .bool o.ro, .bool o.asOf, .bool o.back, .string o.token, .string o.key, .string o.hi, .string o.value, .int .i64 o.limit]
def Ans.cells (a : Ans) : List Value := [.int .u32 a.client, .int .u32 a.txn.client, .int .u32 a.txn.seq, .int .i64 a.op.kind, .bool a.op.ro, .bool a.op.asOf, .bool a.op.back, .string a.op.token, .string a.op.key, .string a.op.hi, .string a.op.value, .int .i64 a.op.limit,
  .int .i64 a.status, .int .u64 a.at_.wall, .int .u32 a.at_.logical, .int .u32 a.at_.node, .slice a.pairs.1 a.pairs.2.1 a.pairs.2.2, .string a.token]
def Ev.cells (e : Ev) : List Value := .int .i64 e.asked :: .int .i64 e.answered :: e.ans.cells

theorem Ent.len (e : Ent) : e.cells.length = 7 := rfl
theorem Wr.len (x : Wr) : x.cells.length = 3 := rfl
theorem Ver.len (v : Ver) : v.cells.length = 6 := rfl
theorem Ans.len (a : Ans) : a.cells.length = 18 := rfl
theorem Ev.len (e : Ev) : e.cells.length = 20 := rfl
theorem Ent.one (e : Ent) : ∀ v ∈ e.cells, v.oneCell' = true := by intro v hv; simp [Ent.cells] at hv; rcases hv with rfl | rfl | rfl | rfl | rfl | rfl | rfl <;> rfl
theorem Ans.one (x : Ans) : ∀ v ∈ x.cells, v.oneCell' = true := by
  intro v hv
  simp only [Ans.cells, List.mem_cons, List.not_mem_nil, or_false] at hv
  rcases hv with rfl | rfl | rfl | rfl | rfl | rfl | rfl | rfl | rfl | rfl | rfl | rfl | rfl | rfl | rfl | rfl | rfl | rfl <;> rfl
theorem Ev.one (x : Ev) : ∀ v ∈ x.cells, v.oneCell' = true := by
  intro v hv
  rcases List.mem_cons.1 hv with rfl | hv
  · rfl
  rcases List.mem_cons.1 hv with rfl | hv
  · rfl
  exact x.ans.one v hv
theorem Wr.one (x : Wr) : ∀ v ∈ x.cells, v.oneCell' = true := by intro v hv; simp [Wr.cells] at hv; rcases hv with rfl | rfl | rfl <;> rfl
theorem Ver.one (x : Ver) : ∀ v ∈ x.cells, v.oneCell' = true := by intro v hv; simp [Ver.cells] at hv; rcases hv with rfl | rfl | rfl | rfl | rfl | rfl <;> rfl

/-! ### Orders -/
def Stp.lt (a b : Stp) : Bool := if a.wall = b.wall then if a.logical = b.logical then decide (a.node < b.node) else decide (a.logical < b.logical) else decide (a.wall < b.wall)
def Stp.cmp (a b : Stp) : Int := if a = b then 0 else if a.lt b then -1 else 1

theorem Stp.ext' {a b : Stp} (h1 : a.wall = b.wall) (h2 : a.logical = b.logical) (h3 : a.node = b.node) : a = b := by cases a; cases b; simp_all
theorem Stp.lt_iff (a b : Stp) : a.lt b = true ↔ a.wall < b.wall ∨ (a.wall = b.wall ∧ (a.logical < b.logical ∨ (a.logical = b.logical ∧ a.node < b.node))) := by
  unfold Stp.lt
  by_cases h1 : a.wall = b.wall
  · rw [if_pos h1]
    by_cases h2 : a.logical = b.logical
    · rw [if_pos h2]; simp; omega
    · rw [if_neg h2]; simp; omega
  · rw [if_neg h1]; simp; omega
theorem Stp.lt_false (a b : Stp) : a.lt b = false ↔ ¬ (a.wall < b.wall ∨ (a.wall = b.wall ∧ (a.logical < b.logical ∨ (a.logical = b.logical ∧ a.node < b.node)))) := by
  rw [← Stp.lt_iff]; simp
theorem Stp.lt_irrefl (a : Stp) : a.lt a = false := by rw [Stp.lt_false]; omega
theorem Stp.lt_trans {a b c : Stp} (h1 : a.lt b = true) (h2 : b.lt c = true) : a.lt c = true := by rw [Stp.lt_iff] at *; omega
theorem Stp.le_trans {a b c : Stp} (h1 : b.lt a = false) (h2 : c.lt b = false) : c.lt a = false := by rw [Stp.lt_false] at *; omega
theorem Stp.lt_tri {a b : Stp} (h1 : a.lt b = false) (h2 : b.lt a = false) : a = b := by
  rw [Stp.lt_false] at *
  exact Stp.ext' (by omega) (by omega) (by omega)
theorem Stp.lt_le {a b : Stp} (h : a.lt b = true) : b.lt a = false := by rw [Stp.lt_iff] at h; rw [Stp.lt_false]; omega
theorem Stp.lt_of_lt_le {a b c : Stp} (h1 : a.lt b = true) (h2 : c.lt b = false) : a.lt c = true := by rw [Stp.lt_iff] at *; rw [Stp.lt_false] at h2; omega
theorem Stp.lt_of_le_lt {a b c : Stp} (h1 : b.lt a = false) (h2 : b.lt c = true) : a.lt c = true := by rw [Stp.lt_iff] at *; rw [Stp.lt_false] at h1; omega
theorem Stp.cmp_lt {a b : Stp} : a.cmp b < 0 ↔ a.lt b = true := by
  unfold Stp.cmp
  by_cases h : a = b
  · subst h; rw [if_pos rfl]; simp [Stp.lt_irrefl]
  · rw [if_neg h]; cases hl : a.lt b <;> simp
theorem Stp.cmp_zero {a b : Stp} : a.cmp b = 0 ↔ a = b := by
  unfold Stp.cmp
  by_cases h : a = b
  · simp [h]
  · rw [if_neg h]; cases hl : a.lt b <;> simp [h]

/-- A transaction's number: the client above the count. (As the code reckons it; over the numbers that a Txn holds it is the client times 2^32 plus the count.) -/
def Tx.num (t : Tx) : Int := Go.bits .or .u64 (IntKind.u64.wrap (IntKind.u64.wrap t.client * 4294967296)) (IntKind.u64.wrap t.seq)
def Tx.cmp (a b : Tx) : Int := if a.num < b.num then -1 else if b.num < a.num then 1 else 0
def Ent.cmp (a b : Ent) : Int := if a.at_.cmp b.at_ = 0 then a.txn.cmp b.txn else a.at_.cmp b.at_

theorem Tx.cmp_lt {a b : Tx} : a.cmp b < 0 ↔ a.num < b.num := by
  unfold Tx.cmp
  by_cases h : a.num < b.num
  · simp [h]
  · by_cases h' : b.num < a.num <;> simp [h, h']

theorem Ent.cmp_lt {a b : Ent} : a.cmp b < 0 ↔ a.at_.lt b.at_ = true ∨ (a.at_ = b.at_ ∧ a.txn.num < b.txn.num) := by
  unfold Ent.cmp
  by_cases h : a.at_.cmp b.at_ = 0
  · rw [if_pos h, Tx.cmp_lt]
    have := Stp.cmp_zero.1 h
    simp [this, Stp.lt_irrefl]
  · rw [if_neg h, Stp.cmp_lt]
    have : a.at_ ≠ b.at_ := fun e => h (Stp.cmp_zero.2 e)
    simp [this]

end Go.Tm
