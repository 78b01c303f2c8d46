/-
  The plain law of the changes: what a transaction has written is one list; what lies between two stamps. No walk.
-/
import Derived.Test.YtgpagjocjcpbhaaTmWrites
namespace Go.Tm
open Go.RowKit Go.Sort Go.Lib Go.Shelf Go.Proofs Go.Proofs.Ytgpagjocjcpbhaa

def keyLe (a b : Wr) : Bool := !Op.bytesLess b.key.toList a.key.toList
/-- What a transaction has written, by key. -/
def writesOf (evs : List Ev) (t : Tx) : List Wr := ((lastW evs t).map (·.2)).mergeSort keyLe
def versOf (at_ : Stp) (ws : List Wr) : List Ver := ws.map fun x => ⟨x.key, at_, x.del, x.value⟩
def entVers (evs : List Ev) (e : Ent) : List Ver := versOf e.at_ (writesOf evs e.txn)
/-- The changes of a list of commits, in order, from one stamp on and below another. -/
def changes (evs : List Ev) (l : List Ent) (lo hi : Stp) : List Ver := ((l.takeWhile fun e => e.at_.lt hi).filter fun e => !e.at_.lt lo).flatMap (entVers evs)

theorem lastW_fold (evs : List Ev) (t : Tx) : ∀ m : List (ByteArray × Wr), (m.map (·.1)).Nodup → (∀ p ∈ m, p.2.key = p.1) →
    ((evs.foldl (fun m e => if e.ans.isWrite = true ∧ e.ans.txn = t then insM m e.ans.op.key e.ans.op.write else m) m).map (·.1)).Nodup ∧ ∀ p ∈ evs.foldl (fun m e => if e.ans.isWrite = true ∧ e.ans.txn = t then insM m e.ans.op.key e.ans.op.write else m) m, p.2.key = p.1 := by
  induction evs with
  | nil => intro m h1 h2; exact ⟨h1, h2⟩
  | cons e evs ih =>
    intro m h1 h2
    rw [List.foldl_cons]
    by_cases he : e.ans.isWrite = true ∧ e.ans.txn = t
    · rw [if_pos he]
      refine ih _ (insM_nodup _ _ h1) fun p hp => ?_
      rcases insM_values hp with h | rfl
      · exact h2 p h
      · show (Opn.write e.ans.op).key = e.ans.op.key
        unfold Opn.write
        split <;> rfl
    · rw [if_neg he]; exact ih m h1 h2

theorem lastW_keys (evs : List Ev) (t : Tx) : (((lastW evs t).map (·.2)).map (·.key)).Nodup := by
  have h := lastW_fold evs t [] (by simp) (by simp)
  have e : ((lastW evs t).map (·.2)).map (·.key) = (lastW evs t).map (·.1) := by
    rw [List.map_map]
    exact List.map_congr_left fun p hp => h.2 p hp
  rw [e]; exact h.1

theorem keyLe_iff (a b : Wr) : keyLe a b = true ↔ a.key.toList ≤ b.key.toList := by
  unfold keyLe
  rw [bytesLess_eq]
  simp
theorem keyLe_total (a b : Wr) : (keyLe a b || keyLe b a) = true := by
  rw [Bool.or_eq_true, keyLe_iff, keyLe_iff]
  exact List.le_total _ _
theorem keyLe_trans (a b c : Wr) (h1 : keyLe a b = true) (h2 : keyLe b c = true) : keyLe a c = true := by
  rw [keyLe_iff] at *
  exact List.le_trans h1 h2

theorem bytes_ext {a b : ByteArray} (h : a.toList = b.toList) : a = b := by
  rw [ByteArray.toList_eq, ByteArray.toList_eq] at h
  obtain ⟨⟨x⟩⟩ := a
  obtain ⟨⟨y⟩⟩ := b
  simp at h
  rw [h]

theorem eq_of_nodup_key : ∀ {l : List Wr}, (l.map (·.key)).Nodup → ∀ {a b : Wr}, a ∈ l → b ∈ l → a.key = b.key → a = b
  | [], _, a, b, h, _, _ => by simp at h
  | x :: l, hn, a, b, ha, hb, he => by
    rw [List.map_cons, List.nodup_cons] at hn
    rcases List.mem_cons.1 ha with h1 | h1 <;> rcases List.mem_cons.1 hb with h2 | h2
    · rw [h1, h2]
    · exact (hn.1 (List.mem_map.2 ⟨b, h2, by rw [← h1, he]⟩)).elim
    · exact (hn.1 (List.mem_map.2 ⟨a, h1, by rw [← h2, he]⟩)).elim
    · exact eq_of_nodup_key hn.2 h1 h2 he

/-- What audit.Writes hands back is that list. -/
theorem writes_eq {evs : List Ev} {t : Tx} {l : List Wr} (hp : l.Perm ((lastW evs t).map (·.2))) (hs : ByKey l) : l = writesOf evs t := by
  unfold writesOf
  have hk := lastW_keys evs t
  generalize (lastW evs t).map (·.2) = ms at *
  have hp2 : l.Perm (ms.mergeSort keyLe) := hp.trans (List.mergeSort_perm ms keyLe).symm
  refine List.Perm.eq_of_pairwise (le := fun a b => keyLe a b = true) ?_ ?_ (List.pairwise_mergeSort keyLe_trans keyLe_total ms) hp2
  · intro a b ha hb h1 h2
    rw [keyLe_iff] at h1 h2
    exact eq_of_nodup_key hk (hp.mem_iff.1 ha) (hp.mem_iff.1 (hp2.mem_iff.2 hb)) (bytes_ext (List.le_antisymm h1 h2))
  · refine hs.imp fun {a b} h => ?_
    unfold keyLe
    rw [h]; rfl

theorem writesOf_length (evs : List Ev) (t : Tx) : (writesOf evs t).length ≤ evs.length := by
  unfold writesOf
  rw [List.length_mergeSort, List.length_map]
  exact lastW_length evs t

theorem entVers_length (evs : List Ev) (e : Ent) : (entVers evs e).length ≤ evs.length := by
  unfold entVers versOf
  rw [List.length_map]; exact writesOf_length _ _

theorem flatVers_length (evs : List Ev) (l : List Ent) : (l.flatMap (entVers evs)).length ≤ l.length * evs.length := by
  induction l with
  | nil => simp
  | cons x l ih =>
    rw [List.flatMap_cons, List.length_append, List.length_cons, Nat.add_mul, Nat.one_mul]
    have := entVers_length evs x
    omega
end Go.Tm
