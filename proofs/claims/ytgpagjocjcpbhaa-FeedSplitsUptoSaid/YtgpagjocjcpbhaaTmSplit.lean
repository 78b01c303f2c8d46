/-
  The plain law of FeedSplits: changes up to a stamp and from it on are the changes in one. No walk.
-/
import Derived.Test.YtgpagjocjcpbhaaTmChg
import Derived.Laws.Bits64b
namespace Go.Tm
open Go.RowKit Go.Sort Go.Lib Go.Shelf Go.Proofs Go.Proofs.Ytgpagjocjcpbhaa

/-- Numbers in their ranges. -/
def Tx.ok (t : Tx) : Prop := 0 ≤ t.client ∧ t.client < 4294967296 ∧ 0 ≤ t.seq ∧ t.seq < 4294967296
def Stp.ok (s : Stp) : Prop := 0 ≤ s.wall ∧ s.wall ≤ 18446744073709551615 ∧ 0 ≤ s.logical ∧ s.logical ≤ 4294967295 ∧ 0 ≤ s.node ∧ s.node ≤ 4294967295
def Stp.top : Stp := ⟨18446744073709551615, 4294967295, 4294967295⟩

theorem mem_takeWhile_of {α : Type} {p : α → Bool} : ∀ {l : List α} {x : α}, x ∈ l.takeWhile p → p x = true
  | [], _, h => by simp at h
  | y :: l, x, h => by
    rw [List.takeWhile_cons] at h
    by_cases hy : p y = true
    · rw [if_pos hy] at h
      rcases List.mem_cons.1 h with rfl | h
      · exact hy
      · exact mem_takeWhile_of h
    · rw [if_neg hy] at h; simp at h

theorem takeWhile_sorted {l : List Ent} (hs : ByAt l) (m : Stp) : l = l.takeWhile (fun e => e.at_.lt m) ++ l.dropWhile (fun e => e.at_.lt m) ∧ ∀ e ∈ l.dropWhile (fun e => e.at_.lt m), e.at_.lt m = false := by
  refine ⟨(List.takeWhile_append_dropWhile).symm, ?_⟩
  induction l with
  | nil => simp
  | cons x l ih =>
    have hs' : ByAt l := (List.pairwise_cons.1 hs).2
    rw [List.dropWhile_cons]
    by_cases hx : x.at_.lt m = true
    · rw [if_pos hx]; exact ih hs'
    · rw [if_neg hx]
      have hx' : x.at_.lt m = false := by simpa using hx
      intro e he
      rcases List.mem_cons.1 he with rfl | he
      · exact hx'
      · have h1 := (List.pairwise_cons.1 hs).1 e he
        rw [Ent.cmp_lt, not_or] at h1
        have h2 : e.at_.lt x.at_ = false := by simpa using h1.1
        exact Stp.le_trans hx' h2

theorem changes_split {evs : List Ev} {l : List Ent} (hs : ByAt l) {lo mid top : Stp} (h1 : mid.lt lo = false) (h2 : top.lt mid = false) : changes evs l lo mid ++ changes evs l mid top = changes evs l lo top := by
  obtain ⟨e1, hd⟩ := takeWhile_sorted hs mid
  unfold changes
  rw [← List.flatMap_append]
  congr 1
  generalize hA : l.takeWhile (fun e => e.at_.lt mid) = A at *
  generalize hD : l.dropWhile (fun e => e.at_.lt mid) = D at *
  have hAm : ∀ e ∈ A, e.at_.lt mid = true := fun e he => by rw [← hA] at he; exact mem_takeWhile_of (p := fun e : Ent => e.at_.lt mid) he
  have hAt : ∀ e ∈ A, e.at_.lt top = true := fun e he => Stp.lt_of_lt_le (hAm e he) h2
  have hT : l.takeWhile (fun e => e.at_.lt top) = A ++ D.takeWhile (fun e => e.at_.lt top) := by
    rw [e1, List.takeWhile_append_of_pos hAt]
  rw [hT, List.filter_append, List.filter_append]
  have f1 : A.filter (fun e => !e.at_.lt mid) = [] := by
    rw [List.filter_eq_nil_iff]; intro e he; rw [hAm e he]; simp
  have f2 : (D.takeWhile fun e => e.at_.lt top).filter (fun e => !e.at_.lt mid) = D.takeWhile fun e => e.at_.lt top := by
    rw [List.filter_eq_self]; intro e he
    rw [hd e ((List.takeWhile_sublist _).subset he)]; rfl
  have f3 : (D.takeWhile fun e => e.at_.lt top).filter (fun e => !e.at_.lt lo) = D.takeWhile fun e => e.at_.lt top := by
    rw [List.filter_eq_self]; intro e he
    have := hd e ((List.takeWhile_sublist _).subset he)
    rw [Stp.le_trans h1 this]; rfl
  rw [f1, f2, f3, List.nil_append]

theorem Tx.num_ok {t : Tx} (h : t.ok) : t.num = t.client * 4294967296 + t.seq := by
  obtain ⟨h1, h2, h3, h4⟩ := h
  obtain ⟨c, hc⟩ : ∃ c : Nat, t.client = c := ⟨t.client.toNat, by omega⟩
  obtain ⟨q, hq⟩ : ∃ q : Nat, t.seq = q := ⟨t.seq.toNat, by omega⟩
  unfold Tx.num
  rw [hc, hq]
  have e1 : IntKind.u64.wrap (c : Int) = (c : Int) := by rw [IntKind.wrap_u64]; omega
  have e2 : IntKind.u64.wrap (q : Int) = (q : Int) := by rw [IntKind.wrap_u64]; omega
  have e3 : IntKind.u64.wrap ((c : Int) * 4294967296) = ((c * 4294967296 : Nat) : Int) := by rw [IntKind.wrap_u64]; omega
  rw [e1, e2, e3, bits_or_u64_nat _ _ (by omega) (by omega)]
  have : c * 4294967296 ||| q = c * 4294967296 + q := by
    have := Nat.shiftLeft_add_eq_or_of_lt (i := 32) (b := q) (by omega) c
    rw [Nat.shiftLeft_eq] at this
    exact this.symm
  rw [this]
  omega

/-- What of an entry the changes depend on. -/
def Ent.key (e : Ent) : Stp × Tx := (e.at_, e.txn)

theorem changes_keys {evs : List Ev} {lo hi : Stp} : ∀ {l l' : List Ent}, l.map Ent.key = l'.map Ent.key → changes evs l lo hi = changes evs l' lo hi
  | [], [], _ => rfl
  | [], _ :: _, h => by simp at h
  | _ :: _, [], h => by simp at h
  | x :: l, y :: l', h => by
    rw [List.map_cons, List.map_cons, List.cons.injEq] at h
    have ih := changes_keys (evs := evs) (lo := lo) (hi := hi) h.2
    have ha : x.at_ = y.at_ := congrArg Prod.fst h.1
    have ht : x.txn = y.txn := congrArg Prod.snd h.1
    have hv : entVers evs x = entVers evs y := by unfold entVers; rw [ha, ht]
    unfold changes at *
    rw [List.takeWhile_cons, List.takeWhile_cons, ha]
    by_cases h1 : y.at_.lt hi = true
    · rw [if_pos h1, if_pos h1, List.filter_cons, List.filter_cons, ha]
      by_cases h2 : (!y.at_.lt lo) = true
      · rw [if_pos h2, if_pos h2, List.flatMap_cons, List.flatMap_cons, hv, ih]
      · rw [if_neg h2, if_neg h2, ih]
    · rw [if_neg h1, if_neg h1]

def keyNot (a b : Stp × Tx) : Prop := ¬ (b.1.lt a.1 = true ∨ (b.1 = a.1 ∧ b.2.num < a.2.num))

theorem keys_eq {cms l l' : List Ent} (hok : ∀ e ∈ cms, e.txn.ok) (hp : l.Perm (comm cms)) (hs : ByAt l) (hp' : l'.Perm (comm cms)) (hs' : ByAt l') : l.map Ent.key = l'.map Ent.key := by
  have hm : ∀ {l : List Ent}, l.Perm (comm cms) → ∀ k ∈ l.map Ent.key, k.2.ok := fun hp k hk => by
    obtain ⟨e, he, rfl⟩ := List.mem_map.1 hk
    have := hp.mem_iff.1 he
    unfold comm at this
    exact hok e (List.mem_filter.1 this).1
  have hpw : ∀ {l : List Ent}, ByAt l → (l.map Ent.key).Pairwise keyNot := fun hs => by
    rw [List.pairwise_map]
    refine hs.imp fun {a b} h => ?_
    rw [Ent.cmp_lt] at h
    exact h
  refine List.Perm.eq_of_pairwise (le := keyNot) ?_ (hpw hs) (hpw hs') ((hp.trans hp'.symm).map _)
  intro a b ha hb h1 h2
  have oa := hm hp a ha
  have ob := hm hp' b hb
  unfold keyNot at h1 h2
  rw [not_or] at h1 h2
  have e1 : a.1 = b.1 := Stp.lt_tri (by simpa using h2.1) (by simpa using h1.1)
  have n1 : ¬ b.2.num < a.2.num := fun h => h1.2 ⟨e1.symm, h⟩
  have n2 : ¬ a.2.num < b.2.num := fun h => h2.2 ⟨e1, h⟩
  rw [Tx.num_ok oa, Tx.num_ok ob] at n1 n2
  obtain ⟨a1, a2⟩ := a
  obtain ⟨b1, b2⟩ := b
  simp only at e1 oa ob n1 n2
  subst e1
  unfold Tx.ok at oa ob
  congr 1
  obtain ⟨ac, aq⟩ := a2
  obtain ⟨bc, bq⟩ := b2
  simp only at oa ob n1 n2
  have : ac = bc := by omega
  have : aq = bq := by omega
  simp [*]

/-- What is told lies between the two stamps. -/
theorem changes_between {evs : List Ev} {l : List Ent} {lo hi : Stp} {v : Ver} (h : v ∈ changes evs l lo hi) : v.at_.lt lo = false ∧ v.at_.lt hi = true := by
  unfold changes at h
  obtain ⟨e, he, hv⟩ := List.mem_flatMap.1 h
  obtain ⟨h1, h2⟩ := List.mem_filter.1 he
  have h3 := mem_takeWhile_of h1
  unfold entVers versOf at hv
  obtain ⟨x, _, rfl⟩ := List.mem_map.1 hv
  exact ⟨by simpa using h2, h3⟩

theorem changes_length (evs : List Ev) (l : List Ent) (lo hi : Stp) : (changes evs l lo hi).length ≤ l.length * evs.length := by
  unfold changes
  refine Nat.le_trans (flatVers_length _ _) (Nat.mul_le_mul_right _ (Nat.le_trans (List.length_filter_le _ _) ?_))
  exact (List.takeWhile_sublist _).length_le

theorem top_max {s : Stp} (h : s.ok) : Stp.top.lt s = false := by
  rw [Stp.lt_false]
  unfold Stp.ok at h
  unfold Stp.top
  simp only
  omega
end Go.Tm
