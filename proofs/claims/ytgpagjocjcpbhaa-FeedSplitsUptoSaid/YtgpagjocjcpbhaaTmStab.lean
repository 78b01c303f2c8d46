/-
  The plain laws behind slices.SortStableFunc: a rotation, an insertion into a sorted row, a symmetric merge. No program in sight.
-/
import Derived.Sort.LotA
namespace Go.Tm.Stab
open Go.Sort
variable {α : Type} [Inhabited α]

/-- d' holds at k what d held at f k. -/
def Idx (d d' : Array α) (f : Nat → Nat) : Prop := d'.size = d.size ∧ ∀ k, k < d.size → d'[k]! = d[f k]!

/-- The rotation of [a, b) that brings [m, b) to the front. -/
def rot (a m b k : Nat) : Nat := if k < a ∨ b ≤ k then k else if k < a + (b - m) then k + (m - a) else k - (b - m)

/-- The exchange of [a, a + n) and [b, b + n). -/
def swx (a b n k : Nat) : Nat := if a ≤ k ∧ k < a + n then k - a + b else if b ≤ k ∧ k < b + n then k - b + a else k

theorem Idx.refl (d : Array α) (f : Nat → Nat) (h : ∀ k, k < d.size → f k = k) : Idx d d f := ⟨rfl, fun k hk => by rw [h k hk]⟩

theorem Idx.trans {d d1 d2 : Array α} {f g h : Nat → Nat} (h1 : Idx d d1 f) (h2 : Idx d1 d2 g) (hg : ∀ k, k < d.size → g k < d.size) (hh : ∀ k, k < d.size → f (g k) = h k) : Idx d d2 h :=
  ⟨h2.1.trans h1.1, fun k hk => by rw [h2.2 k (by rw [h1.1]; exact hk), h1.2 (g k) (hg k hk), hh k hk]⟩

theorem Idx.swp (d : Array α) (i j : Nat) (hi : i < d.size) (hj : j < d.size) : Idx d (swp d i j) (swx i j 1) :=
  ⟨size_swp d i j, fun k hk => by
    rw [swp_get d hi hj k]
    unfold swx
    by_cases a : k = j
    · subst a
      by_cases b : i = k
      · subst b; simp
      · rw [if_pos rfl, if_neg (by omega), if_pos (by omega)]; congr 1; omega
    · rw [if_neg a]
      by_cases b : k = i
      · subst b; rw [if_pos rfl, if_pos (by omega)]; congr 1; omega
      · rw [if_neg b, if_neg (by omega), if_neg (by omega)]⟩

/-- One exchange more of two ranges. -/
theorem Idx.swr {d d1 : Array α} {a b n : Nat} (h : Idx d d1 (swx a b n)) (hab : a + n < b) (hb : b + n < d.size) : Idx d (Sort.swp d1 (a + n) (b + n)) (swx a b (n + 1)) := by
  have hs := h.1
  refine h.trans (Idx.swp d1 (a + n) (b + n) (by omega) (by omega)) ?_ ?_
  · intro k hk; unfold swx; repeat' split
    all_goals omega
  · intro k hk; unfold swx; repeat' split
    all_goals omega

theorem rot_lt {a m b k s : Nat} (ham : a ≤ m) (hmb : m ≤ b) (hb : b ≤ s) (hk : k < s) : rot a m b k < s := by
  unfold rot; repeat' split
  all_goals omega

/-- The left block is longer: its head changes place with the right block. -/
theorem rot_left {d d1 d2 : Array α} {i j m : Nat} (hij : j < i) (_hj : 0 < j) (him : i ≤ m) (hb : m + j ≤ d.size) (h1 : Idx d d1 (swx (m - i) m j)) (h2 : Idx d1 d2 (rot (m - (i - j)) m (m + j))) :
    Idx d d2 (rot (m - i) m (m + j)) :=
  h1.trans h2 (fun k hk => rot_lt (by omega) (by omega) hb hk) fun k hk => by
    unfold swx rot; repeat' split
    all_goals omega

/-- The right block is longer: its tail changes place with the left block. -/
theorem rot_right {d d1 d2 : Array α} {i j m : Nat} (hij : i < j) (_hi : 0 < i) (him : i ≤ m) (hb : m + j ≤ d.size) (h1 : Idx d d1 (swx (m - i) (m + j - i) i)) (h2 : Idx d1 d2 (rot (m - i) m (m + (j - i)))) :
    Idx d d2 (rot (m - i) m (m + j)) :=
  h1.trans h2 (fun k hk => rot_lt (by omega) (by omega) (by omega) hk) fun k hk => by
    unfold swx rot; repeat' split
    all_goals omega

theorem rot_same {d d1 : Array α} {i m : Nat} (him : i ≤ m) (h1 : Idx d d1 (swx (m - i) m i)) : Idx d d1 (rot (m - i) m (m + i)) :=
  ⟨h1.1, fun k hk => by
    rw [h1.2 k hk]; congr 1
    unfold swx rot; repeat' split
    all_goals omega⟩

/-- One step of the way up of d[a]. -/
theorem rot_up {d d1 : Array α} {a k : Nat} (hak : a ≤ k) (hk : k + 1 < d.size) (h : Idx d d1 (rot a (a + 1) (k + 1))) : Idx d (Sort.swp d1 k (k + 1)) (rot a (a + 1) (k + 1 + 1)) := by
  have hs := h.1
  refine h.trans (Idx.swp d1 k (k + 1) (by omega) (by omega)) ?_ ?_
  · intro x hx; unfold swx; repeat' split
    all_goals omega
  · intro x hx; unfold swx rot; repeat' split
    all_goals omega

/-- One step of the way down of d[m]. -/
theorem rot_down {d d1 : Array α} {m k : Nat} (hk : k + 1 ≤ m) (hm : m < d.size) (h : Idx d d1 (rot (k + 1) m (m + 1))) : Idx d (Sort.swp d1 (k + 1) k) (rot k m (m + 1)) := by
  have hs := h.1
  refine h.trans (Idx.swp d1 (k + 1) k (by omega) (by omega)) ?_ ?_
  · intro x hx; unfold swx; repeat' split
    all_goals omega
  · intro x hx; unfold swx rot; repeat' split
    all_goals omega

theorem rot_none {d : Array α} {a m b : Nat} (h : m = a ∨ m = b) : Idx d d (rot a m b) :=
  Idx.refl _ _ fun k _ => by
    unfold rot; repeat' split
    all_goals omega

variable {lt : α → α → Bool}

omit [Inhabited α] in
/-- 'not above': x may stand ahead of y. -/
theorem SWO.le_trans (hS : SWO lt) {x y z : α} (h1 : lt y x = false) (h2 : lt z y = false) : lt z x = false := hS.ntrans z y x h2 h1

omit [Inhabited α] in
theorem SWO.lt_le (hS : SWO lt) {x y : α} (h : lt x y = true) : lt y x = false := hS.asymmA h

/-- The sorted row, an equal index let in. -/
theorem SortedIn.le (hS : SWO lt) {a b : Nat} {d : Array α} (h : SortedIn lt a b d) {i j : Nat} (hi : a ≤ i) (hij : i ≤ j) (hj : j < b) : lt d[j]! d[i]! = false := by
  rcases Nat.eq_or_lt_of_le hij with e | e
  · subst e; exact hS.irrefl _
  · exact h i j hi e hj

/-- d[a] laid into the sorted row [a + 1, b) ahead of place i. -/
theorem insert_up (hS : SWO lt) {d d' : Array α} {a b i : Nat} (hai : a + 1 ≤ i) (hib : i ≤ b) (hb : b ≤ d.size) (h : SortedIn lt (a + 1) b d)
    (h1 : i = a + 1 ∨ lt d[i - 1]! d[a]! = true) (h2 : i = b ∨ lt d[i]! d[a]! = false) (hr : Idx d d' (rot a (a + 1) i)) : SortedIn lt a b d' := by
  have lo : ∀ x, a + 1 ≤ x → x < i → lt d[a]! d[x]! = false := fun x hx hxi => by
    rcases h1 with h1 | h1
    · omega
    · exact SWO.le_trans hS (SortedIn.le hS h hx (by omega) (by omega)) (SWO.lt_le hS h1)
  have hi : ∀ x, i ≤ x → x < b → lt d[x]! d[a]! = false := fun x hx hxb => by
    rcases h2 with h2 | h2
    · omega
    · exact SWO.le_trans hS h2 (SortedIn.le hS h (by omega) hx hxb)
  have v1 : ∀ k, i ≤ k → k < b → d'[k]! = d[k]! := fun k hk hkb => by
    rw [hr.2 k (by omega)]; unfold rot; rw [if_pos (by omega)]
  have v2 : ∀ k, a ≤ k → k + 1 < i → d'[k]! = d[k + 1]! := fun k hk hki => by
    rw [hr.2 k (by omega)]; unfold rot; rw [if_neg (by omega), if_pos (by omega)]; congr 1; omega
  have v3 : d'[i - 1]! = d[a]! := by
    rw [hr.2 (i - 1) (by omega)]; unfold rot; rw [if_neg (by omega), if_neg (by omega)]; congr 1; omega
  intro p q hp hpq hq
  rcases Nat.lt_trichotomy p (i - 1) with hpi | hpi | hpi
  · rw [v2 p hp (by omega)]
    rcases Nat.lt_trichotomy q (i - 1) with hqi | hqi | hqi
    · rw [v2 q (by omega) (by omega)]; exact SortedIn.le hS h (by omega) (by omega) (by omega)
    · subst hqi; rw [v3]; exact lo _ (by omega) (by omega)
    · rw [v1 q (by omega) hq]; exact SortedIn.le hS h (by omega) (by omega) (by omega)
  · subst hpi; rw [v3, v1 q (by omega) hq]; exact hi _ (by omega) (by omega)
  · rw [v1 p (by omega) (by omega), v1 q (by omega) hq]; exact SortedIn.le hS h (by omega) (by omega) (by omega)

/-- d[m] laid into the sorted row [a, m) at place i. -/
theorem insert_down (hS : SWO lt) {d d' : Array α} {a m i : Nat} (hai : a ≤ i) (him : i ≤ m) (hm : m < d.size) (h : SortedIn lt a m d)
    (h1 : i = a ∨ lt d[m]! d[i - 1]! = false) (h2 : i = m ∨ lt d[m]! d[i]! = true) (hr : Idx d d' (rot i m (m + 1))) : SortedIn lt a (m + 1) d' := by
  have lo : ∀ x, a ≤ x → x < i → lt d[m]! d[x]! = false := fun x hx hxi => by
    rcases h1 with h1 | h1
    · omega
    · exact SWO.le_trans hS (SortedIn.le hS h hx (by omega) (by omega)) h1
  have hi : ∀ x, i ≤ x → x < m → lt d[x]! d[m]! = false := fun x hx hxb => by
    rcases h2 with h2 | h2
    · omega
    · exact SWO.le_trans hS (SWO.lt_le hS h2) (SortedIn.le hS h (by omega) hx hxb)
  have v1 : ∀ k, k < i → d'[k]! = d[k]! := fun k hk => by
    rw [hr.2 k (by omega)]; unfold rot; rw [if_pos (by omega)]
  have v2 : d'[i]! = d[m]! := by
    rw [hr.2 i (by omega)]; unfold rot
    rw [if_neg (by omega), if_pos (by omega)]; congr 1; omega
  have v3 : ∀ k, i ≤ k → k < m → d'[k + 1]! = d[k]! := fun k hk hkm => by
    rw [hr.2 (k + 1) (by omega)]; unfold rot; rw [if_neg (by omega), if_neg (by omega)]; congr 1; omega
  intro p q hp hpq hq
  rcases Nat.lt_trichotomy p i with hpi | hpi | hpi
  · rw [v1 p hpi]
    rcases Nat.lt_trichotomy q i with hqi | hqi | hqi
    · rw [v1 q hqi]; exact SortedIn.le hS h (by omega) (by omega) (by omega)
    · subst hqi; rw [v2]; exact lo _ (by omega) (by omega)
    · obtain ⟨u, rfl⟩ : ∃ u, q = u + 1 := ⟨q - 1, by omega⟩
      rw [v3 u (by omega) (by omega)]; exact SortedIn.le hS h (by omega) (by omega) (by omega)
  · subst hpi
    obtain ⟨u, rfl⟩ : ∃ u, q = u + 1 := ⟨q - 1, by omega⟩
    rw [v2, v3 u (by omega) (by omega)]; exact hi _ (by omega) (by omega)
  · obtain ⟨t, rfl⟩ : ∃ t, p = t + 1 := ⟨p - 1, by omega⟩
    obtain ⟨u, rfl⟩ : ∃ u, q = u + 1 := ⟨q - 1, by omega⟩
    rw [v3 t (by omega) (by omega), v3 u (by omega) (by omega)]; exact SortedIn.le hS h (by omega) (by omega) (by omega)

theorem SortedIn.sub {a b a' b' : Nat} {d : Array α} (h : SortedIn lt a b d) (ha : a ≤ a') (hb : b' ≤ b) : SortedIn lt a' b' d := fun i j hi hij hj => h i j (by omega) hij (by omega)

/-- What holds of d at [x, x + n) holds of d' at [y, y + n), if d' holds there what d held there. -/
theorem SortedIn.move {x y n : Nat} {d d' : Array α} (h : SortedIn lt x (x + n) d) (he : ∀ t, t < n → d'[y + t]! = d[x + t]!) : SortedIn lt y (y + n) d' := by
  intro i j hi hij hj
  obtain ⟨p, rfl⟩ : ∃ p, i = y + p := ⟨i - y, by omega⟩
  obtain ⟨q, rfl⟩ : ∃ q, j = y + q := ⟨j - y, by omega⟩
  rw [he p (by omega), he q (by omega)]
  exact h _ _ (by omega) (by omega) (by omega)

/-- THE SYMMETRIC MERGE's MIDDLE STEP: behind the rotation each half is two sorted rows, and nothing in the first half is above anything in the second. -/
structure Halves (lt : α → α → Bool) (a s mid e b : Nat) (d : Array α) : Prop where
  h1 : SortedIn lt a s d
  h2 : SortedIn lt s mid d
  h3 : SortedIn lt mid e d
  h4 : SortedIn lt e b d
  cross : ∀ i j, a ≤ i → i < mid → mid ≤ j → j < b → lt d[j]! d[i]! = false

theorem halves (hS : SWO lt) {d d' : Array α} {a m b s e mid : Nat} (has : a ≤ s) (hsm : s ≤ m) (hme : m ≤ e) (_ : e ≤ b) (hb : b ≤ d.size) (hse : s + e = mid + m)
    (hl : SortedIn lt a m d) (hr : SortedIn lt m b d) (h1 : s = a ∨ e = b ∨ lt d[e]! d[s - 1]! = false) (h2 : s = m ∨ e = m ∨ lt d[e - 1]! d[s]! = true) (hro : Idx d d' (rot s m e)) :
    Halves lt a s mid e b d' := by
  have old : ∀ k, k < s ∨ e ≤ k → k < b → d'[k]! = d[k]! := fun k hk hkb => by
    rw [hro.2 k (by omega)]; unfold rot; rw [if_pos (by omega)]
  have mi : ∀ t, t < e - m → d'[s + t]! = d[m + t]! := fun t ht => by
    rw [hro.2 _ (by omega)]; unfold rot; rw [if_neg (by omega), if_pos (by omega)]; congr 1; omega
  have mi2 : ∀ t, t < m - s → d'[mid + t]! = d[s + t]! := fun t ht => by
    rw [hro.2 _ (by omega)]; unfold rot; rw [if_neg (by omega), if_neg (by omega)]; congr 1; omega
  -- what stood in the left row below s is not above what stood in the right row from e on, and so on
  have c14 : ∀ i j, a ≤ i → i < s → e ≤ j → j < b → lt d[j]! d[i]! = false := fun i j hi his hj hjb => by
    rcases h1 with h1 | h1 | h1
    · omega
    · omega
    · exact SWO.le_trans hS (SWO.le_trans hS (SortedIn.le hS hl hi (by omega : i ≤ s - 1) (by omega)) h1) (SortedIn.le hS hr (by omega) hj hjb)
  have c23 : ∀ i j, m ≤ i → i < e → s ≤ j → j < m → lt d[j]! d[i]! = false := fun i j hi hie hj hjm => by
    rcases h2 with h2 | h2 | h2
    · omega
    · omega
    · exact SWO.le_trans hS (SWO.le_trans hS (SortedIn.le hS hr hi (by omega : i ≤ e - 1) (by omega)) (SWO.lt_le hS h2)) (SortedIn.le hS hl (by omega) hj hjm)
  refine ⟨?_, ?_, ?_, ?_, ?_⟩
  · intro i j hi hij hj; rw [old i (by omega) (by omega), old j (by omega) (by omega)]; exact hl i j hi hij (by omega)
  · have := SortedIn.move (x := m) (y := s) (n := e - m) (d' := d') (SortedIn.sub hr (Nat.le_refl _) (by omega)) mi
    exact SortedIn.sub this (Nat.le_refl _) (by omega)
  · have := SortedIn.move (x := s) (y := mid) (n := m - s) (d' := d') (SortedIn.sub hl (by omega) (by omega)) mi2
    exact SortedIn.sub this (Nat.le_refl _) (by omega)
  · intro i j hi hij hj; rw [old i (by omega) (by omega), old j (by omega) (by omega)]; exact hr i j (by omega) hij hj
  · intro i j hi him hj hjb
    by_cases his : i < s
    · rw [old i (by omega) (by omega)]
      by_cases hje : j < e
      · obtain ⟨t, rfl⟩ : ∃ t, j = mid + t := ⟨j - mid, by omega⟩
        rw [mi2 t (by omega)]; exact SortedIn.le hS hl hi (by omega) (by omega)
      · rw [old j (by omega) hjb]; exact c14 i j hi his (by omega) hjb
    · obtain ⟨u, rfl⟩ : ∃ u, i = s + u := ⟨i - s, by omega⟩
      rw [mi u (by omega)]
      by_cases hje : j < e
      · obtain ⟨t, rfl⟩ : ∃ t, j = mid + t := ⟨j - mid, by omega⟩
        rw [mi2 t (by omega)]; exact c23 _ _ (by omega) (by omega) (by omega) (by omega)
      · rw [old j (by omega) hjb]; exact SortedIn.le hS hr (by omega) (by omega) hjb

/-- What a permutation of [a, b) leaves: a fact on all of [a, b) against one element. -/
theorem PermIn.all {a b : Nat} {d d' : Array α} (h : PermIn a b d d') (hb : b ≤ d.size) (p : α → Prop) (hp : ∀ i, a ≤ i → i < b → p d[i]!) : ∀ i, a ≤ i → i < b → p d'[i]! := permIn_all d d' a b p hb h hp

theorem PermIn.out {a b : Nat} {d d' : Array α} (h : PermIn a b d d') : ∀ k, (k < a ∨ b ≤ k) → d'[k]! = d[k]! := fun k hk => h.2.1 k hk

/-- The first half is merged: the second half is as it was, and nothing crosses. -/
theorem Halves.first {a s mid e b : Nat} {d d' : Array α} (h : Halves lt a s mid e b d) (hme : mid ≤ e) (_ : e ≤ b) (hb : b ≤ d.size) (hP : PermIn a mid d d') (hs : SortedIn lt a mid d') :
    SortedIn lt a mid d' ∧ SortedIn lt mid e d' ∧ SortedIn lt e b d' ∧ ∀ i j, a ≤ i → i < mid → mid ≤ j → j < b → lt d'[j]! d'[i]! = false := by
  have o := PermIn.out hP
  refine ⟨hs, ?_, ?_, ?_⟩
  · intro i j hi hij hj; rw [o i (by omega), o j (by omega)]; exact h.h3 i j hi hij hj
  · intro i j hi hij hj; rw [o i (by omega), o j (by omega)]; exact h.h4 i j hi hij hj
  · intro i j hi him hj hjb
    rw [o j (by omega)]
    exact PermIn.all hP (by omega) (fun x => lt d[j]! x = false) (fun k hk hkm => h.cross k j hk hkm hj hjb) i hi him

/-- .. and the second half. -/
theorem last_half {a mid b : Nat} {d d' : Array α} (hb : b ≤ d.size) (h1 : SortedIn lt a mid d) (hc : ∀ i j, a ≤ i → i < mid → mid ≤ j → j < b → lt d[j]! d[i]! = false)
    (hP : PermIn mid b d d') (hs : SortedIn lt mid b d') : SortedIn lt a b d' := by
  have o := PermIn.out hP
  intro i j hi hij hj
  by_cases him : i < mid
  · rw [o i (by omega)]
    by_cases hjm : j < mid
    · rw [o j (by omega)]; exact h1 i j hi hij hjm
    · exact PermIn.all hP hb (fun x => lt x d[i]! = false) (fun k hk hkb => hc i k hi him hk hkb) j (by omega) hj
  · exact hs i j (by omega) hij hj

/-- Two halves that are sorted and do not cross are sorted. -/
theorem joined {a mid b : Nat} {d : Array α} (h1 : SortedIn lt a mid d) (h2 : SortedIn lt mid b d) (hc : ∀ i j, a ≤ i → i < mid → mid ≤ j → j < b → lt d[j]! d[i]! = false) : SortedIn lt a b d := by
  intro i j hi hij hj
  by_cases him : i < mid
  · by_cases hjm : j < mid
    · exact h1 i j hi hij hjm
    · exact hc i j hi him (by omega) hj
  · exact h2 i j (by omega) hij hj

theorem SortedIn.tiny {a b : Nat} {d : Array α} (h : b ≤ a + 1) : SortedIn lt a b d := fun i j hi hij hj => by omega

/-! ### Rows of blocks of s elements, each sorted -/
/-- Each block of s elements, as far as it lies below e, is sorted. -/
def Runs (lt : α → α → Bool) (s e : Nat) (d : Array α) : Prop := ∀ q, SortedIn lt (q * s) (min (q * s + s) e) d

theorem succ_mul_le {q p s : Nat} (h : q < p) : q * s + s ≤ p * s := by
  have := Nat.mul_le_mul_right s (show q + 1 ≤ p from h)
  rwa [Nat.add_mul, Nat.one_mul] at this

theorem Runs.zero {s : Nat} {d : Array α} : Runs lt s 0 d := fun q i j hi hij hj => by omega

/-- One block more. -/
theorem Runs.step {s q b : Nat} {d d' : Array α} (h : Runs lt s (q * s) d) (hP : PermIn (q * s) b d d') (hS : SortedIn lt (q * s) b d') (_hab : q * s ≤ b) (hb : b ≤ q * s + s) : Runs lt s b d' := by
  intro p
  rcases Nat.lt_trichotomy p q with hp | hp | hp
  · have hle := succ_mul_le (s := s) hp
    intro i j hi hij hj
    have o := PermIn.out hP
    rw [o i (by omega), o j (by omega)]
    exact h p i j hi hij (by omega)
  · subst hp
    exact SortedIn.sub hS (Nat.le_refl _) (by omega)
  · have hle := succ_mul_le (s := s) hp
    exact SortedIn.tiny (by omega)

/-- The blocks of s elements from a on, below n. -/
def Onw (lt : α → α → Bool) (s a n : Nat) (d : Array α) : Prop := ∀ q, a ≤ q * s → SortedIn lt (q * s) (min (q * s + s) n) d

theorem Runs.rest {s n : Nat} {d : Array α} (h : Runs lt s n d) : Onw lt s 0 n d := fun q _ => h q

theorem two_mul_s (q s : Nat) : 2 * q * s = q * (2 * s) := by rw [Nat.mul_comm 2 q, Nat.mul_assoc]
theorem two_mul_s1 (q s : Nat) : (2 * q + 1) * s = q * (2 * s) + s := by rw [Nat.add_mul, Nat.one_mul, two_mul_s]

/-- The two blocks at a = q * 2s. -/
theorem Onw.left {s q n : Nat} {d : Array α} (h : Onw lt s (q * (2 * s)) n d) (hn : q * (2 * s) + s ≤ n) : SortedIn lt (q * (2 * s)) (q * (2 * s) + s) d := by
  have := h (2 * q) (by rw [two_mul_s]; exact Nat.le_refl _)
  rw [two_mul_s] at this
  exact SortedIn.sub this (Nat.le_refl _) (by omega)

theorem Onw.right {s q n e : Nat} {d : Array α} (h : Onw lt s (q * (2 * s)) n d) (he : e ≤ n) (hes : e ≤ q * (2 * s) + 2 * s) : SortedIn lt (q * (2 * s) + s) e d := by
  have := h (2 * q + 1) (by rw [two_mul_s1]; omega)
  rw [two_mul_s1] at this
  exact SortedIn.sub this (Nat.le_refl _) (by omega)

theorem Onw.last {s q n : Nat} {d : Array α} (h : Onw lt s (q * (2 * s)) n d) (hn : n ≤ q * (2 * s) + s) : SortedIn lt (q * (2 * s)) n d := by
  have := h (2 * q) (by rw [two_mul_s]; exact Nat.le_refl _)
  rw [two_mul_s] at this
  exact SortedIn.sub this (Nat.le_refl _) (by omega)

theorem Onw.keep {s a b n : Nat} {d d' : Array α} (h : Onw lt s a n d) (hP : PermIn a b d d') (hab : a ≤ b) : Onw lt s b n d' := by
  intro q hq i j hi hij hj
  have o := PermIn.out hP
  rw [o i (by omega), o j (by omega)]
  exact h q (by omega) i j hi hij hj

theorem Runs.all {s n : Nat} {d : Array α} (h : Runs lt s n d) (hn : n ≤ s) : SortedIn lt 0 n d := by
  have := h 0
  rw [Nat.zero_mul] at this
  exact SortedIn.sub this (Nat.le_refl _) (by omega)

end Go.Tm.Stab
