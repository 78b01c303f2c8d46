/-
  Maps of the call's own, as lists of keys and values: what a look-up tells, what a store leaves, how a range goes through. No program in sight.
-/
import Derived.WalkKit
import Derived.Maps.RangeRun
import Derived.RangeFuncRecord
import Derived.ChangeMaps4
import Derived.MapKept
namespace Go.Tm
open Go.RowKit Go.ChangeMaps
section
variable {κ ν : Type} [DecidableEq κ] {kenc : κ → Value} {venc : ν → Value} {P : Program} {K E T : TypeId}

/-- Where a key stands among the entries. -/
def pick (k : κ) : List κ → List MapEntry → Nat → Option (Nat × Value)
  | x :: ks, e :: es, i => if k = x then some (i, e.val) else pick k ks es (i + 1)
  | _, _, _ => none

structure KeyLaw (P : Program) (K : TypeId) (kenc : κ → Value) : Prop where
  check : ∀ (em : Bool) (k : κ) (w : World), (Instr.checkKey em 10000 K (kenc k)).run P w = .ok () w
  find : ∀ (k : κ) (ks : List κ) (es : List MapEntry) (w : World), es.map (·.key) = ks.map kenc → (Instr.findKey K (kenc k) es).run P w = .ok (pick k ks es 0) w
  same : ∀ k, Instr.sameBits 10000 (kenc k) (kenc k) = true

/-- A map's block: its keys and values in the order in which they came. -/
def MapIs (w : World) (r : Nat) (kenc : κ → Value) (venc : ν → Value) (m : List (κ × ν)) : Prop :=
  ∃ (es : Array MapEntry) (clock : Nat), w.heap[r]? = some (.map es clock) ∧ es.toList.map (·.key) = (m.map (·.1)).map kenc ∧ es.toList.map (·.val) = (m.map (·.2)).map venc ∧ (es.toList.map (·.born)).Nodup ∧ (∀ e ∈ es.toList, e.born < clock) ∧ (m.map (·.1)).Nodup

/-- What a map holds under a key. -/
def getM (m : List (κ × ν)) (k : κ) : Option ν := match m with
  | [] => none
  | (x, v) :: m => if k = x then some v else getM m k
/-- A store: in place, or behind. -/
def insM (m : List (κ × ν)) (k : κ) (v : ν) : List (κ × ν) := match m with
  | [] => [(k, v)]
  | (x, u) :: m => if k = x then (k, v) :: m else (x, u) :: insM m k v

theorem getM_ins_same (m : List (κ × ν)) (k : κ) (v : ν) : getM (insM m k v) k = some v := by
  induction m with
  | nil => simp [insM, getM]
  | cons p m ih =>
    obtain ⟨x, u⟩ := p
    unfold insM
    by_cases h : k = x
    · rw [if_pos h]; simp [getM]
    · rw [if_neg h]; simp [getM, h, ih]
theorem getM_ins_other (m : List (κ × ν)) (k k' : κ) (v : ν) (h : k' ≠ k) : getM (insM m k v) k' = getM m k' := by
  induction m with
  | nil => simp [insM, getM, h]
  | cons p m ih =>
    obtain ⟨x, u⟩ := p
    unfold insM
    by_cases hx : k = x
    · subst hx; rw [if_pos rfl]; simp [getM, h]
    · rw [if_neg hx]; simp only [getM]; rw [ih]
theorem getM_none {m : List (κ × ν)} {k : κ} : getM m k = none ↔ k ∉ m.map (·.1) := by
  induction m with
  | nil => simp [getM]
  | cons p m ih =>
    obtain ⟨x, u⟩ := p
    simp only [getM]
    by_cases h : k = x
    · simp [h]
    · simp [h, ih]
theorem getM_mem {m : List (κ × ν)} {k : κ} {v : ν} (h : getM m k = some v) : (k, v) ∈ m := by
  induction m with
  | nil => simp [getM] at h
  | cons p m ih =>
    obtain ⟨x, u⟩ := p
    simp only [getM] at h
    by_cases hx : k = x
    · subst hx; simp at h; simp [h]
    · simp [hx] at h; exact List.mem_cons_of_mem _ (ih h)
theorem getM_of_mem {m : List (κ × ν)} (hn : (m.map (·.1)).Nodup) {k : κ} {v : ν} (h : (k, v) ∈ m) : getM m k = some v := by
  induction m with
  | nil => simp at h
  | cons p m ih =>
    obtain ⟨x, u⟩ := p
    rw [List.map_cons, List.nodup_cons] at hn
    simp only [getM]
    rcases List.mem_cons.1 h with e | e
    · cases e; simp
    · have : k ≠ x := fun he => hn.1 (by rw [← he]; exact List.mem_map.2 ⟨(k, v), e, rfl⟩)
      rw [if_neg this]; exact ih hn.2 e
theorem insM_new {m : List (κ × ν)} {k : κ} (v : ν) (h : k ∉ m.map (·.1)) : insM m k v = m ++ [(k, v)] := by
  induction m with
  | nil => rfl
  | cons p m ih =>
    obtain ⟨x, u⟩ := p
    rw [List.map_cons, List.mem_cons, not_or] at h
    unfold insM
    rw [if_neg h.1, ih h.2]; rfl
theorem insM_keys {m : List (κ × ν)} {k : κ} (v : ν) (h : k ∈ m.map (·.1)) : (insM m k v).map (·.1) = m.map (·.1) := by
  induction m with
  | nil => simp at h
  | cons p m ih =>
    obtain ⟨x, u⟩ := p
    unfold insM
    by_cases hx : k = x
    · rw [if_pos hx]; simp [hx]
    · rw [if_neg hx]
      rw [List.map_cons, List.mem_cons] at h
      simp [ih (h.resolve_left hx)]
theorem insM_nodup {m : List (κ × ν)} (k : κ) (v : ν) (h : (m.map (·.1)).Nodup) : ((insM m k v).map (·.1)).Nodup := by
  by_cases hk : k ∈ m.map (·.1)
  · rw [insM_keys v hk]; exact h
  · rw [insM_new v hk, List.map_append, List.nodup_append]
    refine ⟨h, by simp, ?_⟩
    intro a ha b hb e
    simp at hb
    subst hb; subst e; exact hk ha
theorem insM_length (m : List (κ × ν)) (k : κ) (v : ν) : (insM m k v).length ≤ m.length + 1 := by
  induction m with
  | nil => simp [insM]
  | cons p m ih =>
    obtain ⟨x, u⟩ := p
    unfold insM
    by_cases hx : k = x
    · rw [if_pos hx]; simp
    · rw [if_neg hx]; simp; exact ih

theorem pick_none {k : κ} : ∀ (ks : List κ) (es : List MapEntry) (i : Nat), k ∉ ks → pick k ks es i = none
  | [], es, i, _ => by simp [pick]
  | x :: ks, [], i, _ => by simp [pick]
  | x :: ks, e :: es, i, h => by
    rw [List.mem_cons, not_or] at h
    rw [pick, if_neg h.1]; exact pick_none ks es (i + 1) h.2

/-- The key is there: its place, its value. -/
theorem pick_some {k : κ} : ∀ (m : List (κ × ν)) (es : List MapEntry) (i : Nat), es.map (·.val) = (m.map (·.2)).map venc → k ∈ m.map (·.1) →
    ∃ j v, pick k (m.map (·.1)) es i = some (i + j, venc v) ∧ j < m.length ∧ (m.map (·.1))[j]? = some k ∧ getM m k = some v ∧ ∀ v', insM m k v' = m.set j (k, v')
  | [], es, i, _, h => by simp at h
  | (x, u) :: m, [], i, hv, h => by simp at hv
  | (x, u) :: m, e :: es, i, hv, h => by
    simp only [List.map_cons] at hv h ⊢
    rw [List.cons.injEq] at hv
    rw [pick]
    by_cases hx : k = x
    · rw [if_pos hx]
      exact ⟨0, u, by rw [hv.1]; rfl, by simp, by simp [hx], by simp [getM, hx], fun v' => by simp [insM, hx]⟩
    · rw [if_neg hx]
      rw [List.mem_cons] at h
      obtain ⟨j, v, h1, h2, h3, h4, h5⟩ := pick_some m es (i + 1) hv.2 (h.resolve_left hx)
      refine ⟨j + 1, v, by rw [h1]; congr 2; omega, by simp; omega, by simpa using h3, by simp [getM, hx, h4], fun v' => ?_⟩
      simp [insM, hx, h5]

omit [DecidableEq κ] in
theorem MapIs.nodup {w : World} {r : Nat} {m : List (κ × ν)} (h : MapIs w r kenc venc m) : (m.map (·.1)).Nodup := by
  obtain ⟨es, c, _, _, _, _, _, hn⟩ := h; exact hn
omit [DecidableEq κ] in
theorem MapIs.lt {w : World} {r : Nat} {m : List (κ × ν)} (h : MapIs w r kenc venc m) : r < w.heap.size := by
  obtain ⟨es, c, hb, _⟩ := h; exact (Array.getElem?_eq_some_iff.1 hb).1
omit [DecidableEq κ] in
theorem MapIs.of_heap {w w' : World} {r : Nat} {m : List (κ × ν)} (h : MapIs w r kenc venc m) (he : w'.heap[r]? = w.heap[r]?) : MapIs w' r kenc venc m := by
  obtain ⟨es, c, hb, rest⟩ := h; exact ⟨es, c, he.trans hb, rest⟩
omit [DecidableEq κ] in
theorem MapIs.made (w : World) : MapIs (w.alloc (.map #[] 0)) w.heap.size kenc venc ([] : List (κ × ν)) :=
  ⟨#[], 0, World.alloc_heap_new w _, rfl, rfl, by simp, by simp, by simp⟩

/-- m[k], without ok. -/
theorem run_lookup (L : KeyLaw P K kenc) (hT : P.underlying T = some (.map K E)) {z : Value} (hz : ∀ w, (zeroValue E).run P w = .ok z w) {w : World} {r : Nat} {m : List (κ × ν)} (h : MapIs w r kenc venc m) (k : κ) :
    (Instr.lookup T (.map (some r)) (kenc k) false).run P w = .ok (match getM m k with | some v => venc v | none => z) w := by
  obtain ⟨es, c, hb, hk, hv, _⟩ := h
  have hf := L.find k (m.map (·.1)) es.toList w hk
  simp only [Instr.lookup, Sem.run_bind, Sem.run_pure, run_underlying hT, MapKept.run_getObj_map hb, Result.andThen_ok, L.check, hf]
  by_cases hm : k ∈ m.map (·.1)
  · obtain ⟨j, v, h1, _, _, h4, _⟩ := pick_some (venc := venc) m es.toList 0 hv hm
    rw [h1, h4]
    rfl
  · rw [pick_none _ _ _ hm, getM_none.2 hm]
    simp [hz]

/-- m[k], with ok. -/
theorem run_lookup_ok (L : KeyLaw P K kenc) (hT : P.underlying T = some (.map K E)) {z : Value} (hz : ∀ w, (zeroValue E).run P w = .ok z w) {w : World} {r : Nat} {m : List (κ × ν)} (h : MapIs w r kenc venc m) (k : κ) :
    (Instr.lookup T (.map (some r)) (kenc k) true).run P w = .ok (.tuple #[match getM m k with | some v => venc v | none => z, .bool (getM m k).isSome]) w := by
  obtain ⟨es, c, hb, hk, hv, _⟩ := h
  have hf := L.find k (m.map (·.1)) es.toList w hk
  simp only [Instr.lookup, Sem.run_bind, Sem.run_pure, run_underlying hT, MapKept.run_getObj_map hb, Result.andThen_ok, L.check, hf]
  by_cases hm : k ∈ m.map (·.1)
  · obtain ⟨j, v, h1, _, _, h4, _⟩ := pick_some (venc := venc) m es.toList 0 hv hm
    rw [h1, h4]
    rfl
  · rw [pick_none _ _ _ hm, getM_none.2 hm]
    simp [hz]

omit [DecidableEq κ] in
theorem run_setObj_put {w : World} {r : Nat} {es : Array MapEntry} {c : Nat} (o : Obj) (hb : w.heap[r]? = some (.map es c)) : (setObj r o).run P w = .ok () (w.putObj r o) := MapKept.run_setObj_map o hb

/-- m[k] = v. -/
theorem run_update (L : KeyLaw P K kenc) (hT : P.underlying T = some (.map K E)) {w : World} {r : Nat} {m : List (κ × ν)} (h : MapIs w r kenc venc m) (k : κ) (v : ν) :
    ∃ o, (Instr.mapUpdate T (.map (some r)) (kenc k) (venc v)).run P w = .ok () (w.putObj r o) ∧ MapIs (w.putObj r o) r kenc venc (insM m k v) := by
  obtain ⟨es, c, hb, hk, hv, hbn, hbc, hn⟩ := h
  have hlt : r < w.heap.size := (Array.getElem?_eq_some_iff.1 hb).1
  have hf := L.find k (m.map (·.1)) es.toList w hk
  have hlen : es.toList.length = m.length := by have := congrArg List.length hk; simpa using this
  by_cases hm : k ∈ m.map (·.1)
  · obtain ⟨j, u, h1, hj, h3, h4, h5⟩ := pick_some (venc := venc) m es.toList 0 hv hm
    rw [Nat.zero_add] at h1
    have hje : j < es.size := by rw [← Array.length_toList, hlen]; exact hj
    have hkey : (es[j]?.map (·.key)).getD (kenc k) = kenc k := by
      have e1 : (es.toList.map (·.key))[j]? = ((m.map (·.1)).map kenc)[j]? := by rw [hk]
      rw [List.getElem?_map, List.getElem?_map, h3] at e1
      rw [← Array.getElem?_toList, e1]; rfl
    have hst : (Instr.keyThatStays (kenc k) (kenc k)).run P w = .ok (kenc k) w := by unfold Instr.keyThatStays; rw [if_pos (L.same k)]; rfl
    refine ⟨.map (es.modify j fun e => { e with key := kenc k, val := venc v }) c, ?_, ?_⟩
    · simp only [Instr.mapUpdate, Sem.run_bind, run_underlying hT, MapKept.run_getObj_map hb, Result.andThen_ok, L.check, hf, h1, hkey, hst, run_setObj_put _ hb]
    · have htl : (es.modify j fun e => { e with key := kenc k, val := venc v }).toList = es.toList.modify j fun e => { e with key := kenc k, val := venc v } := by
        apply List.ext_getElem?
        intro t
        rw [Array.getElem?_toList, Array.getElem?_modify, List.getElem?_modify]
        simp only [Array.getElem?_toList]
        by_cases ht : j = t <;> simp [ht]
      have hset : ∀ {β : Type} (f : MapEntry → β) (b : β), (∀ e : MapEntry, f { e with key := kenc k, val := venc v } = b) → (es.toList.modify j fun e => { e with key := kenc k, val := venc v }).map f = (es.toList.map f).set j b := by
        intro β f b hfb
        apply List.ext_getElem?
        intro t
        rw [List.getElem?_map, List.getElem?_modify, List.getElem?_set, List.getElem?_map, List.length_map]
        by_cases ht : j = t
        · subst ht
          simp [hfb, hje]
        · simp [ht]
      have hborn : (es.toList.modify j fun e => { e with key := kenc k, val := venc v }).map (·.born) = es.toList.map (·.born) := by
        apply List.ext_getElem?
        intro t
        rw [List.getElem?_map, List.getElem?_modify, List.getElem?_map]
        cases hq : es.toList[t]? with
        | none => simp
        | some e => by_cases ht : j = t <;> simp [ht]
      refine ⟨_, c, World.putObj_heap_same hlt, ?_, ?_, ?_, ?_, insM_nodup k v hn⟩
      · rw [htl, hset (·.key) (kenc k) (fun _ => rfl), h5, hk]
        apply List.ext_getElem?
        intro t
        simp only [List.map_set, List.getElem?_set, List.map_map, List.length_map, List.getElem?_map]
      · rw [htl, hset (·.val) (venc v) (fun _ => rfl), h5, hv]
        simp only [List.map_set, List.map_map]
      · rw [htl, hborn]; exact hbn
      · intro e he
        rw [htl] at he
        have : e.born ∈ (es.toList.modify j fun e => { e with key := kenc k, val := venc v }).map (·.born) := List.mem_map.2 ⟨e, he, rfl⟩
        rw [hborn] at this
        obtain ⟨e', he', hbe⟩ := List.mem_map.1 this
        rw [← hbe]; exact hbc e' he'
  · have h1 := pick_none (m.map (·.1)) es.toList 0 hm
    refine ⟨.map (es.push { key := kenc k, val := venc v, born := c }) (c + 1), ?_, ?_⟩
    · simp only [Instr.mapUpdate, Sem.run_bind, run_underlying hT, MapKept.run_getObj_map hb, Result.andThen_ok, L.check, hf, h1, run_setObj_put _ hb]
    · refine ⟨_, _, World.putObj_heap_same hlt, ?_, ?_, ?_, ?_, insM_nodup k v hn⟩
      · rw [insM_new v hm]; simp [hk]
      · rw [insM_new v hm]; simp [hv]
      · simp only [Array.toList_push, List.map_append, List.map_cons, List.map_nil]
        rw [List.nodup_append]
        refine ⟨hbn, by simp, ?_⟩
        intro a ha b hb' e
        simp at hb'
        subst hb'; subst e
        obtain ⟨e', he', hbe⟩ := List.mem_map.1 ha
        have := hbc e' he'
        omega
      · intro e he
        simp only [Array.toList_push, List.mem_append, List.mem_singleton] at he
        rcases he with he | rfl
        · have := hbc e he; omega
        · exact Nat.lt_succ_self _

/-! ### A range over a map that the loop leaves alone -/
/-- What has not come yet. -/
def leftM (es : Array MapEntry) (seen : Array Nat) (m : List (κ × ν)) : List (κ × ν) := ((es.toList.zip m).filter fun p => !seen.contains p.1.born).map (·.2)

/-- A range over the map in block r is under way, its iterator in block ri: got has come. -/
def Going (w : World) (r ri : Nat) (kenc : κ → Value) (venc : ν → Value) (m got : List (κ × ν)) : Prop :=
  ∃ (es : Array MapEntry) (clock : Nat) (seen : Array Nat), w.heap[r]? = some (.map es clock) ∧ w.heap[ri]? = some (.mapIter (some r) clock seen clock) ∧ es.toList.map (·.key) = (m.map (·.1)).map kenc ∧ es.toList.map (·.val) = (m.map (·.2)).map venc ∧
    (es.toList.map (·.born)).Nodup ∧ (∀ e ∈ es.toList, e.born < clock) ∧ (got ++ leftM es seen m).Perm m

omit [DecidableEq κ] in
theorem Going.of_heap {w w' : World} {r ri : Nat} {m got : List (κ × ν)} (h : Going w r ri kenc venc m got) (h1 : w'.heap[r]? = w.heap[r]?) (h2 : w'.heap[ri]? = w.heap[ri]?) : Going w' r ri kenc venc m got := by
  obtain ⟨es, c, seen, a, b, rest⟩ := h
  exact ⟨es, c, seen, h1.trans a, h2.trans b, rest⟩
omit [DecidableEq κ] in
theorem Going.lt {w : World} {r ri : Nat} {m got : List (κ × ν)} (h : Going w r ri kenc venc m got) : r < w.heap.size ∧ ri < w.heap.size := by
  obtain ⟨es, c, seen, a, b, _⟩ := h
  exact ⟨(Array.getElem?_eq_some_iff.1 a).1, (Array.getElem?_eq_some_iff.1 b).1⟩

theorem zip_map_snd {α β : Type} : ∀ (l : List α) (m : List β), l.length = m.length → (l.zip m).map (·.2) = m
  | [], [], _ => rfl
  | [], _ :: _, h => by simp at h
  | _ :: _, [], h => by simp at h
  | a :: l, b :: m, h => by simp at h; simp [zip_map_snd l m h]
theorem zip_map_fst {α β : Type} : ∀ (l : List α) (m : List β), l.length = m.length → (l.zip m).map (·.1) = l
  | [], [], _ => rfl
  | [], _ :: _, h => by simp at h
  | _ :: _, [], h => by simp at h
  | a :: l, b :: m, h => by simp at h; simp [zip_map_fst l m h]

omit [DecidableEq κ] in
theorem Going.start (hT : P.underlying T = some (.map K E)) {w : World} {r : Nat} {m : List (κ × ν)} (h : MapIs w r kenc venc m) :
    ∃ o, (Instr.range T (.map (some r))).run P w = .ok (.pointer (some ⟨w.heap.size, 0, none⟩)) (w.alloc o) ∧ Going (w.alloc o) r w.heap.size kenc venc m [] := by
  obtain ⟨es, c, hb, hk, hv, hbn, hbc, hn⟩ := h
  refine ⟨_, run_range_map w T K E r es c hT hb, es, c, #[], ?_, World.alloc_heap_new w _, hk, hv, hbn, hbc, ?_⟩
  · rw [heap_alloc_old w _ (Array.getElem?_eq_some_iff.1 hb).1]; exact hb
  · have hlen : es.toList.length = m.length := by have := congrArg List.length hk; simpa using this
    unfold leftM
    have : ((es.toList.zip m).filter fun p => !(#[] : Array Nat).contains p.1.born) = es.toList.zip m := by simp
    rw [this, zip_map_snd _ _ hlen]
    exact List.Perm.refl _

/-- Of a list without repetition (by f) one is taken out. -/
theorem filter_one {α : Type} (f : α → Nat) (seen : Array Nat) (x : α) : ∀ (l : List α), (l.map f).Nodup → x ∈ l → seen.contains (f x) = false →
    (l.filter fun p => !seen.contains (f p)).Perm (x :: l.filter fun p => !(seen.push (f x)).contains (f p))
  | [], _, h, _ => by simp at h
  | y :: l, hn, hx, hs => by
    rw [List.map_cons, List.nodup_cons] at hn
    have hpush : ∀ b, (seen.push (f x)).contains b = (seen.contains b || b == f x) := fun b => contains_push seen (f x) b
    rcases List.mem_cons.1 hx with e | e
    · subst e
      have h2 : (l.filter fun p => !(seen.push (f x)).contains (f p)) = l.filter fun p => !seen.contains (f p) := by
        apply List.filter_congr
        intro p hp
        rw [hpush]
        have : (f p == f x) = false := beq_eq_false_iff_ne.2 (fun e => hn.1 (by rw [← e]; exact List.mem_map.2 ⟨p, hp, rfl⟩))
        simp [this]
      rw [List.filter_cons, if_pos (by rw [hs]; rfl), List.filter_cons, if_neg (by rw [hpush]; simp), h2]
    · have hne : (f y == f x) = false := beq_eq_false_iff_ne.2 (fun he => hn.1 (by rw [he]; exact List.mem_map.2 ⟨x, e, rfl⟩))
      have ih := filter_one f seen x l hn.2 e hs
      rw [List.filter_cons, List.filter_cons]
      by_cases hy : seen.contains (f y) = true
      · rw [if_neg (by rw [hy]; simp), if_neg (by rw [hpush, hy]; simp)]
        exact ih
      · have hy' : seen.contains (f y) = false := by simpa using hy
        rw [if_pos (by rw [hy']; rfl), if_pos (by rw [hpush, hy', hne]; rfl)]
        exact (List.Perm.cons y ih).trans (List.Perm.swap x y _)

omit [DecidableEq κ] in
theorem Going.next {w : World} {r ri : Nat} {m got : List (κ × ν)} (h : Going w r ri kenc venc m got) :
    (got.Perm m ∧ ∀ ty, (Instr.next (.pointer (some ⟨ri, 0, none⟩)) false ty).run P w = .ok (.tuple #[.bool false]) w) ∨
    ∃ (k : κ) (v : ν) (w2 : World), (∀ ty, (Instr.next (.pointer (some ⟨ri, 0, none⟩)) false ty).run P w = .ok (.tuple #[.bool true, kenc k, venc v]) w2) ∧ (Instr.entry (.pointer (some ⟨ri, 0, none⟩))).run P w2 = .ok (.tuple #[kenc k, venc v]) w2 ∧
      Going w2 r ri kenc venc m (got ++ [(k, v)]) ∧ w.grownBy w2 (some ri) ∧ w2.heap.size = w.heap.size ∧ got.length < m.length := by
  obtain ⟨es, c, seen, hb, hr, hk, hv, hbn, hbc, hp⟩ := h
  have hlen : es.toList.length = m.length := by have := congrArg List.length hk; simpa using this
  rcases run_next_at (P := P) w 0 ri r c c seen es c hr hb hbc (Nat.le_refl _) with ⟨h0, hrun⟩ | ⟨e, he, w1, hw1, hrun⟩
  · left
    have hl : leftM es seen m = [] := by
      unfold leftM
      rw [List.map_eq_nil_iff, List.filter_eq_nil_iff]
      intro p hp'
      have hmem : p.1 ∈ es.toList := by
        have := List.mem_map (f := fun p : MapEntry × (κ × ν) => p.1) |>.2 ⟨p, hp', rfl⟩
        rwa [zip_map_fst _ _ hlen] at this
      have hl0 : leftOf es seen = #[] := Array.eq_empty_of_size_eq_zero h0
      unfold leftOf at hl0
      rw [Array.filter_eq_empty_iff] at hl0
      exact hl0 p.1 (by simpa using hmem)
    rw [hl, List.append_nil] at hp
    exact ⟨hp, fun ty => hrun⟩
  · right
    obtain ⟨hem, hes⟩ := mem_left he
    -- its place
    obtain ⟨j, hj, hje⟩ := List.getElem_of_mem hem
    have hjm : j < m.length := by rw [← hlen]; exact hj
    have hkj : e.key = kenc m[j].1 := by
      have e1 : (es.toList.map (·.key))[j]? = ((m.map (·.1)).map kenc)[j]? := by rw [hk]
      simp [hjm] at e1
      have hj' : j < es.size := by simpa using hj
      simp at hje
      rw [Array.getElem?_eq_getElem hj', hje] at e1
      simpa using e1
    have hvj : e.val = venc m[j].2 := by
      have e1 : (es.toList.map (·.val))[j]? = ((m.map (·.2)).map venc)[j]? := by rw [hv]
      simp [hjm] at e1
      have hj' : j < es.size := by simpa using hj
      simp at hje
      rw [Array.getElem?_eq_getElem hj', hje] at e1
      simpa using e1
    have hw1h : w1.heap = w.heap := by rcases hw1 with rfl | rfl <;> rfl
    have hri : ri < w.heap.size := (Array.getElem?_eq_some_iff.1 hr).1
    have hne : r ≠ ri := fun e => by rw [e, hr] at hb; cases hb
    have hb2 : (setBlock w1 ri (.mapIter (some r) c (seen.push e.born) c)).heap[r]? = some (.map es c) := by
      show (w1.heap.setIfInBounds ri _)[r]? = _
      rw [hw1h, Array.getElem?_setIfInBounds_ne (fun e => hne e.symm)]; exact hb
    have hr2 : (setBlock w1 ri (.mapIter (some r) c (seen.push e.born) c)).heap[ri]? = some (.mapIter (some r) c (seen.push e.born) c) := by
      show (w1.heap.setIfInBounds ri _)[ri]? = _
      rw [hw1h]; simp [hri]
    have hin : (e, m[j]) ∈ es.toList.zip m := by
      rw [List.mem_iff_getElem?]
      refine ⟨j, ?_⟩
      rw [List.getElem?_zip_eq_some]
      exact ⟨by rw [List.getElem?_eq_getElem hj, hje], List.getElem?_eq_getElem hjm⟩
    have hzn : ((es.toList.zip m).map (fun p => p.1.born)).Nodup := by
      have : (es.toList.zip m).map (fun p => p.1.born) = ((es.toList.zip m).map (·.1)).map (·.born) := by rw [List.map_map]; rfl
      rw [this, zip_map_fst _ _ hlen]; exact hbn
    have hone := filter_one (fun p : MapEntry × (κ × ν) => p.1.born) seen (e, m[j]) (es.toList.zip m) hzn hin hes
    have hperm : (leftM es seen m).Perm (m[j] :: leftM es (seen.push e.born) m) := by
      have := hone.map (·.2)
      exact this
    have hp2 : (got ++ [m[j]] ++ leftM es (seen.push e.born) m).Perm m := by
      rw [List.append_assoc]
      exact ((List.Perm.append_left got hperm).symm).trans hp
    refine ⟨m[j].1, m[j].2, setBlock w1 ri (.mapIter (some r) c (seen.push e.born) c), fun ty => ?_, ?_, ⟨es, c, _, hb2, hr2, hk, hv, hbn, hbc, hp2⟩, ?_, ?_, ?_⟩
    · rw [← hkj, ← hvj]; exact hrun
    · rw [← hkj, ← hvj]
      exact run_entry_at _ ri r c seen es c e hr2 hb2 hem hbn
    · refine ⟨?_, ?_, ?_, ?_, ?_⟩
      · rcases hw1 with rfl | rfl <;> rfl
      · rcases hw1 with rfl | rfl <;> rfl
      · rcases hw1 with rfl | rfl <;> rfl
      · show w.heap.size ≤ (w1.heap.setIfInBounds ri _).size
        rw [hw1h]; simp
      · intro k hk hkr
        show (w1.heap.setIfInBounds ri _)[k]? = _
        rw [hw1h, Array.getElem?_setIfInBounds_ne (fun e => hkr (by rw [e]))]
    · show (w1.heap.setIfInBounds ri _).size = _
      rw [hw1h]; simp
    · have := hp2.length_eq
      simp at this
      omega
end
end Go.Tm
