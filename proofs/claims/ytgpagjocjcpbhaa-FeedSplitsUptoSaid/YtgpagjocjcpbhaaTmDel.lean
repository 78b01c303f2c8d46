/-
  The walk over slices.DeleteFunc at api.Entry: what is not struck stands at the front, in its order. Over a program that is a variable, at elements of k cells.
-/
import Derived.Test.YtgpagjocjcpbhaaTmStable
import Derived.Test.YtgpagjocjcpbhaaTmBase
import Derived.Lib.SlKept
import Derived.Lib.SliceRun
namespace Go.Proofs.Ytgpagjocjcpbhaa
open Go.Shelf Go.RowKit Go.Lib Go.Sort Go.Tm.Stab Go.Tm
section
variable {P : Program} {k : Nat} {α : Type} [Inhabited α] {enc : α → List Value} {w0 W W' : World} {blk off : Nat} {d0 d : Array α}

theorem SWK.grw (h : SWK enc k w0 blk off d W) (g : Grw W W') : SWK enc k w0 blk off d W' := by
  obtain ⟨q, os, rfl⟩ := g
  obtain ⟨m, os0, rfl⟩ := h
  exact ⟨_, _, sortWorldK_grown_c enc k w0 blk off m q d os0 os⟩

theorem setMany_put (enc : α → List Value) (k : Nat) (hk : ∀ x, (enc x).length = k) (d : Array α) (i : Nat) (x : α) (hi : i < d.size) : setMany (flatK enc k d) (i * k) (enc x) = flatK enc k (d.setIfInBounds i x) := by
  refine ext_get! (by simp) fun t ht => ?_
  have ht' : t < d.size * k := by simpa using ht
  have k0 : 0 < k := by rcases Nat.eq_zero_or_pos k with h | h; · subst h; simp at ht'
                        · exact h
  have hq : t / k < d.size := Nat.div_lt_of_lt_mul (by rw [Nat.mul_comm]; exact ht')
  rw [get_setMany _ _ _ t (by simpa using ht'), get_flatK _ _ _ t ht', get_flatK _ _ _ t (by simpa using ht'), hk]
  by_cases a : t / k = i
  · have hm : t - i * k = t % k := by subst a; rw [Nat.mod_eq_sub_div_mul]
    rw [if_pos ((blk_iff k i t k0).2 a), hm]
    congr 1
    subst a
    rw [getElem!_pos (d.setIfInBounds (t / k) x) (t / k) (by simpa using hq)]
    simp
  · rw [if_neg (fun h => a ((blk_iff k i t k0).1 h))]
    congr 1
    congr 1
    rw [getElem!_pos d (t / k) hq, getElem!_pos (d.setIfInBounds i x) (t / k) (by simpa using hq), Array.getElem_setIfInBounds]
    rw [if_neg (fun e => a e.symm)]

theorem SWK.put (h : SWK enc k w0 blk off d W) (hk : ∀ x, (enc x).length = k) (hblk : blk < w0.heap.size) (i : Nat) (x : α) (hi : i < d.size) : SWK enc k w0 blk off (d.setIfInBounds i x) (W.setCells blk (off + i * k) (enc x)) := by
  obtain ⟨n, os, rfl⟩ := h
  refine ⟨n, os, ?_⟩
  unfold sortWorldK putRowK
  have hle : i * k + (enc x).length ≤ (flatK enc k d).size := by
    rw [hk, size_flatK]
    have := Nat.mul_le_mul_right k (show i + 1 ≤ d.size from hi); rwa [Nat.add_mul, Nat.one_mul] at this
  rw [← putRow_grow id (Sort.ahead w0 n) os blk off _ hblk, setCells_putRow _ _ _ _ _ _ hle, setMany_put enc k hk d i x hi, putRow_grow id (Sort.ahead w0 n) os blk off _ hblk]

/-- A run of elements laid from i on. -/
def puts (d : Array α) : Nat → List α → Array α
  | _, [] => d
  | i, x :: xs => puts (d.setIfInBounds i x) (i + 1) xs
omit [Inhabited α] in
theorem puts_size : ∀ (xs : List α) (i : Nat) (d : Array α), (puts d i xs).size = d.size
  | [], _, _ => rfl
  | x :: xs, i, d => by rw [puts, puts_size xs]; simp
theorem puts_front : ∀ (xs : List α) (i : Nat) (d : Array α) (j : Nat), j < i → (puts d i xs)[j]! = d[j]!
  | [], _, _, _, _ => rfl
  | x :: xs, i, d, j, h => by
    rw [puts, puts_front xs (i + 1) _ j (by omega)]
    by_cases hj : j < d.size
    · rw [getElem!_pos d j hj, getElem!_pos (d.setIfInBounds i x) j (by simpa using hj), Array.getElem_setIfInBounds, if_neg (by omega)]
    · rw [getElem!_neg d j hj, getElem!_neg (d.setIfInBounds i x) j (by simpa using hj)]

theorem setCells_append (b : Nat) : ∀ (xs ys : List Value) (o : Nat) (w : World), w.setCells b o (xs ++ ys) = (w.setCells b o xs).setCells b (o + xs.length) ys
  | [], ys, o, w => rfl
  | x :: xs, ys, o, w => by
    rw [List.cons_append, World.setCells, World.setCells, setCells_append b xs ys]
    congr 1
    simp; omega

theorem SWK.puts (hk : ∀ x, (enc x).length = k) (hblk : blk < w0.heap.size) : ∀ (xs : List α) (i : Nat) (d : Array α) (W : World), SWK enc k w0 blk off d W → i + xs.length ≤ d.size → SWK enc k w0 blk off (puts d i xs) (W.setCells blk (off + i * k) (xs.flatMap enc))
  | [], i, d, W, h, _ => h
  | x :: xs, i, d, W, h, hi => by
    rw [List.flatMap_cons, setCells_append, hk, show off + i * k + k = off + (i + 1) * k by rw [Nat.add_mul, Nat.one_mul, Nat.add_assoc]]
    exact SWK.puts hk hblk xs (i + 1) _ _ (SWK.put h hk hblk i x (by simp at hi; omega)) (by simp at hi ⊢; omega)

/-- clear(s[i:]) at elements of k cells. -/
theorem run_clear_cells (w : World) (t e ty : TypeId) (z : Array Value) (ht : P.underlying t = some (.slice e)) (hv : ∀ w, (zeroValue e).run P w = .ok (.agg z) w) (h1 : ∀ v ∈ z.toList, v.oneCell' = true) (b o n c : Nat) (hn : 0 < n)
    (hc : ∀ j, j < n * z.size → (w.cell? ⟨b, o + j, none⟩).isSome = true) (hf : ∀ j, j < n * z.size → w.frozen? ⟨b, o + j, none⟩ = false) :
    (Builtin.clear_ #[t] ty #[.slice (some ⟨b, o, none⟩) n c]).run P w = .ok (.tuple #[]) (w.setCells b o (List.replicate n z.toList).flatten) := by
  have hzc : (Builtin.zeroCells z n).toList = (List.replicate n z.toList).flatten := by
    apply List.ext_getElem?
    intro j
    simp only [Builtin.zeroCells]
    by_cases hj : j < n * z.size
    · have z0 : 0 < z.size := by rcases Nat.eq_zero_or_pos z.size with h | h; · rw [h] at hj; simp at hj
                                 · exact h
      have hm : j % z.size < z.size := Nat.mod_lt _ z0
      have hr : ∀ (n j : Nat), j < n * z.size → ((List.replicate n z.toList).flatten)[j]? = some z[j % z.size]! := by
        intro n
        induction n with
        | zero => intro j h; simp at h
        | succ n ih =>
          intro j h
          rw [List.replicate_succ, List.flatten_cons]
          by_cases hjz : j < z.size
          · rw [List.getElem?_append_left (by simpa using hjz), Nat.mod_eq_of_lt hjz]
            rw [getElem!_pos z j hjz]
            simp [hjz]
          · rw [List.getElem?_append_right (by simpa using Nat.le_of_not_lt hjz)]
            rw [Array.length_toList, ih (j - z.size) (by rw [Nat.add_mul, Nat.one_mul] at h; omega)]
            congr 2
            exact (Nat.mod_eq_sub_mod (Nat.le_of_not_lt hjz)).symm
      rw [hr n j hj]
      simp [hj]
    · have : ((List.replicate n z.toList).flatten).length = n * z.size := by simp
      rw [List.getElem?_eq_none (l := (List.replicate n z.toList).flatten) (by rw [this]; omega), List.getElem?_eq_none (by simp; omega)]
  have hlen : ((List.replicate n z.toList).flatten).length = n * z.size := by simp
  have hst := run_storeCells_cells (P := P) b o (List.replicate n z.toList).flatten 0 w (by rw [hlen]; simpa using hc) (by rw [hlen]; simpa using hf) (by intro v hv'; rw [List.mem_flatten] at hv'; obtain ⟨l, hl, hvl⟩ := hv'; rw [List.eq_of_mem_replicate hl] at hvl; exact h1 v hvl)
  simp only [Nat.add_zero] at hst
  obtain ⟨m, rfl⟩ : ∃ m, n = m + 1 := ⟨n - 1, by omega⟩
  simp [Builtin.clear_, run_underlying ht, hv, Value.cells, hzc, hst]

/-- What the walk over DeleteFunc asks besides. -/
structure DEnv (P : Program) (zr : List Value) : Prop where
  tF : P.underlying 73 = some (.func #[58] #[4] false)
  aF : ∀ w, (isAgg 73).run P w = .ok false w
  zF : ∀ w, (Go.sizeOf 73).run P w = .ok 1 w
  vE : ∀ w, (zeroValue 58).run P w = .ok (.agg zr.toArray) w

theorem load_new (P : Program) (w : World) (c : List Value) (T : TypeId) (k : Nat) (hk : c.length = k) : Sem.run P (loadCellsFrom ⟨w.heap.size, 0, none⟩ 0 k #[]) (w.alloc (.cells c.toArray T)) = .ok c.toArray (w.alloc (.cells c.toArray T)) :=
  run_loadCellsFrom_list P _ _ c k hk (fun i v hi => by
    rw [Addr.add_lit]
    simp only [Nat.zero_add]
    rw [World.cell?_alloc_new]
    simpa using hi)

theorem setCells_new (W : World) (T : TypeId) : ∀ (vs : List Value) (s : Nat) (z : Array Value), (W.alloc (.cells z T)).setCells W.heap.size s vs = W.alloc (.cells (setMany z s vs) T)
  | [], _, _ => rfl
  | v :: r, s, z => by
    rw [World.setCells, setMany]
    have : (W.alloc (.cells z T)).setCell ⟨W.heap.size, s, none⟩ v = W.alloc (.cells (z.setIfInBounds s v) T) := by simp [go_sem]
    rw [this, setCells_new W T r]

theorem setMany_all (z : Array Value) (c : List Value) (h : z.size = c.length) : setMany z 0 c = c.toArray := by
  refine ext_get! (by simp [h]) fun t ht => ?_
  have ht' : t < z.size := by simpa using ht
  rw [get_setMany _ _ _ t ht', if_pos (by omega)]
  simp

/-- A value of k cells laid into a block that has just been made for it. -/
theorem store_new (P : Program) (W : World) (T : TypeId) (z : Array Value) (c : List Value) (h : z.size = c.length) (h1 : ∀ v ∈ c, v.oneCell' = true) :
    Sem.run P (storeCells ⟨W.heap.size, 0, none⟩ c 0) (W.alloc (.cells z T)) = .ok () (W.alloc (.cells c.toArray T)) := by
  have hst := run_storeCells_cells (P := P) W.heap.size 0 c 0 (W.alloc (.cells z T)) (by intro j hj; simp [World.cell?_alloc_new, h, hj]) (by intro j hj; simp) h1
  simp only [Nat.add_zero] at hst
  rw [hst, setCells_new, setMany_all z c h]

def IdxPost (p : α → Bool) (d : Array α) (w0 : World) (e : Ending) (w' : World) : Prop :=
  (∃ j : Nat, e = .returned (.int .i64 j) ∧ j < d.size ∧ p d[j]! = true ∧ (∀ i, i < j → p d[i]! = false) ∧ Grw w0 w') ∨ (e = .returned (.int .i64 (-1)) ∧ (∀ i, i < d.size → p d[i]! = false) ∧ Grw w0 w')

theorem HoldsK.grw (h : HoldsK enc k w0 blk off d) (hblk : blk < w0.heap.size) (g : Grw w0 W) : HoldsK enc k W blk off d := by
  obtain ⟨q, os, rfl⟩ := g
  exact holdsK_grow enc k (w0.drewN q) os blk off d hblk (holdsK_ahead enc k w0 q blk off d h)

set_option maxHeartbeats 2000000 in
set_option maxRecDepth 1000000 in
/-- slices.IndexFunc: the first place at which p holds, or -1; the world has only grown. -/
theorem indexFunc_calls (E : SEnv P k) {zr : List Value} (D : DEnv P zr) (hf : P.funcs[21]? = some Try.f21) (p : α → Bool) (g : Nat) (lb : Array Value) (eg : ∀ args w, (callFunc g args).run P w = .ok (.enter g args) w)
    (hp : ∀ (x : α) (w : World), Calls P g (#[.agg (enc x).toArray] ++ lb) w fun e w' => e = .returned (.bool (p x)) ∧ Grw w w')
    (hk : ∀ x, (enc x).length = k) (hH : HoldsK enc k w0 blk off d) (hblk : blk < w0.heap.size) (hsz : d.size < 4611686018427387904) (cap : Nat) :
    Calls P 21 #[.slice (some ⟨blk, off, none⟩) d.size cap, .func (.func g) #[] lb] w0 (IdxPost p d w0) := by
  have mixed := E.mixed; have tS := E.tS; have aS := E.aS; have zS := E.zS; have aE := E.aE; have zE := E.zE; have tI := E.tI; have aI := E.aI; have zI := E.zI; have tB := E.tB; have aB := E.aB; have zB := E.zB
  have tF := D.tF; have aF := D.aF; have zF := D.zF
  have HP : Aside _ := hp
  have HH : Aside _ := hH
  have HK : Hid _ := hk
  clear hp hH hk E D
  go_enter hf, Try.ntmps21
  go_wp2
  go_loopg [8] d.size (fun gq vi wr => ∃ i : Nat, vi = .int .i64 i ∧ i ≤ d.size ∧ d.size - i ≤ gq ∧ Aside (Grw w0 wr) ∧ Hid (∀ j, j < i → p d[j]! = false))
  case atStart => exact ⟨0, rfl, Nat.zero_le _, Nat.le_refl _, Grw.refl _, fun j hj => by omega⟩
  case round =>
    obtain ⟨i, rfl, hid, hg, HG, HN⟩ := hrel
    by_cases hlt : i < d.size
    · have hltz : (i : Int) < (d.size : Int) := by omega
      have hld : Sem.run P (loadCellsFrom ⟨blk, off + i * k, none⟩ 0 k #[]) wr = .ok (enc d[i]!).toArray wr := run_loadCellsFrom_list P _ _ _ k (HK.out _) (HoldsK.cells (HoldsK.grw HH.out hblk HG.out) HK.out hlt)
      have hc := HP.out d[i]! wr
      generalize enc d[i]! = c at hld hc
      cases hb : p d[i]! with
      | true =>
        rw [hb] at hc
        have HB : Hid _ := hb
        clear hb
        go_wp2_with fail
        refine Calls.mono hc ?_
        clear hc
        rintro e w1 ⟨rfl, hg1⟩
        have HG1 : Aside _ := hg1
        clear hg1
        go_wp2
        go_ret
        exact Or.inl ⟨i, rfl, hlt, HB.out, HN.out, HG.out.trans HG1.out⟩
      | false =>
        rw [hb] at hc
        have HB : Hid _ := hb
        clear hb
        go_wp2_with fail
        refine Calls.mono hc ?_
        clear hc
        rintro e w1 ⟨rfl, hg1⟩
        have HG1 : Aside _ := hg1
        clear hg1
        go_wp2
        go_roundg (d.size - (i + 1))
        case measure => omega
        case rel => exact ⟨i + 1, by go_num, by omega, Nat.le_refl _, HG.out.trans HG1.out, fun j hj => by
          by_cases h : j < i
          · exact HN.out j h
          · rw [show j = i by omega]; exact HB.out⟩
    · have hltz : ¬ (i : Int) < (d.size : Int) := by omega
      have HE : Hid (i = d.size) := by show _ = _; omega
      go_wp2
      go_ret
      exact Or.inr ⟨rfl, fun j hj => HN.out j (by rw [HE.out]; exact hj), HG.out⟩

/-- DeleteFunc's end: what is kept stands at the front of the row. -/
def DelPost (enc : α → List Value) (k : Nat) (p : α → Bool) (w0 : World) (blk off cap : Nat) (d : Array α) (e : Ending) (w' : World) : Prop :=
  e = .returned (.slice (some ⟨blk, off, none⟩) (d.toList.filter fun x => !p x).length cap) ∧ ∃ d' : Array α, SWK enc k w0 blk off d' w' ∧ d'.size = d.size ∧ ∀ j, j < (d.toList.filter fun x => !p x).length → (d.toList.filter fun x => !p x)[j]? = some d'[j]!

set_option maxHeartbeats 4000000 in
set_option maxRecDepth 1000000 in
theorem deleteFunc_calls (E : SEnv P k) (zr : α) (D : DEnv P (enc zr)) (hfi : P.funcs[21]? = some Try.f21) (hf : P.funcs[13]? = some Try.f13)
    (p : α → Bool) (g : Nat) (lb : Array Value) (eg : ∀ args w, (callFunc g args).run P w = .ok (.enter g args) w) (hp : ∀ (x : α) (w : World), Calls P g (#[.agg (enc x).toArray] ++ lb) w fun e w' => e = .returned (.bool (p x)) ∧ Grw w w')
    (hk : ∀ x, (enc x).length = k) (h1 : ∀ x, ∀ v ∈ enc x, v.oneCell' = true) (hH : HoldsK enc k w0 blk off d) (hblk : blk < w0.heap.size) (hsz : d.size < 4611686018427387904) (cap : Nat) (hcap : d.size ≤ cap) :
    Calls P 13 #[.slice (some ⟨blk, off, none⟩) d.size cap, .func (.func g) #[] lb] w0 (DelPost enc k p w0 blk off cap d) := by
  have mixed := E.mixed; have tS := E.tS; have aS := E.aS; have zS := E.zS; have aE := E.aE; have zE := E.zE; have tI := E.tI; have aI := E.aI; have zI := E.zI; have tB := E.tB; have aB := E.aB; have zB := E.zB
  have tF := D.tF; have aF := D.aF; have zF := D.zF; have vE := D.vE
  have R : Hid (RowK enc k w0 blk off d) := ⟨hk, h1, hH, hblk⟩
  have hidx := indexFunc_calls E D hfi p g lb eg hp hk hH hblk hsz cap
  have HI : Aside _ := hidx
  have HP : Aside _ := hp
  have hfil : (d.toList.filter fun x => !p x) = keptUpTo (fun j => !p d[j]!) d d.size := (keptUpTo_filter (fun x => !p x) d).symm
  have HF : Hid _ := hfil
  have ei : ∀ args w, (callFunc 21 args).run P w = .ok (.enter 21 args) w := enters_of hfi (by kernel_rfl) rfl
  clear hp hH hk h1 hidx hfil E D hfi
  go_enter hf, Try.ntmps13
  go_wp2_with fail
  refine Calls.mono HI.out ?_
  rintro e w1 (⟨k0, rfl, hk0, hpk, hbk, hg1⟩ | ⟨rfl, hall, hg1⟩)
  · -- k0 is the first to be struck
    have hinv : KeptInv (fun j => !p d[j]!) d (k0 + 1) k0 d := KeptInv.start (fun j hj => by rw [hbk j hj]; rfl) (by rw [hpk]; rfl)
    have KI : Aside _ := hinv
    have SG : Aside (SWK enc k w0 blk off d w1) := SWK.grw (SWK.start R.out.hH) hg1
    have hne1 : ((k0 : Int) == -1) = false := beq_eq_false_iff_ne.2 (by omega)
    clear hinv hpk hbk hg1
    go_wp2
    go_loopg [5, 6, 7] d.size (fun gg s5 s6 _ wr => ∃ (i j : Nat) (dk : Array α), s5 = .int .i64 i ∧ s6 = .int .i64 j ∧ j ≤ d.size ∧ i < j ∧ d.size - j ≤ gg ∧ Aside (SWK enc k w0 blk off dk wr) ∧ Aside (KeptInv (fun j => !p d[j]!) d j i dk))
    case atStart => exact ⟨k0, k0 + 1, d, rfl, by go_num, by omega, by omega, by omega, SG, KI⟩
    case round =>
      clear KI SG
      obtain ⟨i, j, dk, rfl, rfl, hjd, hij, hgg, SG, KI⟩ := hrel
      have HS : Hid (dk.size = d.size) := KI.out.size
      by_cases hlt : j < d.size
      · have hltz : (j : Int) < (d.size : Int) := by omega
        have hx : dk[j]! = d[j]! := KI.out.high j (by omega)
        obtain ⟨x, hxe⟩ : ∃ x, x = d[j]! := ⟨_, rfl⟩
        have HX : Hid (x = d[j]!) := hxe
        have hld : Sem.run P (loadCellsFrom ⟨blk, off + j * k, none⟩ 0 k #[]) wr = .ok (enc x).toArray wr := by
          rw [hxe, ← hx]; exact SWK.load SG.out R.out HS.out P j (by have := HS.out; omega)
        have hst := store_new P wr 58 (enc zr).toArray (enc x) (by simp [R.out.hk]) (R.out.h1 x)
        have hl2 := load_new P wr (enc x) 58 k (R.out.hk x)
        have hc := HP.out x (wr.alloc (.cells (enc x).toArray 58))
        have hsz2 : (enc x).length = k := R.out.hk x
        have CX : Hid (SWK enc k w0 blk off dk (wr.alloc (.cells (enc x).toArray 58))) := SWK.alloc SG.out _
        have HXC : Hid (∃ c, c = enc x) := ⟨_, rfl⟩
        clear hx hxe
        obtain ⟨c, hce⟩ := HXC.out
        clear HXC
        have HCE : Hid (c = enc x) := hce
        rw [← hce] at hld hst hl2 hc hsz2 CX
        clear hce
        cases hb : p x with
        | true =>
          rw [hb] at hc
          have HB : Hid _ := hb
          clear hb
          go_wp2_with fail
          refine Calls.mono hc ?_
          clear hc
          rintro e w2 ⟨rfl, hg2⟩
          have S2 : Aside (SWK enc k w0 blk off dk w2) := SWK.grw CX.out hg2
          clear hg2 hld hst hl2
          go_wp2
          go_roundg (d.size - (j + 1))
          case measure => omega
          case rel => exact ⟨i, j + 1, dk, rfl, by go_num, by omega, by omega, Nat.le_refl _, S2, KI.out.skip (by rw [← HX.out, HB.out]; rfl)⟩
        | false =>
          rw [hb] at hc
          have HB : Hid _ := hb
          clear hb
          go_wp2_with fail
          refine Calls.mono hc ?_
          clear hc
          rintro e w2 ⟨rfl, hg2⟩
          have S2 : Aside (SWK enc k w0 blk off dk w2) := SWK.grw CX.out hg2
          have hl3 : Sem.run P (loadCellsFrom ⟨wr.heap.size, 0, none⟩ 0 k #[]) w2 = .ok c.toArray w2 := run_loadCellsFrom_list P _ _ c k hsz2 (fun i v hi => by
            rw [Addr.add_lit, hg2.below.cell (p := ⟨wr.heap.size, 0 + i, none⟩) (by simp), World.cell?_alloc_new]
            simpa using hi)
          have hst2 : Sem.run P (storeCells ⟨blk, off + i * k, none⟩ c 0) w2 = .ok () (w2.setCells blk (off + i * k) c) := by
            rw [HCE.out]
            have hik : i * k + k ≤ dk.size * k := by
              have := Nat.mul_le_mul_right k (show i + 1 ≤ dk.size by have := HS.out; omega); rwa [Nat.add_mul, Nat.one_mul] at this
            exact stores_of_holds P (S2.out.holds R.out.hblk R.out.hH HS.out) (i * k) _ (by rw [R.out.hk, size_flatK]; exact hik) (R.out.h1 _)
          have S3 : Aside (SWK enc k w0 blk off (dk.setIfInBounds i x) (w2.setCells blk (off + i * k) c)) := by
            rw [HCE.out]; exact SWK.put S2.out R.out.hk R.out.hblk i x (by have := HS.out; omega)
          clear hg2 hld hst hl2
          have iz : (i : Int) < (d.size : Int) := by omega
          go_wp2
          go_roundg (d.size - (j + 1))
          case measure => omega
          case rel =>
            refine ⟨i + 1, j + 1, dk.setIfInBounds i x, by go_num, by go_num, by omega, by omega, Nat.le_refl _, S3, ?_⟩
            have := KI.out.keep hlt (by show (!p d[j]!) = true; rw [← HX.out, HB.out]; rfl)
            rw [← HX.out] at this
            exact this
      · have hltz : ¬ (j : Int) < (d.size : Int) := by omega
        have hje : j = d.size := by omega
        have HJ : Hid (j = d.size) := hje
        have hclk : ∀ t, t < (d.size - i) * (enc zr).toArray.size → (wr.cell? ⟨blk, off + i * k + t, none⟩).isSome = true ∧ wr.frozen? ⟨blk, off + i * k + t, none⟩ = false := fun t ht => by
          have hH := SG.out.holds R.out.hblk R.out.hH HS.out
          have hz : (enc zr).toArray.size = k := by simp [R.out.hk]
          rw [hz] at ht
          have hb : i * k + t < dk.size * k := by
            have h1 : i * k + (d.size - i) * k = d.size * k := by rw [← Nat.add_mul]; congr 1; omega
            have := HS.out
            rw [this]; omega
          have := hH (i * k + t) (by rw [size_flatK]; exact hb)
          rw [← Nat.add_assoc] at this
          exact ⟨by rw [this.1]; rfl, this.2⟩
        have hcl : ∀ ty, (Builtin.clear_ #[38] ty #[.slice (some ⟨blk, off + i * k, none⟩) (d.size - i) (cap - i)]).run P wr = .ok (.tuple #[]) (wr.setCells blk (off + i * k) (List.replicate (d.size - i) (enc zr).toArray.toList).flatten) :=
          fun ty => run_clear_cells wr _ _ ty (enc zr).toArray tS vE (by intro v hv; exact R.out.h1 zr v (by simpa using hv)) blk (off + i * k) _ _ (by omega) (fun t ht => (hclk t ht).1) (fun t ht => (hclk t ht).2)
        have S3 : Aside (SWK enc k w0 blk off (puts dk i (List.replicate (d.size - i) zr)) (wr.setCells blk (off + i * k) (List.replicate (d.size - i) (enc zr).toArray.toList).flatten)) := by
          have := SWK.puts R.out.hk R.out.hblk (List.replicate (d.size - i) zr) i dk wr SG.out (by have := HS.out; simp; omega)
          rw [List.flatMap_def, List.map_replicate] at this
          exact this
        have HK : Hid (KeptInv (fun j => !p d[j]!) d d.size i dk) := by rw [← HJ.out]; exact KI.out
        have hle1 : (i : Int) ≤ (d.size : Int) := by omega
        have hle2 : (i : Int) ≤ (cap : Int) := by omega
        clear hclk hje
        go_wp2
        go_ret
        unfold DelPost
        have hlen := HK.out.len
        rw [HF.out, hlen]
        refine ⟨rfl, _, S3.out, (puts_size _ _ _).trans HS.out, fun t ht => ?_⟩
        rw [puts_front _ _ _ _ ht]
        exact HK.out.low t ht
  · -- nothing is struck
    have hkeep : ∀ j, j < d.size → (!p d[j]!) = true := fun j hj => by rw [hall j hj]; rfl
    have he : (d.toList.filter fun x => !p x) = d.toList := by rw [HF.out, keptUpTo_all _ d _ hkeep, range_map_get]
    have HE : Hid _ := he
    have HG : Aside _ := hg1
    clear hkeep he hall hg1
    go_wp2
    go_ret
    unfold DelPost
    rw [HE.out]
    refine ⟨by simp, d, SWK.grw (SWK.start R.out.hH) HG.out, rfl, fun j hj => ?_⟩
    rw [getElem!_pos d j (by simpa using hj)]
    simp
end
end Go.Proofs.Ytgpagjocjcpbhaa
