/- Part of the proof of the tied card of CareTexts: Statistics. Conditions: none of its own. -/
import Derived.Test.YtenfndlbldffgaaGreatDoorCe
import Derived.Test.YtenfndlbldffgaaGreatDoorCf
set_option autoImplicit false
set_option linter.unusedVariables false
set_option linter.unusedSimpArgs false
namespace Go.Vi
open Go Go.Vi
def cntT (f : List PI) (t : Nat) : Nat → Nat
 | 0 => 0
 | i + 1 => cntT f t i + if isTy f (t : Int) (i : Int) = true then 1 else 0
def parT (b : PB) (f : List PI) (t : Nat) (i : Nat) : Int := if parentOf b.types (t : Int) ≥ 0 then near f (parentOf b.types (t : Int)) i else -1
def grp (b : PB) (f : List PI) (t : Nat) (p : Int) : Nat → Nat
 | 0 => 0
 | i + 1 => grp b f t p i + if isTy f (t : Int) (i : Int) = true ∧ parT b f t i = p then 1 else 0
def tw (b : PB) (f : List PI) (t : Nat) (i : Nat) : Nat := grp b f t (parT b f t i) i
def mst (b : PB) (f : List PI) (t : Nat) : Nat → Nat
 | 0 => 0
 | i + 1 => if isTy f (t : Int) (i : Int) = true then max (mst b f t i) (tw b f t (i + 1)) else mst b f t i
def mrT (b : PB) (f : List PI) (t : Nat) (n : Nat) : Nat → Nat
 | 0 => 0
 | i + 1 => if isTy f (t : Int) (i : Int) = true then max (mrT b f t n i) (grp b f t (parT b f t i) n) else mrT b f t n i
theorem grp_mono {b : PB} {f : List PI} {t : Nat} {p : Int} {i : Nat} : ∀ {n : Nat}, i ≤ n → grp b f t p i ≤ grp b f t p n
 | 0, h => by rw [show i = 0 by omega]; exact Nat.le_refl _
 | n + 1, h => by
   by_cases e : i = n + 1
   · rw [e]; exact Nat.le_refl _
   · have := grp_mono (b := b) (f := f) (t := t) (p := p) (i := i) (n := n) (by omega)
     simp only [grp]; omega
theorem isTy_excl {f : List PI} {s t k : Int} (h : isTy f s k = true) (hne : t ≠ s) : isTy f t k = false := by
 unfold isTy at h ⊢
 split at h
 · rename_i y hy
   have := eq_of_beq h
   simp only [beq_eq_false_iff_ne]
   omega
 · cases h
set_option linter.unusedSectionVars false
section
variable {b : PB} {f : List PI} (hU : Ups b.types b.types.length) {t : Nat} (ht : t < b.types.length)
include hU ht
theorem parT_same {i : Nat} (h : isTy f (t : Int) (i : Int) = true) : parT b f t (i + 1) = parT b f t i := by
 have hp := parent_lt hU (Nat.le_refl _) (t := (t : Int)) (by omega) (by omega)
 unfold parT
 split
 · simp only [near]
   rw [if_neg (by rw [isTy_excl h (by omega)]; simp)]
 · rfl
theorem tw_hit {i : Nat} (h : isTy f (t : Int) (i : Int) = true) : tw b f t (i + 1) = tw b f t i + 1 := by
 unfold tw
 rw [parT_same hU ht h, grp, if_pos ⟨h, rfl⟩]
theorem tw_stay {i : Nat} {s : Int} (h : isTy f s (i : Int) = true) (hne : (t : Int) ≠ s) (hp : parentOf b.types (t : Int) ≠ s) : tw b f t (i + 1) = tw b f t i := by
 have e : parT b f t (i + 1) = parT b f t i := by
  unfold parT
  split
  · simp only [near]
    rw [if_neg (by rw [isTy_excl h hp]; simp)]
  · rfl
 unfold tw
 rw [e, grp, if_neg (by rw [isTy_excl h hne]; simp)]
 omega
omit ht in
theorem grp_new {p : Int} : ∀ {i : Nat}, (∀ m, m < i → parT b f t m ≠ p) → grp b f t p i = 0
 | 0, _ => rfl
 | i + 1, h => by
   rw [grp, grp_new (fun m hm => h m (by omega)), if_neg (fun hc => h i (by omega) hc.2)]
theorem tw_reset {i : Nat} {s : Int} (h : isTy f s (i : Int) = true) (hs : 0 ≤ s) (hp : parentOf b.types (t : Int) = s) : tw b f t (i + 1) = 0 := by
 have e : parT b f t (i + 1) = (i : Int) := by
  unfold parT
  rw [if_pos (by omega), hp]
  simp only [near]
  rw [if_pos h]
 unfold tw
 rw [e]
 refine grp_new hU fun m hm => ?_
 unfold parT
 have := near_lt (f := f) (pt := parentOf b.types (t : Int)) (k := m)
 split <;> omega
theorem mst_le {n : Nat} : ∀ {i : Nat}, i ≤ n → mst b f t i ≤ mrT b f t n i
 | 0, _ => Nat.le_refl _
 | i + 1, h => by
   have ih := mst_le (n := n) (i := i) (by omega)
   simp only [mst, mrT]
   split
   · rename_i hty
     have h1 : tw b f t (i + 1) ≤ grp b f t (parT b f t i) n := by
      unfold tw
      rw [parT_same hU ht hty]
      exact grp_mono h
     omega
   · exact ih
theorem grp_le {p : Int} : ∀ {i : Nat}, grp b f t p i ≤ mst b f t i
 | 0 => Nat.le_refl _
 | i + 1 => by
   have ih := grp_le (p := p) (i := i)
   by_cases hc : isTy f (t : Int) (i : Int) = true
   · rw [mst, if_pos hc]
     by_cases hp : parT b f t i = p
     · have : grp b f t p (i + 1) = tw b f t (i + 1) := by
        unfold tw
        rw [parT_same hU ht hc, hp]
       omega
     · rw [grp, if_neg (fun h => hp h.2)]; omega
   · rw [mst, if_neg hc, grp, if_neg (fun h => hc h.1)]; omega
theorem mr_le {n : Nat} : ∀ {i : Nat}, mrT b f t n i ≤ mst b f t n
 | 0 => Nat.zero_le _
 | i + 1 => by
   have ih := mr_le (n := n) (i := i)
   simp only [mrT]
   split
   · have := grp_le (f := f) hU ht (p := parT b f t i) (i := n)
     omega
   · exact ih
theorem most_eq {n : Nat} : mrT b f t n n = mst b f t n :=
 Nat.le_antisymm (mr_le hU ht) (mst_le hU ht (Nat.le_refl _))
end
theorem cnt_le {f : List PI} {t : Nat} : ∀ {i : Nat}, cntT f t i ≤ i
 | 0 => Nat.le_refl _
 | i + 1 => by
   have := cnt_le (f := f) (t := t) (i := i)
   simp only [cntT]; split <;> omega
theorem grp_cnt {b : PB} {f : List PI} {t : Nat} {p : Int} : ∀ {i : Nat}, grp b f t p i ≤ i
 | 0 => Nat.le_refl _
 | i + 1 => by
   have := grp_cnt (b := b) (f := f) (t := t) (p := p) (i := i)
   simp only [grp]; split <;> omega
theorem mst_cnt {b : PB} {f : List PI} {t : Nat} : ∀ {i : Nat}, mst b f t i ≤ i
 | 0 => Nat.le_refl _
 | i + 1 => by
   have := mst_cnt (b := b) (f := f) (t := t) (i := i)
   have h2 : tw b f t (i + 1) ≤ i + 1 := grp_cnt
   simp only [mst]; split <;> omega
def nr (T : Nat) (g : Nat → Nat) : List (List AV) := wrows ((List.range T).map fun t => ((g t : Nat) : Int))
theorem nr_len {T : Nat} {g : Nat → Nat} : (nr T g).length = T := by simp [nr, wrows]
theorem nr_at {T : Nat} {g : Nat → Nat} {k : Nat} (h : k < T) : (nr T g)[k]? = some [.int .i64 (g k : Nat)] := by
 simp [nr, wrows, h]
theorem nr_val {T : Nat} {g : Nat → Nat} : allVal (nr T g) = true := wrows_val
theorem nr_ext {T : Nat} {g g' : Nat → Nat} (h : ∀ t, t < T → g t = g' t) : nr T g = nr T g' := by
 unfold nr
 congr 1
 apply List.map_congr_left
 intro t ht
 rw [h t (List.mem_range.1 ht)]
theorem nr_set {T : Nat} {g g' : Nat → Nat} {k v : Nat} (h : ∀ t, t < T → g' t = if t = k then v else g t) : (nr T g).set k [.int .i64 (v : Nat)] = nr T g' := by
 apply List.ext_getElem?
 intro t
 by_cases ht : t < T
 · rw [nr_at ht, List.getElem?_set, nr_len, h t ht]
   by_cases e : k = t
   · subst e; rw [if_pos rfl, if_pos ht, if_pos rfl]
   · rw [if_neg e, if_neg (fun e' => e e'.symm), nr_at ht]
 · rw [List.getElem?_eq_none (by rw [List.length_set, nr_len]; omega), List.getElem?_eq_none (by rw [nr_len]; omega)]
theorem nr_zero {T : Nat} : List.replicate T [AV.int .i64 0] = nr T (fun _ => 0) := by
 apply List.ext_getElem?
 intro t
 by_cases ht : t < T
 · rw [nr_at ht, List.getElem?_replicate, if_pos ht]; rfl
 · rw [List.getElem?_eq_none (by simp; omega), List.getElem?_eq_none (by rw [nr_len]; omega)]
end Go.Vi
set_option maxRecDepth 100000
namespace Go.Vi
open Go Go.Vi Go.Proofs
attribute [local irreducible] vops vopsD vc
theorem len_map {P : Program} {H : Hp} {e t : TypeId} {x : AV} (hL : IsL x) (hu : P.underlying t = some (.slice e)) : (vlen P H t x).map (·, H) = some (.int .i64 (lrows x).length, H) := by
 rw [hL.len hu]; rfl
def cntF (f : List PI) (i : Nat) (t : Nat) : Nat := cntT f t i
def mstF (b : PB) (f : List PI) (i : Nat) (t : Nat) : Nat := mst b f t i
def twF (b : PB) (f : List PI) (i : Nat) (t : Nat) : Nat := tw b f t i
def twA (b : PB) (f : List PI) (i k : Nat) (t : Nat) : Nat := if t = k then tw b f t i + 1 else tw b f t i
def twB (b : PB) (f : List PI) (i k j : Nat) (t : Nat) : Nat := if t < j ∧ parentOf b.types (t : Int) = (k : Int) then 0 else twA b f i k t
def statV (b : PB) (f : List PI) : AV := if forestE b f = 0 then .tup [.list .loose (nr b.types.length (cntF f f.length)), .list .loose (nr b.types.length (mstF b f f.length)), .int .i64 0] else .tup [.nils, .nils, .int .i64 (forestE b f)]
theorem ret_tup3 {H : Hp} {x y z x' y' z' : AV} (h1 : ret1 H x = some x') (h2 : ret1 H y = some y') (h3 : ret1 H z = some z') : retv H (.tup [x, y, z]) = some (.tup [x', y', z']) := by
 simp only [retv, mapL, h1, h2, h3, Option.map_some]
theorem ty_nat {f : List PI} {i : Nat} {y : PI} {s : Int} (hy : f[i]? = some y) : (isTy f s (i : Int) = true) ↔ y.type = s := by
 simp only [isTy, Int.toNat_natCast, hy, beq_iff_eq]
section
variable {b : PB} {f : List PI} {i k : Nat} {y : PI} (hy : f[i]? = some y) (hk : y.type = (k : Int))
include hy hk
theorem cnt_step (t : Nat) : cntF f (i + 1) t = if t = k then cntF f i k + 1 else cntF f i t := by
 unfold cntF
 rw [cntT]
 by_cases e : t = k
 · subst e; rw [if_pos ((ty_nat hy).2 hk), if_pos rfl]
 · rw [if_neg (fun h => e (by have := (ty_nat hy).1 h; omega)), if_neg e]; rfl
variable (hU : Ups b.types b.types.length)
include hU
theorem mst_step (t : Nat) (ht : t < b.types.length) : mstF b f (i + 1) t = if t = k then max (mstF b f i k) (twA b f i k k) else mstF b f i t := by
 unfold mstF
 rw [mst]
 by_cases e : t = k
 · subst e
   have h := (ty_nat hy).2 hk
   rw [if_pos h, if_pos rfl, tw_hit hU ht h, twA, if_pos rfl]
 · rw [if_neg (fun h => e (by have := (ty_nat hy).1 h; omega)), if_neg e]
theorem tw_step (t : Nat) (ht : t < b.types.length) : twB b f i k b.types.length t = twF b f (i + 1) t := by
 have h := (ty_nat (s := (k : Int)) hy).2 hk
 unfold twB twF twA
 by_cases hp : parentOf b.types (t : Int) = (k : Int)
 · rw [if_pos ⟨ht, hp⟩, tw_reset hU ht h (by omega) hp]
 · rw [if_neg (fun h => hp h.2)]
   by_cases e : t = k
   · subst e; rw [if_pos rfl, tw_hit hU ht h]
   · rw [if_neg e, tw_stay hU ht h (by omega) hp]
end
theorem twB_zero {b : PB} {f : List PI} {i k : Nat} : nr b.types.length (twB b f i k 0) = nr b.types.length (twA b f i k) := nr_ext fun t _ => by
 unfold twB; rw [if_neg (by omega)]
theorem twB_hit {b : PB} {f : List PI} {i k j : Nat} (h : parentOf b.types (j : Int) = (k : Int)) : (nr b.types.length (twB b f i k j)).set j [.int .i64 0] = nr b.types.length (twB b f i k (j + 1)) := nr_set (v := 0) fun t _ => by
 unfold twB
 by_cases e : t = j
 · subst e; rw [if_pos ⟨by omega, h⟩, if_pos rfl]
 · rw [if_neg e]
   by_cases hc : t < j ∧ parentOf b.types (t : Int) = (k : Int)
   · rw [if_pos ⟨by omega, hc.2⟩, if_pos hc]
   · rw [if_neg (fun h => hc ⟨by omega, h.2⟩), if_neg hc]
theorem twB_miss {b : PB} {f : List PI} {i k j : Nat} (h : ¬ parentOf b.types (j : Int) = (k : Int)) : nr b.types.length (twB b f i k (j + 1)) = nr b.types.length (twB b f i k j) := nr_ext fun t _ => by
 unfold twB
 by_cases hc : t < j ∧ parentOf b.types (t : Int) = (k : Int)
 · rw [if_pos ⟨by omega, hc.2⟩, if_pos hc]
 · rw [if_neg hc, if_neg]
   rintro ⟨h1, h2⟩
   by_cases e : t = j
   · subst e; exact h h2
   · exact hc ⟨by omega, h2⟩
theorem twA_le {b : PB} {f : List PI} {i k t : Nat} : twA b f i k t ≤ i + 1 := by
 unfold twA tw
 have := grp_cnt (b := b) (f := f) (t := t) (p := parT b f t i) (i := i)
 split <;> omega
def cR (f : List PI) (i j t : Nat) : Nat := if t < i then cntT f t f.length else if t = i then cntT f t j else 0
def mR (b : PB) (f : List PI) (i j t : Nat) : Nat := if t < i then mrT b f t f.length f.length else if t = i then mrT b f t f.length j else 0
theorem cR_at {f : List PI} {i j : Nat} : cR f i j i = cntT f i j := by unfold cR; rw [if_neg (by omega), if_pos rfl]
theorem mR_at {b : PB} {f : List PI} {i j : Nat} : mR b f i j i = mrT b f i f.length j := by unfold mR; rw [if_neg (by omega), if_pos rfl]
theorem cR_zero {T : Nat} {f : List PI} : nr T (cR f 0 0) = nr T (fun _ => 0) := nr_ext fun t _ => by unfold cR; rw [if_neg (by omega)]; split <;> rfl
theorem mR_zero {T : Nat} {b : PB} {f : List PI} : nr T (mR b f 0 0) = nr T (fun _ => 0) := nr_ext fun t _ => by unfold mR; rw [if_neg (by omega)]; split <;> rfl
theorem cR_next {T : Nat} {f : List PI} {i : Nat} : nr T (cR f i f.length) = nr T (cR f (i + 1) 0) := nr_ext fun t _ => by
 unfold cR
 by_cases h : t < i
 · rw [if_pos h, if_pos (by omega)]
 · by_cases e : t = i
   · rw [if_neg h, if_pos e, if_pos (by omega)]
   · rw [if_neg h, if_neg e, if_neg (by omega)]; split <;> rfl
theorem mR_next {T : Nat} {b : PB} {f : List PI} {i : Nat} : nr T (mR b f i f.length) = nr T (mR b f (i + 1) 0) := nr_ext fun t _ => by
 unfold mR
 by_cases h : t < i
 · rw [if_pos h, if_pos (by omega)]
 · by_cases e : t = i
   · rw [if_neg h, if_pos e, if_pos (by omega)]
   · rw [if_neg h, if_neg e, if_neg (by omega)]; split <;> rfl
theorem cR_miss {T : Nat} {f : List PI} {i j : Nat} (h : ¬ isTy f (i : Int) (j : Int) = true) : nr T (cR f i j) = nr T (cR f i (j + 1)) := nr_ext fun t _ => by
 unfold cR
 split
 · rfl
 · split
   · rename_i e; rw [e, cntT, if_neg h]; rfl
   · rfl
theorem mR_miss {T : Nat} {b : PB} {f : List PI} {i j : Nat} (h : ¬ isTy f (i : Int) (j : Int) = true) : nr T (mR b f i j) = nr T (mR b f i (j + 1)) := nr_ext fun t _ => by
 unfold mR
 split
 · rfl
 · split
   · rename_i e; rw [e, mrT, if_neg h]
   · rfl
theorem cR_hit {T : Nat} {f : List PI} {i j : Nat} (h : isTy f (i : Int) (j : Int) = true) : (nr T (cR f i j)).set i [.int .i64 ((cntT f i j + 1 : Nat) : Int)] = nr T (cR f i (j + 1)) := nr_set fun t _ => by
 by_cases e : t = i
 · rw [if_pos e, e, cR_at, cntT, if_pos h]
 · rw [if_neg e]; unfold cR; rw [if_neg e, if_neg e]
theorem mR_hit {T : Nat} {b : PB} {f : List PI} {i j : Nat} {p : Int} (h : isTy f (i : Int) (j : Int) = true) (hp : p = parT b f i j) : (nr T (mR b f i j)).set i [.int .i64 ((max (mrT b f i f.length j) (grp b f i p f.length) : Nat) : Int)] = nr T (mR b f i (j + 1)) := nr_set fun t _ => by
 by_cases e : t = i
 · rw [if_pos e, e, mR_at, mrT, if_pos h, hp]
 · rw [if_neg e]; unfold mR; rw [if_neg e, if_neg e]
theorem par_ty {b : PB} {f : List PI} {i j : Nat} {y : PI} (hy : f[j]? = some y) (h : y.type = (i : Int)) : par b f j = parT b f i j := by
 unfold par parT
 rw [hy]
 simp only [h]
theorem mr_cnt {b : PB} {f : List PI} {t n : Nat} : ∀ {i : Nat}, mrT b f t n i ≤ n
 | 0 => Nat.zero_le _
 | i + 1 => by
   have := mr_cnt (b := b) (f := f) (t := t) (n := n) (i := i)
   have h2 := grp_cnt (b := b) (f := f) (t := t) (p := parT b f t i) (i := n)
   simp only [mrT]; split <;> omega
theorem par_call {G : Glob} {xs : List AV} {g : Nat} {b : PB} {f : List PI} {j : Nat} (hv : baseOk b = true) (hr : rightP b f = true) (hj : j < f.length) (h : Vi.Fn Tryz.prog G g xs (.tup [.int .i64 (if askF b f [(j : Int)] = 0 then par b f (j : Int).toNat else 0), .int .i64 (askF b f [(j : Int)])])) : Vi.Fn Tryz.prog G g xs (.tup [.int .i64 (par b f j), .int .i64 0]) := by
 have e : askF b f [(j : Int)] = 0 := by
  have hb : badI f (j : Int) = false := by unfold badI; rw [decide_eq_false (by omega), decide_eq_false (by omega)]; rfl
  rw [askF, if_pos hv, if_pos hr, if_neg]
  simp [hb]
 rw [e, if_pos rfl, Int.toNat_natCast] at h
 exact h
set_option maxHeartbeats 8000000 in
theorem zStat (G : Glob) (b : PB) (hb : BaseV b) (x : AV) (f : List PI) (hx : ItemsIs x f) : Vi.Fn Tryz.prog G 15 [.agg (encB b), x] (statV b f) := by
 have hL := hb.types.isL
 have hLs := hb.search.isL
 have htv := hb.txv
 have hsv := hb.sxv
 have hxl : (lrows b.tx).length = b.types.length := by rw [hb.types.rows]; simp
 have hXL := hx.isL
 have hfl : (lrows x).length = f.length := by rw [hx.rows]; simp
 have hxlen := hx.len
 refine fn_body (fun _ => .iso) Tryz.func15 rfl ?_
 refine vc_norm (env' := (_ :: _ :: _ :: _ :: _ :: _ :: _ :: _ :: _ :: _ :: _ :: _ :: _ :: _ :: _ :: _ :: _ :: _ :: _ :: _ :: _ :: _ :: _ :: _ :: _ :: _ :: _ :: _ :: _ :: _ :: _ :: _ :: _ :: _ :: _ :: _ :: _ :: _ :: _ :: _ :: _ :: _ :: _ :: _ :: _ :: _ :: _ :: _ :: _ :: _ :: _ :: _ :: _ :: _ :: _ :: _ :: _ :: _ :: _ :: _ :: _ :: _ :: _ :: _ :: _ :: _ :: _ :: _ :: _ :: _ :: _ :: _ :: _ :: _ :: _ :: _ :: _ :: _ :: _ :: _ :: _ :: _ :: _ :: _ :: _ :: _ :: _ :: _ :: [])) (H' := []) rfl rfl ?_
 refine vs (wr ?_)
 refine w_opH (v := .ptr 0 0 0) (env' := _) (H2 := [.arr 25 4 [[_, _, _, _]]]) rfl rfl rfl rfl (fun _ h => h) (v88 rfl ?_)
 iterate 3 refine wN rfl rfl rfl (v88 rfl ?_)
 refine we rfl (vs (vs (wr ?_)))
 refine wN (v := .agg [_, _, _, _]) rfl rfl rfl (v88 rfl ?_)
 refine wN rfl rfl rfl (v88 rfl ?_)
 refine w_callI (env' := _) rfl rfl rfl (by kernel_rfl) rfl (by repeat' first | exact IsL.lend ‹_› | exact IsL.lend0 ‹_› | refine mapL_cons ?_ ?_ | refine lend_agg ?_ | rfl) (zForest G b hb x f hx) rfl (v88 rfl ?_)
 refine wN rfl rfl rfl (v88 rfl ?_)
 refine we rfl (vs (wr ?_))
 iterate 2 refine wN rfl rfl rfl (v88 rfl ?_)
 refine we rfl ?_
 refine vc_cond rfl (fun hc19 => ?_) (fun hc19 => ?_)
 ·
  refine vs (wr ?_)
  iterate 4 refine wN rfl rfl rfl (v88 rfl ?_)
  refine we rfl (vc_ret (r_then (r_fn rfl ?_)))
  have hne : ¬ forestE b f = 0 := by simpa using hc19
  show some (AV.tup [.nils, .nils, .int .i64 (forestE b f)]) = some (statV b f)
  rw [statV, if_neg hne]
 ·
  have hf0 : forestE b f = 0 := by simpa using hc19
  have hv : baseOk b = true ∧ validP b f = true := by unfold forestE at hf0; split at hf0; rename_i h1; split at hf0; rename_i h2; exact ⟨h1, h2⟩; cases hf0; cases hf0
  have hr : rightP b f = true := by rw [← valid_right hv.1]; exact hv.2
  obtain ⟨hU, h8⟩ := base_ups hv.1
  refine vc_skip (n_then (vs ?_))
  refine w_regionO 3 7 (by kernel_rfl) (by kernel_rfl) ?_ ?_
  ·
   refine one_order [0, 1, 2, 3, 4, 5, 6, 7, 8, 9] [(0, 0), (0, 0), (0, 0), (0, 1), (0, 1), (0, 1), (0, 1), (1, 2), (1, 2), (2, 2)] [[VO.arr 25 4 [[.str b.name, .int .i64 b.kind, b.tx, b.sx]], VO.arr 3 1 (List.replicate (lrows b.tx).length [AV.int .i64 0])], [VO.arr 25 4 [[.str b.name, .int .i64 b.kind, b.tx, b.sx]], VO.arr 3 1 (List.replicate (lrows b.tx).length [AV.int .i64 0]), VO.arr 3 1 (List.replicate (lrows b.tx).length [AV.int .i64 0])]] (by kernel_rfl) (by kernel_rfl) (by kernel_rfl) ?_
   show vopsW _ _ _ _ _ _ _ (_ :: _ :: _ :: _ :: _ :: _ :: _ :: _ :: _ :: _ :: []) _ _ _
   refine e_op (v := .ptr 0 0 2) (env' := _) rfl (by decide) (show _ = (0, 0) by kernel_rfl) (by decide) (fun _ _ h => h) (fun q h1 h2 => rfl) rfl (w88 rfl ?_)
   refine e_op (v := b.tx) (env' := _) rfl (by decide) (show _ = (0, 0) by kernel_rfl) (by decide) (fun _ _ h => h) (fun q h1 h2 => match q, h2 with | 0, _ => rfl | 1, _ => rfl | 2, _ => rfl | q + 3, h2 => absurd h2 (by omega)) rfl (w88 rfl ?_)
   refine e_op (v := .int .i64 ((lrows b.tx).length : Nat)) (env' := _) rfl (by decide) (show _ = (0, 0) by kernel_rfl) (by decide) (fun _ _ h => h) (fun q h1 h2 => len_map hL Tryz.underlying22) rfl (w88 rfl ?_)
   refine e_eff (H0 := [VO.arr 25 4 [[.str b.name, .int .i64 b.kind, b.tx, b.sx]]]) (H1 := [VO.arr 25 4 [[.str b.name, .int .i64 b.kind, b.tx, b.sx]], VO.arr 3 1 (List.replicate (lrows b.tx).length [AV.int .i64 0])]) (v := .row true 1 0 (lrows b.tx).length) (env' := _) rfl rfl (show _ = (0, 1) by kernel_rfl) rfl rfl (fun _ _ h => h) (g_make (k := .i64) (n := (lrows b.tx).length) (by_ := 8) el35 zc3 by3 rfl (by decide) (by decide) (by rw [hxl]; omega)) rfl (w88 rfl ?_)
   refine e_op (v := .ptr 0 0 2) (env' := _) rfl (by decide) (show _ = (0, 1) by kernel_rfl) (by decide) (fun _ _ h => h) (fun q h1 h2 => rfl) rfl (w88 rfl ?_)
   refine e_op (v := b.tx) (env' := _) rfl (by decide) (show _ = (0, 1) by kernel_rfl) (by decide) (fun _ _ h => h) (fun q h1 h2 => match q, h2 with | 0, _ => rfl | 1, _ => rfl | 2, _ => rfl | q + 3, h2 => absurd h2 (by omega)) rfl (w88 rfl ?_)
   refine e_op (v := .int .i64 ((lrows b.tx).length : Nat)) (env' := _) rfl (by decide) (show _ = (0, 1) by kernel_rfl) (by decide) (fun _ _ h => h) (fun q h1 h2 => len_map hL Tryz.underlying22) rfl (w88 rfl ?_)
   refine e_eff (H0 := [VO.arr 25 4 [[.str b.name, .int .i64 b.kind, b.tx, b.sx]], VO.arr 3 1 (List.replicate (lrows b.tx).length [AV.int .i64 0])]) (H1 := [VO.arr 25 4 [[.str b.name, .int .i64 b.kind, b.tx, b.sx]], VO.arr 3 1 (List.replicate (lrows b.tx).length [AV.int .i64 0]), VO.arr 3 1 (List.replicate (lrows b.tx).length [AV.int .i64 0])]) (v := .row true 2 0 (lrows b.tx).length) (env' := _) rfl rfl (show _ = (1, 2) by kernel_rfl) rfl rfl (fun _ _ h => h) (g_make (k := .i64) (n := (lrows b.tx).length) (by_ := 8) el35 zc3 by3 rfl (by decide) (by decide) (by rw [hxl]; omega)) rfl (w88 rfl ?_)
   refine e_op (env' := _) rfl (by decide) (show _ = (1, 2) by kernel_rfl) (by decide) (fun _ _ h => h) (fun q h1 h2 => rfl) rfl (w88 rfl ?_)
   refine e_op (env' := _) rfl (by decide) (show _ = (2, 2) by kernel_rfl) (by decide) (fun _ _ h => h) (fun q h1 h2 => rfl) rfl (w88 rfl ?_)
   refine e_end rfl ?_
   refine vs (wr ?_)
   refine wN (v := .ptr 0 0 2) rfl rfl rfl (v88 rfl ?_)
   refine wN rfl rfl rfl (v88 rfl ?_)
   first | refine wN rfl rfl rfl (v88 rfl ?_) | refine x_len rfl rfl ‹_› Tryz.underlying22 rfl (v88 rfl ?_)
   refine w_opH (v := .row true 3 0 (lrows b.tx).length) (env' := _) (H2 := [VO.arr 25 4 [[.str b.name, .int .i64 b.kind, b.tx, b.sx]], VO.arr 3 1 (List.replicate (lrows b.tx).length [AV.int .i64 0]), VO.arr 3 1 (List.replicate (lrows b.tx).length [AV.int .i64 0]), VO.arr 3 1 (List.replicate (lrows b.tx).length [AV.int .i64 0])]) rfl (g_make (k := .i64) (n := (lrows b.tx).length) (by_ := 8) el35 zc3 by3 rfl (by decide) (by decide) (by rw [hxl]; omega)) rfl (rfl) (fun _ h => h) (v88 rfl ?_)
   refine wN rfl rfl rfl (v88 rfl ?_)
   refine we rfl (vs (vs (wr ?_)))
   refine wN rfl rfl rfl (v88 rfl ?_)
   first | refine wN rfl rfl rfl (v88 rfl ?_) | refine x_len rfl rfl ‹_› Tryz.underlying26 rfl (v88 rfl ?_)
   refine wN rfl rfl rfl (v88 rfl ?_)
   refine we rfl (vc_block ?_)
   refine vc_loopN (α := { i : Nat // i ≤ f.length }) (fun i => (rnone 12 ++ ([some .undef, some .undef, some .undef] ++ (rnone 20 ++ ([some (.int .i64 (i.1 : Nat))] ++ (rundef 50 ++ ([none, none]))))))) (fun i => [VO.arr 25 4 [[.str b.name, .int .i64 b.kind, b.tx, b.sx]], VO.arr 3 1 (nr b.types.length (cntF f i.1)), VO.arr 3 1 (nr b.types.length (mstF b f i.1)), VO.arr 3 1 (nr b.types.length (twF b f i.1))]) (fun i => f.length - i.1) ⟨0, by omega⟩ [0, 1, 2, 3] (by repeat' first | exact trivial | refine ⟨.inl rfl, ?_⟩ | refine ⟨.inr rfl, ?_⟩ | refine ⟨.inr (IsL.ren1 ‹_›), ?_⟩ | refine ⟨(.inr (base_ren hL hLs)), ?_⟩ | fail) (by decide) (fun _ h => absurd h (by omega)) ⟨.inr ⟨_, rfl, ren_arr (base_renO hL hLs)⟩, .inr ⟨_, rfl, by rw [hxl, nr_zero]; exact ren_arr (ren_rows nr_val)⟩, .inr ⟨_, rfl, by rw [hxl, nr_zero]; exact ren_arr (ren_rows nr_val)⟩, .inr ⟨_, rfl, by rw [hxl, nr_zero]; exact ren_arr (ren_rows nr_val)⟩, trivial⟩ (fun i => ⟨Nat.zero_le _, (by repeat' first | exact trivial | exact .inr ⟨_, rfl, rfl⟩ | exact IsL.valN ‹_› | exact (base_N hL hLs) | refine ⟨?_, ?_⟩ | fail), ⟨(fun r hr x hx => by simp at hr; subst hr; simp at hx; rcases hx with rfl | rfl | rfl | rfl <;> first | trivial | exact IsL.leafN (by assumption)), rowsN_val nr_val, rowsN_val nr_val, rowsN_val nr_val, trivial⟩⟩) ?_
   rintro ⟨i, hi⟩ Y0 hY0
   refine vc_norm (env' := (_ :: _ :: _ :: _ :: _ :: _ :: _ :: _ :: _ :: _ :: _ :: _ :: _ :: _ :: _ :: _ :: _ :: _ :: _ :: _ :: _ :: _ :: _ :: _ :: _ :: _ :: _ :: _ :: _ :: _ :: _ :: _ :: _ :: _ :: _ :: (.int .i64 (i : Int)) :: _ :: _ :: _ :: _ :: _ :: _ :: _ :: _ :: _ :: _ :: _ :: _ :: _ :: _ :: _ :: _ :: _ :: _ :: _ :: _ :: _ :: _ :: _ :: _ :: _ :: _ :: _ :: _ :: _ :: _ :: _ :: _ :: _ :: _ :: _ :: _ :: _ :: _ :: _ :: _ :: _ :: _ :: _ :: _ :: _ :: _ :: _ :: _ :: _ :: _ :: _ :: _ :: [])) (H' := [VO.arr 25 4 [[.str b.name, .int .i64 b.kind, b.tx, b.sx]], VO.arr 3 1 (nr b.types.length (cntF f i)), VO.arr 3 1 (nr b.types.length (mstF b f i)), VO.arr 3 1 (nr b.types.length (twF b f i))]) rfl rfl ?_
   refine vs (wr ?_)
   refine wN rfl rfl rfl (v88 rfl ?_)
   refine we rfl (vs ?_)
   refine vc_cond rfl (fun hc36 => ?_) (fun hc36 => ?_)
   ·
    have hlt : i < f.length := by have := of_decide_eq_true hc36; omega
    obtain ⟨y, hyy⟩ : ∃ y, f[i]? = some y := ⟨_, List.getElem?_eq_getElem hlt⟩
    have hri := hx.at hyy
    obtain ⟨t0, ht0, hy0, hy1, _, _⟩ := fits_type (right_fits hr y (List.mem_of_getElem? hyy))
    obtain ⟨k, hk⟩ : ∃ k : Nat, y.type = (k : Int) := ⟨y.type.toNat, by omega⟩
    have hkt : k < b.types.length := by omega
    have hcs := cnt_step (f := f) hyy hk
    have hms := mst_step hyy hk hU
    have hts := tw_step hyy hk hU
    have hcl := cnt_le (f := f) (t := k) (i := i)
    have hml := mst_cnt (b := b) (f := f) (t := k) (i := i)
    have hgl := twA_le (b := b) (f := f) (i := i) (k := k) (t := k)
    have htl : twF b f i k ≤ i := grp_cnt
    refine vc_skip (n_then (vs (vc_block (vs (wr ?_)))))
    first | refine wN (v := .iptr _ [_, _]) rfl rfl rfl (v88 rfl ?_) | (refine x_index rfl rfl ‹_› rfl el26 (by omega) ‹_› rfl (fun bo => ?_); refine v88 rfl ?_)
    refine wN (v := .agg [_, _]) rfl rfl rfl (v88 rfl ?_)
    refine w_opH (v := .ptr 4 0 0) (env' := _) (H2 := [VO.arr 25 4 [[.str b.name, .int .i64 b.kind, b.tx, b.sx]], VO.arr 3 1 (nr b.types.length (cntF f i)), VO.arr 3 1 (nr b.types.length (mstF b f i)), VO.arr 3 1 (nr b.types.length (twF b f i)), .arr 64 2 [[_, _]]]) rfl rfl rfl rfl (fun _ h => h) (v88 rfl ?_)
    refine w_op0N (H2 := [VO.arr 25 4 [[.str b.name, .int .i64 b.kind, b.tx, b.sx]], VO.arr 3 1 (nr b.types.length (cntF f i)), VO.arr 3 1 (nr b.types.length (mstF b f i)), VO.arr 3 1 (nr b.types.length (twF b f i)), VO.arr 64 2 [[.int .i64 y.type, .str y.data]]]) rfl rfl rfl (fun _ h => h) ?_
    refine we rfl (vs (wr ?_))
    refine wN rfl rfl rfl (v88 rfl ?_)
    refine wN (v := .ptr 4 0 0) rfl rfl rfl (v88 rfl ?_)
    refine wN rfl rfl rfl (v88 rfl ?_)
    refine wN (v := .ptr 1 k 0) rfl (g_indexN (H := [VO.arr 25 4 [[.str b.name, .int .i64 b.kind, b.tx, b.sx]], VO.arr 3 1 (nr b.types.length (cntF f i)), VO.arr 3 1 (nr b.types.length (mstF b f i)), VO.arr 3 1 (nr b.types.length (twF b f i)), VO.arr 64 2 [[.int .i64 y.type, .str y.data]]]) el35 rfl (by omega) (by omega) (by omega)) rfl (v88 rfl ?_)
    refine wN (v := .int .i64 (cntF f i k : Nat)) rfl (g_load (H := [VO.arr 25 4 [[.str b.name, .int .i64 b.kind, b.tx, b.sx]], VO.arr 3 1 (nr b.types.length (cntF f i)), VO.arr 3 1 (nr b.types.length (mstF b f i)), VO.arr 3 1 (nr b.types.length (twF b f i)), VO.arr 64 2 [[.int .i64 y.type, .str y.data]]]) (l := 1) rfl (nr_at hkt) rfl) rfl (v88 rfl ?_)
    refine wN (v := .int .i64 ((cntF f i k + 1 : Nat) : Int)) rfl (int_eq (by unfold cntF; rw [i64_small (by omega) (by omega)]; omega)) rfl (v88 rfl ?_)
    refine wN (v := .ptr 1 k 0) rfl (g_indexN (H := [VO.arr 25 4 [[.str b.name, .int .i64 b.kind, b.tx, b.sx]], VO.arr 3 1 (nr b.types.length (cntF f i)), VO.arr 3 1 (nr b.types.length (mstF b f i)), VO.arr 3 1 (nr b.types.length (twF b f i)), VO.arr 64 2 [[.int .i64 y.type, .str y.data]]]) el35 rfl (by omega) (by omega) (by omega)) rfl (v88 rfl ?_)
    refine w_op0N (H2 := [VO.arr 25 4 [[.str b.name, .int .i64 b.kind, b.tx, b.sx]], VO.arr 3 1 (nr b.types.length (cntF f (i + 1))), VO.arr 3 1 (nr b.types.length (mstF b f i)), VO.arr 3 1 (nr b.types.length (twF b f i)), VO.arr 64 2 [[.int .i64 y.type, .str y.data]]]) rfl (g_store (H := [VO.arr 25 4 [[.str b.name, .int .i64 b.kind, b.tx, b.sx]], VO.arr 3 1 (nr b.types.length (cntF f i)), VO.arr 3 1 (nr b.types.length (mstF b f i)), VO.arr 3 1 (nr b.types.length (twF b f i)), VO.arr 64 2 [[.int .i64 y.type, .str y.data]]]) (l := 1) rfl (nr_at hkt) rfl sz3 ⟨rfl, by simp, by decide⟩) (by rw [← nr_set (g := cntF f i) (g' := cntF f (i + 1)) (k := k) (v := cntF f i k + 1) (fun t _ => hcs t)]; rfl) (fun _ h => h) ?_
    refine we rfl (vs (wr ?_))
    refine wN rfl rfl rfl (v88 rfl ?_)
    refine wN (v := .ptr 4 0 0) rfl rfl rfl (v88 rfl ?_)
    refine wN rfl rfl rfl (v88 rfl ?_)
    refine wN (v := .ptr 3 k 0) rfl (g_indexN (H := [VO.arr 25 4 [[.str b.name, .int .i64 b.kind, b.tx, b.sx]], VO.arr 3 1 (nr b.types.length (cntF f (i + 1))), VO.arr 3 1 (nr b.types.length (mstF b f i)), VO.arr 3 1 (nr b.types.length (twF b f i)), VO.arr 64 2 [[.int .i64 y.type, .str y.data]]]) el35 rfl (by omega) (by omega) (by omega)) rfl (v88 rfl ?_)
    refine wN (v := .int .i64 (twF b f i k : Nat)) rfl (g_load (H := [VO.arr 25 4 [[.str b.name, .int .i64 b.kind, b.tx, b.sx]], VO.arr 3 1 (nr b.types.length (cntF f (i + 1))), VO.arr 3 1 (nr b.types.length (mstF b f i)), VO.arr 3 1 (nr b.types.length (twF b f i)), VO.arr 64 2 [[.int .i64 y.type, .str y.data]]]) (l := 3) rfl (nr_at hkt) rfl) rfl (v88 rfl ?_)
    refine wN (v := .int .i64 ((twF b f i k + 1 : Nat) : Int)) rfl (int_eq (by rw [i64_small (by omega) (by omega)]; omega)) rfl (v88 rfl ?_)
    refine wN (v := .ptr 3 k 0) rfl (g_indexN (H := [VO.arr 25 4 [[.str b.name, .int .i64 b.kind, b.tx, b.sx]], VO.arr 3 1 (nr b.types.length (cntF f (i + 1))), VO.arr 3 1 (nr b.types.length (mstF b f i)), VO.arr 3 1 (nr b.types.length (twF b f i)), VO.arr 64 2 [[.int .i64 y.type, .str y.data]]]) el35 rfl (by omega) (by omega) (by omega)) rfl (v88 rfl ?_)
    refine w_op0N (H2 := [VO.arr 25 4 [[.str b.name, .int .i64 b.kind, b.tx, b.sx]], VO.arr 3 1 (nr b.types.length (cntF f (i + 1))), VO.arr 3 1 (nr b.types.length (mstF b f i)), VO.arr 3 1 (nr b.types.length (twA b f i k)), VO.arr 64 2 [[.int .i64 y.type, .str y.data]]]) rfl (g_store (H := [VO.arr 25 4 [[.str b.name, .int .i64 b.kind, b.tx, b.sx]], VO.arr 3 1 (nr b.types.length (cntF f (i + 1))), VO.arr 3 1 (nr b.types.length (mstF b f i)), VO.arr 3 1 (nr b.types.length (twF b f i)), VO.arr 64 2 [[.int .i64 y.type, .str y.data]]]) (l := 3) rfl (nr_at hkt) rfl sz3 ⟨rfl, by simp, by decide⟩) (by rw [← nr_set (g := twF b f i) (g' := twA b f i k) (k := k) (v := twF b f i k + 1) (fun t _ => by unfold twA twF; split; rename_i e; rw [e]; rfl)]; rfl) (fun _ h => h) ?_
    refine we rfl (vs (w_regionD (by kernel_rfl) ?_))
    refine dN rfl rfl rfl (d88 rfl ?_)
    refine dN (v := .ptr 4 0 0) rfl rfl rfl (d88 rfl ?_)
    iterate 2 refine dN rfl rfl rfl (d88 rfl ?_)
    refine dN (v := .ptr 4 0 0) rfl rfl rfl (d88 rfl ?_)
    refine dN rfl rfl rfl (d88 rfl ?_)
    refine dN (v := .ptr 2 k 0) rfl (g_indexN (H := [VO.arr 25 4 [[.str b.name, .int .i64 b.kind, b.tx, b.sx]], VO.arr 3 1 (nr b.types.length (cntF f (i + 1))), VO.arr 3 1 (nr b.types.length (mstF b f i)), VO.arr 3 1 (nr b.types.length (twA b f i k)), VO.arr 64 2 [[.int .i64 y.type, .str y.data]]]) el35 rfl (by omega) (by omega) (by omega)) rfl (d88 rfl ?_)
    refine dN (v := .int .i64 (mstF b f i k : Nat)) rfl (g_load (H := [VO.arr 25 4 [[.str b.name, .int .i64 b.kind, b.tx, b.sx]], VO.arr 3 1 (nr b.types.length (cntF f (i + 1))), VO.arr 3 1 (nr b.types.length (mstF b f i)), VO.arr 3 1 (nr b.types.length (twA b f i k)), VO.arr 64 2 [[.int .i64 y.type, .str y.data]]]) (l := 2) rfl (nr_at hkt) rfl) rfl (d88 rfl ?_)
    refine dN rfl rfl rfl (d88 rfl ?_)
    refine dN (v := .ptr 4 0 0) rfl rfl rfl (d88 rfl ?_)
    refine dN rfl rfl rfl (d88 rfl ?_)
    refine dN (v := .ptr 3 k 0) rfl (g_indexN (H := [VO.arr 25 4 [[.str b.name, .int .i64 b.kind, b.tx, b.sx]], VO.arr 3 1 (nr b.types.length (cntF f (i + 1))), VO.arr 3 1 (nr b.types.length (mstF b f i)), VO.arr 3 1 (nr b.types.length (twA b f i k)), VO.arr 64 2 [[.int .i64 y.type, .str y.data]]]) el35 rfl (by omega) (by omega) (by omega)) rfl (d88 rfl ?_)
    refine dN (v := .int .i64 (twA b f i k k : Nat)) rfl (g_load (H := [VO.arr 25 4 [[.str b.name, .int .i64 b.kind, b.tx, b.sx]], VO.arr 3 1 (nr b.types.length (cntF f (i + 1))), VO.arr 3 1 (nr b.types.length (mstF b f i)), VO.arr 3 1 (nr b.types.length (twA b f i k)), VO.arr 64 2 [[.int .i64 y.type, .str y.data]]]) (l := 3) rfl (nr_at hkt) rfl) rfl (d88 rfl ?_)
    refine dN (v := .int .i64 ((max (mstF b f i k) (twA b f i k k) : Nat) : Int)) rfl (int_eq (by simp only [if_true]; split <;> omega)) rfl (d88 rfl ?_)
    refine dN (v := .ptr 2 k 0) rfl (g_indexN (H := [VO.arr 25 4 [[.str b.name, .int .i64 b.kind, b.tx, b.sx]], VO.arr 3 1 (nr b.types.length (cntF f (i + 1))), VO.arr 3 1 (nr b.types.length (mstF b f i)), VO.arr 3 1 (nr b.types.length (twA b f i k)), VO.arr 64 2 [[.int .i64 y.type, .str y.data]]]) el35 rfl (by omega) (by omega) (by omega)) rfl (d88 rfl ?_)
    refine d_op0 (H2 := [VO.arr 25 4 [[.str b.name, .int .i64 b.kind, b.tx, b.sx]], VO.arr 3 1 (nr b.types.length (cntF f (i + 1))), VO.arr 3 1 (nr b.types.length (mstF b f (i + 1))), VO.arr 3 1 (nr b.types.length (twA b f i k)), VO.arr 64 2 [[.int .i64 y.type, .str y.data]]]) rfl (g_store (H := [VO.arr 25 4 [[.str b.name, .int .i64 b.kind, b.tx, b.sx]], VO.arr 3 1 (nr b.types.length (cntF f (i + 1))), VO.arr 3 1 (nr b.types.length (mstF b f i)), VO.arr 3 1 (nr b.types.length (twA b f i k)), VO.arr 64 2 [[.int .i64 y.type, .str y.data]]]) (l := 2) rfl (nr_at hkt) rfl sz3 ⟨rfl, by simp, by decide⟩) (.inl rfl) (by rw [← nr_set (g := mstF b f i) (g' := mstF b f (i + 1)) (k := k) (v := max (mstF b f i k) (twA b f i k k)) (fun t ht => hms t ht)]; rfl) (fun _ h => h) ?_
    refine d_end rfl (vs (wr ?_))
    refine wN (v := .ptr 0 0 2) rfl rfl rfl (v88 rfl ?_)
    refine wN rfl rfl rfl (v88 rfl ?_)
    first | refine wN rfl rfl rfl (v88 rfl ?_) | refine x_len rfl rfl ‹_› Tryz.underlying22 rfl (v88 rfl ?_)
    refine wN rfl rfl rfl (v88 rfl ?_)
    refine we rfl (vc_block ?_)
    refine vc_loopN (α := { j : Nat // j ≤ b.types.length }) (fun a => (rnone 13 ++ ([some .undef, some .undef] ++ (rnone 56 ++ ([some (.int .i64 (a.1 : Nat))] ++ (rundef 13 ++ ([none, none, none]))))))) (fun a => [VO.arr 25 4 [[.str b.name, .int .i64 b.kind, b.tx, b.sx]], VO.arr 3 1 (nr b.types.length (cntF f (i + 1))), VO.arr 3 1 (nr b.types.length (mstF b f (i + 1))), VO.arr 3 1 (nr b.types.length (twB b f i k a.1)), VO.arr 64 2 [[.int .i64 y.type, .str y.data]]]) (fun a => b.types.length - a.1) ⟨0, by omega⟩ [0, 1, 2, 3, 4] (by repeat' first | exact trivial | refine ⟨.inl rfl, ?_⟩ | refine ⟨.inr rfl, ?_⟩ | refine ⟨.inr (IsL.ren1 ‹_›), ?_⟩ | refine ⟨(.inr (base_ren hL hLs)), ?_⟩ | fail) (by decide) (fun _ h => absurd h (by omega)) ⟨.inr ⟨_, rfl, ren_arr (base_renO hL hLs)⟩, .inr ⟨_, rfl, ren_arr (ren_rows nr_val)⟩, .inr ⟨_, rfl, ren_arr (ren_rows nr_val)⟩, .inr ⟨_, rfl, by rw [← twB_zero]; exact ren_arr (ren_rows nr_val)⟩, .inr ⟨_, rfl, rfl⟩, trivial⟩ (fun a => ⟨Nat.zero_le _, (by repeat' first | exact trivial | exact .inr ⟨_, rfl, rfl⟩ | exact IsL.valN ‹_› | exact (base_N hL hLs) | (intro x hx; simp at hx; rcases hx with rfl | rfl <;> trivial) | refine ⟨?_, ?_⟩ | fail), ⟨(fun r hr x hx => by simp at hr; subst hr; simp at hx; rcases hx with rfl | rfl | rfl | rfl <;> first | trivial | exact IsL.leafN (by assumption)), rowsN_val nr_val, rowsN_val nr_val, rowsN_val nr_val, (fun r hr x hx => by simp at hr; subst hr; simp at hx; rcases hx with rfl | rfl <;> trivial), trivial⟩⟩) ?_
    rintro ⟨j, hj⟩ Y1 hY1
    refine vc_norm (env' := (_ :: _ :: _ :: _ :: _ :: _ :: _ :: _ :: _ :: _ :: _ :: _ :: _ :: _ :: _ :: _ :: _ :: _ :: _ :: _ :: _ :: _ :: _ :: _ :: _ :: _ :: _ :: _ :: _ :: _ :: _ :: _ :: _ :: _ :: _ :: _ :: _ :: _ :: _ :: _ :: _ :: _ :: _ :: _ :: _ :: _ :: _ :: _ :: _ :: _ :: _ :: _ :: _ :: _ :: _ :: _ :: _ :: _ :: _ :: _ :: _ :: _ :: _ :: _ :: _ :: _ :: _ :: _ :: _ :: _ :: _ :: (.int .i64 (j : Int)) :: _ :: _ :: _ :: _ :: _ :: _ :: _ :: _ :: _ :: _ :: _ :: _ :: _ :: _ :: _ :: _ :: [])) (H' := [VO.arr 25 4 [[.str b.name, .int .i64 b.kind, b.tx, b.sx]], VO.arr 3 1 (nr b.types.length (cntF f (i + 1))), VO.arr 3 1 (nr b.types.length (mstF b f (i + 1))), VO.arr 3 1 (nr b.types.length (twB b f i k j)), VO.arr 64 2 [[.int .i64 y.type, .str y.data]]]) rfl rfl ?_
    refine vs (wr ?_)
    refine wN rfl rfl rfl (v88 rfl ?_)
    refine we rfl (vs ?_)
    refine vc_cond rfl (fun hc72 => ?_) (fun hc72 => ?_)
    ·
     have hjl : j < b.types.length := by have := of_decide_eq_true hc72; omega
     obtain ⟨t, ht⟩ : ∃ t, b.types[j]? = some t := ⟨_, List.getElem?_eq_getElem hjl⟩
     have hrt : (lrows b.tx)[j]? = some [.str t.name, .int .i64 t.parent, .int .i64 t.min, .int .i64 t.size, t.fx, .int .i64 t.key, .bool t.unique, .bool t.last] := by rw [hb.types.rows, List.getElem?_map, ht]; rfl
     have hpj : parentOf b.types (j : Int) = t.parent := by simp only [parentOf, Int.toNat_natCast, ht]
     refine vc_skip (n_then (vs (vc_block (vs (wr ?_)))))
     refine wN rfl rfl rfl (v88 rfl ?_)
     first | refine wN (v := .iptr _ [_, _, _, _, _, _, _, _]) rfl rfl rfl (v88 rfl ?_) | (refine x_index rfl rfl ‹_› rfl el22 (by omega) ‹_› rfl (fun bo => ?_); refine v88 rfl ?_)
     refine wN (v := .agg [_, _, _, _, _, _, _, _]) rfl rfl rfl (v88 rfl ?_)
     refine w_opH (v := .ptr 5 0 0) (env' := _) (H2 := [VO.arr 25 4 [[.str b.name, .int .i64 b.kind, b.tx, b.sx]], VO.arr 3 1 (nr b.types.length (cntF f (i + 1))), VO.arr 3 1 (nr b.types.length (mstF b f (i + 1))), VO.arr 3 1 (nr b.types.length (twB b f i k j)), VO.arr 64 2 [[.int .i64 y.type, .str y.data]], .arr 62 8 [[_, _, _, _, _, _, _, _]]]) rfl rfl rfl rfl (fun _ h => h) (v88 rfl ?_)
     refine wN rfl rfl rfl (v88 rfl ?_)
     refine w_op0N (H2 := [VO.arr 25 4 [[.str b.name, .int .i64 b.kind, b.tx, b.sx]], VO.arr 3 1 (nr b.types.length (cntF f (i + 1))), VO.arr 3 1 (nr b.types.length (mstF b f (i + 1))), VO.arr 3 1 (nr b.types.length (twB b f i k j)), VO.arr 64 2 [[.int .i64 y.type, .str y.data]], VO.arr 62 8 [[.str t.name, .int .i64 t.parent, .int .i64 t.min, .int .i64 t.size, t.fx, .int .i64 t.key, .bool t.unique, .bool t.last]]]) rfl rfl rfl (fun _ h => h) ?_
     refine we rfl (vs (wr ?_))
     refine wN (v := .ptr 5 0 1) rfl rfl rfl (v88 rfl ?_)
     refine wN rfl rfl rfl (v88 rfl ?_)
     refine wN (v := .ptr 4 0 0) rfl rfl rfl (v88 rfl ?_)
     iterate 2 refine wN rfl rfl rfl (v88 rfl ?_)
     refine we rfl ?_
     refine vc_cond rfl (fun hc80 => ?_) (fun hc80 => ?_)
     ·
      have hpe : parentOf b.types (j : Int) = (k : Int) := by have := eq_of_beq hc80; rw [hpj]; omega
      refine wr ?_
      iterate 2 refine wN rfl rfl rfl (v88 rfl ?_)
      refine wN (v := .ptr 3 j 0) rfl (g_indexN (H := [VO.arr 25 4 [[.str b.name, .int .i64 b.kind, b.tx, b.sx]], VO.arr 3 1 (nr b.types.length (cntF f (i + 1))), VO.arr 3 1 (nr b.types.length (mstF b f (i + 1))), VO.arr 3 1 (nr b.types.length (twB b f i k j)), VO.arr 64 2 [[.int .i64 y.type, .str y.data]], VO.arr 62 8 [[.str t.name, .int .i64 t.parent, .int .i64 t.min, .int .i64 t.size, t.fx, .int .i64 t.key, .bool t.unique, .bool t.last]]]) el35 rfl (by omega) (by omega) (by omega)) rfl (v88 rfl ?_)
      refine w_op0N (H2 := [VO.arr 25 4 [[.str b.name, .int .i64 b.kind, b.tx, b.sx]], VO.arr 3 1 (nr b.types.length (cntF f (i + 1))), VO.arr 3 1 (nr b.types.length (mstF b f (i + 1))), VO.arr 3 1 (nr b.types.length (twB b f i k (j + 1))), VO.arr 64 2 [[.int .i64 y.type, .str y.data]], VO.arr 62 8 [[.str t.name, .int .i64 t.parent, .int .i64 t.min, .int .i64 t.size, t.fx, .int .i64 t.key, .bool t.unique, .bool t.last]]]) rfl (g_store (H := [VO.arr 25 4 [[.str b.name, .int .i64 b.kind, b.tx, b.sx]], VO.arr 3 1 (nr b.types.length (cntF f (i + 1))), VO.arr 3 1 (nr b.types.length (mstF b f (i + 1))), VO.arr 3 1 (nr b.types.length (twB b f i k j)), VO.arr 64 2 [[.int .i64 y.type, .str y.data]], VO.arr 62 8 [[.str t.name, .int .i64 t.parent, .int .i64 t.min, .int .i64 t.size, t.fx, .int .i64 t.key, .bool t.unique, .bool t.last]]]) (l := 3) rfl (nr_at hjl) rfl sz3 ⟨rfl, by simp, by decide⟩) (by rw [← twB_hit hpe]; rfl) (fun _ h => h) ?_
      refine w_endB rfl (n_then (wr ?_))
      iterate 2 refine wN rfl rfl rfl (v88 rfl ?_)
      refine we rfl ?_
      refine hY1 ⟨j + 1, hjl⟩ (by simp only; omega) _ _ [0, 1, 2, 3, 4] ?_ (by decide) (fun _ h => absurd h (by omega)) ⟨.inr ⟨_, rfl, ren_arr (base_renO hL hLs)⟩, .inr ⟨_, rfl, ren_arr (ren_rows nr_val)⟩, .inr ⟨_, rfl, ren_arr (ren_rows nr_val)⟩, .inr ⟨_, rfl, ren_arr (ren_rows nr_val)⟩, .inr ⟨_, rfl, rfl⟩, trivial⟩
      repeat' first | exact trivial | refine ⟨.inl rfl, ?_⟩ | refine ⟨.inr rfl, ?_⟩ | refine ⟨.inr (IsL.ren1 ‹_›), ?_⟩ | refine ⟨(.inr (base_ren hL hLs)), ?_⟩ | refine ⟨(.inr ?_), ?_⟩ | fail
      all_goals first | exact congrArg some (int_succ (by omega)).symm
     ·
      have hpm : ¬ parentOf b.types (j : Int) = (k : Int) := by have := hc80; simp at this; rw [hpj]; omega
      refine vc_skip (n_block (n_then (wr ?_)))
      iterate 2 refine wN rfl rfl rfl (v88 rfl ?_)
      refine we rfl ?_
      refine hY1 ⟨j + 1, hjl⟩ (by simp only; omega) _ _ [0, 1, 2, 3, 4] ?_ (by decide) (fun _ h => absurd h (by omega)) ⟨.inr ⟨_, rfl, ren_arr (base_renO hL hLs)⟩, .inr ⟨_, rfl, ren_arr (ren_rows nr_val)⟩, .inr ⟨_, rfl, ren_arr (ren_rows nr_val)⟩, .inr ⟨_, rfl, by rw [← twB_miss hpm]; exact ren_arr (ren_rows nr_val)⟩, .inr ⟨_, rfl, rfl⟩, trivial⟩
      repeat' first | exact trivial | refine ⟨.inl rfl, ?_⟩ | refine ⟨.inr rfl, ?_⟩ | refine ⟨.inr (IsL.ren1 ‹_›), ?_⟩ | refine ⟨(.inr (base_ren hL hLs)), ?_⟩ | refine ⟨(.inr ?_), ?_⟩ | fail
      all_goals first | exact congrArg some (int_succ (by omega)).symm
    ·
     have hje : j = b.types.length := by have := of_decide_eq_false hc72; omega
     have htw : nr b.types.length (twF b f (i + 1)) = nr b.types.length (twB b f i k j) := by rw [hje]; exact nr_ext fun t ht => (hts t ht).symm
     refine vc_exit (x_then (x_then (x_same (n_block (n_then (wr ?_))))))
     iterate 2 refine wN rfl rfl rfl (v88 rfl ?_)
     refine we rfl ?_
     refine hY0 ⟨i + 1, hlt⟩ (by simp only; omega) _ _ [0, 1, 2, 3] ?_ (by decide) (fun _ h => absurd h (by omega)) ⟨.inr ⟨_, rfl, ren_arr (base_renO hL hLs)⟩, .inr ⟨_, rfl, ren_arr (ren_rows nr_val)⟩, .inr ⟨_, rfl, ren_arr (ren_rows nr_val)⟩, .inr ⟨_, rfl, by rw [htw]; exact ren_arr (ren_rows nr_val)⟩, trivial⟩
     repeat' first | exact trivial | refine ⟨.inl rfl, ?_⟩ | refine ⟨.inr rfl, ?_⟩ | refine ⟨.inr (IsL.ren1 ‹_›), ?_⟩ | refine ⟨(.inr (base_ren hL hLs)), ?_⟩ | refine ⟨(.inr ?_), ?_⟩ | fail
     all_goals first | exact congrArg some (int_succ (by omega)).symm
   ·
    have hge : ¬ i < f.length := by have := of_decide_eq_false hc36; omega
    obtain rfl : i = f.length := by omega
    refine vc_exit (x_then (x_then (x_same (n_then (vs (wr ?_))))))
    iterate 5 refine wN rfl rfl rfl (v88 rfl ?_)
    refine we rfl (vc_ret (r_fn rfl ?_))
    rw [statV, if_pos hf0]
    exact ret_tup3 (ret_row nr_val rfl (by rw [nr_len]; exact hxl)) (ret_row nr_val rfl (by rw [nr_len]; exact hxl)) rfl
  ·
   refine one_order [0, 1, 2, 4, 5, 6, 7, 3, 8, 9] [(0, 1), (0, 1), (0, 1), (1, 2), (0, 0), (0, 0), (0, 0), (0, 1), (2, 2), (2, 2)] [[VO.arr 25 4 [[.str b.name, .int .i64 b.kind, b.tx, b.sx]], VO.arr 3 1 (List.replicate (lrows b.tx).length [AV.int .i64 0])], [VO.arr 25 4 [[.str b.name, .int .i64 b.kind, b.tx, b.sx]], VO.arr 3 1 (List.replicate (lrows b.tx).length [AV.int .i64 0]), VO.arr 3 1 (List.replicate (lrows b.tx).length [AV.int .i64 0])]] (by kernel_rfl) (by kernel_rfl) (by kernel_rfl) ?_
   show vopsW _ _ _ _ _ _ _ (_ :: _ :: _ :: _ :: _ :: _ :: _ :: _ :: _ :: _ :: []) _ _ _
   refine e_op (v := .ptr 0 0 2) (env' := _) rfl (by decide) (show _ = (0, 1) by kernel_rfl) (by decide) (fun _ _ h => h) (fun q h1 h2 => rfl) rfl (w88 rfl ?_)
   refine e_op (v := b.tx) (env' := _) rfl (by decide) (show _ = (0, 1) by kernel_rfl) (by decide) (fun _ _ h => h) (fun q h1 h2 => match q, h2 with | 0, _ => rfl | 1, _ => rfl | 2, _ => rfl | q + 3, h2 => absurd h2 (by omega)) rfl (w88 rfl ?_)
   refine e_op (v := .int .i64 ((lrows b.tx).length : Nat)) (env' := _) rfl (by decide) (show _ = (0, 1) by kernel_rfl) (by decide) (fun _ _ h => h) (fun q h1 h2 => len_map hL Tryz.underlying22) rfl (w88 rfl ?_)
   refine e_op (v := .ptr 0 0 2) (env' := _) rfl (by decide) (show _ = (0, 0) by kernel_rfl) (by decide) (fun _ _ h => h) (fun q h1 h2 => rfl) rfl (w88 rfl ?_)
   refine e_op (v := b.tx) (env' := _) rfl (by decide) (show _ = (0, 0) by kernel_rfl) (by decide) (fun _ _ h => h) (fun q h1 h2 => match q, h2 with | 0, _ => rfl | 1, _ => rfl | 2, _ => rfl | q + 3, h2 => absurd h2 (by omega)) rfl (w88 rfl ?_)
   refine e_op (v := .int .i64 ((lrows b.tx).length : Nat)) (env' := _) rfl (by decide) (show _ = (0, 0) by kernel_rfl) (by decide) (fun _ _ h => h) (fun q h1 h2 => len_map hL Tryz.underlying22) rfl (w88 rfl ?_)
   refine e_eff (H0 := [VO.arr 25 4 [[.str b.name, .int .i64 b.kind, b.tx, b.sx]]]) (H1 := [VO.arr 25 4 [[.str b.name, .int .i64 b.kind, b.tx, b.sx]], VO.arr 3 1 (List.replicate (lrows b.tx).length [AV.int .i64 0])]) (v := .row true 1 0 (lrows b.tx).length) (env' := _) rfl rfl (show _ = (0, 1) by kernel_rfl) rfl rfl (fun _ _ h => h) (g_make (k := .i64) (n := (lrows b.tx).length) (by_ := 8) el35 zc3 by3 rfl (by decide) (by decide) (by rw [hxl]; omega)) rfl (w88 rfl ?_)
   refine e_eff (H0 := [VO.arr 25 4 [[.str b.name, .int .i64 b.kind, b.tx, b.sx]], VO.arr 3 1 (List.replicate (lrows b.tx).length [AV.int .i64 0])]) (H1 := [VO.arr 25 4 [[.str b.name, .int .i64 b.kind, b.tx, b.sx]], VO.arr 3 1 (List.replicate (lrows b.tx).length [AV.int .i64 0]), VO.arr 3 1 (List.replicate (lrows b.tx).length [AV.int .i64 0])]) (v := .row true 2 0 (lrows b.tx).length) (env' := _) rfl rfl (show _ = (1, 2) by kernel_rfl) rfl rfl (fun _ _ h => h) (g_make (k := .i64) (n := (lrows b.tx).length) (by_ := 8) el35 zc3 by3 rfl (by decide) (by decide) (by rw [hxl]; omega)) rfl (w88 rfl ?_)
   iterate 2 refine e_op (env' := _) rfl (by decide) (show _ = (2, 2) by kernel_rfl) (by decide) (fun _ _ h => h) (fun q h1 h2 => rfl) rfl (w88 rfl ?_)
   refine e_end rfl ?_
   refine vs (wr ?_)
   refine wN (v := .ptr 0 0 2) rfl rfl rfl (v88 rfl ?_)
   refine wN rfl rfl rfl (v88 rfl ?_)
   first | refine wN rfl rfl rfl (v88 rfl ?_) | refine x_len rfl rfl ‹_› Tryz.underlying22 rfl (v88 rfl ?_)
   refine w_opH (v := .row true 3 0 (lrows b.tx).length) (env' := _) (H2 := [VO.arr 25 4 [[.str b.name, .int .i64 b.kind, b.tx, b.sx]], VO.arr 3 1 (List.replicate (lrows b.tx).length [AV.int .i64 0]), VO.arr 3 1 (List.replicate (lrows b.tx).length [AV.int .i64 0]), VO.arr 3 1 (List.replicate (lrows b.tx).length [AV.int .i64 0])]) rfl (g_make (k := .i64) (n := (lrows b.tx).length) (by_ := 8) el35 zc3 by3 rfl (by decide) (by decide) (by rw [hxl]; omega)) rfl (rfl) (fun _ h => h) (v88 rfl ?_)
   refine wN rfl rfl rfl (v88 rfl ?_)
   refine we rfl (vs (vs (wr ?_)))
   refine wN rfl rfl rfl (v88 rfl ?_)
   first | refine wN rfl rfl rfl (v88 rfl ?_) | refine x_len rfl rfl ‹_› Tryz.underlying26 rfl (v88 rfl ?_)
   refine wN rfl rfl rfl (v88 rfl ?_)
   refine we rfl (vc_block ?_)
   refine vc_loopN (α := { i : Nat // i ≤ f.length }) (fun i => (rnone 12 ++ ([some .undef, some .undef, some .undef] ++ (rnone 20 ++ ([some (.int .i64 (i.1 : Nat))] ++ (rundef 50 ++ ([none, none]))))))) (fun i => [VO.arr 25 4 [[.str b.name, .int .i64 b.kind, b.tx, b.sx]], VO.arr 3 1 (nr b.types.length (mstF b f i.1)), VO.arr 3 1 (nr b.types.length (cntF f i.1)), VO.arr 3 1 (nr b.types.length (twF b f i.1))]) (fun i => f.length - i.1) ⟨0, by omega⟩ [0, 1, 2, 3] (by repeat' first | exact trivial | refine ⟨.inl rfl, ?_⟩ | refine ⟨.inr rfl, ?_⟩ | refine ⟨.inr (IsL.ren1 ‹_›), ?_⟩ | refine ⟨(.inr (base_ren hL hLs)), ?_⟩ | fail) (by decide) (fun _ h => absurd h (by omega)) ⟨.inr ⟨_, rfl, ren_arr (base_renO hL hLs)⟩, .inr ⟨_, rfl, by rw [hxl, nr_zero]; exact ren_arr (ren_rows nr_val)⟩, .inr ⟨_, rfl, by rw [hxl, nr_zero]; exact ren_arr (ren_rows nr_val)⟩, .inr ⟨_, rfl, by rw [hxl, nr_zero]; exact ren_arr (ren_rows nr_val)⟩, trivial⟩ (fun i => ⟨Nat.zero_le _, (by repeat' first | exact trivial | exact .inr ⟨_, rfl, rfl⟩ | exact IsL.valN ‹_› | exact (base_N hL hLs) | refine ⟨?_, ?_⟩ | fail), ⟨(fun r hr x hx => by simp at hr; subst hr; simp at hx; rcases hx with rfl | rfl | rfl | rfl <;> first | trivial | exact IsL.leafN (by assumption)), rowsN_val nr_val, rowsN_val nr_val, rowsN_val nr_val, trivial⟩⟩) ?_
   rintro ⟨i, hi⟩ Y2 hY2
   refine vc_norm (env' := (_ :: _ :: _ :: _ :: _ :: _ :: _ :: _ :: _ :: _ :: _ :: _ :: _ :: _ :: _ :: _ :: _ :: _ :: _ :: _ :: _ :: _ :: _ :: _ :: _ :: _ :: _ :: _ :: _ :: _ :: _ :: _ :: _ :: _ :: _ :: (.int .i64 (i : Int)) :: _ :: _ :: _ :: _ :: _ :: _ :: _ :: _ :: _ :: _ :: _ :: _ :: _ :: _ :: _ :: _ :: _ :: _ :: _ :: _ :: _ :: _ :: _ :: _ :: _ :: _ :: _ :: _ :: _ :: _ :: _ :: _ :: _ :: _ :: _ :: _ :: _ :: _ :: _ :: _ :: _ :: _ :: _ :: _ :: _ :: _ :: _ :: _ :: _ :: _ :: _ :: _ :: [])) (H' := [VO.arr 25 4 [[.str b.name, .int .i64 b.kind, b.tx, b.sx]], VO.arr 3 1 (nr b.types.length (mstF b f i)), VO.arr 3 1 (nr b.types.length (cntF f i)), VO.arr 3 1 (nr b.types.length (twF b f i))]) rfl rfl ?_
   refine vs (wr ?_)
   refine wN rfl rfl rfl (v88 rfl ?_)
   refine we rfl (vs ?_)
   refine vc_cond rfl (fun hc36 => ?_) (fun hc36 => ?_)
   ·
    have hlt : i < f.length := by have := of_decide_eq_true hc36; omega
    obtain ⟨y, hyy⟩ : ∃ y, f[i]? = some y := ⟨_, List.getElem?_eq_getElem hlt⟩
    have hri := hx.at hyy
    obtain ⟨t0, ht0, hy0, hy1, _, _⟩ := fits_type (right_fits hr y (List.mem_of_getElem? hyy))
    obtain ⟨k, hk⟩ : ∃ k : Nat, y.type = (k : Int) := ⟨y.type.toNat, by omega⟩
    have hkt : k < b.types.length := by omega
    have hcs := cnt_step (f := f) hyy hk
    have hms := mst_step hyy hk hU
    have hts := tw_step hyy hk hU
    have hcl := cnt_le (f := f) (t := k) (i := i)
    have hml := mst_cnt (b := b) (f := f) (t := k) (i := i)
    have hgl := twA_le (b := b) (f := f) (i := i) (k := k) (t := k)
    have htl : twF b f i k ≤ i := grp_cnt
    refine vc_skip (n_then (vs (vc_block (vs (wr ?_)))))
    first | refine wN (v := .iptr _ [_, _]) rfl rfl rfl (v88 rfl ?_) | (refine x_index rfl rfl ‹_› rfl el26 (by omega) ‹_› rfl (fun bo => ?_); refine v88 rfl ?_)
    refine wN (v := .agg [_, _]) rfl rfl rfl (v88 rfl ?_)
    refine w_opH (v := .ptr 4 0 0) (env' := _) (H2 := [VO.arr 25 4 [[.str b.name, .int .i64 b.kind, b.tx, b.sx]], VO.arr 3 1 (nr b.types.length (mstF b f i)), VO.arr 3 1 (nr b.types.length (cntF f i)), VO.arr 3 1 (nr b.types.length (twF b f i)), .arr 64 2 [[_, _]]]) rfl rfl rfl rfl (fun _ h => h) (v88 rfl ?_)
    refine w_op0N (H2 := [VO.arr 25 4 [[.str b.name, .int .i64 b.kind, b.tx, b.sx]], VO.arr 3 1 (nr b.types.length (mstF b f i)), VO.arr 3 1 (nr b.types.length (cntF f i)), VO.arr 3 1 (nr b.types.length (twF b f i)), VO.arr 64 2 [[.int .i64 y.type, .str y.data]]]) rfl rfl rfl (fun _ h => h) ?_
    refine we rfl (vs (wr ?_))
    refine wN rfl rfl rfl (v88 rfl ?_)
    refine wN (v := .ptr 4 0 0) rfl rfl rfl (v88 rfl ?_)
    refine wN rfl rfl rfl (v88 rfl ?_)
    refine wN (v := .ptr 2 k 0) rfl (g_indexN (H := [VO.arr 25 4 [[.str b.name, .int .i64 b.kind, b.tx, b.sx]], VO.arr 3 1 (nr b.types.length (mstF b f i)), VO.arr 3 1 (nr b.types.length (cntF f i)), VO.arr 3 1 (nr b.types.length (twF b f i)), VO.arr 64 2 [[.int .i64 y.type, .str y.data]]]) el35 rfl (by omega) (by omega) (by omega)) rfl (v88 rfl ?_)
    refine wN (v := .int .i64 (cntF f i k : Nat)) rfl (g_load (H := [VO.arr 25 4 [[.str b.name, .int .i64 b.kind, b.tx, b.sx]], VO.arr 3 1 (nr b.types.length (mstF b f i)), VO.arr 3 1 (nr b.types.length (cntF f i)), VO.arr 3 1 (nr b.types.length (twF b f i)), VO.arr 64 2 [[.int .i64 y.type, .str y.data]]]) (l := 2) rfl (nr_at hkt) rfl) rfl (v88 rfl ?_)
    refine wN (v := .int .i64 ((cntF f i k + 1 : Nat) : Int)) rfl (int_eq (by unfold cntF; rw [i64_small (by omega) (by omega)]; omega)) rfl (v88 rfl ?_)
    refine wN (v := .ptr 2 k 0) rfl (g_indexN (H := [VO.arr 25 4 [[.str b.name, .int .i64 b.kind, b.tx, b.sx]], VO.arr 3 1 (nr b.types.length (mstF b f i)), VO.arr 3 1 (nr b.types.length (cntF f i)), VO.arr 3 1 (nr b.types.length (twF b f i)), VO.arr 64 2 [[.int .i64 y.type, .str y.data]]]) el35 rfl (by omega) (by omega) (by omega)) rfl (v88 rfl ?_)
    refine w_op0N (H2 := [VO.arr 25 4 [[.str b.name, .int .i64 b.kind, b.tx, b.sx]], VO.arr 3 1 (nr b.types.length (mstF b f i)), VO.arr 3 1 (nr b.types.length (cntF f (i + 1))), VO.arr 3 1 (nr b.types.length (twF b f i)), VO.arr 64 2 [[.int .i64 y.type, .str y.data]]]) rfl (g_store (H := [VO.arr 25 4 [[.str b.name, .int .i64 b.kind, b.tx, b.sx]], VO.arr 3 1 (nr b.types.length (mstF b f i)), VO.arr 3 1 (nr b.types.length (cntF f i)), VO.arr 3 1 (nr b.types.length (twF b f i)), VO.arr 64 2 [[.int .i64 y.type, .str y.data]]]) (l := 2) rfl (nr_at hkt) rfl sz3 ⟨rfl, by simp, by decide⟩) (by rw [← nr_set (g := cntF f i) (g' := cntF f (i + 1)) (k := k) (v := cntF f i k + 1) (fun t _ => hcs t)]; rfl) (fun _ h => h) ?_
    refine we rfl (vs (wr ?_))
    refine wN rfl rfl rfl (v88 rfl ?_)
    refine wN (v := .ptr 4 0 0) rfl rfl rfl (v88 rfl ?_)
    refine wN rfl rfl rfl (v88 rfl ?_)
    refine wN (v := .ptr 3 k 0) rfl (g_indexN (H := [VO.arr 25 4 [[.str b.name, .int .i64 b.kind, b.tx, b.sx]], VO.arr 3 1 (nr b.types.length (mstF b f i)), VO.arr 3 1 (nr b.types.length (cntF f (i + 1))), VO.arr 3 1 (nr b.types.length (twF b f i)), VO.arr 64 2 [[.int .i64 y.type, .str y.data]]]) el35 rfl (by omega) (by omega) (by omega)) rfl (v88 rfl ?_)
    refine wN (v := .int .i64 (twF b f i k : Nat)) rfl (g_load (H := [VO.arr 25 4 [[.str b.name, .int .i64 b.kind, b.tx, b.sx]], VO.arr 3 1 (nr b.types.length (mstF b f i)), VO.arr 3 1 (nr b.types.length (cntF f (i + 1))), VO.arr 3 1 (nr b.types.length (twF b f i)), VO.arr 64 2 [[.int .i64 y.type, .str y.data]]]) (l := 3) rfl (nr_at hkt) rfl) rfl (v88 rfl ?_)
    refine wN (v := .int .i64 ((twF b f i k + 1 : Nat) : Int)) rfl (int_eq (by rw [i64_small (by omega) (by omega)]; omega)) rfl (v88 rfl ?_)
    refine wN (v := .ptr 3 k 0) rfl (g_indexN (H := [VO.arr 25 4 [[.str b.name, .int .i64 b.kind, b.tx, b.sx]], VO.arr 3 1 (nr b.types.length (mstF b f i)), VO.arr 3 1 (nr b.types.length (cntF f (i + 1))), VO.arr 3 1 (nr b.types.length (twF b f i)), VO.arr 64 2 [[.int .i64 y.type, .str y.data]]]) el35 rfl (by omega) (by omega) (by omega)) rfl (v88 rfl ?_)
    refine w_op0N (H2 := [VO.arr 25 4 [[.str b.name, .int .i64 b.kind, b.tx, b.sx]], VO.arr 3 1 (nr b.types.length (mstF b f i)), VO.arr 3 1 (nr b.types.length (cntF f (i + 1))), VO.arr 3 1 (nr b.types.length (twA b f i k)), VO.arr 64 2 [[.int .i64 y.type, .str y.data]]]) rfl (g_store (H := [VO.arr 25 4 [[.str b.name, .int .i64 b.kind, b.tx, b.sx]], VO.arr 3 1 (nr b.types.length (mstF b f i)), VO.arr 3 1 (nr b.types.length (cntF f (i + 1))), VO.arr 3 1 (nr b.types.length (twF b f i)), VO.arr 64 2 [[.int .i64 y.type, .str y.data]]]) (l := 3) rfl (nr_at hkt) rfl sz3 ⟨rfl, by simp, by decide⟩) (by rw [← nr_set (g := twF b f i) (g' := twA b f i k) (k := k) (v := twF b f i k + 1) (fun t _ => by unfold twA twF; split; rename_i e; rw [e]; rfl)]; rfl) (fun _ h => h) ?_
    refine we rfl (vs (w_regionD (by kernel_rfl) ?_))
    refine dN rfl rfl rfl (d88 rfl ?_)
    refine dN (v := .ptr 4 0 0) rfl rfl rfl (d88 rfl ?_)
    iterate 2 refine dN rfl rfl rfl (d88 rfl ?_)
    refine dN (v := .ptr 4 0 0) rfl rfl rfl (d88 rfl ?_)
    refine dN rfl rfl rfl (d88 rfl ?_)
    refine dN (v := .ptr 1 k 0) rfl (g_indexN (H := [VO.arr 25 4 [[.str b.name, .int .i64 b.kind, b.tx, b.sx]], VO.arr 3 1 (nr b.types.length (mstF b f i)), VO.arr 3 1 (nr b.types.length (cntF f (i + 1))), VO.arr 3 1 (nr b.types.length (twA b f i k)), VO.arr 64 2 [[.int .i64 y.type, .str y.data]]]) el35 rfl (by omega) (by omega) (by omega)) rfl (d88 rfl ?_)
    refine dN (v := .int .i64 (mstF b f i k : Nat)) rfl (g_load (H := [VO.arr 25 4 [[.str b.name, .int .i64 b.kind, b.tx, b.sx]], VO.arr 3 1 (nr b.types.length (mstF b f i)), VO.arr 3 1 (nr b.types.length (cntF f (i + 1))), VO.arr 3 1 (nr b.types.length (twA b f i k)), VO.arr 64 2 [[.int .i64 y.type, .str y.data]]]) (l := 1) rfl (nr_at hkt) rfl) rfl (d88 rfl ?_)
    refine dN rfl rfl rfl (d88 rfl ?_)
    refine dN (v := .ptr 4 0 0) rfl rfl rfl (d88 rfl ?_)
    refine dN rfl rfl rfl (d88 rfl ?_)
    refine dN (v := .ptr 3 k 0) rfl (g_indexN (H := [VO.arr 25 4 [[.str b.name, .int .i64 b.kind, b.tx, b.sx]], VO.arr 3 1 (nr b.types.length (mstF b f i)), VO.arr 3 1 (nr b.types.length (cntF f (i + 1))), VO.arr 3 1 (nr b.types.length (twA b f i k)), VO.arr 64 2 [[.int .i64 y.type, .str y.data]]]) el35 rfl (by omega) (by omega) (by omega)) rfl (d88 rfl ?_)
    refine dN (v := .int .i64 (twA b f i k k : Nat)) rfl (g_load (H := [VO.arr 25 4 [[.str b.name, .int .i64 b.kind, b.tx, b.sx]], VO.arr 3 1 (nr b.types.length (mstF b f i)), VO.arr 3 1 (nr b.types.length (cntF f (i + 1))), VO.arr 3 1 (nr b.types.length (twA b f i k)), VO.arr 64 2 [[.int .i64 y.type, .str y.data]]]) (l := 3) rfl (nr_at hkt) rfl) rfl (d88 rfl ?_)
    refine dN (v := .int .i64 ((max (mstF b f i k) (twA b f i k k) : Nat) : Int)) rfl (int_eq (by simp only [if_true]; split <;> omega)) rfl (d88 rfl ?_)
    refine dN (v := .ptr 1 k 0) rfl (g_indexN (H := [VO.arr 25 4 [[.str b.name, .int .i64 b.kind, b.tx, b.sx]], VO.arr 3 1 (nr b.types.length (mstF b f i)), VO.arr 3 1 (nr b.types.length (cntF f (i + 1))), VO.arr 3 1 (nr b.types.length (twA b f i k)), VO.arr 64 2 [[.int .i64 y.type, .str y.data]]]) el35 rfl (by omega) (by omega) (by omega)) rfl (d88 rfl ?_)
    refine d_op0 (H2 := [VO.arr 25 4 [[.str b.name, .int .i64 b.kind, b.tx, b.sx]], VO.arr 3 1 (nr b.types.length (mstF b f (i + 1))), VO.arr 3 1 (nr b.types.length (cntF f (i + 1))), VO.arr 3 1 (nr b.types.length (twA b f i k)), VO.arr 64 2 [[.int .i64 y.type, .str y.data]]]) rfl (g_store (H := [VO.arr 25 4 [[.str b.name, .int .i64 b.kind, b.tx, b.sx]], VO.arr 3 1 (nr b.types.length (mstF b f i)), VO.arr 3 1 (nr b.types.length (cntF f (i + 1))), VO.arr 3 1 (nr b.types.length (twA b f i k)), VO.arr 64 2 [[.int .i64 y.type, .str y.data]]]) (l := 1) rfl (nr_at hkt) rfl sz3 ⟨rfl, by simp, by decide⟩) (.inl rfl) (by rw [← nr_set (g := mstF b f i) (g' := mstF b f (i + 1)) (k := k) (v := max (mstF b f i k) (twA b f i k k)) (fun t ht => hms t ht)]; rfl) (fun _ h => h) ?_
    refine d_end rfl (vs (wr ?_))
    refine wN (v := .ptr 0 0 2) rfl rfl rfl (v88 rfl ?_)
    refine wN rfl rfl rfl (v88 rfl ?_)
    first | refine wN rfl rfl rfl (v88 rfl ?_) | refine x_len rfl rfl ‹_› Tryz.underlying22 rfl (v88 rfl ?_)
    refine wN rfl rfl rfl (v88 rfl ?_)
    refine we rfl (vc_block ?_)
    refine vc_loopN (α := { j : Nat // j ≤ b.types.length }) (fun a => (rnone 13 ++ ([some .undef, some .undef] ++ (rnone 56 ++ ([some (.int .i64 (a.1 : Nat))] ++ (rundef 13 ++ ([none, none, none]))))))) (fun a => [VO.arr 25 4 [[.str b.name, .int .i64 b.kind, b.tx, b.sx]], VO.arr 3 1 (nr b.types.length (mstF b f (i + 1))), VO.arr 3 1 (nr b.types.length (cntF f (i + 1))), VO.arr 3 1 (nr b.types.length (twB b f i k a.1)), VO.arr 64 2 [[.int .i64 y.type, .str y.data]]]) (fun a => b.types.length - a.1) ⟨0, by omega⟩ [0, 1, 2, 3, 4] (by repeat' first | exact trivial | refine ⟨.inl rfl, ?_⟩ | refine ⟨.inr rfl, ?_⟩ | refine ⟨.inr (IsL.ren1 ‹_›), ?_⟩ | refine ⟨(.inr (base_ren hL hLs)), ?_⟩ | fail) (by decide) (fun _ h => absurd h (by omega)) ⟨.inr ⟨_, rfl, ren_arr (base_renO hL hLs)⟩, .inr ⟨_, rfl, ren_arr (ren_rows nr_val)⟩, .inr ⟨_, rfl, ren_arr (ren_rows nr_val)⟩, .inr ⟨_, rfl, by rw [← twB_zero]; exact ren_arr (ren_rows nr_val)⟩, .inr ⟨_, rfl, rfl⟩, trivial⟩ (fun a => ⟨Nat.zero_le _, (by repeat' first | exact trivial | exact .inr ⟨_, rfl, rfl⟩ | exact IsL.valN ‹_› | exact (base_N hL hLs) | (intro x hx; simp at hx; rcases hx with rfl | rfl <;> trivial) | refine ⟨?_, ?_⟩ | fail), ⟨(fun r hr x hx => by simp at hr; subst hr; simp at hx; rcases hx with rfl | rfl | rfl | rfl <;> first | trivial | exact IsL.leafN (by assumption)), rowsN_val nr_val, rowsN_val nr_val, rowsN_val nr_val, (fun r hr x hx => by simp at hr; subst hr; simp at hx; rcases hx with rfl | rfl <;> trivial), trivial⟩⟩) ?_
    rintro ⟨j, hj⟩ Y3 hY3
    refine vc_norm (env' := (_ :: _ :: _ :: _ :: _ :: _ :: _ :: _ :: _ :: _ :: _ :: _ :: _ :: _ :: _ :: _ :: _ :: _ :: _ :: _ :: _ :: _ :: _ :: _ :: _ :: _ :: _ :: _ :: _ :: _ :: _ :: _ :: _ :: _ :: _ :: _ :: _ :: _ :: _ :: _ :: _ :: _ :: _ :: _ :: _ :: _ :: _ :: _ :: _ :: _ :: _ :: _ :: _ :: _ :: _ :: _ :: _ :: _ :: _ :: _ :: _ :: _ :: _ :: _ :: _ :: _ :: _ :: _ :: _ :: _ :: _ :: (.int .i64 (j : Int)) :: _ :: _ :: _ :: _ :: _ :: _ :: _ :: _ :: _ :: _ :: _ :: _ :: _ :: _ :: _ :: _ :: [])) (H' := [VO.arr 25 4 [[.str b.name, .int .i64 b.kind, b.tx, b.sx]], VO.arr 3 1 (nr b.types.length (mstF b f (i + 1))), VO.arr 3 1 (nr b.types.length (cntF f (i + 1))), VO.arr 3 1 (nr b.types.length (twB b f i k j)), VO.arr 64 2 [[.int .i64 y.type, .str y.data]]]) rfl rfl ?_
    refine vs (wr ?_)
    refine wN rfl rfl rfl (v88 rfl ?_)
    refine we rfl (vs ?_)
    refine vc_cond rfl (fun hc72 => ?_) (fun hc72 => ?_)
    ·
     have hjl : j < b.types.length := by have := of_decide_eq_true hc72; omega
     obtain ⟨t, ht⟩ : ∃ t, b.types[j]? = some t := ⟨_, List.getElem?_eq_getElem hjl⟩
     have hrt : (lrows b.tx)[j]? = some [.str t.name, .int .i64 t.parent, .int .i64 t.min, .int .i64 t.size, t.fx, .int .i64 t.key, .bool t.unique, .bool t.last] := by rw [hb.types.rows, List.getElem?_map, ht]; rfl
     have hpj : parentOf b.types (j : Int) = t.parent := by simp only [parentOf, Int.toNat_natCast, ht]
     refine vc_skip (n_then (vs (vc_block (vs (wr ?_)))))
     refine wN rfl rfl rfl (v88 rfl ?_)
     first | refine wN (v := .iptr _ [_, _, _, _, _, _, _, _]) rfl rfl rfl (v88 rfl ?_) | (refine x_index rfl rfl ‹_› rfl el22 (by omega) ‹_› rfl (fun bo => ?_); refine v88 rfl ?_)
     refine wN (v := .agg [_, _, _, _, _, _, _, _]) rfl rfl rfl (v88 rfl ?_)
     refine w_opH (v := .ptr 5 0 0) (env' := _) (H2 := [VO.arr 25 4 [[.str b.name, .int .i64 b.kind, b.tx, b.sx]], VO.arr 3 1 (nr b.types.length (mstF b f (i + 1))), VO.arr 3 1 (nr b.types.length (cntF f (i + 1))), VO.arr 3 1 (nr b.types.length (twB b f i k j)), VO.arr 64 2 [[.int .i64 y.type, .str y.data]], .arr 62 8 [[_, _, _, _, _, _, _, _]]]) rfl rfl rfl rfl (fun _ h => h) (v88 rfl ?_)
     refine wN rfl rfl rfl (v88 rfl ?_)
     refine w_op0N (H2 := [VO.arr 25 4 [[.str b.name, .int .i64 b.kind, b.tx, b.sx]], VO.arr 3 1 (nr b.types.length (mstF b f (i + 1))), VO.arr 3 1 (nr b.types.length (cntF f (i + 1))), VO.arr 3 1 (nr b.types.length (twB b f i k j)), VO.arr 64 2 [[.int .i64 y.type, .str y.data]], VO.arr 62 8 [[.str t.name, .int .i64 t.parent, .int .i64 t.min, .int .i64 t.size, t.fx, .int .i64 t.key, .bool t.unique, .bool t.last]]]) rfl rfl rfl (fun _ h => h) ?_
     refine we rfl (vs (wr ?_))
     refine wN (v := .ptr 5 0 1) rfl rfl rfl (v88 rfl ?_)
     refine wN rfl rfl rfl (v88 rfl ?_)
     refine wN (v := .ptr 4 0 0) rfl rfl rfl (v88 rfl ?_)
     iterate 2 refine wN rfl rfl rfl (v88 rfl ?_)
     refine we rfl ?_
     refine vc_cond rfl (fun hc80 => ?_) (fun hc80 => ?_)
     ·
      have hpe : parentOf b.types (j : Int) = (k : Int) := by have := eq_of_beq hc80; rw [hpj]; omega
      refine wr ?_
      iterate 2 refine wN rfl rfl rfl (v88 rfl ?_)
      refine wN (v := .ptr 3 j 0) rfl (g_indexN (H := [VO.arr 25 4 [[.str b.name, .int .i64 b.kind, b.tx, b.sx]], VO.arr 3 1 (nr b.types.length (mstF b f (i + 1))), VO.arr 3 1 (nr b.types.length (cntF f (i + 1))), VO.arr 3 1 (nr b.types.length (twB b f i k j)), VO.arr 64 2 [[.int .i64 y.type, .str y.data]], VO.arr 62 8 [[.str t.name, .int .i64 t.parent, .int .i64 t.min, .int .i64 t.size, t.fx, .int .i64 t.key, .bool t.unique, .bool t.last]]]) el35 rfl (by omega) (by omega) (by omega)) rfl (v88 rfl ?_)
      refine w_op0N (H2 := [VO.arr 25 4 [[.str b.name, .int .i64 b.kind, b.tx, b.sx]], VO.arr 3 1 (nr b.types.length (mstF b f (i + 1))), VO.arr 3 1 (nr b.types.length (cntF f (i + 1))), VO.arr 3 1 (nr b.types.length (twB b f i k (j + 1))), VO.arr 64 2 [[.int .i64 y.type, .str y.data]], VO.arr 62 8 [[.str t.name, .int .i64 t.parent, .int .i64 t.min, .int .i64 t.size, t.fx, .int .i64 t.key, .bool t.unique, .bool t.last]]]) rfl (g_store (H := [VO.arr 25 4 [[.str b.name, .int .i64 b.kind, b.tx, b.sx]], VO.arr 3 1 (nr b.types.length (mstF b f (i + 1))), VO.arr 3 1 (nr b.types.length (cntF f (i + 1))), VO.arr 3 1 (nr b.types.length (twB b f i k j)), VO.arr 64 2 [[.int .i64 y.type, .str y.data]], VO.arr 62 8 [[.str t.name, .int .i64 t.parent, .int .i64 t.min, .int .i64 t.size, t.fx, .int .i64 t.key, .bool t.unique, .bool t.last]]]) (l := 3) rfl (nr_at hjl) rfl sz3 ⟨rfl, by simp, by decide⟩) (by rw [← twB_hit hpe]; rfl) (fun _ h => h) ?_
      refine w_endB rfl (n_then (wr ?_))
      iterate 2 refine wN rfl rfl rfl (v88 rfl ?_)
      refine we rfl ?_
      refine hY3 ⟨j + 1, hjl⟩ (by simp only; omega) _ _ [0, 1, 2, 3, 4] ?_ (by decide) (fun _ h => absurd h (by omega)) ⟨.inr ⟨_, rfl, ren_arr (base_renO hL hLs)⟩, .inr ⟨_, rfl, ren_arr (ren_rows nr_val)⟩, .inr ⟨_, rfl, ren_arr (ren_rows nr_val)⟩, .inr ⟨_, rfl, ren_arr (ren_rows nr_val)⟩, .inr ⟨_, rfl, rfl⟩, trivial⟩
      repeat' first | exact trivial | refine ⟨.inl rfl, ?_⟩ | refine ⟨.inr rfl, ?_⟩ | refine ⟨.inr (IsL.ren1 ‹_›), ?_⟩ | refine ⟨(.inr (base_ren hL hLs)), ?_⟩ | refine ⟨(.inr ?_), ?_⟩ | fail
      all_goals first | exact congrArg some (int_succ (by omega)).symm
     ·
      have hpm : ¬ parentOf b.types (j : Int) = (k : Int) := by have := hc80; simp at this; rw [hpj]; omega
      refine vc_skip (n_block (n_then (wr ?_)))
      iterate 2 refine wN rfl rfl rfl (v88 rfl ?_)
      refine we rfl ?_
      refine hY3 ⟨j + 1, hjl⟩ (by simp only; omega) _ _ [0, 1, 2, 3, 4] ?_ (by decide) (fun _ h => absurd h (by omega)) ⟨.inr ⟨_, rfl, ren_arr (base_renO hL hLs)⟩, .inr ⟨_, rfl, ren_arr (ren_rows nr_val)⟩, .inr ⟨_, rfl, ren_arr (ren_rows nr_val)⟩, .inr ⟨_, rfl, by rw [← twB_miss hpm]; exact ren_arr (ren_rows nr_val)⟩, .inr ⟨_, rfl, rfl⟩, trivial⟩
      repeat' first | exact trivial | refine ⟨.inl rfl, ?_⟩ | refine ⟨.inr rfl, ?_⟩ | refine ⟨.inr (IsL.ren1 ‹_›), ?_⟩ | refine ⟨(.inr (base_ren hL hLs)), ?_⟩ | refine ⟨(.inr ?_), ?_⟩ | fail
      all_goals first | exact congrArg some (int_succ (by omega)).symm
    ·
     have hje : j = b.types.length := by have := of_decide_eq_false hc72; omega
     have htw : nr b.types.length (twF b f (i + 1)) = nr b.types.length (twB b f i k j) := by rw [hje]; exact nr_ext fun t ht => (hts t ht).symm
     refine vc_exit (x_then (x_then (x_same (n_block (n_then (wr ?_))))))
     iterate 2 refine wN rfl rfl rfl (v88 rfl ?_)
     refine we rfl ?_
     refine hY2 ⟨i + 1, hlt⟩ (by simp only; omega) _ _ [0, 1, 2, 3] ?_ (by decide) (fun _ h => absurd h (by omega)) ⟨.inr ⟨_, rfl, ren_arr (base_renO hL hLs)⟩, .inr ⟨_, rfl, ren_arr (ren_rows nr_val)⟩, .inr ⟨_, rfl, ren_arr (ren_rows nr_val)⟩, .inr ⟨_, rfl, by rw [htw]; exact ren_arr (ren_rows nr_val)⟩, trivial⟩
     repeat' first | exact trivial | refine ⟨.inl rfl, ?_⟩ | refine ⟨.inr rfl, ?_⟩ | refine ⟨.inr (IsL.ren1 ‹_›), ?_⟩ | refine ⟨(.inr (base_ren hL hLs)), ?_⟩ | refine ⟨(.inr ?_), ?_⟩ | fail
     all_goals first | exact congrArg some (int_succ (by omega)).symm
   ·
    have hge : ¬ i < f.length := by have := of_decide_eq_false hc36; omega
    obtain rfl : i = f.length := by omega
    refine vc_exit (x_then (x_then (x_same (n_then (vs (wr ?_))))))
    iterate 5 refine wN rfl rfl rfl (v88 rfl ?_)
    refine we rfl (vc_ret (r_fn rfl ?_))
    rw [statV, if_pos hf0]
    exact ret_tup3 (ret_row nr_val rfl (by rw [nr_len]; exact hxl)) (ret_row nr_val rfl (by rw [nr_len]; exact hxl)) rfl
set_option maxHeartbeats 8000000 in
theorem zRStat (G : Glob) (b : PB) (hb : BaseV b) (x : AV) (f : List PI) (hx : ItemsIs x f) : Vi.Fn Tryz.prog G 16 [.agg (encB b), x] (statV b f) := by
 have hL := hb.types.isL
 have hLs := hb.search.isL
 have htv := hb.txv
 have hsv := hb.sxv
 have hxl : (lrows b.tx).length = b.types.length := by rw [hb.types.rows]; simp
 have hXL := hx.isL
 have hfl : (lrows x).length = f.length := by rw [hx.rows]; simp
 have hxlen := hx.len
 have hask := zAskF G b hb x f hx .nils [] (.inl rfl) rfl (by simp)
 rw [ask_nil] at hask
 refine fn_body (fun _ => .iso) Tryz.func16 rfl ?_
 refine vc_norm (env' := (_ :: _ :: _ :: _ :: _ :: _ :: _ :: _ :: _ :: _ :: _ :: _ :: _ :: _ :: _ :: _ :: _ :: _ :: _ :: _ :: _ :: _ :: _ :: _ :: _ :: _ :: _ :: _ :: _ :: _ :: _ :: _ :: _ :: _ :: _ :: _ :: _ :: _ :: _ :: _ :: _ :: _ :: _ :: _ :: _ :: _ :: _ :: _ :: _ :: _ :: _ :: _ :: _ :: _ :: _ :: _ :: _ :: _ :: _ :: _ :: _ :: _ :: _ :: _ :: _ :: _ :: _ :: _ :: _ :: _ :: _ :: _ :: _ :: _ :: _ :: _ :: _ :: _ :: _ :: _ :: _ :: _ :: _ :: _ :: _ :: _ :: _ :: _ :: _ :: _ :: _ :: _ :: _ :: _ :: _ :: _ :: _ :: _ :: _ :: _ :: _ :: _ :: _ :: [])) (H' := []) rfl rfl ?_
 refine vs (wr ?_)
 refine w_opH (v := .ptr 0 0 0) (env' := _) (H2 := [.arr 25 4 [[_, _, _, _]]]) rfl rfl rfl rfl (fun _ h => h) (v103 rfl ?_)
 iterate 3 refine wN rfl rfl rfl (v103 rfl ?_)
 refine we rfl (vs (vs (wr ?_)))
 refine wN (v := .agg [_, _, _, _]) rfl rfl rfl (v103 rfl ?_)
 refine wN rfl rfl rfl (v103 rfl ?_)
 refine w_callI (env' := _) rfl rfl rfl (by kernel_rfl) rfl (by repeat' first | exact IsL.lend ‹_› | exact IsL.lend0 ‹_› | refine mapL_cons ?_ ?_ | refine lend_agg ?_ | rfl) (hask) rfl (v103 rfl ?_)
 refine wN rfl rfl rfl (v103 rfl ?_)
 refine we rfl (vs (wr ?_))
 iterate 2 refine wN rfl rfl rfl (v103 rfl ?_)
 refine we rfl ?_
 refine vc_cond rfl (fun hc22 => ?_) (fun hc22 => ?_)
 ·
  refine vs (wr ?_)
  iterate 4 refine wN rfl rfl rfl (v103 rfl ?_)
  refine we rfl (vc_ret (r_then (r_fn rfl ?_)))
  have hne : ¬ forestE b f = 0 := by simpa using hc22
  show some (AV.tup [.nils, .nils, .int .i64 (forestE b f)]) = some (statV b f)
  rw [statV, if_neg hne]
 ·
  have hf0 : forestE b f = 0 := by simpa using hc22
  have hv : baseOk b = true ∧ validP b f = true := by unfold forestE at hf0; split at hf0; rename_i h1; split at hf0; rename_i h2; exact ⟨h1, h2⟩; cases hf0; cases hf0
  have hr : rightP b f = true := by rw [← valid_right hv.1]; exact hv.2
  obtain ⟨hU, h8⟩ := base_ups hv.1
  refine vc_skip (n_then (vs ?_))
  refine w_regionO 3 7 (by kernel_rfl) (by kernel_rfl) ?_ ?_
  ·
   refine one_order [0, 1, 2, 3, 4, 5, 6, 7, 8, 9] [(0, 0), (0, 0), (0, 0), (0, 1), (0, 1), (0, 1), (0, 1), (1, 2), (1, 2), (2, 2)] [[VO.arr 25 4 [[.str b.name, .int .i64 b.kind, b.tx, b.sx]], VO.arr 3 1 (List.replicate (lrows b.tx).length [AV.int .i64 0])], [VO.arr 25 4 [[.str b.name, .int .i64 b.kind, b.tx, b.sx]], VO.arr 3 1 (List.replicate (lrows b.tx).length [AV.int .i64 0]), VO.arr 3 1 (List.replicate (lrows b.tx).length [AV.int .i64 0])]] (by kernel_rfl) (by kernel_rfl) (by kernel_rfl) ?_
   show vopsW _ _ _ _ _ _ _ (_ :: _ :: _ :: _ :: _ :: _ :: _ :: _ :: _ :: _ :: []) _ _ _
   refine e_op (v := .ptr 0 0 2) (env' := _) rfl (by decide) (show _ = (0, 0) by kernel_rfl) (by decide) (fun _ _ h => h) (fun q h1 h2 => rfl) rfl (w103 rfl ?_)
   refine e_op (v := b.tx) (env' := _) rfl (by decide) (show _ = (0, 0) by kernel_rfl) (by decide) (fun _ _ h => h) (fun q h1 h2 => match q, h2 with | 0, _ => rfl | 1, _ => rfl | 2, _ => rfl | q + 3, h2 => absurd h2 (by omega)) rfl (w103 rfl ?_)
   refine e_op (v := .int .i64 ((lrows b.tx).length : Nat)) (env' := _) rfl (by decide) (show _ = (0, 0) by kernel_rfl) (by decide) (fun _ _ h => h) (fun q h1 h2 => len_map hL Tryz.underlying22) rfl (w103 rfl ?_)
   refine e_eff (H0 := [VO.arr 25 4 [[.str b.name, .int .i64 b.kind, b.tx, b.sx]]]) (H1 := [VO.arr 25 4 [[.str b.name, .int .i64 b.kind, b.tx, b.sx]], VO.arr 3 1 (List.replicate (lrows b.tx).length [AV.int .i64 0])]) (v := .row true 1 0 (lrows b.tx).length) (env' := _) rfl rfl (show _ = (0, 1) by kernel_rfl) rfl rfl (fun _ _ h => h) (g_make (k := .i64) (n := (lrows b.tx).length) (by_ := 8) el35 zc3 by3 rfl (by decide) (by decide) (by rw [hxl]; omega)) rfl (w103 rfl ?_)
   refine e_op (v := .ptr 0 0 2) (env' := _) rfl (by decide) (show _ = (0, 1) by kernel_rfl) (by decide) (fun _ _ h => h) (fun q h1 h2 => rfl) rfl (w103 rfl ?_)
   refine e_op (v := b.tx) (env' := _) rfl (by decide) (show _ = (0, 1) by kernel_rfl) (by decide) (fun _ _ h => h) (fun q h1 h2 => match q, h2 with | 0, _ => rfl | 1, _ => rfl | 2, _ => rfl | q + 3, h2 => absurd h2 (by omega)) rfl (w103 rfl ?_)
   refine e_op (v := .int .i64 ((lrows b.tx).length : Nat)) (env' := _) rfl (by decide) (show _ = (0, 1) by kernel_rfl) (by decide) (fun _ _ h => h) (fun q h1 h2 => len_map hL Tryz.underlying22) rfl (w103 rfl ?_)
   refine e_eff (H0 := [VO.arr 25 4 [[.str b.name, .int .i64 b.kind, b.tx, b.sx]], VO.arr 3 1 (List.replicate (lrows b.tx).length [AV.int .i64 0])]) (H1 := [VO.arr 25 4 [[.str b.name, .int .i64 b.kind, b.tx, b.sx]], VO.arr 3 1 (List.replicate (lrows b.tx).length [AV.int .i64 0]), VO.arr 3 1 (List.replicate (lrows b.tx).length [AV.int .i64 0])]) (v := .row true 2 0 (lrows b.tx).length) (env' := _) rfl rfl (show _ = (1, 2) by kernel_rfl) rfl rfl (fun _ _ h => h) (g_make (k := .i64) (n := (lrows b.tx).length) (by_ := 8) el35 zc3 by3 rfl (by decide) (by decide) (by rw [hxl]; omega)) rfl (w103 rfl ?_)
   refine e_op (env' := _) rfl (by decide) (show _ = (1, 2) by kernel_rfl) (by decide) (fun _ _ h => h) (fun q h1 h2 => rfl) rfl (w103 rfl ?_)
   refine e_op (env' := _) rfl (by decide) (show _ = (2, 2) by kernel_rfl) (by decide) (fun _ _ h => h) (fun q h1 h2 => rfl) rfl (w103 rfl ?_)
   refine e_end rfl ?_
   refine vs (vs (wr ?_))
   refine wN rfl rfl rfl (v103 rfl ?_)
   refine we rfl (vc_block ?_)
   refine vc_loopX (α := { i : Nat // i ≤ b.types.length }) (fun a => (rnone 10 ++ ([some (.int .i64 (a.1 : Nat))] ++ (rundef 7 ++ (rnone 14 ++ (rundef 69 ++ ([none, none]))))))) (fun a => [VO.arr 25 4 [[.str b.name, .int .i64 b.kind, b.tx, b.sx]], VO.arr 3 1 (nr b.types.length (cR f a.1 0)), VO.arr 3 1 (nr b.types.length (mR b f a.1 0))]) (fun a => b.types.length - a.1) ⟨0, by omega⟩ (by repeat' first | exact trivial | refine ⟨.inr rfl, ?_⟩ | refine ⟨.inl rfl, ?_⟩ | fail) (by show [VO.arr 25 4 [[.str b.name, .int .i64 b.kind, b.tx, b.sx]], VO.arr 3 1 (List.replicate (lrows b.tx).length [AV.int .i64 0]), VO.arr 3 1 (List.replicate (lrows b.tx).length [AV.int .i64 0])] = [VO.arr 25 4 [[.str b.name, .int .i64 b.kind, b.tx, b.sx]], VO.arr 3 1 (nr b.types.length (cR f 0 0)), VO.arr 3 1 (nr b.types.length (mR b f 0 0))]; rw [cR_zero, mR_zero, hxl, nr_zero]) ?_
   rintro ⟨i, hi⟩ Y0 hY0
   refine vc_norm (env' := (_ :: _ :: _ :: _ :: _ :: _ :: _ :: _ :: _ :: _ :: (.int .i64 (i : Int)) :: _ :: _ :: _ :: _ :: _ :: _ :: _ :: _ :: _ :: _ :: _ :: _ :: _ :: _ :: _ :: _ :: _ :: _ :: _ :: _ :: _ :: _ :: _ :: _ :: _ :: _ :: _ :: _ :: _ :: _ :: _ :: _ :: _ :: _ :: _ :: _ :: _ :: _ :: _ :: _ :: _ :: _ :: _ :: _ :: _ :: _ :: _ :: _ :: _ :: _ :: _ :: _ :: _ :: _ :: _ :: _ :: _ :: _ :: _ :: _ :: _ :: _ :: _ :: _ :: _ :: _ :: _ :: _ :: _ :: _ :: _ :: _ :: _ :: _ :: _ :: _ :: _ :: _ :: _ :: _ :: _ :: _ :: _ :: _ :: _ :: _ :: _ :: _ :: _ :: _ :: _ :: _ :: [])) (H' := [VO.arr 25 4 [[.str b.name, .int .i64 b.kind, b.tx, b.sx]], VO.arr 3 1 (nr b.types.length (cR f i 0)), VO.arr 3 1 (nr b.types.length (mR b f i 0))]) rfl rfl ?_
   refine vs (vs (wr ?_))
   refine wN rfl rfl rfl (v103 rfl ?_)
   refine wN (v := .ptr 0 0 2) rfl rfl rfl (v103 rfl ?_)
   refine wN rfl rfl rfl (v103 rfl ?_)
   first | refine wN rfl rfl rfl (v103 rfl ?_) | refine x_len rfl rfl ‹_› Tryz.underlying22 rfl (v103 rfl ?_)
   refine wN rfl rfl rfl (v103 rfl ?_)
   refine we rfl ?_
   refine vc_cond rfl (fun hc36 => ?_) (fun hc36 => ?_)
   ·
    have hit : i < b.types.length := by have := of_decide_eq_true hc36; omega
    refine vc_skip (n_then (vs (vc_block (vs (wr ?_)))))
    refine wN rfl rfl rfl (v103 rfl ?_)
    refine we rfl (vc_block ?_)
    refine vc_loopX (α := { j : Nat // j ≤ f.length }) (fun a => (rnone 11 ++ ([some (.int .i64 (a.1 : Nat))] ++ (rundef 6 ++ (rnone 21 ++ (rundef 62 ++ ([none, none]))))))) (fun a => [VO.arr 25 4 [[.str b.name, .int .i64 b.kind, b.tx, b.sx]], VO.arr 3 1 (nr b.types.length (cR f i a.1)), VO.arr 3 1 (nr b.types.length (mR b f i a.1))]) (fun a => f.length - a.1) ⟨0, by omega⟩ (by repeat' first | exact trivial | refine ⟨.inr rfl, ?_⟩ | refine ⟨.inl rfl, ?_⟩ | fail) rfl ?_
    rintro ⟨j, hj⟩ Y1 hY1
    refine vc_norm (env' := (_ :: _ :: _ :: _ :: _ :: _ :: _ :: _ :: _ :: _ :: _ :: (.int .i64 (j : Int)) :: _ :: _ :: _ :: _ :: _ :: _ :: _ :: _ :: _ :: _ :: _ :: _ :: _ :: _ :: _ :: _ :: _ :: _ :: _ :: _ :: _ :: _ :: _ :: _ :: _ :: _ :: _ :: _ :: _ :: _ :: _ :: _ :: _ :: _ :: _ :: _ :: _ :: _ :: _ :: _ :: _ :: _ :: _ :: _ :: _ :: _ :: _ :: _ :: _ :: _ :: _ :: _ :: _ :: _ :: _ :: _ :: _ :: _ :: _ :: _ :: _ :: _ :: _ :: _ :: _ :: _ :: _ :: _ :: _ :: _ :: _ :: _ :: _ :: _ :: _ :: _ :: _ :: _ :: _ :: _ :: _ :: _ :: _ :: _ :: _ :: _ :: _ :: _ :: _ :: _ :: _ :: [])) (H' := [VO.arr 25 4 [[.str b.name, .int .i64 b.kind, b.tx, b.sx]], VO.arr 3 1 (nr b.types.length (cR f i j)), VO.arr 3 1 (nr b.types.length (mR b f i j))]) rfl rfl ?_
    refine vs (vs (wr ?_))
    iterate 2 refine wN rfl rfl rfl (v103 rfl ?_)
    first | refine wN rfl rfl rfl (v103 rfl ?_) | refine x_len rfl rfl ‹_› Tryz.underlying26 rfl (v103 rfl ?_)
    refine wN rfl rfl rfl (v103 rfl ?_)
    refine we rfl ?_
    refine vc_cond rfl (fun hc42 => ?_) (fun hc42 => ?_)
    ·
     have hlt : j < f.length := by have := of_decide_eq_true hc42; omega
     obtain ⟨y, hyy⟩ : ∃ y, f[j]? = some y := ⟨_, List.getElem?_eq_getElem hlt⟩
     have hri := hx.at hyy
     have hpar := par_call hv.1 hr hlt (zParentF G b hb x f hx (j : Int))
     refine vc_skip (n_then (vs (vc_block (vs (vs (wr ?_))))))
     iterate 2 refine wN rfl rfl rfl (v103 rfl ?_)
     first | refine wN (v := .iptr _ [_, _]) rfl rfl rfl (v103 rfl ?_) | (refine x_index rfl rfl ‹_› rfl el26 (by omega) ‹_› rfl (fun bo => ?_); refine v103 rfl ?_)
     refine wN (v := .iptr _ [_, _]) rfl rfl rfl (v103 rfl ?_)
     iterate 3 refine wN rfl rfl rfl (v103 rfl ?_)
     refine we rfl ?_
     refine vc_cond rfl (fun hc51 => ?_) (fun hc51 => ?_)
     ·
      have hny : ¬ y.type = (i : Int) := by have := hc51; simp at this; exact this
      refine vc_exit (x_then (x_same (n_then (wr ?_))))
      iterate 3 refine wN rfl rfl rfl (v103 rfl ?_)
      refine we rfl ?_
      refine hY1 ⟨j + 1, hlt⟩ (by simp only; omega) _ _ ?_ (by show [VO.arr 25 4 [[.str b.name, .int .i64 b.kind, b.tx, b.sx]], VO.arr 3 1 (nr b.types.length (cR f i j)), VO.arr 3 1 (nr b.types.length (mR b f i j))] = [VO.arr 25 4 [[.str b.name, .int .i64 b.kind, b.tx, b.sx]], VO.arr 3 1 (nr b.types.length (cR f i (j + 1))), VO.arr 3 1 (nr b.types.length (mR b f i (j + 1)))]; rw [cR_miss (fun h => hny ((ty_nat hyy).1 h)), mR_miss (fun h => hny ((ty_nat hyy).1 h))])
      repeat' first | exact trivial | refine ⟨.inr rfl, ?_⟩ | refine ⟨.inl rfl, ?_⟩ | refine ⟨.inl ?_, ?_⟩ | fail
      all_goals first | exact (int_succ (by omega)).symm
     ·
      have hyi : y.type = (i : Int) := by have := hc51; simp at this; exact this
      have hpe := par_ty hyy hyi (b := b)
      have hcl := cnt_le (f := f) (t := i) (i := j)
      have hml := mr_cnt (b := b) (f := f) (t := i) (n := f.length) (i := j)
      have hgl := grp_cnt (b := b) (f := f) (t := i) (p := par b f j) (i := f.length)
      refine vc_skip (n_then (vs (wr ?_)))
      iterate 2 refine wN rfl rfl rfl (v103 rfl ?_)
      refine wN (v := .ptr 1 i 0) rfl (g_indexN (H := [VO.arr 25 4 [[.str b.name, .int .i64 b.kind, b.tx, b.sx]], VO.arr 3 1 (nr b.types.length (cR f i j)), VO.arr 3 1 (nr b.types.length (mR b f i j))]) el35 rfl (by omega) (by omega) rfl) rfl (v103 rfl ?_)
      refine wN (v := .int .i64 (cR f i j i : Nat)) rfl (g_load (H := [VO.arr 25 4 [[.str b.name, .int .i64 b.kind, b.tx, b.sx]], VO.arr 3 1 (nr b.types.length (cR f i j)), VO.arr 3 1 (nr b.types.length (mR b f i j))]) (l := 1) rfl (nr_at hit) rfl) rfl (v103 rfl ?_)
      refine wN (v := .int .i64 ((cntT f i j + 1 : Nat) : Int)) rfl (int_eq (by rw [cR_at, i64_small (by omega) (by omega)]; omega)) rfl (v103 rfl ?_)
      refine wN (v := .ptr 1 i 0) rfl (g_indexN (H := [VO.arr 25 4 [[.str b.name, .int .i64 b.kind, b.tx, b.sx]], VO.arr 3 1 (nr b.types.length (cR f i j)), VO.arr 3 1 (nr b.types.length (mR b f i j))]) el35 rfl (by omega) (by omega) rfl) rfl (v103 rfl ?_)
      refine w_op0N (H2 := [VO.arr 25 4 [[.str b.name, .int .i64 b.kind, b.tx, b.sx]], VO.arr 3 1 (nr b.types.length (cR f i (j + 1))), VO.arr 3 1 (nr b.types.length (mR b f i j))]) rfl (g_store (H := [VO.arr 25 4 [[.str b.name, .int .i64 b.kind, b.tx, b.sx]], VO.arr 3 1 (nr b.types.length (cR f i j)), VO.arr 3 1 (nr b.types.length (mR b f i j))]) (l := 1) rfl (nr_at hit) rfl sz3 ⟨rfl, by simp, by decide⟩) (by rw [← cR_hit ((ty_nat hyy).2 hyi)]; rfl) (fun _ h => h) ?_
      refine we rfl (vs (wr ?_))
      refine wN (v := .agg [_, _, _, _]) rfl rfl rfl (v103 rfl ?_)
      iterate 2 refine wN rfl rfl rfl (v103 rfl ?_)
      refine w_callI (env' := _) rfl rfl rfl (by kernel_rfl) rfl (by repeat' first | exact IsL.lend ‹_› | exact IsL.lend0 ‹_› | refine mapL_cons ?_ ?_ | refine lend_agg ?_ | rfl) (hpar) rfl (v103 rfl ?_)
      iterate 5 refine wN rfl rfl rfl (v103 rfl ?_)
      refine we rfl (vs (wr ?_))
      refine wN rfl rfl rfl (v103 rfl ?_)
      refine we rfl (vs (vs (wr ?_)))
      refine wN rfl rfl rfl (v103 rfl ?_)
      refine we rfl (vc_block ?_)
      refine vc_loopX (α := { m : Nat // m ≤ f.length }) (fun a => (rnone 14 ++ ([some (.int .i64 (grp b f i (par b f j) a.1 : Nat)), some (.int .i64 (a.1 : Nat)), some .undef, some .undef] ++ (rnone 47 ++ (rundef 27 ++ (rnone 11)))))) (fun a => [VO.arr 25 4 [[.str b.name, .int .i64 b.kind, b.tx, b.sx]], VO.arr 3 1 (nr b.types.length (cR f i (j + 1))), VO.arr 3 1 (nr b.types.length (mR b f i j))]) (fun a => f.length - a.1) ⟨0, by omega⟩ (by repeat' first | exact trivial | refine ⟨.inr rfl, ?_⟩ | refine ⟨.inl rfl, ?_⟩ | fail) rfl ?_
      rintro ⟨m, hm⟩ Y2 hY2
      refine vc_norm (env' := (_ :: _ :: _ :: _ :: _ :: _ :: _ :: _ :: _ :: _ :: _ :: _ :: _ :: _ :: (.int .i64 (grp b f i (par b f j) m : Nat)) :: (.int .i64 (m : Int)) :: _ :: _ :: _ :: _ :: _ :: _ :: _ :: _ :: _ :: _ :: _ :: _ :: _ :: _ :: _ :: _ :: _ :: _ :: _ :: _ :: _ :: _ :: _ :: _ :: _ :: _ :: _ :: _ :: _ :: _ :: _ :: _ :: _ :: _ :: _ :: _ :: _ :: _ :: _ :: _ :: _ :: _ :: _ :: _ :: _ :: _ :: _ :: _ :: _ :: _ :: _ :: _ :: _ :: _ :: _ :: _ :: _ :: _ :: _ :: _ :: _ :: _ :: _ :: _ :: _ :: _ :: _ :: _ :: _ :: _ :: _ :: _ :: _ :: _ :: _ :: _ :: _ :: _ :: _ :: _ :: _ :: _ :: _ :: _ :: _ :: _ :: _ :: [])) (H' := [VO.arr 25 4 [[.str b.name, .int .i64 b.kind, b.tx, b.sx]], VO.arr 3 1 (nr b.types.length (cR f i (j + 1))), VO.arr 3 1 (nr b.types.length (mR b f i j))]) rfl rfl ?_
      refine vs (vs (wr ?_))
      iterate 2 refine wN rfl rfl rfl (v103 rfl ?_)
      first | refine wN rfl rfl rfl (v103 rfl ?_) | refine x_len rfl rfl ‹_› Tryz.underlying26 rfl (v103 rfl ?_)
      refine wN rfl rfl rfl (v103 rfl ?_)
      refine we rfl ?_
      refine vc_cond rfl (fun hc68 => ?_) (fun hc68 => ?_)
      ·
       have hmlt : m < f.length := by have := of_decide_eq_true hc68; omega
       obtain ⟨z, hzz⟩ : ∃ z, f[m]? = some z := ⟨_, List.getElem?_eq_getElem hmlt⟩
       have hrm := hx.at hzz
       have hpam := par_call hv.1 hr hmlt (zParentF G b hb x f hx (m : Int))
       refine vc_skip (n_then (vs (vc_block (vs (wr ?_)))))
       refine wN (v := .agg [_, _, _, _]) rfl rfl rfl (v103 rfl ?_)
       iterate 2 refine wN rfl rfl rfl (v103 rfl ?_)
       refine w_callI (env' := _) rfl rfl rfl (by kernel_rfl) rfl (by repeat' first | exact IsL.lend ‹_› | exact IsL.lend0 ‹_› | refine mapL_cons ?_ ?_ | refine lend_agg ?_ | rfl) (hpam) rfl (v103 rfl ?_)
       iterate 5 refine wN rfl rfl rfl (v103 rfl ?_)
       refine we rfl (vs (wr ?_))
       iterate 2 refine wN rfl rfl rfl (v103 rfl ?_)
       first | refine wN (v := .iptr _ [_, _]) rfl rfl rfl (v103 rfl ?_) | (refine x_index rfl rfl ‹_› rfl el26 (by omega) ‹_› rfl (fun bo => ?_); refine v103 rfl ?_)
       refine wN (v := .iptr _ [_, _]) rfl rfl rfl (v103 rfl ?_)
       iterate 4 refine wN rfl rfl rfl (v103 rfl ?_)
       refine w_split 85 rfl (fun hg85 => ?_) (fun hg85 => ?_)
       ·
        have hzi : z.type = (i : Int) := eq_of_beq hg85
        have hgl2 := grp_cnt (b := b) (f := f) (t := i) (p := par b f j) (i := m)
        refine v103 rfl ?_
        iterate 3 refine wN (wanted_t 85 (by kernel_rfl) rfl) rfl rfl (v103 rfl ?_)
        refine wN rfl rfl rfl (v103 rfl ?_)
        refine we rfl ?_
        refine vc_cond rfl (fun hc89 => ?_) (fun hc89 => ?_)
        ·
         have hgm : grp b f i (par b f j) (m + 1) = grp b f i (par b f j) m + 1 := by rw [grp, if_pos ⟨(ty_nat hzz).2 hzi, by rw [← par_ty hzz hzi]; exact eq_of_beq hc89⟩]
         refine wr ?_
         refine wN rfl rfl rfl (v103 rfl ?_)
         refine wN (v := .int .i64 ((grp b f i (par b f j) m + 1 : Nat) : Int)) rfl (int_eq (by rw [i64_small (by omega) (by omega)]; omega)) rfl (v103 rfl ?_)
         refine wN rfl rfl rfl (v103 rfl ?_)
         refine w_endB rfl (n_then (wr ?_))
         iterate 3 refine wN rfl rfl rfl (v103 rfl ?_)
         refine we rfl ?_
         refine hY2 ⟨m + 1, hmlt⟩ (by simp only; omega) _ _ ?_ rfl
         repeat' first | exact trivial | refine ⟨.inr rfl, ?_⟩ | refine ⟨.inl rfl, ?_⟩ | refine ⟨.inl ?_, ?_⟩ | fail
         all_goals first | (show AV.int .i64 (grp b f i (par b f j) (m + 1) : Nat) = _; rw [hgm]) | exact (int_succ (by omega)).symm
        ·
         have hgm : grp b f i (par b f j) (m + 1) = grp b f i (par b f j) m := by rw [grp, if_neg (fun h => by rw [← par_ty hzz hzi] at h; have := h.2; simp at hc89; exact hc89 this)]; rfl
         refine vc_skip (n_block (n_then (wr ?_)))
         iterate 3 refine wN rfl rfl rfl (v103 rfl ?_)
         refine we rfl ?_
         refine hY2 ⟨m + 1, hmlt⟩ (by simp only; omega) _ _ ?_ rfl
         repeat' first | exact trivial | refine ⟨.inr rfl, ?_⟩ | refine ⟨.inl rfl, ?_⟩ | refine ⟨.inl ?_, ?_⟩ | fail
         all_goals first | (show AV.int .i64 (grp b f i (par b f j) (m + 1) : Nat) = _; rw [hgm]) | exact (int_succ (by omega)).symm
       ·
        have hgm : grp b f i (par b f j) (m + 1) = grp b f i (par b f j) m := by rw [grp, if_neg (fun h => by have := (ty_nat hzz).1 h.1; simp at hg85; exact hg85 this)]; rfl
        refine v103 rfl ?_
        iterate 3 refine wS (wanted_f 85 (by kernel_rfl) rfl) (v103 rfl ?_)
        refine wN rfl rfl rfl (v103 rfl ?_)
        refine we rfl ?_
        refine vc_false rfl ?_
        refine vc_skip (n_block (n_then (wr ?_)))
        iterate 3 refine wN rfl rfl rfl (v103 rfl ?_)
        refine we rfl ?_
        refine hY2 ⟨m + 1, hmlt⟩ (by simp only; omega) _ _ ?_ rfl
        repeat' first | exact trivial | refine ⟨.inr rfl, ?_⟩ | refine ⟨.inl rfl, ?_⟩ | refine ⟨.inl ?_, ?_⟩ | fail
        all_goals first | (show AV.int .i64 (grp b f i (par b f j) (m + 1) : Nat) = _; rw [hgm]) | exact (int_succ (by omega)).symm
      ·
       have hme : m = f.length := by have := of_decide_eq_false hc68; omega
       refine vc_exit (x_then (x_then (x_same (n_then (wr ?_)))))
       iterate 4 refine wN rfl rfl rfl (v103 rfl ?_)
       refine wN (v := .ptr 2 i 0) rfl (g_indexN (H := [VO.arr 25 4 [[.str b.name, .int .i64 b.kind, b.tx, b.sx]], VO.arr 3 1 (nr b.types.length (cR f i (j + 1))), VO.arr 3 1 (nr b.types.length (mR b f i j))]) el35 rfl (by omega) (by omega) rfl) rfl (v103 rfl ?_)
       refine wN (v := .int .i64 (mR b f i j i : Nat)) rfl (g_load (H := [VO.arr 25 4 [[.str b.name, .int .i64 b.kind, b.tx, b.sx]], VO.arr 3 1 (nr b.types.length (cR f i (j + 1))), VO.arr 3 1 (nr b.types.length (mR b f i j))]) (l := 2) rfl (nr_at hit) rfl) rfl (v103 rfl ?_)
       refine wN rfl rfl rfl (v103 rfl ?_)
       refine wN (v := .int .i64 ((max (mrT b f i f.length j) (grp b f i (par b f j) f.length) : Nat) : Int)) rfl (int_eq (by rw [mR_at, hme]; simp only [if_true]; split <;> omega)) rfl (v103 rfl ?_)
       refine wN (v := .ptr 2 i 0) rfl (g_indexN (H := [VO.arr 25 4 [[.str b.name, .int .i64 b.kind, b.tx, b.sx]], VO.arr 3 1 (nr b.types.length (cR f i (j + 1))), VO.arr 3 1 (nr b.types.length (mR b f i j))]) el35 rfl (by omega) (by omega) rfl) rfl (v103 rfl ?_)
       refine w_op0N (H2 := [VO.arr 25 4 [[.str b.name, .int .i64 b.kind, b.tx, b.sx]], VO.arr 3 1 (nr b.types.length (cR f i (j + 1))), VO.arr 3 1 (nr b.types.length (mR b f i (j + 1)))]) rfl (g_store (H := [VO.arr 25 4 [[.str b.name, .int .i64 b.kind, b.tx, b.sx]], VO.arr 3 1 (nr b.types.length (cR f i (j + 1))), VO.arr 3 1 (nr b.types.length (mR b f i j))]) (l := 2) rfl (nr_at hit) rfl sz3 ⟨rfl, by simp, by decide⟩) (by rw [← mR_hit ((ty_nat hyy).2 hyi) hpe]; rfl) (fun _ h => h) ?_
       refine w_endB rfl (n_then (wr ?_))
       iterate 3 refine wN rfl rfl rfl (v103 rfl ?_)
       refine we rfl ?_
       refine hY1 ⟨j + 1, hlt⟩ (by simp only; omega) _ _ ?_ rfl
       repeat' first | exact trivial | refine ⟨.inr rfl, ?_⟩ | refine ⟨.inl rfl, ?_⟩ | refine ⟨.inl ?_, ?_⟩ | fail
       all_goals first | exact (int_succ (by omega)).symm
    ·
     have hge : ¬ j < f.length := by have := of_decide_eq_false hc42; omega
     obtain rfl : j = f.length := by omega
     refine vc_exit (x_then (x_then (x_same (n_block (n_then (wr ?_))))))
     iterate 3 refine wN rfl rfl rfl (v103 rfl ?_)
     refine we rfl ?_
     refine hY0 ⟨i + 1, hit⟩ (by simp only; omega) _ _ ?_ (by show [VO.arr 25 4 [[.str b.name, .int .i64 b.kind, b.tx, b.sx]], VO.arr 3 1 (nr b.types.length (cR f i f.length)), VO.arr 3 1 (nr b.types.length (mR b f i f.length))] = _; rw [cR_next, mR_next])
     repeat' first | exact trivial | refine ⟨.inr rfl, ?_⟩ | refine ⟨.inl rfl, ?_⟩ | refine ⟨.inl ?_, ?_⟩ | fail
     all_goals first | exact (int_succ (by omega)).symm
   ·
    have hie : i = b.types.length := by have := of_decide_eq_false hc36; omega
    have e1 : nr b.types.length (cR f i 0) = nr b.types.length (cntF f f.length) := by rw [hie]; exact nr_ext fun t ht => by unfold cR cntF; rw [if_pos ht]
    have e2 : nr b.types.length (mR b f i 0) = nr b.types.length (mstF b f f.length) := by rw [hie]; exact nr_ext fun t ht => by unfold mR mstF; rw [if_pos ht]; exact most_eq hU ht
    refine vc_exit (x_then (x_then (x_same (n_then (vs (wr ?_))))))
    iterate 5 refine wN rfl rfl rfl (v103 rfl ?_)
    refine we rfl (vc_ret (r_fn rfl ?_))
    rw [statV, if_pos hf0]
    exact ret_tup3 (ret_row nr_val (by rw [← e1]; rfl) (by rw [nr_len]; exact hxl)) (ret_row nr_val (by rw [← e2]; rfl) (by rw [nr_len]; exact hxl)) rfl
  ·
   refine one_order [0, 1, 2, 4, 5, 6, 7, 3, 8, 9] [(0, 1), (0, 1), (0, 1), (1, 2), (0, 0), (0, 0), (0, 0), (0, 1), (2, 2), (2, 2)] [[VO.arr 25 4 [[.str b.name, .int .i64 b.kind, b.tx, b.sx]], VO.arr 3 1 (List.replicate (lrows b.tx).length [AV.int .i64 0])], [VO.arr 25 4 [[.str b.name, .int .i64 b.kind, b.tx, b.sx]], VO.arr 3 1 (List.replicate (lrows b.tx).length [AV.int .i64 0]), VO.arr 3 1 (List.replicate (lrows b.tx).length [AV.int .i64 0])]] (by kernel_rfl) (by kernel_rfl) (by kernel_rfl) ?_
   show vopsW _ _ _ _ _ _ _ (_ :: _ :: _ :: _ :: _ :: _ :: _ :: _ :: _ :: _ :: []) _ _ _
   refine e_op (v := .ptr 0 0 2) (env' := _) rfl (by decide) (show _ = (0, 1) by kernel_rfl) (by decide) (fun _ _ h => h) (fun q h1 h2 => rfl) rfl (w103 rfl ?_)
   refine e_op (v := b.tx) (env' := _) rfl (by decide) (show _ = (0, 1) by kernel_rfl) (by decide) (fun _ _ h => h) (fun q h1 h2 => match q, h2 with | 0, _ => rfl | 1, _ => rfl | 2, _ => rfl | q + 3, h2 => absurd h2 (by omega)) rfl (w103 rfl ?_)
   refine e_op (v := .int .i64 ((lrows b.tx).length : Nat)) (env' := _) rfl (by decide) (show _ = (0, 1) by kernel_rfl) (by decide) (fun _ _ h => h) (fun q h1 h2 => len_map hL Tryz.underlying22) rfl (w103 rfl ?_)
   refine e_op (v := .ptr 0 0 2) (env' := _) rfl (by decide) (show _ = (0, 0) by kernel_rfl) (by decide) (fun _ _ h => h) (fun q h1 h2 => rfl) rfl (w103 rfl ?_)
   refine e_op (v := b.tx) (env' := _) rfl (by decide) (show _ = (0, 0) by kernel_rfl) (by decide) (fun _ _ h => h) (fun q h1 h2 => match q, h2 with | 0, _ => rfl | 1, _ => rfl | 2, _ => rfl | q + 3, h2 => absurd h2 (by omega)) rfl (w103 rfl ?_)
   refine e_op (v := .int .i64 ((lrows b.tx).length : Nat)) (env' := _) rfl (by decide) (show _ = (0, 0) by kernel_rfl) (by decide) (fun _ _ h => h) (fun q h1 h2 => len_map hL Tryz.underlying22) rfl (w103 rfl ?_)
   refine e_eff (H0 := [VO.arr 25 4 [[.str b.name, .int .i64 b.kind, b.tx, b.sx]]]) (H1 := [VO.arr 25 4 [[.str b.name, .int .i64 b.kind, b.tx, b.sx]], VO.arr 3 1 (List.replicate (lrows b.tx).length [AV.int .i64 0])]) (v := .row true 1 0 (lrows b.tx).length) (env' := _) rfl rfl (show _ = (0, 1) by kernel_rfl) rfl rfl (fun _ _ h => h) (g_make (k := .i64) (n := (lrows b.tx).length) (by_ := 8) el35 zc3 by3 rfl (by decide) (by decide) (by rw [hxl]; omega)) rfl (w103 rfl ?_)
   refine e_eff (H0 := [VO.arr 25 4 [[.str b.name, .int .i64 b.kind, b.tx, b.sx]], VO.arr 3 1 (List.replicate (lrows b.tx).length [AV.int .i64 0])]) (H1 := [VO.arr 25 4 [[.str b.name, .int .i64 b.kind, b.tx, b.sx]], VO.arr 3 1 (List.replicate (lrows b.tx).length [AV.int .i64 0]), VO.arr 3 1 (List.replicate (lrows b.tx).length [AV.int .i64 0])]) (v := .row true 2 0 (lrows b.tx).length) (env' := _) rfl rfl (show _ = (1, 2) by kernel_rfl) rfl rfl (fun _ _ h => h) (g_make (k := .i64) (n := (lrows b.tx).length) (by_ := 8) el35 zc3 by3 rfl (by decide) (by decide) (by rw [hxl]; omega)) rfl (w103 rfl ?_)
   iterate 2 refine e_op (env' := _) rfl (by decide) (show _ = (2, 2) by kernel_rfl) (by decide) (fun _ _ h => h) (fun q h1 h2 => rfl) rfl (w103 rfl ?_)
   refine e_end rfl ?_
   refine vs (vs (wr ?_))
   refine wN rfl rfl rfl (v103 rfl ?_)
   refine we rfl (vc_block ?_)
   refine vc_loopX (α := { i : Nat // i ≤ b.types.length }) (fun a => (rnone 10 ++ ([some (.int .i64 (a.1 : Nat))] ++ (rundef 7 ++ (rnone 14 ++ (rundef 69 ++ ([none, none]))))))) (fun a => [VO.arr 25 4 [[.str b.name, .int .i64 b.kind, b.tx, b.sx]], VO.arr 3 1 (nr b.types.length (mR b f a.1 0)), VO.arr 3 1 (nr b.types.length (cR f a.1 0))]) (fun a => b.types.length - a.1) ⟨0, by omega⟩ (by repeat' first | exact trivial | refine ⟨.inr rfl, ?_⟩ | refine ⟨.inl rfl, ?_⟩ | fail) (by show [VO.arr 25 4 [[.str b.name, .int .i64 b.kind, b.tx, b.sx]], VO.arr 3 1 (List.replicate (lrows b.tx).length [AV.int .i64 0]), VO.arr 3 1 (List.replicate (lrows b.tx).length [AV.int .i64 0])] = [VO.arr 25 4 [[.str b.name, .int .i64 b.kind, b.tx, b.sx]], VO.arr 3 1 (nr b.types.length (mR b f 0 0)), VO.arr 3 1 (nr b.types.length (cR f 0 0))]; rw [cR_zero, mR_zero, hxl, nr_zero]) ?_
   rintro ⟨i, hi⟩ Y3 hY3
   refine vc_norm (env' := (_ :: _ :: _ :: _ :: _ :: _ :: _ :: _ :: _ :: _ :: (.int .i64 (i : Int)) :: _ :: _ :: _ :: _ :: _ :: _ :: _ :: _ :: _ :: _ :: _ :: _ :: _ :: _ :: _ :: _ :: _ :: _ :: _ :: _ :: _ :: _ :: _ :: _ :: _ :: _ :: _ :: _ :: _ :: _ :: _ :: _ :: _ :: _ :: _ :: _ :: _ :: _ :: _ :: _ :: _ :: _ :: _ :: _ :: _ :: _ :: _ :: _ :: _ :: _ :: _ :: _ :: _ :: _ :: _ :: _ :: _ :: _ :: _ :: _ :: _ :: _ :: _ :: _ :: _ :: _ :: _ :: _ :: _ :: _ :: _ :: _ :: _ :: _ :: _ :: _ :: _ :: _ :: _ :: _ :: _ :: _ :: _ :: _ :: _ :: _ :: _ :: _ :: _ :: _ :: _ :: _ :: [])) (H' := [VO.arr 25 4 [[.str b.name, .int .i64 b.kind, b.tx, b.sx]], VO.arr 3 1 (nr b.types.length (mR b f i 0)), VO.arr 3 1 (nr b.types.length (cR f i 0))]) rfl rfl ?_
   refine vs (vs (wr ?_))
   refine wN rfl rfl rfl (v103 rfl ?_)
   refine wN (v := .ptr 0 0 2) rfl rfl rfl (v103 rfl ?_)
   refine wN rfl rfl rfl (v103 rfl ?_)
   first | refine wN rfl rfl rfl (v103 rfl ?_) | refine x_len rfl rfl ‹_› Tryz.underlying22 rfl (v103 rfl ?_)
   refine wN rfl rfl rfl (v103 rfl ?_)
   refine we rfl ?_
   refine vc_cond rfl (fun hc36 => ?_) (fun hc36 => ?_)
   ·
    have hit : i < b.types.length := by have := of_decide_eq_true hc36; omega
    refine vc_skip (n_then (vs (vc_block (vs (wr ?_)))))
    refine wN rfl rfl rfl (v103 rfl ?_)
    refine we rfl (vc_block ?_)
    refine vc_loopX (α := { j : Nat // j ≤ f.length }) (fun a => (rnone 11 ++ ([some (.int .i64 (a.1 : Nat))] ++ (rundef 6 ++ (rnone 21 ++ (rundef 62 ++ ([none, none]))))))) (fun a => [VO.arr 25 4 [[.str b.name, .int .i64 b.kind, b.tx, b.sx]], VO.arr 3 1 (nr b.types.length (mR b f i a.1)), VO.arr 3 1 (nr b.types.length (cR f i a.1))]) (fun a => f.length - a.1) ⟨0, by omega⟩ (by repeat' first | exact trivial | refine ⟨.inr rfl, ?_⟩ | refine ⟨.inl rfl, ?_⟩ | fail) rfl ?_
    rintro ⟨j, hj⟩ Y4 hY4
    refine vc_norm (env' := (_ :: _ :: _ :: _ :: _ :: _ :: _ :: _ :: _ :: _ :: _ :: (.int .i64 (j : Int)) :: _ :: _ :: _ :: _ :: _ :: _ :: _ :: _ :: _ :: _ :: _ :: _ :: _ :: _ :: _ :: _ :: _ :: _ :: _ :: _ :: _ :: _ :: _ :: _ :: _ :: _ :: _ :: _ :: _ :: _ :: _ :: _ :: _ :: _ :: _ :: _ :: _ :: _ :: _ :: _ :: _ :: _ :: _ :: _ :: _ :: _ :: _ :: _ :: _ :: _ :: _ :: _ :: _ :: _ :: _ :: _ :: _ :: _ :: _ :: _ :: _ :: _ :: _ :: _ :: _ :: _ :: _ :: _ :: _ :: _ :: _ :: _ :: _ :: _ :: _ :: _ :: _ :: _ :: _ :: _ :: _ :: _ :: _ :: _ :: _ :: _ :: _ :: _ :: _ :: _ :: _ :: [])) (H' := [VO.arr 25 4 [[.str b.name, .int .i64 b.kind, b.tx, b.sx]], VO.arr 3 1 (nr b.types.length (mR b f i j)), VO.arr 3 1 (nr b.types.length (cR f i j))]) rfl rfl ?_
    refine vs (vs (wr ?_))
    iterate 2 refine wN rfl rfl rfl (v103 rfl ?_)
    first | refine wN rfl rfl rfl (v103 rfl ?_) | refine x_len rfl rfl ‹_› Tryz.underlying26 rfl (v103 rfl ?_)
    refine wN rfl rfl rfl (v103 rfl ?_)
    refine we rfl ?_
    refine vc_cond rfl (fun hc42 => ?_) (fun hc42 => ?_)
    ·
     have hlt : j < f.length := by have := of_decide_eq_true hc42; omega
     obtain ⟨y, hyy⟩ : ∃ y, f[j]? = some y := ⟨_, List.getElem?_eq_getElem hlt⟩
     have hri := hx.at hyy
     have hpar := par_call hv.1 hr hlt (zParentF G b hb x f hx (j : Int))
     refine vc_skip (n_then (vs (vc_block (vs (vs (wr ?_))))))
     iterate 2 refine wN rfl rfl rfl (v103 rfl ?_)
     first | refine wN (v := .iptr _ [_, _]) rfl rfl rfl (v103 rfl ?_) | (refine x_index rfl rfl ‹_› rfl el26 (by omega) ‹_› rfl (fun bo => ?_); refine v103 rfl ?_)
     refine wN (v := .iptr _ [_, _]) rfl rfl rfl (v103 rfl ?_)
     iterate 3 refine wN rfl rfl rfl (v103 rfl ?_)
     refine we rfl ?_
     refine vc_cond rfl (fun hc51 => ?_) (fun hc51 => ?_)
     ·
      have hny : ¬ y.type = (i : Int) := by have := hc51; simp at this; exact this
      refine vc_exit (x_then (x_same (n_then (wr ?_))))
      iterate 3 refine wN rfl rfl rfl (v103 rfl ?_)
      refine we rfl ?_
      refine hY4 ⟨j + 1, hlt⟩ (by simp only; omega) _ _ ?_ (by show [VO.arr 25 4 [[.str b.name, .int .i64 b.kind, b.tx, b.sx]], VO.arr 3 1 (nr b.types.length (mR b f i j)), VO.arr 3 1 (nr b.types.length (cR f i j))] = [VO.arr 25 4 [[.str b.name, .int .i64 b.kind, b.tx, b.sx]], VO.arr 3 1 (nr b.types.length (mR b f i (j + 1))), VO.arr 3 1 (nr b.types.length (cR f i (j + 1)))]; rw [cR_miss (fun h => hny ((ty_nat hyy).1 h)), mR_miss (fun h => hny ((ty_nat hyy).1 h))])
      repeat' first | exact trivial | refine ⟨.inr rfl, ?_⟩ | refine ⟨.inl rfl, ?_⟩ | refine ⟨.inl ?_, ?_⟩ | fail
      all_goals first | exact (int_succ (by omega)).symm
     ·
      have hyi : y.type = (i : Int) := by have := hc51; simp at this; exact this
      have hpe := par_ty hyy hyi (b := b)
      have hcl := cnt_le (f := f) (t := i) (i := j)
      have hml := mr_cnt (b := b) (f := f) (t := i) (n := f.length) (i := j)
      have hgl := grp_cnt (b := b) (f := f) (t := i) (p := par b f j) (i := f.length)
      refine vc_skip (n_then (vs (wr ?_)))
      iterate 2 refine wN rfl rfl rfl (v103 rfl ?_)
      refine wN (v := .ptr 2 i 0) rfl (g_indexN (H := [VO.arr 25 4 [[.str b.name, .int .i64 b.kind, b.tx, b.sx]], VO.arr 3 1 (nr b.types.length (mR b f i j)), VO.arr 3 1 (nr b.types.length (cR f i j))]) el35 rfl (by omega) (by omega) rfl) rfl (v103 rfl ?_)
      refine wN (v := .int .i64 (cR f i j i : Nat)) rfl (g_load (H := [VO.arr 25 4 [[.str b.name, .int .i64 b.kind, b.tx, b.sx]], VO.arr 3 1 (nr b.types.length (mR b f i j)), VO.arr 3 1 (nr b.types.length (cR f i j))]) (l := 2) rfl (nr_at hit) rfl) rfl (v103 rfl ?_)
      refine wN (v := .int .i64 ((cntT f i j + 1 : Nat) : Int)) rfl (int_eq (by rw [cR_at, i64_small (by omega) (by omega)]; omega)) rfl (v103 rfl ?_)
      refine wN (v := .ptr 2 i 0) rfl (g_indexN (H := [VO.arr 25 4 [[.str b.name, .int .i64 b.kind, b.tx, b.sx]], VO.arr 3 1 (nr b.types.length (mR b f i j)), VO.arr 3 1 (nr b.types.length (cR f i j))]) el35 rfl (by omega) (by omega) rfl) rfl (v103 rfl ?_)
      refine w_op0N (H2 := [VO.arr 25 4 [[.str b.name, .int .i64 b.kind, b.tx, b.sx]], VO.arr 3 1 (nr b.types.length (mR b f i j)), VO.arr 3 1 (nr b.types.length (cR f i (j + 1)))]) rfl (g_store (H := [VO.arr 25 4 [[.str b.name, .int .i64 b.kind, b.tx, b.sx]], VO.arr 3 1 (nr b.types.length (mR b f i j)), VO.arr 3 1 (nr b.types.length (cR f i j))]) (l := 2) rfl (nr_at hit) rfl sz3 ⟨rfl, by simp, by decide⟩) (by rw [← cR_hit ((ty_nat hyy).2 hyi)]; rfl) (fun _ h => h) ?_
      refine we rfl (vs (wr ?_))
      refine wN (v := .agg [_, _, _, _]) rfl rfl rfl (v103 rfl ?_)
      iterate 2 refine wN rfl rfl rfl (v103 rfl ?_)
      refine w_callI (env' := _) rfl rfl rfl (by kernel_rfl) rfl (by repeat' first | exact IsL.lend ‹_› | exact IsL.lend0 ‹_› | refine mapL_cons ?_ ?_ | refine lend_agg ?_ | rfl) (hpar) rfl (v103 rfl ?_)
      iterate 5 refine wN rfl rfl rfl (v103 rfl ?_)
      refine we rfl (vs (wr ?_))
      refine wN rfl rfl rfl (v103 rfl ?_)
      refine we rfl (vs (vs (wr ?_)))
      refine wN rfl rfl rfl (v103 rfl ?_)
      refine we rfl (vc_block ?_)
      refine vc_loopX (α := { m : Nat // m ≤ f.length }) (fun a => (rnone 14 ++ ([some (.int .i64 (grp b f i (par b f j) a.1 : Nat)), some (.int .i64 (a.1 : Nat)), some .undef, some .undef] ++ (rnone 47 ++ (rundef 27 ++ (rnone 11)))))) (fun a => [VO.arr 25 4 [[.str b.name, .int .i64 b.kind, b.tx, b.sx]], VO.arr 3 1 (nr b.types.length (mR b f i j)), VO.arr 3 1 (nr b.types.length (cR f i (j + 1)))]) (fun a => f.length - a.1) ⟨0, by omega⟩ (by repeat' first | exact trivial | refine ⟨.inr rfl, ?_⟩ | refine ⟨.inl rfl, ?_⟩ | fail) rfl ?_
      rintro ⟨m, hm⟩ Y5 hY5
      refine vc_norm (env' := (_ :: _ :: _ :: _ :: _ :: _ :: _ :: _ :: _ :: _ :: _ :: _ :: _ :: _ :: (.int .i64 (grp b f i (par b f j) m : Nat)) :: (.int .i64 (m : Int)) :: _ :: _ :: _ :: _ :: _ :: _ :: _ :: _ :: _ :: _ :: _ :: _ :: _ :: _ :: _ :: _ :: _ :: _ :: _ :: _ :: _ :: _ :: _ :: _ :: _ :: _ :: _ :: _ :: _ :: _ :: _ :: _ :: _ :: _ :: _ :: _ :: _ :: _ :: _ :: _ :: _ :: _ :: _ :: _ :: _ :: _ :: _ :: _ :: _ :: _ :: _ :: _ :: _ :: _ :: _ :: _ :: _ :: _ :: _ :: _ :: _ :: _ :: _ :: _ :: _ :: _ :: _ :: _ :: _ :: _ :: _ :: _ :: _ :: _ :: _ :: _ :: _ :: _ :: _ :: _ :: _ :: _ :: _ :: _ :: _ :: _ :: _ :: [])) (H' := [VO.arr 25 4 [[.str b.name, .int .i64 b.kind, b.tx, b.sx]], VO.arr 3 1 (nr b.types.length (mR b f i j)), VO.arr 3 1 (nr b.types.length (cR f i (j + 1)))]) rfl rfl ?_
      refine vs (vs (wr ?_))
      iterate 2 refine wN rfl rfl rfl (v103 rfl ?_)
      first | refine wN rfl rfl rfl (v103 rfl ?_) | refine x_len rfl rfl ‹_› Tryz.underlying26 rfl (v103 rfl ?_)
      refine wN rfl rfl rfl (v103 rfl ?_)
      refine we rfl ?_
      refine vc_cond rfl (fun hc68 => ?_) (fun hc68 => ?_)
      ·
       have hmlt : m < f.length := by have := of_decide_eq_true hc68; omega
       obtain ⟨z, hzz⟩ : ∃ z, f[m]? = some z := ⟨_, List.getElem?_eq_getElem hmlt⟩
       have hrm := hx.at hzz
       have hpam := par_call hv.1 hr hmlt (zParentF G b hb x f hx (m : Int))
       refine vc_skip (n_then (vs (vc_block (vs (wr ?_)))))
       refine wN (v := .agg [_, _, _, _]) rfl rfl rfl (v103 rfl ?_)
       iterate 2 refine wN rfl rfl rfl (v103 rfl ?_)
       refine w_callI (env' := _) rfl rfl rfl (by kernel_rfl) rfl (by repeat' first | exact IsL.lend ‹_› | exact IsL.lend0 ‹_› | refine mapL_cons ?_ ?_ | refine lend_agg ?_ | rfl) (hpam) rfl (v103 rfl ?_)
       iterate 5 refine wN rfl rfl rfl (v103 rfl ?_)
       refine we rfl (vs (wr ?_))
       iterate 2 refine wN rfl rfl rfl (v103 rfl ?_)
       first | refine wN (v := .iptr _ [_, _]) rfl rfl rfl (v103 rfl ?_) | (refine x_index rfl rfl ‹_› rfl el26 (by omega) ‹_› rfl (fun bo => ?_); refine v103 rfl ?_)
       refine wN (v := .iptr _ [_, _]) rfl rfl rfl (v103 rfl ?_)
       iterate 4 refine wN rfl rfl rfl (v103 rfl ?_)
       refine w_split 85 rfl (fun hg85 => ?_) (fun hg85 => ?_)
       ·
        have hzi : z.type = (i : Int) := eq_of_beq hg85
        have hgl2 := grp_cnt (b := b) (f := f) (t := i) (p := par b f j) (i := m)
        refine v103 rfl ?_
        iterate 3 refine wN (wanted_t 85 (by kernel_rfl) rfl) rfl rfl (v103 rfl ?_)
        refine wN rfl rfl rfl (v103 rfl ?_)
        refine we rfl ?_
        refine vc_cond rfl (fun hc89 => ?_) (fun hc89 => ?_)
        ·
         have hgm : grp b f i (par b f j) (m + 1) = grp b f i (par b f j) m + 1 := by rw [grp, if_pos ⟨(ty_nat hzz).2 hzi, by rw [← par_ty hzz hzi]; exact eq_of_beq hc89⟩]
         refine wr ?_
         refine wN rfl rfl rfl (v103 rfl ?_)
         refine wN (v := .int .i64 ((grp b f i (par b f j) m + 1 : Nat) : Int)) rfl (int_eq (by rw [i64_small (by omega) (by omega)]; omega)) rfl (v103 rfl ?_)
         refine wN rfl rfl rfl (v103 rfl ?_)
         refine w_endB rfl (n_then (wr ?_))
         iterate 3 refine wN rfl rfl rfl (v103 rfl ?_)
         refine we rfl ?_
         refine hY5 ⟨m + 1, hmlt⟩ (by simp only; omega) _ _ ?_ rfl
         repeat' first | exact trivial | refine ⟨.inr rfl, ?_⟩ | refine ⟨.inl rfl, ?_⟩ | refine ⟨.inl ?_, ?_⟩ | fail
         all_goals first | (show AV.int .i64 (grp b f i (par b f j) (m + 1) : Nat) = _; rw [hgm]) | exact (int_succ (by omega)).symm
        ·
         have hgm : grp b f i (par b f j) (m + 1) = grp b f i (par b f j) m := by rw [grp, if_neg (fun h => by rw [← par_ty hzz hzi] at h; have := h.2; simp at hc89; exact hc89 this)]; rfl
         refine vc_skip (n_block (n_then (wr ?_)))
         iterate 3 refine wN rfl rfl rfl (v103 rfl ?_)
         refine we rfl ?_
         refine hY5 ⟨m + 1, hmlt⟩ (by simp only; omega) _ _ ?_ rfl
         repeat' first | exact trivial | refine ⟨.inr rfl, ?_⟩ | refine ⟨.inl rfl, ?_⟩ | refine ⟨.inl ?_, ?_⟩ | fail
         all_goals first | (show AV.int .i64 (grp b f i (par b f j) (m + 1) : Nat) = _; rw [hgm]) | exact (int_succ (by omega)).symm
       ·
        have hgm : grp b f i (par b f j) (m + 1) = grp b f i (par b f j) m := by rw [grp, if_neg (fun h => by have := (ty_nat hzz).1 h.1; simp at hg85; exact hg85 this)]; rfl
        refine v103 rfl ?_
        iterate 3 refine wS (wanted_f 85 (by kernel_rfl) rfl) (v103 rfl ?_)
        refine wN rfl rfl rfl (v103 rfl ?_)
        refine we rfl ?_
        refine vc_false rfl ?_
        refine vc_skip (n_block (n_then (wr ?_)))
        iterate 3 refine wN rfl rfl rfl (v103 rfl ?_)
        refine we rfl ?_
        refine hY5 ⟨m + 1, hmlt⟩ (by simp only; omega) _ _ ?_ rfl
        repeat' first | exact trivial | refine ⟨.inr rfl, ?_⟩ | refine ⟨.inl rfl, ?_⟩ | refine ⟨.inl ?_, ?_⟩ | fail
        all_goals first | (show AV.int .i64 (grp b f i (par b f j) (m + 1) : Nat) = _; rw [hgm]) | exact (int_succ (by omega)).symm
      ·
       have hme : m = f.length := by have := of_decide_eq_false hc68; omega
       refine vc_exit (x_then (x_then (x_same (n_then (wr ?_)))))
       iterate 4 refine wN rfl rfl rfl (v103 rfl ?_)
       refine wN (v := .ptr 1 i 0) rfl (g_indexN (H := [VO.arr 25 4 [[.str b.name, .int .i64 b.kind, b.tx, b.sx]], VO.arr 3 1 (nr b.types.length (mR b f i j)), VO.arr 3 1 (nr b.types.length (cR f i (j + 1)))]) el35 rfl (by omega) (by omega) rfl) rfl (v103 rfl ?_)
       refine wN (v := .int .i64 (mR b f i j i : Nat)) rfl (g_load (H := [VO.arr 25 4 [[.str b.name, .int .i64 b.kind, b.tx, b.sx]], VO.arr 3 1 (nr b.types.length (mR b f i j)), VO.arr 3 1 (nr b.types.length (cR f i (j + 1)))]) (l := 1) rfl (nr_at hit) rfl) rfl (v103 rfl ?_)
       refine wN rfl rfl rfl (v103 rfl ?_)
       refine wN (v := .int .i64 ((max (mrT b f i f.length j) (grp b f i (par b f j) f.length) : Nat) : Int)) rfl (int_eq (by rw [mR_at, hme]; simp only [if_true]; split <;> omega)) rfl (v103 rfl ?_)
       refine wN (v := .ptr 1 i 0) rfl (g_indexN (H := [VO.arr 25 4 [[.str b.name, .int .i64 b.kind, b.tx, b.sx]], VO.arr 3 1 (nr b.types.length (mR b f i j)), VO.arr 3 1 (nr b.types.length (cR f i (j + 1)))]) el35 rfl (by omega) (by omega) rfl) rfl (v103 rfl ?_)
       refine w_op0N (H2 := [VO.arr 25 4 [[.str b.name, .int .i64 b.kind, b.tx, b.sx]], VO.arr 3 1 (nr b.types.length (mR b f i (j + 1))), VO.arr 3 1 (nr b.types.length (cR f i (j + 1)))]) rfl (g_store (H := [VO.arr 25 4 [[.str b.name, .int .i64 b.kind, b.tx, b.sx]], VO.arr 3 1 (nr b.types.length (mR b f i j)), VO.arr 3 1 (nr b.types.length (cR f i (j + 1)))]) (l := 1) rfl (nr_at hit) rfl sz3 ⟨rfl, by simp, by decide⟩) (by rw [← mR_hit ((ty_nat hyy).2 hyi) hpe]; rfl) (fun _ h => h) ?_
       refine w_endB rfl (n_then (wr ?_))
       iterate 3 refine wN rfl rfl rfl (v103 rfl ?_)
       refine we rfl ?_
       refine hY4 ⟨j + 1, hlt⟩ (by simp only; omega) _ _ ?_ rfl
       repeat' first | exact trivial | refine ⟨.inr rfl, ?_⟩ | refine ⟨.inl rfl, ?_⟩ | refine ⟨.inl ?_, ?_⟩ | fail
       all_goals first | exact (int_succ (by omega)).symm
    ·
     have hge : ¬ j < f.length := by have := of_decide_eq_false hc42; omega
     obtain rfl : j = f.length := by omega
     refine vc_exit (x_then (x_then (x_same (n_block (n_then (wr ?_))))))
     iterate 3 refine wN rfl rfl rfl (v103 rfl ?_)
     refine we rfl ?_
     refine hY3 ⟨i + 1, hit⟩ (by simp only; omega) _ _ ?_ (by show [VO.arr 25 4 [[.str b.name, .int .i64 b.kind, b.tx, b.sx]], VO.arr 3 1 (nr b.types.length (mR b f i f.length)), VO.arr 3 1 (nr b.types.length (cR f i f.length))] = _; rw [cR_next, mR_next])
     repeat' first | exact trivial | refine ⟨.inr rfl, ?_⟩ | refine ⟨.inl rfl, ?_⟩ | refine ⟨.inl ?_, ?_⟩ | fail
     all_goals first | exact (int_succ (by omega)).symm
   ·
    have hie : i = b.types.length := by have := of_decide_eq_false hc36; omega
    have e1 : nr b.types.length (cR f i 0) = nr b.types.length (cntF f f.length) := by rw [hie]; exact nr_ext fun t ht => by unfold cR cntF; rw [if_pos ht]
    have e2 : nr b.types.length (mR b f i 0) = nr b.types.length (mstF b f f.length) := by rw [hie]; exact nr_ext fun t ht => by unfold mR mstF; rw [if_pos ht]; exact most_eq hU ht
    refine vc_exit (x_then (x_then (x_same (n_then (vs (wr ?_))))))
    iterate 5 refine wN rfl rfl rfl (v103 rfl ?_)
    refine we rfl (vc_ret (r_fn rfl ?_))
    rw [statV, if_pos hf0]
    exact ret_tup3 (ret_row nr_val (by rw [← e1]; rfl) (by rw [nr_len]; exact hxl)) (ret_row nr_val (by rw [← e2]; rfl) (by rw [nr_len]; exact hxl)) rfl
end Go.Vi
