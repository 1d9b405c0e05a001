/- Part of the proof of the tied card of CareTexts: forests: the reference; both agree. Conditions: none of its own. -/
import Derived.Test.YtenfndlbldffgaaGreatDoorCd
set_option autoImplicit false
set_option linter.unusedVariables false
set_option linter.unusedSimpArgs false
set_option maxRecDepth 100000
namespace Go.Vi
open Go Go.Vi Go.Proofs
attribute [local irreducible] vops vopsD vc
def forestE (b : PB) (f : List PI) : Int := if baseOk b = true then (if validP b f = true then 0 else 120) else 100
def near (f : List PI) (pt : Int) : Nat → Int
 | 0 => -1
 | k + 1 => if isTy f pt (k : Int) = true then (k : Int) else near f pt k
def par (b : PB) (f : List PI) (i : Nat) : Int := match f[i]? with
 | some y => if parentOf b.types y.type ≥ 0 then near f (parentOf b.types y.type) i else -1
 | none => -1
theorem near_lt {f : List PI} {pt : Int} : ∀ {k : Nat}, -1 ≤ near f pt k ∧ near f pt k < k
 | 0 => by simp [near]
 | k + 1 => by
   have := near_lt (f := f) (pt := pt) (k := k)
   simp only [near]
   split <;> omega
theorem par_lt {b : PB} {f : List PI} {i : Nat} : -1 ≤ par b f i ∧ par b f i < i := by
 unfold par
 split
 · split
   · exact near_lt
   · omega
 · omega
theorem near_hit {f : List PI} {pt : Int} {k : Nat} (h0 : 0 < k) (h : isTy f pt ((k - 1 : Nat) : Int) = true) : near f pt k = ((k - 1 : Nat) : Int) := by
 cases k with
 | zero => omega
 | succ k =>
   simp only [near]
   rw [if_pos (by simpa using h)]
   simp
theorem near_miss {f : List PI} {pt : Int} {k : Nat} (h0 : 0 < k) (h : isTy f pt ((k - 1 : Nat) : Int) = false) : near f pt k = near f pt (k - 1) := by
 cases k with
 | zero => omega
 | succ k =>
   simp only [near]
   rw [if_neg (by rw [Nat.add_sub_cancel] at h; rw [h]; simp)]
   simp
def climb (b : PB) (f : List PI) (p : Int) : Nat → Int → Int
 | 0, k => k
 | n + 1, k => if k > p ∧ par b f k.toNat ≠ p then climb b f p n (par b f k.toNat) else k
theorem climb_fuel {b : PB} {f : List PI} {p : Int} (hp : -1 ≤ p) : ∀ (n m : Nat) (k : Int), (k + 1).toNat ≤ n → (k + 1).toNat ≤ m → climb b f p n k = climb b f p m k
 | 0, 0, k, _, _ => rfl
 | 0, m + 1, k, h, _ => by
   simp only [climb]
   rw [if_neg (by omega)]
 | n + 1, 0, k, _, h => by
   simp only [climb]
   rw [if_neg (by omega)]
 | n + 1, m + 1, k, h1, h2 => by
   simp only [climb]
   split
   · rename_i hc
     have := par_lt (b := b) (f := f) (i := k.toNat)
     exact climb_fuel hp n m _ (by omega) (by omega)
   · rfl
theorem climb_step {b : PB} {f : List PI} {p k : Int} (hp : -1 ≤ p) (hk : k > p) (h : par b f k.toNat ≠ p) : climb b f p (k + 1).toNat k = climb b f p (par b f k.toNat + 1).toNat (par b f k.toNat) := by
 have := par_lt (b := b) (f := f) (i := k.toNat)
 rw [show (k + 1).toNat = k.toNat + 1 by omega]
 simp only [climb]
 rw [if_pos ⟨hk, h⟩]
 exact climb_fuel hp _ _ _ (by omega) (by omega)
theorem climb_stop {b : PB} {f : List PI} {p k : Int} {n : Nat} (h : ¬ (k > p ∧ par b f k.toNat ≠ p)) : climb b f p n k = k := by
 cases n with
 | zero => rfl
 | succ n => simp only [climb]; rw [if_neg h]
def twinR (b : PB) (f : List PI) (k : Int) (y : PI) : Bool := match f[k.toNat]?, b.types[y.type.toNat]? with
 | some z, some t => decide (z.type > y.type) || (((z.type == y.type) && decide (t.key ≥ 0)) && (!(sless (keyOf t z.data) (keyOf t y.data) || seq (keyOf t z.data) (keyOf t y.data)) || (seq (keyOf t z.data) (keyOf t y.data) && t.unique)))
 | _, _ => true
def rightAt (b : PB) (f : List PI) (i : Nat) : Bool := match f[i]? with
 | some y => if par b f i < 0 ∧ y.type ≠ 0 then false
   else if climb b f (par b f i) i ((i : Int) - 1) < par b f i then false
   else if climb b f (par b f i) i ((i : Int) - 1) = par b f i then true
   else !twinR b f (climb b f (par b f i) i ((i : Int) - 1)) y
 | none => false
def rightP (b : PB) (f : List PI) : Bool := decide ((f.length : Int) ≤ 200) && f.all (fitsI b) && (List.range f.length).all (rightAt b f)
theorem right_noF {b : PB} {f : List PI} {i : Nat} {y : PI} (hy : f[i]? = some y) (h : fitsI b y = false) : rightP b f = false := by
 have : f.all (fitsI b) = false := List.all_eq_false.2 ⟨y, List.mem_of_getElem? hy, by rw [h]; simp⟩
 rw [rightP, this, Bool.and_false, Bool.false_and]
theorem right_no {b : PB} {f : List PI} {i : Nat} {y : PI} (hy : f[i]? = some y) (h : rightAt b f i = false) : rightP b f = false := by
 have : (List.range f.length).all (rightAt b f) = false := List.all_eq_false.2 ⟨i, List.mem_range.2 (List.getElem?_eq_some_iff.1 hy).1, by rw [h]; simp⟩
 rw [rightP, this, Bool.and_false]
def Fits (b : PB) (f : List PI) : Prop := ∀ y ∈ f, fitsI b y = true
set_option maxHeartbeats 8000000 in
theorem zPlainValid (G : Glob) (b : PB) (hb : BaseV b) (x : AV) (f : List PI) (hx : ItemsIs x f) : Vi.Fn Tryz.prog G 70 [.agg (encB b), x] (.tup [.bool (baseOk b && validP b f), .int .i64 (if baseOk b = true then 0 else 100)]) := by
 have hL := hb.types.isL
 have hLs := hb.search.isL
 have htv := hb.txv
 have hsv := hb.sxv
 have hxl : (lrows b.tx).length = b.types.length := by rw [hb.types.rows]; simp
 have hXL := hx.isL
 have hfl : (lrows x).length = f.length := by rw [hx.rows]; simp
 refine fn_body (fun _ => .iso) Tryz.func70 rfl ?_
 refine vc_norm (env' := [_, _, _, _, _, _, _, _, _, _, _, _]) (H' := []) rfl rfl ?_
 refine vs (wr ?_)
 refine w_opH (v := .ptr 0 0 0) (env' := _) (H2 := [.arr 25 4 [[_, _, _, _]]]) rfl rfl rfl rfl (fun _ h => h) (v12 rfl ?_)
 iterate 2 refine wN rfl rfl rfl (v12 rfl ?_)
 refine we rfl (vs (vs (wr ?_)))
 refine wN (v := .agg [_, _, _, _]) rfl rfl rfl (v12 rfl ?_)
 refine w_callI (env' := _) rfl rfl rfl (by kernel_rfl) rfl (by repeat' first | exact IsL.lend ‹_› | exact IsL.lend0 ‹_› | refine mapL_cons ?_ ?_ | refine lend_agg ?_ | rfl) (zValid G b hb.toBaseIs) rfl (v12 rfl ?_)
 refine wN rfl rfl rfl (v12 rfl ?_)
 refine we rfl ?_
 refine vc_cond rfl (fun hc8 => ?_) (fun hc8 => ?_)
 ·
  have hv : baseOk b = false := by simpa using hc8
  refine vs (wr ?_)
  iterate 2 refine wN rfl rfl rfl (v12 rfl ?_)
  refine we rfl (vc_ret (r_then (r_fn rfl ?_)))
  rw [hv]
  rfl
 ·
  have hv : baseOk b = true := by simpa using hc8
  refine vc_skip (n_then (vs (wr ?_)))
  refine wN (v := .agg [_, _, _, _]) rfl rfl rfl (v12 rfl ?_)
  refine wN rfl rfl rfl (v12 rfl ?_)
  refine w_callI (env' := _) rfl rfl rfl (by kernel_rfl) rfl (by repeat' first | exact IsL.lend ‹_› | exact IsL.lend0 ‹_› | refine mapL_cons ?_ ?_ | refine lend_agg ?_ | rfl) (zPValid G b hb hv x f hx) rfl (v12 rfl ?_)
  iterate 2 refine wN rfl rfl rfl (v12 rfl ?_)
  refine we rfl (vc_ret (r_fn rfl ?_))
  rw [hv]
  rfl
set_option maxHeartbeats 8000000 in
theorem zForest (G : Glob) (b : PB) (hb : BaseV b) (x : AV) (f : List PI) (hx : ItemsIs x f) : Vi.Fn Tryz.prog G 33 [.agg (encB b), x] (.int .i64 (forestE b f)) := by
 have hL := hb.types.isL
 have hLs := hb.search.isL
 have htv := hb.txv
 have hsv := hb.sxv
 have hxl : (lrows b.tx).length = b.types.length := by rw [hb.types.rows]; simp
 have hXL := hx.isL
 have hfl : (lrows x).length = f.length := by rw [hx.rows]; simp
 refine fn_body (fun _ => .iso) Tryz.func33 rfl ?_
 refine vc_norm (env' := [_, _, _, _, _, _, _, _, _, _, _, _, _, _, _, _, _, _, _, _]) (H' := []) rfl rfl ?_
 refine vs (wr ?_)
 refine w_opH (v := .ptr 0 0 0) (env' := _) (H2 := [.arr 25 4 [[_, _, _, _]]]) rfl rfl rfl rfl (fun _ h => h) (v20 rfl ?_)
 refine wN rfl rfl rfl (v20 rfl ?_)
 refine we rfl (vs (wr ?_))
 refine wN (v := .agg [_, _, _, _]) rfl rfl rfl (v20 rfl ?_)
 refine wN rfl rfl rfl (v20 rfl ?_)
 refine w_callI (env' := _) rfl rfl rfl (by kernel_rfl) rfl (by repeat' first | exact IsL.lend ‹_› | exact IsL.lend0 ‹_› | refine mapL_cons ?_ ?_ | refine lend_agg ?_ | rfl) (zPlainValid G b hb x f hx) rfl (v20 rfl ?_)
 iterate 5 refine wN rfl rfl rfl (v20 rfl ?_)
 refine we rfl (vs (vs (wr ?_)))
 iterate 3 refine wN rfl rfl rfl (v20 rfl ?_)
 refine w_split 15 rfl (fun hg15 => ?_) (fun hg15 => ?_)
 ·
  have hv : baseOk b = true := by by_cases h : baseOk b = true; exact h; rw [if_neg h] at hg15; simp at hg15
  refine v20 rfl ?_
  iterate 2 refine wN (wanted_t 15 (by kernel_rfl) rfl) rfl rfl (v20 rfl ?_)
  refine wN rfl rfl rfl (v20 rfl ?_)
  refine we rfl ?_
  refine vc_cond rfl (fun hc18 => ?_) (fun hc18 => ?_)
  ·
   have hvp : ¬ validP b f = true := by rw [hv] at hc18; simpa using hc18
   refine wr ?_
   refine wN rfl rfl rfl (v20 rfl ?_)
   refine we rfl (vs (wr ?_))
   iterate 2 refine wN rfl rfl rfl (v20 rfl ?_)
   refine we rfl (vc_ret (r_fn rfl ?_))
   simp only [forestE, if_pos hv, if_neg hvp]
   rfl
  ·
   have hvp : validP b f = true := by rw [hv] at hc18; simpa using hc18
   refine vc_skip (n_then (vs (wr ?_)))
   iterate 2 refine wN rfl rfl rfl (v20 rfl ?_)
   refine we rfl (vc_ret (r_fn rfl ?_))
   simp only [forestE, if_pos hv, if_pos hvp]
   rfl
 ·
  have hv : ¬ baseOk b = true := by intro h; rw [if_pos h] at hg15; simp at hg15
  refine v20 rfl ?_
  iterate 2 refine wS (wanted_f 15 (by kernel_rfl) rfl) (v20 rfl ?_)
  refine wN rfl rfl rfl (v20 rfl ?_)
  refine we rfl ?_
  refine vc_false rfl ?_
  refine vc_skip (n_then (vs (wr ?_)))
  iterate 2 refine wN rfl rfl rfl (v20 rfl ?_)
  refine we rfl (vc_ret (r_fn rfl ?_))
  simp only [forestE, if_neg hv]
  rfl
set_option maxHeartbeats 8000000 in
theorem zPar (G : Glob) (b : PB) (hb : BaseV b) (x : AV) (f : List PI) (hx : ItemsIs x f) (hF : Fits b f) (i : Int) (h0 : 0 ≤ i) (h1 : i < f.length) : Vi.Fn Tryz.prog G 92 [.agg (encB b), x, .int .i64 i] (.int .i64 (par b f i.toNat)) := by
 have hL := hb.types.isL
 have hLs := hb.search.isL
 have htv := hb.txv
 have hsv := hb.sxv
 have hxl : (lrows b.tx).length = b.types.length := by rw [hb.types.rows]; simp
 have hXL := hx.isL
 have hfl : (lrows x).length = f.length := by rw [hx.rows]; simp
 have hxlen := hx.len
 obtain ⟨y, hy⟩ : ∃ y, f[i.toNat]? = some y := ⟨_, List.getElem?_eq_getElem (by omega)⟩
 have hri := hx.at hy
 obtain ⟨t, ht, ht0, ht1, _, _⟩ := fits_type (hF y (List.mem_of_getElem? hy))
 have hrt : (lrows b.tx)[(y.type).toNat]? = some [.str t.name, .int .i64 t.parent, .int .i64 t.min, .int .i64 t.size, t.fx, .int .i64 t.key, .bool t.unique, .bool t.last] := by rw [hb.types.rows, List.getElem?_map, ht]; rfl
 have hpt : parentOf b.types y.type = t.parent := by simp only [parentOf, ht]
 have hpar : par b f i.toNat = if t.parent ≥ 0 then near f t.parent i.toNat else -1 := by rw [par, hy]; simp only [hpt]
 refine fn_body (fun _ => .iso) Tryz.func92 rfl ?_
 refine vc_norm (env' := (_ :: _ :: _ :: _ :: _ :: _ :: _ :: _ :: _ :: _ :: _ :: _ :: _ :: _ :: _ :: _ :: _ :: _ :: _ :: _ :: _ :: _ :: _ :: _ :: _ :: _ :: _ :: _ :: _ :: _ :: _ :: _ :: _ :: _ :: _ :: _ :: _ :: [])) (H' := []) rfl rfl ?_
 refine vs (wr ?_)
 refine w_opH (v := .ptr 0 0 0) (env' := _) (H2 := [.arr 25 4 [[_, _, _, _]]]) rfl rfl rfl rfl (fun _ h => h) (v37 rfl ?_)
 refine wN rfl rfl rfl (v37 rfl ?_)
 refine we rfl (vs (w_regionD (by kernel_rfl) ?_))
 refine dN (v := .ptr 0 0 2) rfl rfl rfl (d37 rfl ?_)
 iterate 3 refine dN rfl rfl rfl (d37 rfl ?_)
 first | refine dN (v := .iptr _ [_, _]) rfl rfl rfl (d37 rfl ?_) | (refine y_index rfl rfl ‹_› rfl el26 (by omega) ‹_› rfl (fun bo => ?_); refine d37 rfl ?_)
 refine dN (v := .iptr _ [_, _]) rfl rfl rfl (d37 rfl ?_)
 refine dN rfl rfl rfl (d37 rfl ?_)
 first | refine dN (v := .iptr _ [_, _, _, _, _, _, _, _]) rfl rfl rfl (d37 rfl ?_) | (refine y_index rfl rfl ‹_› rfl el22 (by omega) ‹_› rfl (fun bo => ?_); refine d37 rfl ?_)
 refine dN (v := .iptr _ [_, _, _, _, _, _, _]) rfl rfl rfl (d37 rfl ?_)
 iterate 2 refine dN rfl rfl rfl (d37 rfl ?_)
 refine d_end rfl (vs (vs (wr ?_)))
 refine wN rfl rfl rfl (v37 rfl ?_)
 refine wN (v := .int .i64 (i - 1)) rfl (int_eq (i64_small (by omega) (by omega))) rfl (v37 rfl ?_)
 refine wN rfl rfl rfl (v37 rfl ?_)
 refine we rfl (vc_block ?_)
 refine vc_loopU (α := { k : Nat // k ≤ i.toNat ∧ near f t.parent i.toNat = near f t.parent k }) (fun k => (rnone 6 ++ ([some .undef, none, some (.int .i64 ((k.1 : Nat) - 1))] ++ (rnone 12 ++ (rundef 16))))) (fun k => k.1) ⟨i.toNat, Nat.le_refl _, rfl⟩ (by repeat' first | exact trivial | refine ⟨.inr rfl, ?_⟩ | refine ⟨.inl rfl, ?_⟩ | refine ⟨.inl (congrArg (AV.int .i64) (by simp only; omega)), ?_⟩ | fail) (fun _ => ⟨Nat.zero_le _, (by repeat' first | exact trivial | exact IsL.belowV ‹_› | refine ⟨?_, ?_⟩ | exact IsL.below ‹_› | (simp [valB, leafB, cellsB, IsL.below, *]; done) | (simp [valB, leafB, cellsB, IsL.below, *]; omega) | fail), (by repeat' first | exact trivial | exact IsL.below (by assumption) | refine ⟨?_, ?_⟩ | (simp [leafB]; done))⟩) ?_
 rintro ⟨k, hk, hn⟩ Y0 hY0
 refine vc_norm (env' := (_ :: _ :: _ :: _ :: _ :: _ :: _ :: _ :: (.int .i64 ((k : Int) - 1)) :: _ :: _ :: _ :: _ :: _ :: _ :: _ :: _ :: _ :: _ :: _ :: _ :: _ :: _ :: _ :: _ :: _ :: _ :: _ :: _ :: _ :: _ :: _ :: _ :: _ :: _ :: _ :: _ :: [])) (H' := [.arr 25 4 [[_, _, _, _]]]) rfl rfl ?_
 refine vs (vs (wr ?_))
 iterate 3 refine wN rfl rfl rfl (v37 rfl ?_)
 refine w_split 23 rfl (fun hg23 => ?_) (fun hg23 => ?_)
 ·
  have hk1 : (k : Int) - 1 ≥ 0 := of_decide_eq_true hg23
  have hke : k = (k - 1) + 1 := by omega
  refine v37 rfl ?_
  iterate 2 refine wN (wanted_t 23 (by kernel_rfl) rfl) rfl rfl (v37 rfl ?_)
  refine wN rfl rfl rfl (v37 rfl ?_)
  refine we rfl ?_
  refine vc_cond rfl (fun hc26 => ?_) (fun hc26 => ?_)
  ·
   have hp0 : t.parent ≥ 0 := of_decide_eq_true hc26
   obtain ⟨z, hz⟩ : ∃ z, f[((k : Int) - 1).toNat]? = some z := ⟨_, List.getElem?_eq_getElem (by omega)⟩
   have hrz := hx.at hz
   have hty : isTy f t.parent ((k - 1 : Nat) : Int) = (z.type == t.parent) := by rw [isTy, show (((k - 1 : Nat) : Int)).toNat = ((k : Int) - 1).toNat by omega, hz]
   refine vc_skip (n_then (vs (vc_block (vs (wr ?_)))))
   iterate 2 refine wN rfl rfl rfl (v37 rfl ?_)
   first | refine wN (v := .iptr _ [_, _]) rfl rfl rfl (v37 rfl ?_) | (refine x_index rfl rfl ‹_› rfl el26 (by omega) ‹_› rfl (fun bo => ?_); refine v37 rfl ?_)
   refine wN (v := .iptr _ [_, _]) rfl rfl rfl (v37 rfl ?_)
   iterate 3 refine wN rfl rfl rfl (v37 rfl ?_)
   refine we rfl ?_
   refine vc_cond rfl (fun hc35 => ?_) (fun hc35 => ?_)
   ·
    refine vs (wr ?_)
    iterate 2 refine wN rfl rfl rfl (v37 rfl ?_)
    refine we rfl (vc_ret (r_block (r_then (r_then (r_block (r_then (r_fn rfl ?_)))))))
    rw [hpar, if_pos hp0, hn, near_hit (by omega) (by rw [hty, hc35])]
    show some (AV.int .i64 ((k : Int) - 1)) = some (AV.int .i64 ((k - 1 : Nat) : Int))
    congr 2
    omega
   ·
    refine vc_skip (n_block (n_then (wr ?_)))
    refine wN rfl rfl rfl (v37 rfl ?_)
    refine wN (v := .int .i64 (((k - 1 : Nat) : Int) - 1)) rfl (int_eq (by rw [i64_small (by omega) (by omega)]; omega)) rfl (v37 rfl ?_)
    refine wN rfl rfl rfl (v37 rfl ?_)
    refine we rfl ?_
    refine hY0 ⟨k - 1, by omega, by rw [hn]; exact near_miss (by omega) (by rw [hty, hc35])⟩ (by simp only; omega) _ _ _ ?_ rfl
    repeat' first | exact trivial | refine ⟨.inr rfl, ?_⟩ | refine ⟨.inl rfl, ?_⟩ | refine ⟨.inl ?_, ?_⟩ | fail
    all_goals first | exact rfl
  ·
   have hp0 : ¬ t.parent ≥ 0 := of_decide_eq_false hc26
   refine vc_exit (x_then (x_then (x_same (n_then (vs (wr ?_))))))
   refine wN rfl rfl rfl (v37 rfl ?_)
   refine we rfl (vc_ret (r_fn rfl ?_))
   rw [hpar, if_neg hp0]
   rfl
 ·
  have hk1 : ¬ (k : Int) - 1 ≥ 0 := of_decide_eq_false hg23
  refine v37 rfl ?_
  iterate 2 refine wS (wanted_f 23 (by kernel_rfl) rfl) (v37 rfl ?_)
  refine wN rfl rfl rfl (v37 rfl ?_)
  refine we rfl ?_
  refine vc_false rfl ?_
  refine vc_exit (x_then (x_then (x_same (n_then (vs (wr ?_))))))
  refine wN rfl rfl rfl (v37 rfl ?_)
  refine we rfl (vc_ret (r_fn rfl ?_))
  rw [hpar, hn, show k = 0 by omega]
  show some (AV.int .i64 (-1)) = _
  simp only [near, ite_self]
set_option maxHeartbeats 8000000 in
theorem zKeyR (G : Glob) (b : PB) (hb : BaseV b) (y : PI) (t : PT) (hys : y.data.size < 9223372036854775808) (h0 : 0 ≤ y.type) (ht : b.types[y.type.toNat]? = some t) (hk : KeyIn t y.data) : Vi.Fn Tryz.prog G 104 [.agg (encB b), .agg (encI y)] (.str (keyOf t y.data)) := by
 have hL := hb.types.isL
 have hLs := hb.search.isL
 have htv := hb.txv
 have hsv := hb.sxv
 have hxl : (lrows b.tx).length = b.types.length := by rw [hb.types.rows]; simp
 have hlt := (List.getElem?_eq_some_iff.1 ht).1
 have hrt : (lrows b.tx)[(y.type).toNat]? = some [.str t.name, .int .i64 t.parent, .int .i64 t.min, .int .i64 t.size, t.fx, .int .i64 t.key, .bool t.unique, .bool t.last] := by rw [hb.types.rows, List.getElem?_map, ht]; rfl
 have hti := hb.types.each t (List.mem_of_getElem? ht)
 have hfL := hti.fx.isL
 have hkl : (lrows t.fx).length = t.fields.length := by rw [hti.fx.rows]; simp
 refine fn_body (fun _ => .iso) Tryz.func104 rfl ?_
 refine vc_norm (env' := (_ :: _ :: _ :: _ :: _ :: _ :: _ :: _ :: _ :: _ :: _ :: _ :: _ :: _ :: _ :: _ :: _ :: _ :: _ :: _ :: _ :: _ :: _ :: _ :: _ :: _ :: _ :: _ :: _ :: _ :: _ :: _ :: _ :: _ :: _ :: _ :: _ :: _ :: _ :: _ :: [])) (H' := []) rfl rfl ?_
 refine vs (wr ?_)
 refine w_opH (v := .ptr 0 0 0) (env' := _) (H2 := [.arr 25 4 [[_, _, _, _]]]) rfl rfl rfl rfl (fun _ h => h) (v40 rfl ?_)
 refine w_opH (v := .ptr 1 0 0) (env' := _) (H2 := [.arr 25 4 [[_, _, _, _]], .arr 64 2 [[_, _]]]) rfl rfl rfl rfl (fun _ h => h) (v40 rfl ?_)
 refine wN rfl rfl rfl (v40 rfl ?_)
 refine we rfl (vs (wr ?_))
 refine wN (v := .ptr 0 0 2) rfl rfl rfl (v40 rfl ?_)
 refine wN rfl rfl rfl (v40 rfl ?_)
 refine wN (v := .ptr 1 0 0) rfl rfl rfl (v40 rfl ?_)
 refine wN rfl rfl rfl (v40 rfl ?_)
 first | refine wN (v := .iptr _ [_, _, _, _, _, _, _, _]) rfl rfl rfl (v40 rfl ?_) | (refine x_index rfl rfl ‹_› rfl el22 (by omega) ‹_› rfl (fun bo => ?_); refine v40 rfl ?_)
 refine wN (v := .agg [_, _, _, _, _, _, _, _]) rfl rfl rfl (v40 rfl ?_)
 refine w_opH (v := .ptr 2 0 0) (env' := _) (H2 := [.arr 25 4 [[_, _, _, _]], .arr 64 2 [[_, _]], .arr 62 8 [[_, _, _, _, _, _, _, _]]]) rfl rfl rfl rfl (fun _ h => h) (v40 rfl ?_)
 refine w_op0N (H2 := [.arr 25 4 [[_, _, _, _]], .arr 64 2 [[_, _]], .arr 62 8 [[_, _, _, _, _, _, _, _]]]) rfl rfl rfl (fun _ h => h) ?_
 refine we rfl (vs (vs (wr ?_)))
 refine wN (v := .ptr 2 0 5) rfl rfl rfl (v40 rfl ?_)
 iterate 2 refine wN rfl rfl rfl (v40 rfl ?_)
 refine we rfl ?_
 refine vc_cond rfl (fun hc14 => ?_) (fun hc14 => ?_)
 ·
  refine vs (wr ?_)
  refine wN rfl rfl rfl (v40 rfl ?_)
  refine we rfl (vc_ret (r_then (r_fn rfl ?_)))
  show some (AV.str ⟨#[]⟩) = some (AV.str (keyOf t y.data))
  rw [keyOf, if_pos (of_decide_eq_true hc14)]
 ·
  have hk0 : 0 ≤ t.key := by have := of_decide_eq_false hc14; omega
  obtain ⟨f, hf, hf0, hf1, hf2⟩ := hk hk0
  have hfl := (List.getElem?_eq_some_iff.1 hf).1
  have hri : (lrows t.fx)[t.key.toNat]? = some [.str f.name, .int .i64 f.at_, .int .i64 f.bytes] := by rw [hti.fx.rows, List.getElem?_map, hf]; rfl
  refine vc_skip (n_then (vs (w_regionD (by kernel_rfl) ?_)))
  refine dN (v := .ptr 1 0 1) rfl rfl rfl (d40 rfl ?_)
  refine dN rfl rfl rfl (d40 rfl ?_)
  refine dN (v := .ptr 2 0 4) rfl rfl rfl (d40 rfl ?_)
  refine dN rfl rfl rfl (d40 rfl ?_)
  refine dN (v := .ptr 2 0 5) rfl rfl rfl (d40 rfl ?_)
  refine dN rfl rfl rfl (d40 rfl ?_)
  first | refine dN (v := .iptr _ [_, _, _]) rfl rfl rfl (d40 rfl ?_) | (refine y_index rfl rfl ‹_› rfl el60 (by omega) ‹_› rfl (fun bo => ?_); refine d40 rfl ?_)
  refine dN (v := .iptr _ [_, _]) rfl rfl rfl (d40 rfl ?_)
  refine dN rfl rfl rfl (d40 rfl ?_)
  refine dN (v := .ptr 2 0 4) rfl rfl rfl (d40 rfl ?_)
  refine dN rfl rfl rfl (d40 rfl ?_)
  refine dN (v := .ptr 2 0 5) rfl rfl rfl (d40 rfl ?_)
  refine dN rfl rfl rfl (d40 rfl ?_)
  first | refine dN (v := .iptr _ [_, _, _]) rfl rfl rfl (d40 rfl ?_) | (refine y_index rfl rfl ‹_› rfl el60 (by omega) ‹_› rfl (fun bo => ?_); refine d40 rfl ?_)
  refine dN (v := .iptr _ [_, _]) rfl rfl rfl (d40 rfl ?_)
  refine dN rfl rfl rfl (d40 rfl ?_)
  refine dN (v := .ptr 2 0 4) rfl rfl rfl (d40 rfl ?_)
  refine dN rfl rfl rfl (d40 rfl ?_)
  refine dN (v := .ptr 2 0 5) rfl rfl rfl (d40 rfl ?_)
  refine dN rfl rfl rfl (d40 rfl ?_)
  first | refine dN (v := .iptr _ [_, _, _]) rfl rfl rfl (d40 rfl ?_) | (refine y_index rfl rfl ‹_› rfl el60 (by omega) ‹_› rfl (fun bo => ?_); refine d40 rfl ?_)
  refine dN (v := .iptr _ [_]) rfl rfl rfl (d40 rfl ?_)
  refine dN rfl rfl rfl (d40 rfl ?_)
  refine dN (v := .int .i64 (f.at_ + f.bytes)) rfl (int_eq (i64_small (by omega) (by omega))) rfl (d40 rfl ?_)
  refine dN (v := .str (y.data.extract f.at_.toNat (f.at_ + f.bytes).toNat)) rfl (s_slice Tryz.underlying9 (by omega) (by omega) (by omega)) rfl (d40 rfl ?_)
  refine dN rfl rfl rfl (d40 rfl ?_)
  refine d_end rfl (vc_ret (r_fn rfl ?_))
  show some (AV.str (y.data.extract f.at_.toNat (f.at_ + f.bytes).toNat)) = some (AV.str (keyOf t y.data))
  rw [keyOf, if_neg (of_decide_eq_false hc14), hf]
end Go.Vi
namespace Go.Vi
open Go Go.Vi Go.Proofs
attribute [local irreducible] vops vopsD vc
theorem right_yes {b : PB} {f : List PI} (h2 : (f.length : Int) ≤ 200) (h1 : Fits b f) (h : ∀ j, j < f.length → rightAt b f j = true) : rightP b f = true := by
 have e1 : f.all (fitsI b) = true := List.all_eq_true.2 h1
 have e2 : (List.range f.length).all (rightAt b f) = true := List.all_eq_true.2 fun j hj => h j (List.mem_range.1 hj)
 rw [rightP, e1, e2, decide_eq_true h2]
 rfl
set_option maxHeartbeats 8000000 in
theorem zRight (G : Glob) (b : PB) (hb : BaseV b) (x : AV) (f : List PI) (hx : ItemsIs x f) (hv : baseOk b = true) : Vi.Fn Tryz.prog G 74 [.agg (encB b), x] (.bool (rightP b f)) := by
 have hL := hb.types.isL
 have hLs := hb.search.isL
 have htv := hb.txv
 have hsv := hb.sxv
 have hxl : (lrows b.tx).length = b.types.length := by rw [hb.types.rows]; simp
 have hXL := hx.isL
 have hfl : (lrows x).length = f.length := by rw [hx.rows]; simp
 have hxlen := hx.len
 refine fn_body (fun _ => .iso) Tryz.func74 rfl ?_
 refine vc_norm (env' := (_ :: _ :: _ :: _ :: _ :: _ :: _ :: _ :: _ :: _ :: _ :: _ :: _ :: _ :: _ :: _ :: _ :: _ :: _ :: _ :: _ :: _ :: _ :: _ :: _ :: _ :: _ :: _ :: _ :: _ :: _ :: _ :: _ :: _ :: _ :: _ :: _ :: _ :: _ :: _ :: _ :: _ :: _ :: _ :: _ :: _ :: _ :: _ :: _ :: _ :: _ :: _ :: _ :: _ :: _ :: _ :: _ :: _ :: _ :: _ :: _ :: _ :: _ :: _ :: _ :: _ :: _ :: _ :: _ :: _ :: _ :: _ :: _ :: _ :: _ :: _ :: _ :: _ :: _ :: _ :: _ :: _ :: _ :: _ :: _ :: _ :: _ :: _ :: _ :: _ :: _ :: _ :: _ :: _ :: _ :: _ :: _ :: _ :: _ :: _ :: _ :: _ :: _ :: _ :: _ :: _ :: _ :: _ :: _ :: _ :: _ :: _ :: _ :: _ :: _ :: _ :: _ :: _ :: _ :: _ :: _ :: _ :: _ :: _ :: _ :: _ :: _ :: _ :: _ :: _ :: _ :: _ :: _ :: _ :: _ :: _ :: _ :: _ :: _ :: _ :: _ :: _ :: _ :: _ :: _ :: _ :: _ :: _ :: _ :: _ :: _ :: _ :: _ :: _ :: _ :: _ :: _ :: _ :: _ :: _ :: _ :: _ :: _ :: _ :: _ :: _ :: _ :: _ :: _ :: _ :: _ :: _ :: _ :: _ :: _ :: _ :: _ :: _ :: _ :: _ :: _ :: _ :: _ :: _ :: _ :: [])) (H' := []) rfl rfl ?_
 refine vs (wr ?_)
 refine w_opH (v := .ptr 0 0 0) (env' := _) (H2 := [.arr 25 4 [[_, _, _, _]]]) rfl rfl rfl rfl (fun _ h => h) (v185 rfl ?_)
 refine wN rfl rfl rfl (v185 rfl ?_)
 refine we rfl (vs (vs (wr ?_)))
 refine wN rfl rfl rfl (v185 rfl ?_)
 first | refine wN rfl rfl rfl (v185 rfl ?_) | refine x_len rfl rfl ‹_› Tryz.underlying26 rfl (v185 rfl ?_)
 refine wN rfl rfl rfl (v185 rfl ?_)
 refine we rfl ?_
 refine vc_cond rfl (fun hc13 => ?_) (fun hc13 => ?_)
 ·
  have h200 : ¬ (f.length : Int) ≤ 200 := by have := of_decide_eq_true hc13; omega
  refine vs (wr ?_)
  refine wN rfl rfl rfl (v185 rfl ?_)
  refine we rfl (vc_ret (r_then (r_fn rfl ?_)))
  show some (AV.bool false) = some (AV.bool (rightP b f))
  rw [rightP, decide_eq_false h200, Bool.false_and, Bool.false_and]
 ·
  have h200 : (f.length : Int) ≤ 200 := by have := of_decide_eq_false hc13; omega
  refine vc_skip (n_then (vs (vs (wr ?_))))
  refine wN rfl rfl rfl (v185 rfl ?_)
  refine we rfl (vc_block ?_)
  refine vc_loopU (α := { i : Nat // (∀ j y, j < i → f[j]? = some y → fitsI b y = true) ∧ i ≤ f.length }) (fun i => (rnone 4 ++ ([some .undef, some (.int .i64 (i.1 : Nat))] ++ (rnone 8 ++ (rundef 61 ++ (rnone 110)))))) (fun i => f.length - i.1) ⟨0, fun j y h => by omega, by omega⟩ (by repeat' first | exact trivial | refine ⟨.inr rfl, ?_⟩ | refine ⟨.inl rfl, ?_⟩ | fail) (fun _ => ⟨Nat.zero_le _, (by repeat' first | exact trivial | exact IsL.belowV ‹_› | refine ⟨?_, ?_⟩ | exact IsL.below ‹_› | (simp [valB, leafB, cellsB, IsL.below, *]; done) | (simp [valB, leafB, cellsB, IsL.below, *]; omega) | fail), (by repeat' first | exact trivial | exact IsL.below (by assumption) | refine ⟨?_, ?_⟩ | (simp [leafB]; done))⟩) ?_
  rintro ⟨i, hn, hi⟩ Y0 hY0
  refine vc_norm (env' := (_ :: _ :: _ :: _ :: _ :: (.int .i64 (i : Int)) :: _ :: _ :: _ :: _ :: _ :: _ :: _ :: _ :: _ :: _ :: _ :: _ :: _ :: _ :: _ :: _ :: _ :: _ :: _ :: _ :: _ :: _ :: _ :: _ :: _ :: _ :: _ :: _ :: _ :: _ :: _ :: _ :: _ :: _ :: _ :: _ :: _ :: _ :: _ :: _ :: _ :: _ :: _ :: _ :: _ :: _ :: _ :: _ :: _ :: _ :: _ :: _ :: _ :: _ :: _ :: _ :: _ :: _ :: _ :: _ :: _ :: _ :: _ :: _ :: _ :: _ :: _ :: _ :: _ :: _ :: _ :: _ :: _ :: _ :: _ :: _ :: _ :: _ :: _ :: _ :: _ :: _ :: _ :: _ :: _ :: _ :: _ :: _ :: _ :: _ :: _ :: _ :: _ :: _ :: _ :: _ :: _ :: _ :: _ :: _ :: _ :: _ :: _ :: _ :: _ :: _ :: _ :: _ :: _ :: _ :: _ :: _ :: _ :: _ :: _ :: _ :: _ :: _ :: _ :: _ :: _ :: _ :: _ :: _ :: _ :: _ :: _ :: _ :: _ :: _ :: _ :: _ :: _ :: _ :: _ :: _ :: _ :: _ :: _ :: _ :: _ :: _ :: _ :: _ :: _ :: _ :: _ :: _ :: _ :: _ :: _ :: _ :: _ :: _ :: _ :: _ :: _ :: _ :: _ :: _ :: _ :: _ :: _ :: _ :: _ :: _ :: _ :: _ :: _ :: _ :: _ :: _ :: _ :: _ :: _ :: _ :: _ :: _ :: _ :: [])) (H' := [.arr 25 4 [[_, _, _, _]]]) rfl rfl ?_
  refine vs (vs (wr ?_))
  iterate 2 refine wN rfl rfl rfl (v185 rfl ?_)
  first | refine wN rfl rfl rfl (v185 rfl ?_) | refine x_len rfl rfl ‹_› Tryz.underlying26 rfl (v185 rfl ?_)
  refine wN rfl rfl rfl (v185 rfl ?_)
  refine we rfl ?_
  refine vc_cond rfl (fun hc17 => ?_) (fun hc17 => ?_)
  ·
   have hlt : i < f.length := by have := of_decide_eq_true hc17; omega
   obtain ⟨y, hyy⟩ : ∃ y, f[i]? = some y := ⟨_, List.getElem?_eq_getElem hlt⟩
   have hri := hx.at hyy
   refine vc_skip (n_then (vs (vc_block (vs (w_regionD (by kernel_rfl) ?_)))))
   iterate 2 refine dN rfl rfl rfl (d185 rfl ?_)
   first | refine dN (v := .iptr _ [_, _]) rfl rfl rfl (d185 rfl ?_) | (refine y_index rfl rfl ‹_› rfl el26 (by omega) ‹_› rfl (fun bo => ?_); refine d185 rfl ?_)
   refine dN (v := .iptr _ [_, _]) rfl rfl rfl (d185 rfl ?_)
   iterate 3 refine dN rfl rfl rfl (d185 rfl ?_)
   refine d_split 26 rfl (fun hg26 => ?_) (fun hg26 => ?_)
   ·
    have ht0 : y.type < 0 := of_decide_eq_true hg26
    refine d185 rfl ?_
    iterate 9 refine dS (wanted_f 26 (by kernel_rfl) rfl) (d185 rfl ?_)
    iterate 2 refine dN rfl rfl rfl (d185 rfl ?_)
    iterate 17 refine dS (wanted_f 37 (by kernel_rfl) rfl) (d185 rfl ?_)
    iterate 2 refine dN rfl rfl rfl (d185 rfl ?_)
    iterate 17 refine dS (wanted_f 56 (by kernel_rfl) rfl) (d185 rfl ?_)
    refine dN rfl rfl rfl (d185 rfl ?_)
    refine d_end rfl ?_
    refine vc_true rfl ?_
    refine vs (wr ?_)
    refine wN rfl rfl rfl (v185 rfl ?_)
    refine we rfl (vc_ret (r_block (r_then (r_then (r_block (r_then (r_fn rfl ?_)))))))
    have he : rightP b f = false := right_noF hyy (by rw [fitsI, if_pos ht0])
    show some (AV.bool false) = some (AV.bool (rightP b f))
    rw [he]
   ·
    have ht0 : ¬ y.type < 0 := of_decide_eq_false hg26
    refine d185 rfl ?_
    iterate 2 refine dN (wanted_t 26 (by kernel_rfl) rfl) rfl rfl (d185 rfl ?_)
    first | refine dN (v := .iptr _ [_, _]) (wanted_t 26 (by kernel_rfl) rfl) rfl rfl (d185 rfl ?_) | (refine y_index (wanted_t 26 (by kernel_rfl) rfl) rfl ‹_› rfl el26 (by omega) ‹_› rfl (fun bo => ?_); refine d185 rfl ?_)
    refine dN (v := .iptr _ [_, _]) (wanted_t 26 (by kernel_rfl) rfl) rfl rfl (d185 rfl ?_)
    refine dN (wanted_t 26 (by kernel_rfl) rfl) rfl rfl (d185 rfl ?_)
    refine dN (v := .ptr 0 0 2) (wanted_t 26 (by kernel_rfl) rfl) rfl rfl (d185 rfl ?_)
    refine dN (wanted_t 26 (by kernel_rfl) rfl) rfl rfl (d185 rfl ?_)
    first | refine dN (wanted_t 26 (by kernel_rfl) rfl) rfl rfl (d185 rfl ?_) | refine y_len (wanted_t 26 (by kernel_rfl) rfl) rfl ‹_› Tryz.underlying22 rfl (d185 rfl ?_)
    refine dN (wanted_t 26 (by kernel_rfl) rfl) rfl rfl (d185 rfl ?_)
    iterate 2 refine dN rfl rfl rfl (d185 rfl ?_)
    refine d_split 37 rfl (fun hg37 => ?_) (fun hg37 => ?_)
    ·
     have ht1 : y.type ≥ b.types.length := by have := of_decide_eq_true hg37; omega
     refine d185 rfl ?_
     iterate 17 refine dS (wanted_f 37 (by kernel_rfl) rfl) (d185 rfl ?_)
     iterate 2 refine dN rfl rfl rfl (d185 rfl ?_)
     iterate 17 refine dS (wanted_f 56 (by kernel_rfl) rfl) (d185 rfl ?_)
     refine dN rfl rfl rfl (d185 rfl ?_)
     refine d_end rfl ?_
     refine vc_true rfl ?_
     refine vs (wr ?_)
     refine wN rfl rfl rfl (v185 rfl ?_)
     refine we rfl (vc_ret (r_block (r_then (r_then (r_block (r_then (r_fn rfl ?_)))))))
     have he : rightP b f = false := right_noF hyy (by rw [fitsI, if_neg (by omega), List.getElem?_eq_none (by omega)])
     show some (AV.bool false) = some (AV.bool (rightP b f))
     rw [he]
    ·
     have ht1 : y.type < b.types.length := by have := of_decide_eq_false hg37; omega
     obtain ⟨t, ht⟩ : ∃ t, b.types[(y.type).toNat]? = some t := ⟨_, List.getElem?_eq_getElem (by omega)⟩
     have hrt : (lrows b.tx)[(y.type).toNat]? = some [.str t.name, .int .i64 t.parent, .int .i64 t.min, .int .i64 t.size, t.fx, .int .i64 t.key, .bool t.unique, .bool t.last] := by rw [hb.types.rows, List.getElem?_map, ht]; rfl
     refine d185 rfl ?_
     iterate 2 refine dN (wanted_t 37 (by kernel_rfl) rfl) rfl rfl (d185 rfl ?_)
     first | refine dN (v := .iptr _ [_, _]) (wanted_t 37 (by kernel_rfl) rfl) rfl rfl (d185 rfl ?_) | (refine y_index (wanted_t 37 (by kernel_rfl) rfl) rfl ‹_› rfl el26 (by omega) ‹_› rfl (fun bo => ?_); refine d185 rfl ?_)
     refine dN (v := .iptr _ [_]) (wanted_t 37 (by kernel_rfl) rfl) rfl rfl (d185 rfl ?_)
     iterate 2 refine dN (wanted_t 37 (by kernel_rfl) rfl) rfl rfl (d185 rfl ?_)
     refine dN (v := .ptr 0 0 2) (wanted_t 37 (by kernel_rfl) rfl) rfl rfl (d185 rfl ?_)
     iterate 3 refine dN (wanted_t 37 (by kernel_rfl) rfl) rfl rfl (d185 rfl ?_)
     first | refine dN (v := .iptr _ [_, _]) (wanted_t 37 (by kernel_rfl) rfl) rfl rfl (d185 rfl ?_) | (refine y_index (wanted_t 37 (by kernel_rfl) rfl) rfl ‹_› rfl el26 (by omega) ‹_› rfl (fun bo => ?_); refine d185 rfl ?_)
     refine dN (v := .iptr _ [_, _]) (wanted_t 37 (by kernel_rfl) rfl) rfl rfl (d185 rfl ?_)
     refine dN (wanted_t 37 (by kernel_rfl) rfl) rfl rfl (d185 rfl ?_)
     first | refine dN (v := .iptr _ [_, _, _, _, _, _, _, _]) (wanted_t 37 (by kernel_rfl) rfl) rfl rfl (d185 rfl ?_) | (refine y_index (wanted_t 37 (by kernel_rfl) rfl) rfl ‹_› rfl el22 (by omega) ‹_› rfl (fun bo => ?_); refine d185 rfl ?_)
     refine dN (v := .iptr _ [_, _, _, _, _, _]) (wanted_t 37 (by kernel_rfl) rfl) rfl rfl (d185 rfl ?_)
     iterate 2 refine dN (wanted_t 37 (by kernel_rfl) rfl) rfl rfl (d185 rfl ?_)
     iterate 2 refine dN rfl rfl rfl (d185 rfl ?_)
     refine d_split 56 rfl (fun hg56 => ?_) (fun hg56 => ?_)
     ·
      refine d185 rfl ?_
      iterate 17 refine dS (wanted_f 56 (by kernel_rfl) rfl) (d185 rfl ?_)
      refine dN rfl rfl rfl (d185 rfl ?_)
      refine d_end rfl ?_
      refine vc_true rfl ?_
      refine vs (wr ?_)
      refine wN rfl rfl rfl (v185 rfl ?_)
      refine we rfl (vc_ret (r_block (r_then (r_then (r_block (r_then (r_fn rfl ?_)))))))
      have he : rightP b f = false := right_noF hyy (by rw [fitsI, if_neg (by omega), ht]; have h1 := of_decide_eq_true hg56; simp; omega)
      show some (AV.bool false) = some (AV.bool (rightP b f))
      rw [he]
     ·
      refine d185 rfl ?_
      iterate 2 refine dN (wanted_t 56 (by kernel_rfl) rfl) rfl rfl (d185 rfl ?_)
      first | refine dN (v := .iptr _ [_, _]) (wanted_t 56 (by kernel_rfl) rfl) rfl rfl (d185 rfl ?_) | (refine y_index (wanted_t 56 (by kernel_rfl) rfl) rfl ‹_› rfl el26 (by omega) ‹_› rfl (fun bo => ?_); refine d185 rfl ?_)
      refine dN (v := .iptr _ [_]) (wanted_t 56 (by kernel_rfl) rfl) rfl rfl (d185 rfl ?_)
      iterate 2 refine dN (wanted_t 56 (by kernel_rfl) rfl) rfl rfl (d185 rfl ?_)
      refine dN (v := .ptr 0 0 2) (wanted_t 56 (by kernel_rfl) rfl) rfl rfl (d185 rfl ?_)
      iterate 3 refine dN (wanted_t 56 (by kernel_rfl) rfl) rfl rfl (d185 rfl ?_)
      first | refine dN (v := .iptr _ [_, _]) (wanted_t 56 (by kernel_rfl) rfl) rfl rfl (d185 rfl ?_) | (refine y_index (wanted_t 56 (by kernel_rfl) rfl) rfl ‹_› rfl el26 (by omega) ‹_› rfl (fun bo => ?_); refine d185 rfl ?_)
      refine dN (v := .iptr _ [_, _]) (wanted_t 56 (by kernel_rfl) rfl) rfl rfl (d185 rfl ?_)
      refine dN (wanted_t 56 (by kernel_rfl) rfl) rfl rfl (d185 rfl ?_)
      first | refine dN (v := .iptr _ [_, _, _, _, _, _, _, _]) (wanted_t 56 (by kernel_rfl) rfl) rfl rfl (d185 rfl ?_) | (refine y_index (wanted_t 56 (by kernel_rfl) rfl) rfl ‹_› rfl el22 (by omega) ‹_› rfl (fun bo => ?_); refine d185 rfl ?_)
      refine dN (v := .iptr _ [_, _, _, _, _]) (wanted_t 56 (by kernel_rfl) rfl) rfl rfl (d185 rfl ?_)
      iterate 2 refine dN (wanted_t 56 (by kernel_rfl) rfl) rfl rfl (d185 rfl ?_)
      refine dN rfl rfl rfl (d185 rfl ?_)
      refine d_end rfl ?_
      refine vc_cond rfl (fun hc74 => ?_) (fun hc74 => ?_)
      ·
       refine vs (wr ?_)
       refine wN rfl rfl rfl (v185 rfl ?_)
       refine we rfl (vc_ret (r_block (r_then (r_then (r_block (r_then (r_fn rfl ?_)))))))
       have he : rightP b f = false := right_noF hyy (by rw [fitsI, if_neg (by omega), ht]; have h1 := of_decide_eq_true hc74; simp; omega)
       show some (AV.bool false) = some (AV.bool (rightP b f))
       rw [he]
      ·
       have hfit : fitsI b y = true := by rw [fitsI, if_neg (by omega), ht]; have h1 := of_decide_eq_false hg56; have h2 := of_decide_eq_false hc74; simp; omega
       refine vc_skip (n_block (n_then (wr ?_)))
       iterate 3 refine wN rfl rfl rfl (v185 rfl ?_)
       refine we rfl ?_
       refine hY0 ⟨i + 1, fun j z hj hz => by by_cases e : j = i; subst e; rw [hyy] at hz; cases hz; exact hfit; exact hn j z (by omega) hz, hlt⟩ (by simp only; omega) _ _ _ ?_ rfl
       repeat' first | exact trivial | refine ⟨.inr rfl, ?_⟩ | refine ⟨.inl rfl, ?_⟩ | refine ⟨.inl ?_, ?_⟩ | fail
       all_goals first | exact (int_succ (by omega)).symm
  ·
   have hge : ¬ i < f.length := by have := of_decide_eq_false hc17; omega
   have hF : Fits b f := fun y hy => by obtain ⟨j, hj⟩ := List.mem_iff_getElem?.1 hy; exact hn j y (by have := (List.getElem?_eq_some_iff.1 hj).1; omega) hj
   refine vc_exit (x_then (x_then (x_same (n_then (vs (vs (wr ?_)))))))
   refine wN rfl rfl rfl (v185 rfl ?_)
   refine we rfl (vc_block ?_)
   clear hY0 Y0
   clear hn hge hc17 hi
   refine vc_loopU (α := { i : Nat // (∀ j, j < i → rightAt b f j = true) ∧ i ≤ f.length }) (fun i => (rnone 4 ++ ([some .undef, none, some (.int .i64 (i.1 : Nat))] ++ (rundef 4 ++ (rnone 64 ++ (rundef 110)))))) (fun i => f.length - i.1) ⟨0, fun j h => by omega, by omega⟩ (by repeat' first | exact trivial | refine ⟨.inr rfl, ?_⟩ | refine ⟨.inl rfl, ?_⟩ | fail) (fun _ => ⟨Nat.zero_le _, (by repeat' first | exact trivial | exact IsL.belowV ‹_› | refine ⟨?_, ?_⟩ | exact IsL.below ‹_› | (simp [valB, leafB, cellsB, IsL.below, *]; done) | (simp [valB, leafB, cellsB, IsL.below, *]; omega) | fail), (by repeat' first | exact trivial | exact IsL.below (by assumption) | refine ⟨?_, ?_⟩ | (simp [leafB]; done))⟩) ?_
   rintro ⟨i, hn, hi⟩ Y1 hY1
   refine vc_norm (env' := (_ :: _ :: _ :: _ :: _ :: _ :: (.int .i64 (i : Int)) :: _ :: _ :: _ :: _ :: _ :: _ :: _ :: _ :: _ :: _ :: _ :: _ :: _ :: _ :: _ :: _ :: _ :: _ :: _ :: _ :: _ :: _ :: _ :: _ :: _ :: _ :: _ :: _ :: _ :: _ :: _ :: _ :: _ :: _ :: _ :: _ :: _ :: _ :: _ :: _ :: _ :: _ :: _ :: _ :: _ :: _ :: _ :: _ :: _ :: _ :: _ :: _ :: _ :: _ :: _ :: _ :: _ :: _ :: _ :: _ :: _ :: _ :: _ :: _ :: _ :: _ :: _ :: _ :: _ :: _ :: _ :: _ :: _ :: _ :: _ :: _ :: _ :: _ :: _ :: _ :: _ :: _ :: _ :: _ :: _ :: _ :: _ :: _ :: _ :: _ :: _ :: _ :: _ :: _ :: _ :: _ :: _ :: _ :: _ :: _ :: _ :: _ :: _ :: _ :: _ :: _ :: _ :: _ :: _ :: _ :: _ :: _ :: _ :: _ :: _ :: _ :: _ :: _ :: _ :: _ :: _ :: _ :: _ :: _ :: _ :: _ :: _ :: _ :: _ :: _ :: _ :: _ :: _ :: _ :: _ :: _ :: _ :: _ :: _ :: _ :: _ :: _ :: _ :: _ :: _ :: _ :: _ :: _ :: _ :: _ :: _ :: _ :: _ :: _ :: _ :: _ :: _ :: _ :: _ :: _ :: _ :: _ :: _ :: _ :: _ :: _ :: _ :: _ :: _ :: _ :: _ :: _ :: _ :: _ :: _ :: _ :: _ :: _ :: [])) (H' := [.arr 25 4 [[_, _, _, _]]]) rfl rfl ?_
   refine vs (vs (wr ?_))
   iterate 2 refine wN rfl rfl rfl (v185 rfl ?_)
   first | refine wN rfl rfl rfl (v185 rfl ?_) | refine x_len rfl rfl ‹_› Tryz.underlying26 rfl (v185 rfl ?_)
   refine wN rfl rfl rfl (v185 rfl ?_)
   refine we rfl ?_
   refine vc_cond rfl (fun hc78 => ?_) (fun hc78 => ?_)
   ·
    have hlt : i < f.length := by have := of_decide_eq_true hc78; omega
    obtain ⟨y, hyy⟩ : ∃ y, f[i]? = some y := ⟨_, List.getElem?_eq_getElem hlt⟩
    have hri := hx.at hyy
    have hys := hx.short y (List.mem_of_getElem? hyy)
    have hpi := par_lt (b := b) (f := f) (i := i)
    obtain ⟨t, ht, ht0, ht1, htm, _⟩ := fits_type (hF y (List.mem_of_getElem? hyy))
    have hrt : (lrows b.tx)[(y.type).toNat]? = some [.str t.name, .int .i64 t.parent, .int .i64 t.min, .int .i64 t.size, t.fx, .int .i64 t.key, .bool t.unique, .bool t.last] := by rw [hb.types.rows, List.getElem?_map, ht]; rfl
    have hok := ok_types hv ht
    have hpar := zPar G b hb x f hx hF (i : Int) (by omega) (by omega)
    rw [Int.toNat_natCast] at hpar
    refine vc_skip (n_then (vs (vc_block (vs (wr ?_)))))
    refine wN (v := .agg [_, _, _, _]) rfl rfl rfl (v185 rfl ?_)
    iterate 2 refine wN rfl rfl rfl (v185 rfl ?_)
    refine w_callI (env' := _) rfl rfl rfl (by kernel_rfl) rfl (by repeat' first | exact IsL.lend ‹_› | exact IsL.lend0 ‹_› | refine mapL_cons ?_ ?_ | refine lend_agg ?_ | rfl) (hpar) rfl (v185 rfl ?_)
    refine wN rfl rfl rfl (v185 rfl ?_)
    refine we rfl (vs (vs (wr ?_)))
    iterate 3 refine wN rfl rfl rfl (v185 rfl ?_)
    refine w_split 87 rfl (fun hg87 => ?_) (fun hg87 => ?_)
    ·
     refine v185 rfl ?_
     iterate 2 refine wN (wanted_t 87 (by kernel_rfl) rfl) rfl rfl (v185 rfl ?_)
     first | refine wN (v := .iptr _ [_, _]) (wanted_t 87 (by kernel_rfl) rfl) rfl rfl (v185 rfl ?_) | (refine x_index (wanted_t 87 (by kernel_rfl) rfl) rfl ‹_› rfl el26 (by omega) ‹_› rfl (fun bo => ?_); refine v185 rfl ?_)
     refine wN (v := .iptr _ [_, _]) (wanted_t 87 (by kernel_rfl) rfl) rfl rfl (v185 rfl ?_)
     iterate 2 refine wN (wanted_t 87 (by kernel_rfl) rfl) rfl rfl (v185 rfl ?_)
     refine wN rfl rfl rfl (v185 rfl ?_)
     refine we rfl ?_
     refine vc_cond rfl (fun hc94 => ?_) (fun hc94 => ?_)
     ·
      have hty : ¬ y.type = 0 := by simpa using hc94
      have hr : rightAt b f i = false := by rw [rightAt, hyy]; simp only; rw [if_pos ⟨of_decide_eq_true hg87, hty⟩]
      refine vs (wr ?_)
      refine wN rfl rfl rfl (v185 rfl ?_)
      refine we rfl (vc_ret (r_then (r_block (r_then (r_then (r_block (r_then (r_fn rfl ?_))))))))
      have he := right_no hyy hr
      show some (AV.bool false) = some (AV.bool (rightP b f))
      rw [he]
     ·
      have hnp : ¬ (par b f i < 0 ∧ y.type ≠ 0) := by intro h; exact h.2 (by simpa using hc94)
      refine vc_skip (n_then (vs (wr ?_)))
      refine wN rfl rfl rfl (v185 rfl ?_)
      refine wN (v := .int .i64 ((i : Int) - 1)) rfl (int_eq (i64_small (by omega) (by omega))) rfl (v185 rfl ?_)
      refine wN rfl rfl rfl (v185 rfl ?_)
      refine we rfl (vs (vc_block ?_))
      refine vc_loopU (α := { k : Int // -1 ≤ k ∧ k < i ∧ climb b f (par b f i) i ((i : Int) - 1) = climb b f (par b f i) (k + 1).toNat k }) (fun k => (rnone 8 ++ ([some (.int .i64 k.1)] ++ (rnone 88 ++ (rundef 15 ++ (rnone 73)))))) (fun k => (k.1 + 1).toNat) ⟨(i : Int) - 1, by omega, by omega, by rw [show ((i : Int) - 1 + 1).toNat = i by omega]⟩ (by repeat' first | exact trivial | refine ⟨.inr rfl, ?_⟩ | refine ⟨.inl rfl, ?_⟩ | fail) (fun _ => ⟨Nat.zero_le _, (by repeat' first | exact trivial | exact IsL.belowV ‹_› | refine ⟨?_, ?_⟩ | exact IsL.below ‹_› | (simp [valB, leafB, cellsB, IsL.below, *]; done) | (simp [valB, leafB, cellsB, IsL.below, *]; omega) | fail), (by repeat' first | exact trivial | exact IsL.below (by assumption) | refine ⟨?_, ?_⟩ | (simp [leafB]; done))⟩) ?_
      rintro ⟨k, hk1, hk2, hcb⟩ Y2 hY2
      refine vc_norm (env' := (_ :: _ :: _ :: _ :: _ :: _ :: _ :: _ :: (.int .i64 k) :: _ :: _ :: _ :: _ :: _ :: _ :: _ :: _ :: _ :: _ :: _ :: _ :: _ :: _ :: _ :: _ :: _ :: _ :: _ :: _ :: _ :: _ :: _ :: _ :: _ :: _ :: _ :: _ :: _ :: _ :: _ :: _ :: _ :: _ :: _ :: _ :: _ :: _ :: _ :: _ :: _ :: _ :: _ :: _ :: _ :: _ :: _ :: _ :: _ :: _ :: _ :: _ :: _ :: _ :: _ :: _ :: _ :: _ :: _ :: _ :: _ :: _ :: _ :: _ :: _ :: _ :: _ :: _ :: _ :: _ :: _ :: _ :: _ :: _ :: _ :: _ :: _ :: _ :: _ :: _ :: _ :: _ :: _ :: _ :: _ :: _ :: _ :: _ :: _ :: _ :: _ :: _ :: _ :: _ :: _ :: _ :: _ :: _ :: _ :: _ :: _ :: _ :: _ :: _ :: _ :: _ :: _ :: _ :: _ :: _ :: _ :: _ :: _ :: _ :: _ :: _ :: _ :: _ :: _ :: _ :: _ :: _ :: _ :: _ :: _ :: _ :: _ :: _ :: _ :: _ :: _ :: _ :: _ :: _ :: _ :: _ :: _ :: _ :: _ :: _ :: _ :: _ :: _ :: _ :: _ :: _ :: _ :: _ :: _ :: _ :: _ :: _ :: _ :: _ :: _ :: _ :: _ :: _ :: _ :: _ :: _ :: _ :: _ :: _ :: _ :: _ :: _ :: _ :: _ :: _ :: _ :: _ :: _ :: _ :: _ :: _ :: [])) (H' := [.arr 25 4 [[_, _, _, _]]]) rfl rfl ?_
      refine vs (vs (wr ?_))
      iterate 4 refine wN rfl rfl rfl (v185 rfl ?_)
      refine w_split 100 rfl (fun hg100 => ?_) (fun hg100 => ?_)
      ·
       have hgt : k > par b f i := of_decide_eq_true hg100
       refine v185 rfl ?_
       refine wN (v := .agg [_, _, _, _]) (wanted_t 100 (by kernel_rfl) rfl) rfl rfl (v185 rfl ?_)
       iterate 2 refine wN (wanted_t 100 (by kernel_rfl) rfl) rfl rfl (v185 rfl ?_)
       refine w_callI (env' := _) (wanted_t 100 (by kernel_rfl) rfl) rfl rfl (by kernel_rfl) rfl (by repeat' first | exact IsL.lend ‹_› | exact IsL.lend0 ‹_› | refine mapL_cons ?_ ?_ | refine lend_agg ?_ | rfl) (zPar G b hb x f hx hF k (by omega) (by omega)) rfl (v185 rfl ?_)
       iterate 2 refine wN (wanted_t 100 (by kernel_rfl) rfl) rfl rfl (v185 rfl ?_)
       refine wN rfl rfl rfl (v185 rfl ?_)
       refine we rfl ?_
       refine vc_cond rfl (fun hc107 => ?_) (fun hc107 => ?_)
       ·
        have hne : par b f k.toNat ≠ par b f i := by simpa using hc107
        refine vc_skip (n_then (vc_block (wr ?_)))
        refine wN (v := .agg [_, _, _, _]) rfl rfl rfl (v185 rfl ?_)
        iterate 2 refine wN rfl rfl rfl (v185 rfl ?_)
        refine w_callI (env' := _) rfl rfl rfl (by kernel_rfl) rfl (by repeat' first | exact IsL.lend ‹_› | exact IsL.lend0 ‹_› | refine mapL_cons ?_ ?_ | refine lend_agg ?_ | rfl) (zPar G b hb x f hx hF k (by omega) (by omega)) rfl (v185 rfl ?_)
        refine wN rfl rfl rfl (v185 rfl ?_)
        refine w_endB rfl (n_then ?_)
        refine hY2 ⟨par b f k.toNat, (par_lt (b := b) (f := f) (i := k.toNat)).1, by have := (par_lt (b := b) (f := f) (i := k.toNat)).2; omega, by rw [hcb]; exact climb_step hpi.1 hgt hne⟩ (by have := par_lt (b := b) (f := f) (i := k.toNat); simp only; omega) _ _ _ ?_ rfl
        repeat' first | exact trivial | refine ⟨.inr rfl, ?_⟩ | refine ⟨.inl rfl, ?_⟩ | refine ⟨.inl ?_, ?_⟩ | fail
        all_goals first | exact rfl
       ·
        have hcl : climb b f (par b f i) i ((i : Int) - 1) = k := by rw [hcb]; exact climb_stop (by intro h; exact h.2 (by simpa using hc107))
        refine vc_exit (x_then (x_then (x_same (n_then (vs (vs (wr ?_)))))))
        iterate 3 refine wN rfl rfl rfl (v185 rfl ?_)
        refine we rfl ?_
        refine vc_cond rfl (fun hc114 => ?_) (fun hc114 => ?_)
        ·
         have hr : rightAt b f i = false := by rw [rightAt, hyy]; simp only; rw [if_neg hnp, hcl, if_pos (of_decide_eq_true hc114)]
         refine vs (wr ?_)
         refine wN rfl rfl rfl (v185 rfl ?_)
         refine we rfl (vc_ret (r_then (r_block (r_then (r_then (r_block (r_then (r_fn rfl ?_))))))))
         have he := right_no hyy hr
         show some (AV.bool false) = some (AV.bool (rightP b f))
         rw [he]
        ·
         have hnl := of_decide_eq_false hc114
         refine vc_skip (n_then (vs (vs (wr ?_))))
         iterate 3 refine wN rfl rfl rfl (v185 rfl ?_)
         refine we rfl ?_
         refine vc_cond rfl (fun hc117 => ?_) (fun hc117 => ?_)
         ·
          have hra : rightAt b f i = true := by rw [rightAt, hyy]; simp only; rw [if_neg hnp, hcl, if_neg hnl, if_pos (by simpa using hc117)]
          refine vc_exit (x_then (x_same (n_then (wr ?_))))
          iterate 3 refine wN rfl rfl rfl (v185 rfl ?_)
          refine we rfl ?_
          refine hY1 ⟨i + 1, upto_all hn hra, hlt⟩ (by simp only; omega) _ _ _ ?_ rfl
          repeat' first | exact trivial | refine ⟨.inr rfl, ?_⟩ | refine ⟨.inl rfl, ?_⟩ | refine ⟨.inl ?_, ?_⟩ | fail
          all_goals first | exact (int_succ (by omega)).symm
         ·
          have hne2 : ¬ k = par b f i := by simpa using hc117
          obtain ⟨z, hz⟩ : ∃ z, f[k.toNat]? = some z := ⟨_, List.getElem?_eq_getElem (by omega)⟩
          have hrz := hx.at hz
          have hzs := hx.short z (List.mem_of_getElem? hz)
          have hrr : rightAt b f i = !twinR b f k y := by rw [rightAt, hyy]; simp only; rw [if_neg hnp, hcl, if_neg hnl, if_neg hne2]
          refine vc_skip (n_then (vs (vs (w_regionD (by kernel_rfl) ?_))))
          iterate 2 refine dN rfl rfl rfl (d185 rfl ?_)
          first | refine dN (v := .iptr _ [_, _]) rfl rfl rfl (d185 rfl ?_) | (refine y_index rfl rfl ‹_› rfl el26 (by omega) ‹_› rfl (fun bo => ?_); refine d185 rfl ?_)
          refine dN (v := .iptr _ [_, _]) rfl rfl rfl (d185 rfl ?_)
          iterate 3 refine dN rfl rfl rfl (d185 rfl ?_)
          first | refine dN (v := .iptr _ [_, _]) rfl rfl rfl (d185 rfl ?_) | (refine y_index rfl rfl ‹_› rfl el26 (by omega) ‹_› rfl (fun bo => ?_); refine d185 rfl ?_)
          refine dN (v := .iptr _ [_, _]) rfl rfl rfl (d185 rfl ?_)
          iterate 2 refine dN rfl rfl rfl (d185 rfl ?_)
          refine d_end rfl ?_
          refine vc_cond rfl (fun hc128 => ?_) (fun hc128 => ?_)
          ·
           have hr : rightAt b f i = false := by rw [hrr, twinR, hz, ht]; simp only [hc128, Bool.true_or, Bool.not_true]
           refine vs (wr ?_)
           refine wN rfl rfl rfl (v185 rfl ?_)
           refine we rfl (vc_ret (r_then (r_block (r_then (r_then (r_block (r_then (r_fn rfl ?_))))))))
           have he := right_no hyy hr
           show some (AV.bool false) = some (AV.bool (rightP b f))
           rw [he]
          ·
           refine vc_skip (n_then (vs (w_regionD (by kernel_rfl) ?_)))
           iterate 2 refine dN rfl rfl rfl (d185 rfl ?_)
           first | refine dN (v := .iptr _ [_, _]) rfl rfl rfl (d185 rfl ?_) | (refine y_index rfl rfl ‹_› rfl el26 (by omega) ‹_› rfl (fun bo => ?_); refine d185 rfl ?_)
           refine dN (v := .iptr _ [_, _]) rfl rfl rfl (d185 rfl ?_)
           iterate 3 refine dN rfl rfl rfl (d185 rfl ?_)
           first | refine dN (v := .iptr _ [_, _]) rfl rfl rfl (d185 rfl ?_) | (refine y_index rfl rfl ‹_› rfl el26 (by omega) ‹_› rfl (fun bo => ?_); refine d185 rfl ?_)
           refine dN (v := .iptr _ [_, _]) rfl rfl rfl (d185 rfl ?_)
           iterate 3 refine dN rfl rfl rfl (d185 rfl ?_)
           refine d_split 140 rfl (fun hg140 => ?_) (fun hg140 => ?_)
           ·
            refine d185 rfl ?_
            refine dN (v := .ptr 0 0 2) (wanted_t 140 (by kernel_rfl) rfl) rfl rfl (d185 rfl ?_)
            iterate 3 refine dN (wanted_t 140 (by kernel_rfl) rfl) rfl rfl (d185 rfl ?_)
            first | refine dN (v := .iptr _ [_, _]) (wanted_t 140 (by kernel_rfl) rfl) rfl rfl (d185 rfl ?_) | (refine y_index (wanted_t 140 (by kernel_rfl) rfl) rfl ‹_› rfl el26 (by omega) ‹_› rfl (fun bo => ?_); refine d185 rfl ?_)
            refine dN (v := .iptr _ [_, _]) (wanted_t 140 (by kernel_rfl) rfl) rfl rfl (d185 rfl ?_)
            refine dN (wanted_t 140 (by kernel_rfl) rfl) rfl rfl (d185 rfl ?_)
            first | refine dN (v := .iptr _ [_, _, _, _, _, _, _, _]) (wanted_t 140 (by kernel_rfl) rfl) rfl rfl (d185 rfl ?_) | (refine y_index (wanted_t 140 (by kernel_rfl) rfl) rfl ‹_› rfl el22 (by omega) ‹_› rfl (fun bo => ?_); refine d185 rfl ?_)
            refine dN (v := .iptr _ [_, _, _]) (wanted_t 140 (by kernel_rfl) rfl) rfl rfl (d185 rfl ?_)
            iterate 2 refine dN (wanted_t 140 (by kernel_rfl) rfl) rfl rfl (d185 rfl ?_)
            refine dN rfl rfl rfl (d185 rfl ?_)
            refine d_end rfl ?_
            refine vc_cond rfl (fun hc152 => ?_) (fun hc152 => ?_)
            ·
             have hzt : z.type = y.type := by simpa using hg140
             have hkz : KeyIn t z.data := key_in hok (by obtain ⟨t2, h1, h2, h3, h4, h5⟩ := fits_type (hF z (List.mem_of_getElem? hz)); rw [hzt, ht] at h1; cases h1; exact h4)
             have hky : KeyIn t y.data := key_in hok htm
             refine vs (w_regionD (by kernel_rfl) ?_)
             refine dN (v := .agg [_, _, _, _]) rfl rfl rfl (d185 rfl ?_)
             iterate 2 refine dN rfl rfl rfl (d185 rfl ?_)
             first | refine dN (v := .iptr _ [_, _]) rfl rfl rfl (d185 rfl ?_) | (refine y_index rfl rfl ‹_› rfl el26 (by omega) ‹_› rfl (fun bo => ?_); refine d185 rfl ?_)
             refine dN (v := .agg [_, _]) rfl rfl rfl (d185 rfl ?_)
             refine d_callI (env' := _) rfl rfl rfl (by kernel_rfl) rfl (by repeat' first | exact IsL.lend ‹_› | exact IsL.lend0 ‹_› | refine mapL_cons ?_ ?_ | refine lend_agg ?_ | rfl) (zKeyR G b hb z t hzs (by omega) (by rw [hzt]; exact ht) hkz) rfl (d185 rfl ?_)
             refine dN (v := .agg [_, _, _, _]) rfl rfl rfl (d185 rfl ?_)
             iterate 2 refine dN rfl rfl rfl (d185 rfl ?_)
             first | refine dN (v := .iptr _ [_, _]) rfl rfl rfl (d185 rfl ?_) | (refine y_index rfl rfl ‹_› rfl el26 (by omega) ‹_› rfl (fun bo => ?_); refine d185 rfl ?_)
             refine dN (v := .agg [_, _]) rfl rfl rfl (d185 rfl ?_)
             refine d_callI (env' := _) rfl rfl rfl (by kernel_rfl) rfl (by repeat' first | exact IsL.lend ‹_› | exact IsL.lend0 ‹_› | refine mapL_cons ?_ ?_ | refine lend_agg ?_ | rfl) (zKeyR G b hb y t hys (by omega) ht hky) rfl (d185 rfl ?_)
             iterate 2 refine dN rfl rfl rfl (d185 rfl ?_)
             refine d_end rfl (vs (w_regionD (by kernel_rfl) ?_))
             iterate 4 refine dN rfl rfl rfl (d185 rfl ?_)
             refine d_split 168 rfl (fun hg168 => ?_) (fun hg168 => ?_)
             ·
              have hr : rightAt b f i = false := by rw [hrr, twinR, hz, ht]; simp only [hc128, hg140, hc152, hg168, Bool.true_or, Bool.and_self, Bool.or_true, Bool.not_true]
              refine d185 rfl ?_
              iterate 4 refine dS (wanted_f 168 (by kernel_rfl) rfl) (d185 rfl ?_)
              iterate 10 refine dS (wanted_k 172 (by kernel_rfl) rfl) (d185 rfl ?_)
              refine dS (wanted_f 168 (by kernel_rfl) rfl) (d185 rfl ?_)
              refine dN rfl rfl rfl (d185 rfl ?_)
              refine d_end rfl ?_
              refine vc_true rfl ?_
              refine vs (wr ?_)
              refine wN rfl rfl rfl (v185 rfl ?_)
              refine we rfl (vc_ret (r_block (r_then (r_then (r_block (r_then (r_fn rfl ?_)))))))
              have he := right_no hyy hr
              show some (AV.bool false) = some (AV.bool (rightP b f))
              rw [he]
             ·
              refine d185 rfl ?_
              iterate 4 refine dN (wanted_t 168 (by kernel_rfl) rfl) rfl rfl (d185 rfl ?_)
              refine d_split 172 rfl (fun hg172 => ?_) (fun hg172 => ?_)
              ·
               refine d185 rfl ?_
               refine dN (v := .ptr 0 0 2) (wanted_t 172 (by kernel_rfl) rfl) rfl rfl (d185 rfl ?_)
               iterate 3 refine dN (wanted_t 172 (by kernel_rfl) rfl) rfl rfl (d185 rfl ?_)
               first | refine dN (v := .iptr _ [_, _]) (wanted_t 172 (by kernel_rfl) rfl) rfl rfl (d185 rfl ?_) | (refine y_index (wanted_t 172 (by kernel_rfl) rfl) rfl ‹_› rfl el26 (by omega) ‹_› rfl (fun bo => ?_); refine d185 rfl ?_)
               refine dN (v := .iptr _ [_, _]) (wanted_t 172 (by kernel_rfl) rfl) rfl rfl (d185 rfl ?_)
               refine dN (wanted_t 172 (by kernel_rfl) rfl) rfl rfl (d185 rfl ?_)
               first | refine dN (v := .iptr _ [_, _, _, _, _, _, _, _]) (wanted_t 172 (by kernel_rfl) rfl) rfl rfl (d185 rfl ?_) | (refine y_index (wanted_t 172 (by kernel_rfl) rfl) rfl ‹_› rfl el22 (by omega) ‹_› rfl (fun bo => ?_); refine d185 rfl ?_)
               refine dN (v := .iptr _ [_, _]) (wanted_t 172 (by kernel_rfl) rfl) rfl rfl (d185 rfl ?_)
               refine dN (wanted_t 172 (by kernel_rfl) rfl) rfl rfl (d185 rfl ?_)
               refine dN (wanted_t 168 (by kernel_rfl) rfl) rfl rfl (d185 rfl ?_)
               refine dN rfl rfl rfl (d185 rfl ?_)
               refine d_end rfl ?_
               refine vc_cond rfl (fun hc184 => ?_) (fun hc184 => ?_)
               ·
                have hr : rightAt b f i = false := by rw [hrr, twinR, hz, ht]; simp only [hc128, hg140, hc152, hg168, hg172, hc184, Bool.and_self, Bool.or_true, Bool.not_true]
                refine vs (wr ?_)
                refine wN rfl rfl rfl (v185 rfl ?_)
                refine we rfl (vc_ret (r_block (r_then (r_then (r_block (r_then (r_fn rfl ?_)))))))
                have he := right_no hyy hr
                show some (AV.bool false) = some (AV.bool (rightP b f))
                rw [he]
               ·
                have hra : rightAt b f i = true := by rw [hrr, twinR, hz, ht]; simp only [hc128, hg140, hc152, hg168]; simp only [hc184]; simp
                refine vc_skip (n_block (n_then (wr ?_)))
                iterate 3 refine wN rfl rfl rfl (v185 rfl ?_)
                refine we rfl ?_
                refine hY1 ⟨i + 1, upto_all hn hra, hlt⟩ (by simp only; omega) _ _ _ ?_ rfl
                repeat' first | exact trivial | refine ⟨.inr rfl, ?_⟩ | refine ⟨.inl rfl, ?_⟩ | refine ⟨.inl ?_, ?_⟩ | fail
                all_goals first | exact (int_succ (by omega)).symm
              ·
               have hra : rightAt b f i = true := by rw [hrr, twinR, hz, ht]; simp only [hc128, hg140, hc152, hg168]; simp only [hg172]; simp
               refine d185 rfl ?_
               iterate 10 refine dS (wanted_f 172 (by kernel_rfl) rfl) (d185 rfl ?_)
               refine dN (wanted_t 168 (by kernel_rfl) rfl) rfl rfl (d185 rfl ?_)
               refine dN rfl rfl rfl (d185 rfl ?_)
               refine d_end rfl ?_
               refine vc_false rfl ?_
               refine vc_skip (n_block (n_then (wr ?_)))
               iterate 3 refine wN rfl rfl rfl (v185 rfl ?_)
               refine we rfl ?_
               refine hY1 ⟨i + 1, upto_all hn hra, hlt⟩ (by simp only; omega) _ _ _ ?_ rfl
               repeat' first | exact trivial | refine ⟨.inr rfl, ?_⟩ | refine ⟨.inl rfl, ?_⟩ | refine ⟨.inl ?_, ?_⟩ | fail
               all_goals first | exact (int_succ (by omega)).symm
            ·
             have hra : rightAt b f i = true := by rw [hrr, twinR, hz, ht]; simp only [hc128, hg140, hc152, Bool.false_or, Bool.and_false, Bool.false_and, Bool.not_false]
             refine vc_skip (n_block (n_then (wr ?_)))
             iterate 3 refine wN rfl rfl rfl (v185 rfl ?_)
             refine we rfl ?_
             refine hY1 ⟨i + 1, upto_all hn hra, hlt⟩ (by simp only; omega) _ _ _ ?_ rfl
             repeat' first | exact trivial | refine ⟨.inr rfl, ?_⟩ | refine ⟨.inl rfl, ?_⟩ | refine ⟨.inl ?_, ?_⟩ | fail
             all_goals first | exact (int_succ (by omega)).symm
           ·
            have hra : rightAt b f i = true := by rw [hrr, twinR, hz, ht]; simp only [hc128, hg140, Bool.false_or, Bool.and_false, Bool.false_and, Bool.not_false]
            refine d185 rfl ?_
            iterate 11 refine dS (wanted_f 140 (by kernel_rfl) rfl) (d185 rfl ?_)
            refine dN rfl rfl rfl (d185 rfl ?_)
            refine d_end rfl ?_
            refine vc_false rfl ?_
            refine vc_skip (n_block (n_then (wr ?_)))
            iterate 3 refine wN rfl rfl rfl (v185 rfl ?_)
            refine we rfl ?_
            refine hY1 ⟨i + 1, upto_all hn hra, hlt⟩ (by simp only; omega) _ _ _ ?_ rfl
            repeat' first | exact trivial | refine ⟨.inr rfl, ?_⟩ | refine ⟨.inl rfl, ?_⟩ | refine ⟨.inl ?_, ?_⟩ | fail
            all_goals first | exact (int_succ (by omega)).symm
      ·
       have hcl : climb b f (par b f i) i ((i : Int) - 1) = k := by rw [hcb]; exact climb_stop (by intro h; have := of_decide_eq_false hg100; omega)
       refine v185 rfl ?_
       iterate 6 refine wS (wanted_f 100 (by kernel_rfl) rfl) (v185 rfl ?_)
       refine wN rfl rfl rfl (v185 rfl ?_)
       refine we rfl ?_
       refine vc_false rfl ?_
       refine vc_exit (x_then (x_then (x_same (n_then (vs (vs (wr ?_)))))))
       iterate 3 refine wN rfl rfl rfl (v185 rfl ?_)
       refine we rfl ?_
       refine vc_cond rfl (fun hc114 => ?_) (fun hc114 => ?_)
       ·
        have hr : rightAt b f i = false := by rw [rightAt, hyy]; simp only; rw [if_neg hnp, hcl, if_pos (of_decide_eq_true hc114)]
        refine vs (wr ?_)
        refine wN rfl rfl rfl (v185 rfl ?_)
        refine we rfl (vc_ret (r_then (r_block (r_then (r_then (r_block (r_then (r_fn rfl ?_))))))))
        have he := right_no hyy hr
        show some (AV.bool false) = some (AV.bool (rightP b f))
        rw [he]
       ·
        have hnl := of_decide_eq_false hc114
        refine vc_skip (n_then (vs (vs (wr ?_))))
        iterate 3 refine wN rfl rfl rfl (v185 rfl ?_)
        refine we rfl ?_
        refine vc_cond rfl (fun hc117 => ?_) (fun hc117 => ?_)
        ·
         have hra : rightAt b f i = true := by rw [rightAt, hyy]; simp only; rw [if_neg hnp, hcl, if_neg hnl, if_pos (by simpa using hc117)]
         refine vc_exit (x_then (x_same (n_then (wr ?_))))
         iterate 3 refine wN rfl rfl rfl (v185 rfl ?_)
         refine we rfl ?_
         refine hY1 ⟨i + 1, upto_all hn hra, hlt⟩ (by simp only; omega) _ _ _ ?_ rfl
         repeat' first | exact trivial | refine ⟨.inr rfl, ?_⟩ | refine ⟨.inl rfl, ?_⟩ | refine ⟨.inl ?_, ?_⟩ | fail
         all_goals first | exact (int_succ (by omega)).symm
        ·
         have hne2 : ¬ k = par b f i := by simpa using hc117
         obtain ⟨z, hz⟩ : ∃ z, f[k.toNat]? = some z := ⟨_, List.getElem?_eq_getElem (by omega)⟩
         have hrz := hx.at hz
         have hzs := hx.short z (List.mem_of_getElem? hz)
         have hrr : rightAt b f i = !twinR b f k y := by rw [rightAt, hyy]; simp only; rw [if_neg hnp, hcl, if_neg hnl, if_neg hne2]
         refine vc_skip (n_then (vs (vs (w_regionD (by kernel_rfl) ?_))))
         iterate 2 refine dN rfl rfl rfl (d185 rfl ?_)
         first | refine dN (v := .iptr _ [_, _]) rfl rfl rfl (d185 rfl ?_) | (refine y_index rfl rfl ‹_› rfl el26 (by omega) ‹_› rfl (fun bo => ?_); refine d185 rfl ?_)
         refine dN (v := .iptr _ [_, _]) rfl rfl rfl (d185 rfl ?_)
         iterate 3 refine dN rfl rfl rfl (d185 rfl ?_)
         first | refine dN (v := .iptr _ [_, _]) rfl rfl rfl (d185 rfl ?_) | (refine y_index rfl rfl ‹_› rfl el26 (by omega) ‹_› rfl (fun bo => ?_); refine d185 rfl ?_)
         refine dN (v := .iptr _ [_, _]) rfl rfl rfl (d185 rfl ?_)
         iterate 2 refine dN rfl rfl rfl (d185 rfl ?_)
         refine d_end rfl ?_
         refine vc_cond rfl (fun hc128 => ?_) (fun hc128 => ?_)
         ·
          have hr : rightAt b f i = false := by rw [hrr, twinR, hz, ht]; simp only [hc128, Bool.true_or, Bool.not_true]
          refine vs (wr ?_)
          refine wN rfl rfl rfl (v185 rfl ?_)
          refine we rfl (vc_ret (r_then (r_block (r_then (r_then (r_block (r_then (r_fn rfl ?_))))))))
          have he := right_no hyy hr
          show some (AV.bool false) = some (AV.bool (rightP b f))
          rw [he]
         ·
          refine vc_skip (n_then (vs (w_regionD (by kernel_rfl) ?_)))
          iterate 2 refine dN rfl rfl rfl (d185 rfl ?_)
          first | refine dN (v := .iptr _ [_, _]) rfl rfl rfl (d185 rfl ?_) | (refine y_index rfl rfl ‹_› rfl el26 (by omega) ‹_› rfl (fun bo => ?_); refine d185 rfl ?_)
          refine dN (v := .iptr _ [_, _]) rfl rfl rfl (d185 rfl ?_)
          iterate 3 refine dN rfl rfl rfl (d185 rfl ?_)
          first | refine dN (v := .iptr _ [_, _]) rfl rfl rfl (d185 rfl ?_) | (refine y_index rfl rfl ‹_› rfl el26 (by omega) ‹_› rfl (fun bo => ?_); refine d185 rfl ?_)
          refine dN (v := .iptr _ [_, _]) rfl rfl rfl (d185 rfl ?_)
          iterate 3 refine dN rfl rfl rfl (d185 rfl ?_)
          refine d_split 140 rfl (fun hg140 => ?_) (fun hg140 => ?_)
          ·
           refine d185 rfl ?_
           refine dN (v := .ptr 0 0 2) (wanted_t 140 (by kernel_rfl) rfl) rfl rfl (d185 rfl ?_)
           iterate 3 refine dN (wanted_t 140 (by kernel_rfl) rfl) rfl rfl (d185 rfl ?_)
           first | refine dN (v := .iptr _ [_, _]) (wanted_t 140 (by kernel_rfl) rfl) rfl rfl (d185 rfl ?_) | (refine y_index (wanted_t 140 (by kernel_rfl) rfl) rfl ‹_› rfl el26 (by omega) ‹_› rfl (fun bo => ?_); refine d185 rfl ?_)
           refine dN (v := .iptr _ [_, _]) (wanted_t 140 (by kernel_rfl) rfl) rfl rfl (d185 rfl ?_)
           refine dN (wanted_t 140 (by kernel_rfl) rfl) rfl rfl (d185 rfl ?_)
           first | refine dN (v := .iptr _ [_, _, _, _, _, _, _, _]) (wanted_t 140 (by kernel_rfl) rfl) rfl rfl (d185 rfl ?_) | (refine y_index (wanted_t 140 (by kernel_rfl) rfl) rfl ‹_› rfl el22 (by omega) ‹_› rfl (fun bo => ?_); refine d185 rfl ?_)
           refine dN (v := .iptr _ [_, _, _]) (wanted_t 140 (by kernel_rfl) rfl) rfl rfl (d185 rfl ?_)
           iterate 2 refine dN (wanted_t 140 (by kernel_rfl) rfl) rfl rfl (d185 rfl ?_)
           refine dN rfl rfl rfl (d185 rfl ?_)
           refine d_end rfl ?_
           refine vc_cond rfl (fun hc152 => ?_) (fun hc152 => ?_)
           ·
            have hzt : z.type = y.type := by simpa using hg140
            have hkz : KeyIn t z.data := key_in hok (by obtain ⟨t2, h1, h2, h3, h4, h5⟩ := fits_type (hF z (List.mem_of_getElem? hz)); rw [hzt, ht] at h1; cases h1; exact h4)
            have hky : KeyIn t y.data := key_in hok htm
            refine vs (w_regionD (by kernel_rfl) ?_)
            refine dN (v := .agg [_, _, _, _]) rfl rfl rfl (d185 rfl ?_)
            iterate 2 refine dN rfl rfl rfl (d185 rfl ?_)
            first | refine dN (v := .iptr _ [_, _]) rfl rfl rfl (d185 rfl ?_) | (refine y_index rfl rfl ‹_› rfl el26 (by omega) ‹_› rfl (fun bo => ?_); refine d185 rfl ?_)
            refine dN (v := .agg [_, _]) rfl rfl rfl (d185 rfl ?_)
            refine d_callI (env' := _) rfl rfl rfl (by kernel_rfl) rfl (by repeat' first | exact IsL.lend ‹_› | exact IsL.lend0 ‹_› | refine mapL_cons ?_ ?_ | refine lend_agg ?_ | rfl) (zKeyR G b hb z t hzs (by omega) (by rw [hzt]; exact ht) hkz) rfl (d185 rfl ?_)
            refine dN (v := .agg [_, _, _, _]) rfl rfl rfl (d185 rfl ?_)
            iterate 2 refine dN rfl rfl rfl (d185 rfl ?_)
            first | refine dN (v := .iptr _ [_, _]) rfl rfl rfl (d185 rfl ?_) | (refine y_index rfl rfl ‹_› rfl el26 (by omega) ‹_› rfl (fun bo => ?_); refine d185 rfl ?_)
            refine dN (v := .agg [_, _]) rfl rfl rfl (d185 rfl ?_)
            refine d_callI (env' := _) rfl rfl rfl (by kernel_rfl) rfl (by repeat' first | exact IsL.lend ‹_› | exact IsL.lend0 ‹_› | refine mapL_cons ?_ ?_ | refine lend_agg ?_ | rfl) (zKeyR G b hb y t hys (by omega) ht hky) rfl (d185 rfl ?_)
            iterate 2 refine dN rfl rfl rfl (d185 rfl ?_)
            refine d_end rfl (vs (w_regionD (by kernel_rfl) ?_))
            iterate 4 refine dN rfl rfl rfl (d185 rfl ?_)
            refine d_split 168 rfl (fun hg168 => ?_) (fun hg168 => ?_)
            ·
             have hr : rightAt b f i = false := by rw [hrr, twinR, hz, ht]; simp only [hc128, hg140, hc152, hg168, Bool.true_or, Bool.and_self, Bool.or_true, Bool.not_true]
             refine d185 rfl ?_
             iterate 4 refine dS (wanted_f 168 (by kernel_rfl) rfl) (d185 rfl ?_)
             iterate 10 refine dS (wanted_k 172 (by kernel_rfl) rfl) (d185 rfl ?_)
             refine dS (wanted_f 168 (by kernel_rfl) rfl) (d185 rfl ?_)
             refine dN rfl rfl rfl (d185 rfl ?_)
             refine d_end rfl ?_
             refine vc_true rfl ?_
             refine vs (wr ?_)
             refine wN rfl rfl rfl (v185 rfl ?_)
             refine we rfl (vc_ret (r_block (r_then (r_then (r_block (r_then (r_fn rfl ?_)))))))
             have he := right_no hyy hr
             show some (AV.bool false) = some (AV.bool (rightP b f))
             rw [he]
            ·
             refine d185 rfl ?_
             iterate 4 refine dN (wanted_t 168 (by kernel_rfl) rfl) rfl rfl (d185 rfl ?_)
             refine d_split 172 rfl (fun hg172 => ?_) (fun hg172 => ?_)
             ·
              refine d185 rfl ?_
              refine dN (v := .ptr 0 0 2) (wanted_t 172 (by kernel_rfl) rfl) rfl rfl (d185 rfl ?_)
              iterate 3 refine dN (wanted_t 172 (by kernel_rfl) rfl) rfl rfl (d185 rfl ?_)
              first | refine dN (v := .iptr _ [_, _]) (wanted_t 172 (by kernel_rfl) rfl) rfl rfl (d185 rfl ?_) | (refine y_index (wanted_t 172 (by kernel_rfl) rfl) rfl ‹_› rfl el26 (by omega) ‹_› rfl (fun bo => ?_); refine d185 rfl ?_)
              refine dN (v := .iptr _ [_, _]) (wanted_t 172 (by kernel_rfl) rfl) rfl rfl (d185 rfl ?_)
              refine dN (wanted_t 172 (by kernel_rfl) rfl) rfl rfl (d185 rfl ?_)
              first | refine dN (v := .iptr _ [_, _, _, _, _, _, _, _]) (wanted_t 172 (by kernel_rfl) rfl) rfl rfl (d185 rfl ?_) | (refine y_index (wanted_t 172 (by kernel_rfl) rfl) rfl ‹_› rfl el22 (by omega) ‹_› rfl (fun bo => ?_); refine d185 rfl ?_)
              refine dN (v := .iptr _ [_, _]) (wanted_t 172 (by kernel_rfl) rfl) rfl rfl (d185 rfl ?_)
              refine dN (wanted_t 172 (by kernel_rfl) rfl) rfl rfl (d185 rfl ?_)
              refine dN (wanted_t 168 (by kernel_rfl) rfl) rfl rfl (d185 rfl ?_)
              refine dN rfl rfl rfl (d185 rfl ?_)
              refine d_end rfl ?_
              refine vc_cond rfl (fun hc184 => ?_) (fun hc184 => ?_)
              ·
               have hr : rightAt b f i = false := by rw [hrr, twinR, hz, ht]; simp only [hc128, hg140, hc152, hg168, hg172, hc184, Bool.and_self, Bool.or_true, Bool.not_true]
               refine vs (wr ?_)
               refine wN rfl rfl rfl (v185 rfl ?_)
               refine we rfl (vc_ret (r_block (r_then (r_then (r_block (r_then (r_fn rfl ?_)))))))
               have he := right_no hyy hr
               show some (AV.bool false) = some (AV.bool (rightP b f))
               rw [he]
              ·
               have hra : rightAt b f i = true := by rw [hrr, twinR, hz, ht]; simp only [hc128, hg140, hc152, hg168]; simp only [hc184]; simp
               refine vc_skip (n_block (n_then (wr ?_)))
               iterate 3 refine wN rfl rfl rfl (v185 rfl ?_)
               refine we rfl ?_
               refine hY1 ⟨i + 1, upto_all hn hra, hlt⟩ (by simp only; omega) _ _ _ ?_ rfl
               repeat' first | exact trivial | refine ⟨.inr rfl, ?_⟩ | refine ⟨.inl rfl, ?_⟩ | refine ⟨.inl ?_, ?_⟩ | fail
               all_goals first | exact (int_succ (by omega)).symm
             ·
              have hra : rightAt b f i = true := by rw [hrr, twinR, hz, ht]; simp only [hc128, hg140, hc152, hg168]; simp only [hg172]; simp
              refine d185 rfl ?_
              iterate 10 refine dS (wanted_f 172 (by kernel_rfl) rfl) (d185 rfl ?_)
              refine dN (wanted_t 168 (by kernel_rfl) rfl) rfl rfl (d185 rfl ?_)
              refine dN rfl rfl rfl (d185 rfl ?_)
              refine d_end rfl ?_
              refine vc_false rfl ?_
              refine vc_skip (n_block (n_then (wr ?_)))
              iterate 3 refine wN rfl rfl rfl (v185 rfl ?_)
              refine we rfl ?_
              refine hY1 ⟨i + 1, upto_all hn hra, hlt⟩ (by simp only; omega) _ _ _ ?_ rfl
              repeat' first | exact trivial | refine ⟨.inr rfl, ?_⟩ | refine ⟨.inl rfl, ?_⟩ | refine ⟨.inl ?_, ?_⟩ | fail
              all_goals first | exact (int_succ (by omega)).symm
           ·
            have hra : rightAt b f i = true := by rw [hrr, twinR, hz, ht]; simp only [hc128, hg140, hc152, Bool.false_or, Bool.and_false, Bool.false_and, Bool.not_false]
            refine vc_skip (n_block (n_then (wr ?_)))
            iterate 3 refine wN rfl rfl rfl (v185 rfl ?_)
            refine we rfl ?_
            refine hY1 ⟨i + 1, upto_all hn hra, hlt⟩ (by simp only; omega) _ _ _ ?_ rfl
            repeat' first | exact trivial | refine ⟨.inr rfl, ?_⟩ | refine ⟨.inl rfl, ?_⟩ | refine ⟨.inl ?_, ?_⟩ | fail
            all_goals first | exact (int_succ (by omega)).symm
          ·
           have hra : rightAt b f i = true := by rw [hrr, twinR, hz, ht]; simp only [hc128, hg140, Bool.false_or, Bool.and_false, Bool.false_and, Bool.not_false]
           refine d185 rfl ?_
           iterate 11 refine dS (wanted_f 140 (by kernel_rfl) rfl) (d185 rfl ?_)
           refine dN rfl rfl rfl (d185 rfl ?_)
           refine d_end rfl ?_
           refine vc_false rfl ?_
           refine vc_skip (n_block (n_then (wr ?_)))
           iterate 3 refine wN rfl rfl rfl (v185 rfl ?_)
           refine we rfl ?_
           refine hY1 ⟨i + 1, upto_all hn hra, hlt⟩ (by simp only; omega) _ _ _ ?_ rfl
           repeat' first | exact trivial | refine ⟨.inr rfl, ?_⟩ | refine ⟨.inl rfl, ?_⟩ | refine ⟨.inl ?_, ?_⟩ | fail
           all_goals first | exact (int_succ (by omega)).symm
    ·
     have hnp : ¬ (par b f i < 0 ∧ y.type ≠ 0) := by intro h; have := of_decide_eq_false hg87; omega
     refine v185 rfl ?_
     iterate 6 refine wS (wanted_f 87 (by kernel_rfl) rfl) (v185 rfl ?_)
     refine wN rfl rfl rfl (v185 rfl ?_)
     refine we rfl ?_
     refine vc_false rfl ?_
     refine vc_skip (n_then (vs (wr ?_)))
     refine wN rfl rfl rfl (v185 rfl ?_)
     refine wN (v := .int .i64 ((i : Int) - 1)) rfl (int_eq (i64_small (by omega) (by omega))) rfl (v185 rfl ?_)
     refine wN rfl rfl rfl (v185 rfl ?_)
     refine we rfl (vs (vc_block ?_))
     refine vc_loopU (α := { k : Int // -1 ≤ k ∧ k < i ∧ climb b f (par b f i) i ((i : Int) - 1) = climb b f (par b f i) (k + 1).toNat k }) (fun k => (rnone 8 ++ ([some (.int .i64 k.1)] ++ (rnone 88 ++ (rundef 15 ++ (rnone 73)))))) (fun k => (k.1 + 1).toNat) ⟨(i : Int) - 1, by omega, by omega, by rw [show ((i : Int) - 1 + 1).toNat = i by omega]⟩ (by repeat' first | exact trivial | refine ⟨.inr rfl, ?_⟩ | refine ⟨.inl rfl, ?_⟩ | fail) (fun _ => ⟨Nat.zero_le _, (by repeat' first | exact trivial | exact IsL.belowV ‹_› | refine ⟨?_, ?_⟩ | exact IsL.below ‹_› | (simp [valB, leafB, cellsB, IsL.below, *]; done) | (simp [valB, leafB, cellsB, IsL.below, *]; omega) | fail), (by repeat' first | exact trivial | exact IsL.below (by assumption) | refine ⟨?_, ?_⟩ | (simp [leafB]; done))⟩) ?_
     rintro ⟨k, hk1, hk2, hcb⟩ Y3 hY3
     refine vc_norm (env' := (_ :: _ :: _ :: _ :: _ :: _ :: _ :: _ :: (.int .i64 k) :: _ :: _ :: _ :: _ :: _ :: _ :: _ :: _ :: _ :: _ :: _ :: _ :: _ :: _ :: _ :: _ :: _ :: _ :: _ :: _ :: _ :: _ :: _ :: _ :: _ :: _ :: _ :: _ :: _ :: _ :: _ :: _ :: _ :: _ :: _ :: _ :: _ :: _ :: _ :: _ :: _ :: _ :: _ :: _ :: _ :: _ :: _ :: _ :: _ :: _ :: _ :: _ :: _ :: _ :: _ :: _ :: _ :: _ :: _ :: _ :: _ :: _ :: _ :: _ :: _ :: _ :: _ :: _ :: _ :: _ :: _ :: _ :: _ :: _ :: _ :: _ :: _ :: _ :: _ :: _ :: _ :: _ :: _ :: _ :: _ :: _ :: _ :: _ :: _ :: _ :: _ :: _ :: _ :: _ :: _ :: _ :: _ :: _ :: _ :: _ :: _ :: _ :: _ :: _ :: _ :: _ :: _ :: _ :: _ :: _ :: _ :: _ :: _ :: _ :: _ :: _ :: _ :: _ :: _ :: _ :: _ :: _ :: _ :: _ :: _ :: _ :: _ :: _ :: _ :: _ :: _ :: _ :: _ :: _ :: _ :: _ :: _ :: _ :: _ :: _ :: _ :: _ :: _ :: _ :: _ :: _ :: _ :: _ :: _ :: _ :: _ :: _ :: _ :: _ :: _ :: _ :: _ :: _ :: _ :: _ :: _ :: _ :: _ :: _ :: _ :: _ :: _ :: _ :: _ :: _ :: _ :: _ :: _ :: _ :: _ :: _ :: [])) (H' := [.arr 25 4 [[_, _, _, _]]]) rfl rfl ?_
     refine vs (vs (wr ?_))
     iterate 4 refine wN rfl rfl rfl (v185 rfl ?_)
     refine w_split 100 rfl (fun hg100 => ?_) (fun hg100 => ?_)
     ·
      have hgt : k > par b f i := of_decide_eq_true hg100
      refine v185 rfl ?_
      refine wN (v := .agg [_, _, _, _]) (wanted_t 100 (by kernel_rfl) rfl) rfl rfl (v185 rfl ?_)
      iterate 2 refine wN (wanted_t 100 (by kernel_rfl) rfl) rfl rfl (v185 rfl ?_)
      refine w_callI (env' := _) (wanted_t 100 (by kernel_rfl) rfl) rfl rfl (by kernel_rfl) rfl (by repeat' first | exact IsL.lend ‹_› | exact IsL.lend0 ‹_› | refine mapL_cons ?_ ?_ | refine lend_agg ?_ | rfl) (zPar G b hb x f hx hF k (by omega) (by omega)) rfl (v185 rfl ?_)
      iterate 2 refine wN (wanted_t 100 (by kernel_rfl) rfl) rfl rfl (v185 rfl ?_)
      refine wN rfl rfl rfl (v185 rfl ?_)
      refine we rfl ?_
      refine vc_cond rfl (fun hc107 => ?_) (fun hc107 => ?_)
      ·
       have hne : par b f k.toNat ≠ par b f i := by simpa using hc107
       refine vc_skip (n_then (vc_block (wr ?_)))
       refine wN (v := .agg [_, _, _, _]) rfl rfl rfl (v185 rfl ?_)
       iterate 2 refine wN rfl rfl rfl (v185 rfl ?_)
       refine w_callI (env' := _) rfl rfl rfl (by kernel_rfl) rfl (by repeat' first | exact IsL.lend ‹_› | exact IsL.lend0 ‹_› | refine mapL_cons ?_ ?_ | refine lend_agg ?_ | rfl) (zPar G b hb x f hx hF k (by omega) (by omega)) rfl (v185 rfl ?_)
       refine wN rfl rfl rfl (v185 rfl ?_)
       refine w_endB rfl (n_then ?_)
       refine hY3 ⟨par b f k.toNat, (par_lt (b := b) (f := f) (i := k.toNat)).1, by have := (par_lt (b := b) (f := f) (i := k.toNat)).2; omega, by rw [hcb]; exact climb_step hpi.1 hgt hne⟩ (by have := par_lt (b := b) (f := f) (i := k.toNat); simp only; omega) _ _ _ ?_ rfl
       repeat' first | exact trivial | refine ⟨.inr rfl, ?_⟩ | refine ⟨.inl rfl, ?_⟩ | refine ⟨.inl ?_, ?_⟩ | fail
       all_goals first | exact rfl
      ·
       have hcl : climb b f (par b f i) i ((i : Int) - 1) = k := by rw [hcb]; exact climb_stop (by intro h; exact h.2 (by simpa using hc107))
       refine vc_exit (x_then (x_then (x_same (n_then (vs (vs (wr ?_)))))))
       iterate 3 refine wN rfl rfl rfl (v185 rfl ?_)
       refine we rfl ?_
       refine vc_cond rfl (fun hc114 => ?_) (fun hc114 => ?_)
       ·
        have hr : rightAt b f i = false := by rw [rightAt, hyy]; simp only; rw [if_neg hnp, hcl, if_pos (of_decide_eq_true hc114)]
        refine vs (wr ?_)
        refine wN rfl rfl rfl (v185 rfl ?_)
        refine we rfl (vc_ret (r_then (r_block (r_then (r_then (r_block (r_then (r_fn rfl ?_))))))))
        have he := right_no hyy hr
        show some (AV.bool false) = some (AV.bool (rightP b f))
        rw [he]
       ·
        have hnl := of_decide_eq_false hc114
        refine vc_skip (n_then (vs (vs (wr ?_))))
        iterate 3 refine wN rfl rfl rfl (v185 rfl ?_)
        refine we rfl ?_
        refine vc_cond rfl (fun hc117 => ?_) (fun hc117 => ?_)
        ·
         have hra : rightAt b f i = true := by rw [rightAt, hyy]; simp only; rw [if_neg hnp, hcl, if_neg hnl, if_pos (by simpa using hc117)]
         refine vc_exit (x_then (x_same (n_then (wr ?_))))
         iterate 3 refine wN rfl rfl rfl (v185 rfl ?_)
         refine we rfl ?_
         refine hY1 ⟨i + 1, upto_all hn hra, hlt⟩ (by simp only; omega) _ _ _ ?_ rfl
         repeat' first | exact trivial | refine ⟨.inr rfl, ?_⟩ | refine ⟨.inl rfl, ?_⟩ | refine ⟨.inl ?_, ?_⟩ | fail
         all_goals first | exact (int_succ (by omega)).symm
        ·
         have hne2 : ¬ k = par b f i := by simpa using hc117
         obtain ⟨z, hz⟩ : ∃ z, f[k.toNat]? = some z := ⟨_, List.getElem?_eq_getElem (by omega)⟩
         have hrz := hx.at hz
         have hzs := hx.short z (List.mem_of_getElem? hz)
         have hrr : rightAt b f i = !twinR b f k y := by rw [rightAt, hyy]; simp only; rw [if_neg hnp, hcl, if_neg hnl, if_neg hne2]
         refine vc_skip (n_then (vs (vs (w_regionD (by kernel_rfl) ?_))))
         iterate 2 refine dN rfl rfl rfl (d185 rfl ?_)
         first | refine dN (v := .iptr _ [_, _]) rfl rfl rfl (d185 rfl ?_) | (refine y_index rfl rfl ‹_› rfl el26 (by omega) ‹_› rfl (fun bo => ?_); refine d185 rfl ?_)
         refine dN (v := .iptr _ [_, _]) rfl rfl rfl (d185 rfl ?_)
         iterate 3 refine dN rfl rfl rfl (d185 rfl ?_)
         first | refine dN (v := .iptr _ [_, _]) rfl rfl rfl (d185 rfl ?_) | (refine y_index rfl rfl ‹_› rfl el26 (by omega) ‹_› rfl (fun bo => ?_); refine d185 rfl ?_)
         refine dN (v := .iptr _ [_, _]) rfl rfl rfl (d185 rfl ?_)
         iterate 2 refine dN rfl rfl rfl (d185 rfl ?_)
         refine d_end rfl ?_
         refine vc_cond rfl (fun hc128 => ?_) (fun hc128 => ?_)
         ·
          have hr : rightAt b f i = false := by rw [hrr, twinR, hz, ht]; simp only [hc128, Bool.true_or, Bool.not_true]
          refine vs (wr ?_)
          refine wN rfl rfl rfl (v185 rfl ?_)
          refine we rfl (vc_ret (r_then (r_block (r_then (r_then (r_block (r_then (r_fn rfl ?_))))))))
          have he := right_no hyy hr
          show some (AV.bool false) = some (AV.bool (rightP b f))
          rw [he]
         ·
          refine vc_skip (n_then (vs (w_regionD (by kernel_rfl) ?_)))
          iterate 2 refine dN rfl rfl rfl (d185 rfl ?_)
          first | refine dN (v := .iptr _ [_, _]) rfl rfl rfl (d185 rfl ?_) | (refine y_index rfl rfl ‹_› rfl el26 (by omega) ‹_› rfl (fun bo => ?_); refine d185 rfl ?_)
          refine dN (v := .iptr _ [_, _]) rfl rfl rfl (d185 rfl ?_)
          iterate 3 refine dN rfl rfl rfl (d185 rfl ?_)
          first | refine dN (v := .iptr _ [_, _]) rfl rfl rfl (d185 rfl ?_) | (refine y_index rfl rfl ‹_› rfl el26 (by omega) ‹_› rfl (fun bo => ?_); refine d185 rfl ?_)
          refine dN (v := .iptr _ [_, _]) rfl rfl rfl (d185 rfl ?_)
          iterate 3 refine dN rfl rfl rfl (d185 rfl ?_)
          refine d_split 140 rfl (fun hg140 => ?_) (fun hg140 => ?_)
          ·
           refine d185 rfl ?_
           refine dN (v := .ptr 0 0 2) (wanted_t 140 (by kernel_rfl) rfl) rfl rfl (d185 rfl ?_)
           iterate 3 refine dN (wanted_t 140 (by kernel_rfl) rfl) rfl rfl (d185 rfl ?_)
           first | refine dN (v := .iptr _ [_, _]) (wanted_t 140 (by kernel_rfl) rfl) rfl rfl (d185 rfl ?_) | (refine y_index (wanted_t 140 (by kernel_rfl) rfl) rfl ‹_› rfl el26 (by omega) ‹_› rfl (fun bo => ?_); refine d185 rfl ?_)
           refine dN (v := .iptr _ [_, _]) (wanted_t 140 (by kernel_rfl) rfl) rfl rfl (d185 rfl ?_)
           refine dN (wanted_t 140 (by kernel_rfl) rfl) rfl rfl (d185 rfl ?_)
           first | refine dN (v := .iptr _ [_, _, _, _, _, _, _, _]) (wanted_t 140 (by kernel_rfl) rfl) rfl rfl (d185 rfl ?_) | (refine y_index (wanted_t 140 (by kernel_rfl) rfl) rfl ‹_› rfl el22 (by omega) ‹_› rfl (fun bo => ?_); refine d185 rfl ?_)
           refine dN (v := .iptr _ [_, _, _]) (wanted_t 140 (by kernel_rfl) rfl) rfl rfl (d185 rfl ?_)
           iterate 2 refine dN (wanted_t 140 (by kernel_rfl) rfl) rfl rfl (d185 rfl ?_)
           refine dN rfl rfl rfl (d185 rfl ?_)
           refine d_end rfl ?_
           refine vc_cond rfl (fun hc152 => ?_) (fun hc152 => ?_)
           ·
            have hzt : z.type = y.type := by simpa using hg140
            have hkz : KeyIn t z.data := key_in hok (by obtain ⟨t2, h1, h2, h3, h4, h5⟩ := fits_type (hF z (List.mem_of_getElem? hz)); rw [hzt, ht] at h1; cases h1; exact h4)
            have hky : KeyIn t y.data := key_in hok htm
            refine vs (w_regionD (by kernel_rfl) ?_)
            refine dN (v := .agg [_, _, _, _]) rfl rfl rfl (d185 rfl ?_)
            iterate 2 refine dN rfl rfl rfl (d185 rfl ?_)
            first | refine dN (v := .iptr _ [_, _]) rfl rfl rfl (d185 rfl ?_) | (refine y_index rfl rfl ‹_› rfl el26 (by omega) ‹_› rfl (fun bo => ?_); refine d185 rfl ?_)
            refine dN (v := .agg [_, _]) rfl rfl rfl (d185 rfl ?_)
            refine d_callI (env' := _) rfl rfl rfl (by kernel_rfl) rfl (by repeat' first | exact IsL.lend ‹_› | exact IsL.lend0 ‹_› | refine mapL_cons ?_ ?_ | refine lend_agg ?_ | rfl) (zKeyR G b hb z t hzs (by omega) (by rw [hzt]; exact ht) hkz) rfl (d185 rfl ?_)
            refine dN (v := .agg [_, _, _, _]) rfl rfl rfl (d185 rfl ?_)
            iterate 2 refine dN rfl rfl rfl (d185 rfl ?_)
            first | refine dN (v := .iptr _ [_, _]) rfl rfl rfl (d185 rfl ?_) | (refine y_index rfl rfl ‹_› rfl el26 (by omega) ‹_› rfl (fun bo => ?_); refine d185 rfl ?_)
            refine dN (v := .agg [_, _]) rfl rfl rfl (d185 rfl ?_)
            refine d_callI (env' := _) rfl rfl rfl (by kernel_rfl) rfl (by repeat' first | exact IsL.lend ‹_› | exact IsL.lend0 ‹_› | refine mapL_cons ?_ ?_ | refine lend_agg ?_ | rfl) (zKeyR G b hb y t hys (by omega) ht hky) rfl (d185 rfl ?_)
            iterate 2 refine dN rfl rfl rfl (d185 rfl ?_)
            refine d_end rfl (vs (w_regionD (by kernel_rfl) ?_))
            iterate 4 refine dN rfl rfl rfl (d185 rfl ?_)
            refine d_split 168 rfl (fun hg168 => ?_) (fun hg168 => ?_)
            ·
             have hr : rightAt b f i = false := by rw [hrr, twinR, hz, ht]; simp only [hc128, hg140, hc152, hg168, Bool.true_or, Bool.and_self, Bool.or_true, Bool.not_true]
             refine d185 rfl ?_
             iterate 4 refine dS (wanted_f 168 (by kernel_rfl) rfl) (d185 rfl ?_)
             iterate 10 refine dS (wanted_k 172 (by kernel_rfl) rfl) (d185 rfl ?_)
             refine dS (wanted_f 168 (by kernel_rfl) rfl) (d185 rfl ?_)
             refine dN rfl rfl rfl (d185 rfl ?_)
             refine d_end rfl ?_
             refine vc_true rfl ?_
             refine vs (wr ?_)
             refine wN rfl rfl rfl (v185 rfl ?_)
             refine we rfl (vc_ret (r_block (r_then (r_then (r_block (r_then (r_fn rfl ?_)))))))
             have he := right_no hyy hr
             show some (AV.bool false) = some (AV.bool (rightP b f))
             rw [he]
            ·
             refine d185 rfl ?_
             iterate 4 refine dN (wanted_t 168 (by kernel_rfl) rfl) rfl rfl (d185 rfl ?_)
             refine d_split 172 rfl (fun hg172 => ?_) (fun hg172 => ?_)
             ·
              refine d185 rfl ?_
              refine dN (v := .ptr 0 0 2) (wanted_t 172 (by kernel_rfl) rfl) rfl rfl (d185 rfl ?_)
              iterate 3 refine dN (wanted_t 172 (by kernel_rfl) rfl) rfl rfl (d185 rfl ?_)
              first | refine dN (v := .iptr _ [_, _]) (wanted_t 172 (by kernel_rfl) rfl) rfl rfl (d185 rfl ?_) | (refine y_index (wanted_t 172 (by kernel_rfl) rfl) rfl ‹_› rfl el26 (by omega) ‹_› rfl (fun bo => ?_); refine d185 rfl ?_)
              refine dN (v := .iptr _ [_, _]) (wanted_t 172 (by kernel_rfl) rfl) rfl rfl (d185 rfl ?_)
              refine dN (wanted_t 172 (by kernel_rfl) rfl) rfl rfl (d185 rfl ?_)
              first | refine dN (v := .iptr _ [_, _, _, _, _, _, _, _]) (wanted_t 172 (by kernel_rfl) rfl) rfl rfl (d185 rfl ?_) | (refine y_index (wanted_t 172 (by kernel_rfl) rfl) rfl ‹_› rfl el22 (by omega) ‹_› rfl (fun bo => ?_); refine d185 rfl ?_)
              refine dN (v := .iptr _ [_, _]) (wanted_t 172 (by kernel_rfl) rfl) rfl rfl (d185 rfl ?_)
              refine dN (wanted_t 172 (by kernel_rfl) rfl) rfl rfl (d185 rfl ?_)
              refine dN (wanted_t 168 (by kernel_rfl) rfl) rfl rfl (d185 rfl ?_)
              refine dN rfl rfl rfl (d185 rfl ?_)
              refine d_end rfl ?_
              refine vc_cond rfl (fun hc184 => ?_) (fun hc184 => ?_)
              ·
               have hr : rightAt b f i = false := by rw [hrr, twinR, hz, ht]; simp only [hc128, hg140, hc152, hg168, hg172, hc184, Bool.and_self, Bool.or_true, Bool.not_true]
               refine vs (wr ?_)
               refine wN rfl rfl rfl (v185 rfl ?_)
               refine we rfl (vc_ret (r_block (r_then (r_then (r_block (r_then (r_fn rfl ?_)))))))
               have he := right_no hyy hr
               show some (AV.bool false) = some (AV.bool (rightP b f))
               rw [he]
              ·
               have hra : rightAt b f i = true := by rw [hrr, twinR, hz, ht]; simp only [hc128, hg140, hc152, hg168]; simp only [hc184]; simp
               refine vc_skip (n_block (n_then (wr ?_)))
               iterate 3 refine wN rfl rfl rfl (v185 rfl ?_)
               refine we rfl ?_
               refine hY1 ⟨i + 1, upto_all hn hra, hlt⟩ (by simp only; omega) _ _ _ ?_ rfl
               repeat' first | exact trivial | refine ⟨.inr rfl, ?_⟩ | refine ⟨.inl rfl, ?_⟩ | refine ⟨.inl ?_, ?_⟩ | fail
               all_goals first | exact (int_succ (by omega)).symm
             ·
              have hra : rightAt b f i = true := by rw [hrr, twinR, hz, ht]; simp only [hc128, hg140, hc152, hg168]; simp only [hg172]; simp
              refine d185 rfl ?_
              iterate 10 refine dS (wanted_f 172 (by kernel_rfl) rfl) (d185 rfl ?_)
              refine dN (wanted_t 168 (by kernel_rfl) rfl) rfl rfl (d185 rfl ?_)
              refine dN rfl rfl rfl (d185 rfl ?_)
              refine d_end rfl ?_
              refine vc_false rfl ?_
              refine vc_skip (n_block (n_then (wr ?_)))
              iterate 3 refine wN rfl rfl rfl (v185 rfl ?_)
              refine we rfl ?_
              refine hY1 ⟨i + 1, upto_all hn hra, hlt⟩ (by simp only; omega) _ _ _ ?_ rfl
              repeat' first | exact trivial | refine ⟨.inr rfl, ?_⟩ | refine ⟨.inl rfl, ?_⟩ | refine ⟨.inl ?_, ?_⟩ | fail
              all_goals first | exact (int_succ (by omega)).symm
           ·
            have hra : rightAt b f i = true := by rw [hrr, twinR, hz, ht]; simp only [hc128, hg140, hc152, Bool.false_or, Bool.and_false, Bool.false_and, Bool.not_false]
            refine vc_skip (n_block (n_then (wr ?_)))
            iterate 3 refine wN rfl rfl rfl (v185 rfl ?_)
            refine we rfl ?_
            refine hY1 ⟨i + 1, upto_all hn hra, hlt⟩ (by simp only; omega) _ _ _ ?_ rfl
            repeat' first | exact trivial | refine ⟨.inr rfl, ?_⟩ | refine ⟨.inl rfl, ?_⟩ | refine ⟨.inl ?_, ?_⟩ | fail
            all_goals first | exact (int_succ (by omega)).symm
          ·
           have hra : rightAt b f i = true := by rw [hrr, twinR, hz, ht]; simp only [hc128, hg140, Bool.false_or, Bool.and_false, Bool.false_and, Bool.not_false]
           refine d185 rfl ?_
           iterate 11 refine dS (wanted_f 140 (by kernel_rfl) rfl) (d185 rfl ?_)
           refine dN rfl rfl rfl (d185 rfl ?_)
           refine d_end rfl ?_
           refine vc_false rfl ?_
           refine vc_skip (n_block (n_then (wr ?_)))
           iterate 3 refine wN rfl rfl rfl (v185 rfl ?_)
           refine we rfl ?_
           refine hY1 ⟨i + 1, upto_all hn hra, hlt⟩ (by simp only; omega) _ _ _ ?_ rfl
           repeat' first | exact trivial | refine ⟨.inr rfl, ?_⟩ | refine ⟨.inl rfl, ?_⟩ | refine ⟨.inl ?_, ?_⟩ | fail
           all_goals first | exact (int_succ (by omega)).symm
     ·
      have hcl : climb b f (par b f i) i ((i : Int) - 1) = k := by rw [hcb]; exact climb_stop (by intro h; have := of_decide_eq_false hg100; omega)
      refine v185 rfl ?_
      iterate 6 refine wS (wanted_f 100 (by kernel_rfl) rfl) (v185 rfl ?_)
      refine wN rfl rfl rfl (v185 rfl ?_)
      refine we rfl ?_
      refine vc_false rfl ?_
      refine vc_exit (x_then (x_then (x_same (n_then (vs (vs (wr ?_)))))))
      iterate 3 refine wN rfl rfl rfl (v185 rfl ?_)
      refine we rfl ?_
      refine vc_cond rfl (fun hc114 => ?_) (fun hc114 => ?_)
      ·
       have hr : rightAt b f i = false := by rw [rightAt, hyy]; simp only; rw [if_neg hnp, hcl, if_pos (of_decide_eq_true hc114)]
       refine vs (wr ?_)
       refine wN rfl rfl rfl (v185 rfl ?_)
       refine we rfl (vc_ret (r_then (r_block (r_then (r_then (r_block (r_then (r_fn rfl ?_))))))))
       have he := right_no hyy hr
       show some (AV.bool false) = some (AV.bool (rightP b f))
       rw [he]
      ·
       have hnl := of_decide_eq_false hc114
       refine vc_skip (n_then (vs (vs (wr ?_))))
       iterate 3 refine wN rfl rfl rfl (v185 rfl ?_)
       refine we rfl ?_
       refine vc_cond rfl (fun hc117 => ?_) (fun hc117 => ?_)
       ·
        have hra : rightAt b f i = true := by rw [rightAt, hyy]; simp only; rw [if_neg hnp, hcl, if_neg hnl, if_pos (by simpa using hc117)]
        refine vc_exit (x_then (x_same (n_then (wr ?_))))
        iterate 3 refine wN rfl rfl rfl (v185 rfl ?_)
        refine we rfl ?_
        refine hY1 ⟨i + 1, upto_all hn hra, hlt⟩ (by simp only; omega) _ _ _ ?_ rfl
        repeat' first | exact trivial | refine ⟨.inr rfl, ?_⟩ | refine ⟨.inl rfl, ?_⟩ | refine ⟨.inl ?_, ?_⟩ | fail
        all_goals first | exact (int_succ (by omega)).symm
       ·
        have hne2 : ¬ k = par b f i := by simpa using hc117
        obtain ⟨z, hz⟩ : ∃ z, f[k.toNat]? = some z := ⟨_, List.getElem?_eq_getElem (by omega)⟩
        have hrz := hx.at hz
        have hzs := hx.short z (List.mem_of_getElem? hz)
        have hrr : rightAt b f i = !twinR b f k y := by rw [rightAt, hyy]; simp only; rw [if_neg hnp, hcl, if_neg hnl, if_neg hne2]
        refine vc_skip (n_then (vs (vs (w_regionD (by kernel_rfl) ?_))))
        iterate 2 refine dN rfl rfl rfl (d185 rfl ?_)
        first | refine dN (v := .iptr _ [_, _]) rfl rfl rfl (d185 rfl ?_) | (refine y_index rfl rfl ‹_› rfl el26 (by omega) ‹_› rfl (fun bo => ?_); refine d185 rfl ?_)
        refine dN (v := .iptr _ [_, _]) rfl rfl rfl (d185 rfl ?_)
        iterate 3 refine dN rfl rfl rfl (d185 rfl ?_)
        first | refine dN (v := .iptr _ [_, _]) rfl rfl rfl (d185 rfl ?_) | (refine y_index rfl rfl ‹_› rfl el26 (by omega) ‹_› rfl (fun bo => ?_); refine d185 rfl ?_)
        refine dN (v := .iptr _ [_, _]) rfl rfl rfl (d185 rfl ?_)
        iterate 2 refine dN rfl rfl rfl (d185 rfl ?_)
        refine d_end rfl ?_
        refine vc_cond rfl (fun hc128 => ?_) (fun hc128 => ?_)
        ·
         have hr : rightAt b f i = false := by rw [hrr, twinR, hz, ht]; simp only [hc128, Bool.true_or, Bool.not_true]
         refine vs (wr ?_)
         refine wN rfl rfl rfl (v185 rfl ?_)
         refine we rfl (vc_ret (r_then (r_block (r_then (r_then (r_block (r_then (r_fn rfl ?_))))))))
         have he := right_no hyy hr
         show some (AV.bool false) = some (AV.bool (rightP b f))
         rw [he]
        ·
         refine vc_skip (n_then (vs (w_regionD (by kernel_rfl) ?_)))
         iterate 2 refine dN rfl rfl rfl (d185 rfl ?_)
         first | refine dN (v := .iptr _ [_, _]) rfl rfl rfl (d185 rfl ?_) | (refine y_index rfl rfl ‹_› rfl el26 (by omega) ‹_› rfl (fun bo => ?_); refine d185 rfl ?_)
         refine dN (v := .iptr _ [_, _]) rfl rfl rfl (d185 rfl ?_)
         iterate 3 refine dN rfl rfl rfl (d185 rfl ?_)
         first | refine dN (v := .iptr _ [_, _]) rfl rfl rfl (d185 rfl ?_) | (refine y_index rfl rfl ‹_› rfl el26 (by omega) ‹_› rfl (fun bo => ?_); refine d185 rfl ?_)
         refine dN (v := .iptr _ [_, _]) rfl rfl rfl (d185 rfl ?_)
         iterate 3 refine dN rfl rfl rfl (d185 rfl ?_)
         refine d_split 140 rfl (fun hg140 => ?_) (fun hg140 => ?_)
         ·
          refine d185 rfl ?_
          refine dN (v := .ptr 0 0 2) (wanted_t 140 (by kernel_rfl) rfl) rfl rfl (d185 rfl ?_)
          iterate 3 refine dN (wanted_t 140 (by kernel_rfl) rfl) rfl rfl (d185 rfl ?_)
          first | refine dN (v := .iptr _ [_, _]) (wanted_t 140 (by kernel_rfl) rfl) rfl rfl (d185 rfl ?_) | (refine y_index (wanted_t 140 (by kernel_rfl) rfl) rfl ‹_› rfl el26 (by omega) ‹_› rfl (fun bo => ?_); refine d185 rfl ?_)
          refine dN (v := .iptr _ [_, _]) (wanted_t 140 (by kernel_rfl) rfl) rfl rfl (d185 rfl ?_)
          refine dN (wanted_t 140 (by kernel_rfl) rfl) rfl rfl (d185 rfl ?_)
          first | refine dN (v := .iptr _ [_, _, _, _, _, _, _, _]) (wanted_t 140 (by kernel_rfl) rfl) rfl rfl (d185 rfl ?_) | (refine y_index (wanted_t 140 (by kernel_rfl) rfl) rfl ‹_› rfl el22 (by omega) ‹_› rfl (fun bo => ?_); refine d185 rfl ?_)
          refine dN (v := .iptr _ [_, _, _]) (wanted_t 140 (by kernel_rfl) rfl) rfl rfl (d185 rfl ?_)
          iterate 2 refine dN (wanted_t 140 (by kernel_rfl) rfl) rfl rfl (d185 rfl ?_)
          refine dN rfl rfl rfl (d185 rfl ?_)
          refine d_end rfl ?_
          refine vc_cond rfl (fun hc152 => ?_) (fun hc152 => ?_)
          ·
           have hzt : z.type = y.type := by simpa using hg140
           have hkz : KeyIn t z.data := key_in hok (by obtain ⟨t2, h1, h2, h3, h4, h5⟩ := fits_type (hF z (List.mem_of_getElem? hz)); rw [hzt, ht] at h1; cases h1; exact h4)
           have hky : KeyIn t y.data := key_in hok htm
           refine vs (w_regionD (by kernel_rfl) ?_)
           refine dN (v := .agg [_, _, _, _]) rfl rfl rfl (d185 rfl ?_)
           iterate 2 refine dN rfl rfl rfl (d185 rfl ?_)
           first | refine dN (v := .iptr _ [_, _]) rfl rfl rfl (d185 rfl ?_) | (refine y_index rfl rfl ‹_› rfl el26 (by omega) ‹_› rfl (fun bo => ?_); refine d185 rfl ?_)
           refine dN (v := .agg [_, _]) rfl rfl rfl (d185 rfl ?_)
           refine d_callI (env' := _) rfl rfl rfl (by kernel_rfl) rfl (by repeat' first | exact IsL.lend ‹_› | exact IsL.lend0 ‹_› | refine mapL_cons ?_ ?_ | refine lend_agg ?_ | rfl) (zKeyR G b hb z t hzs (by omega) (by rw [hzt]; exact ht) hkz) rfl (d185 rfl ?_)
           refine dN (v := .agg [_, _, _, _]) rfl rfl rfl (d185 rfl ?_)
           iterate 2 refine dN rfl rfl rfl (d185 rfl ?_)
           first | refine dN (v := .iptr _ [_, _]) rfl rfl rfl (d185 rfl ?_) | (refine y_index rfl rfl ‹_› rfl el26 (by omega) ‹_› rfl (fun bo => ?_); refine d185 rfl ?_)
           refine dN (v := .agg [_, _]) rfl rfl rfl (d185 rfl ?_)
           refine d_callI (env' := _) rfl rfl rfl (by kernel_rfl) rfl (by repeat' first | exact IsL.lend ‹_› | exact IsL.lend0 ‹_› | refine mapL_cons ?_ ?_ | refine lend_agg ?_ | rfl) (zKeyR G b hb y t hys (by omega) ht hky) rfl (d185 rfl ?_)
           iterate 2 refine dN rfl rfl rfl (d185 rfl ?_)
           refine d_end rfl (vs (w_regionD (by kernel_rfl) ?_))
           iterate 4 refine dN rfl rfl rfl (d185 rfl ?_)
           refine d_split 168 rfl (fun hg168 => ?_) (fun hg168 => ?_)
           ·
            have hr : rightAt b f i = false := by rw [hrr, twinR, hz, ht]; simp only [hc128, hg140, hc152, hg168, Bool.true_or, Bool.and_self, Bool.or_true, Bool.not_true]
            refine d185 rfl ?_
            iterate 4 refine dS (wanted_f 168 (by kernel_rfl) rfl) (d185 rfl ?_)
            iterate 10 refine dS (wanted_k 172 (by kernel_rfl) rfl) (d185 rfl ?_)
            refine dS (wanted_f 168 (by kernel_rfl) rfl) (d185 rfl ?_)
            refine dN rfl rfl rfl (d185 rfl ?_)
            refine d_end rfl ?_
            refine vc_true rfl ?_
            refine vs (wr ?_)
            refine wN rfl rfl rfl (v185 rfl ?_)
            refine we rfl (vc_ret (r_block (r_then (r_then (r_block (r_then (r_fn rfl ?_)))))))
            have he := right_no hyy hr
            show some (AV.bool false) = some (AV.bool (rightP b f))
            rw [he]
           ·
            refine d185 rfl ?_
            iterate 4 refine dN (wanted_t 168 (by kernel_rfl) rfl) rfl rfl (d185 rfl ?_)
            refine d_split 172 rfl (fun hg172 => ?_) (fun hg172 => ?_)
            ·
             refine d185 rfl ?_
             refine dN (v := .ptr 0 0 2) (wanted_t 172 (by kernel_rfl) rfl) rfl rfl (d185 rfl ?_)
             iterate 3 refine dN (wanted_t 172 (by kernel_rfl) rfl) rfl rfl (d185 rfl ?_)
             first | refine dN (v := .iptr _ [_, _]) (wanted_t 172 (by kernel_rfl) rfl) rfl rfl (d185 rfl ?_) | (refine y_index (wanted_t 172 (by kernel_rfl) rfl) rfl ‹_› rfl el26 (by omega) ‹_› rfl (fun bo => ?_); refine d185 rfl ?_)
             refine dN (v := .iptr _ [_, _]) (wanted_t 172 (by kernel_rfl) rfl) rfl rfl (d185 rfl ?_)
             refine dN (wanted_t 172 (by kernel_rfl) rfl) rfl rfl (d185 rfl ?_)
             first | refine dN (v := .iptr _ [_, _, _, _, _, _, _, _]) (wanted_t 172 (by kernel_rfl) rfl) rfl rfl (d185 rfl ?_) | (refine y_index (wanted_t 172 (by kernel_rfl) rfl) rfl ‹_› rfl el22 (by omega) ‹_› rfl (fun bo => ?_); refine d185 rfl ?_)
             refine dN (v := .iptr _ [_, _]) (wanted_t 172 (by kernel_rfl) rfl) rfl rfl (d185 rfl ?_)
             refine dN (wanted_t 172 (by kernel_rfl) rfl) rfl rfl (d185 rfl ?_)
             refine dN (wanted_t 168 (by kernel_rfl) rfl) rfl rfl (d185 rfl ?_)
             refine dN rfl rfl rfl (d185 rfl ?_)
             refine d_end rfl ?_
             refine vc_cond rfl (fun hc184 => ?_) (fun hc184 => ?_)
             ·
              have hr : rightAt b f i = false := by rw [hrr, twinR, hz, ht]; simp only [hc128, hg140, hc152, hg168, hg172, hc184, Bool.and_self, Bool.or_true, Bool.not_true]
              refine vs (wr ?_)
              refine wN rfl rfl rfl (v185 rfl ?_)
              refine we rfl (vc_ret (r_block (r_then (r_then (r_block (r_then (r_fn rfl ?_)))))))
              have he := right_no hyy hr
              show some (AV.bool false) = some (AV.bool (rightP b f))
              rw [he]
             ·
              have hra : rightAt b f i = true := by rw [hrr, twinR, hz, ht]; simp only [hc128, hg140, hc152, hg168]; simp only [hc184]; simp
              refine vc_skip (n_block (n_then (wr ?_)))
              iterate 3 refine wN rfl rfl rfl (v185 rfl ?_)
              refine we rfl ?_
              refine hY1 ⟨i + 1, upto_all hn hra, hlt⟩ (by simp only; omega) _ _ _ ?_ rfl
              repeat' first | exact trivial | refine ⟨.inr rfl, ?_⟩ | refine ⟨.inl rfl, ?_⟩ | refine ⟨.inl ?_, ?_⟩ | fail
              all_goals first | exact (int_succ (by omega)).symm
            ·
             have hra : rightAt b f i = true := by rw [hrr, twinR, hz, ht]; simp only [hc128, hg140, hc152, hg168]; simp only [hg172]; simp
             refine d185 rfl ?_
             iterate 10 refine dS (wanted_f 172 (by kernel_rfl) rfl) (d185 rfl ?_)
             refine dN (wanted_t 168 (by kernel_rfl) rfl) rfl rfl (d185 rfl ?_)
             refine dN rfl rfl rfl (d185 rfl ?_)
             refine d_end rfl ?_
             refine vc_false rfl ?_
             refine vc_skip (n_block (n_then (wr ?_)))
             iterate 3 refine wN rfl rfl rfl (v185 rfl ?_)
             refine we rfl ?_
             refine hY1 ⟨i + 1, upto_all hn hra, hlt⟩ (by simp only; omega) _ _ _ ?_ rfl
             repeat' first | exact trivial | refine ⟨.inr rfl, ?_⟩ | refine ⟨.inl rfl, ?_⟩ | refine ⟨.inl ?_, ?_⟩ | fail
             all_goals first | exact (int_succ (by omega)).symm
          ·
           have hra : rightAt b f i = true := by rw [hrr, twinR, hz, ht]; simp only [hc128, hg140, hc152, Bool.false_or, Bool.and_false, Bool.false_and, Bool.not_false]
           refine vc_skip (n_block (n_then (wr ?_)))
           iterate 3 refine wN rfl rfl rfl (v185 rfl ?_)
           refine we rfl ?_
           refine hY1 ⟨i + 1, upto_all hn hra, hlt⟩ (by simp only; omega) _ _ _ ?_ rfl
           repeat' first | exact trivial | refine ⟨.inr rfl, ?_⟩ | refine ⟨.inl rfl, ?_⟩ | refine ⟨.inl ?_, ?_⟩ | fail
           all_goals first | exact (int_succ (by omega)).symm
         ·
          have hra : rightAt b f i = true := by rw [hrr, twinR, hz, ht]; simp only [hc128, hg140, Bool.false_or, Bool.and_false, Bool.false_and, Bool.not_false]
          refine d185 rfl ?_
          iterate 11 refine dS (wanted_f 140 (by kernel_rfl) rfl) (d185 rfl ?_)
          refine dN rfl rfl rfl (d185 rfl ?_)
          refine d_end rfl ?_
          refine vc_false rfl ?_
          refine vc_skip (n_block (n_then (wr ?_)))
          iterate 3 refine wN rfl rfl rfl (v185 rfl ?_)
          refine we rfl ?_
          refine hY1 ⟨i + 1, upto_all hn hra, hlt⟩ (by simp only; omega) _ _ _ ?_ rfl
          repeat' first | exact trivial | refine ⟨.inr rfl, ?_⟩ | refine ⟨.inl rfl, ?_⟩ | refine ⟨.inl ?_, ?_⟩ | fail
          all_goals first | exact (int_succ (by omega)).symm
   ·
    have hge : ¬ i < f.length := by have := of_decide_eq_false hc78; omega
    refine vc_exit (x_then (x_then (x_same (n_then (vs (wr ?_))))))
    refine wN rfl rfl rfl (v185 rfl ?_)
    refine we rfl (vc_ret (r_fn rfl ?_))
    show some (AV.bool true) = some (AV.bool (rightP b f))
    rw [right_yes h200 hF (fun j hj => hn j (by omega))]
end Go.Vi
namespace Go.Vi
open Go Go.Vi
theorem less_irrefl : ∀ (l : List UInt8), Op.bytesLess l l = false
 | [] => rfl
 | a :: l => by simp [Op.bytesLess, less_irrefl l]
theorem seq_less {a c : ByteArray} (h : seq a c = true) : sless a c = false := by
 unfold seq at h
 unfold sless
 rw [eq_of_beq h]
 exact less_irrefl _
def pv (ws : List Int) (m : Nat) : Int := (-1 :: ws).getD m 0
theorem pv_zero {ws : List Int} : pv ws 0 = -1 := rfl
theorem pv_at {ws : List Int} {m : Nat} {w : Int} (h : ws[m]? = some w) : pv ws (m + 1) = w := by
 simp [pv, List.getD, h]
theorem pv_get {ws : List Int} {m : Nat} (h : m < ws.length) : ws[m]? = some (pv ws (m + 1)) := by
 obtain ⟨w, hw⟩ : ∃ w, ws[m]? = some w := ⟨_, List.getElem?_eq_getElem h⟩
 rw [pv_at hw, hw]
theorem pv_mem {ws : List Int} {m : Nat} (h : m < ws.length) : pv ws (m + 1) ∈ ws := List.mem_of_getElem? (pv_get h)
def ty (f : List PI) (k : Int) : Int := match f[k.toNat]? with
 | some y => y.type
 | none => -1
structure Path (b : PB) (f : List PI) (i : Nat) (ws : List Int) : Prop where
 last : pv ws ws.length = (i : Int) - 1
 bound : ∀ w ∈ ws, 0 ≤ w ∧ w < i
 up : ∀ m, m < ws.length → par b f (pv ws (m + 1)).toNat = pv ws m
 near : ∀ w ∈ ws, near f (ty f w) i = w
 inc : ws.Pairwise (fun a c => ty f a < ty f c)
variable {b : PB} {f : List PI} {i : Nat} {ws : List Int}
theorem pv_ge (h : Path b f i ws) {m : Nat} (hm : m ≤ ws.length) : -1 ≤ pv ws m := by
 cases m with
 | zero => rw [pv_zero]; omega
 | succ m => have := h.bound _ (pv_mem (show m < ws.length by omega)); omega
theorem pv_lt (h : Path b f i ws) {n : Nat} : ∀ m, n < m → m ≤ ws.length → pv ws n < pv ws m
 | 0, h1, _ => by omega
 | m + 1, h1, h2 => by
   have hu := h.up m (by omega)
   have hb := h.bound _ (pv_mem (show m < ws.length by omega))
   have hp := par_lt (b := b) (f := f) (i := (pv ws (m + 1)).toNat)
   by_cases e : n = m
   · subst e; omega
   · have := pv_lt h (n := n) m (by omega) (by omega)
     omega
theorem climb_path (h : Path b f i ws) {n : Nat} : ∀ m, n < m → m ≤ ws.length → climb b f (pv ws n) (pv ws m + 1).toNat (pv ws m) = pv ws (n + 1)
 | 0, h1, _ => by omega
 | m + 1, h1, h2 => by
   have hlt := pv_lt h (n := n) (m + 1) h1 h2
   have hu := h.up m (by omega)
   have hge := pv_ge h (m := n) (by omega)
   by_cases e : n = m
   · subst e
     exact climb_stop (fun hc => hc.2 hu)
   · have hl2 := pv_lt h (n := n) m (by omega) (by omega)
     rw [climb_step hge hlt (by rw [hu]; omega), hu]
     exact climb_path h m (by omega) (by omega)
theorem pv_ne {p : Int} (h0 : 0 ≤ p) (hp : p ∉ ws) {m : Nat} (hm : m ≤ ws.length) : pv ws m ≠ p := by
 cases m with
 | zero => rw [pv_zero]; omega
 | succ m => exact fun e => hp (e ▸ pv_mem (show m < ws.length by omega))
theorem climb_off (h : Path b f i ws) {p : Int} (h0 : 0 ≤ p) (hp : p ∉ ws) : ∀ m, m ≤ ws.length → climb b f p (pv ws m + 1).toNat (pv ws m) < p
 | 0, _ => by
   rw [climb_stop (by rw [pv_zero]; omega), pv_zero]; omega
 | m + 1, hm => by
   have hne := pv_ne h0 hp hm
   by_cases hk : pv ws (m + 1) > p
   · have hu := h.up m (by omega)
     rw [climb_step (by omega) hk (by rw [hu]; exact pv_ne h0 hp (by omega)), hu]
     exact climb_off h h0 hp m (by omega)
   · rw [climb_stop (fun c => hk c.1)]; omega
theorem ty_of {f : List PI} {pt k : Int} (h : isTy f pt k = true) : ty f k = pt := by
 unfold isTy at h
 unfold ty
 split at h
 · rename_i y hy; rw [hy]; exact eq_of_beq h
 · cases h
theorem near_ty {f : List PI} {pt : Int} : ∀ {k : Nat}, 0 ≤ near f pt k → isTy f pt (near f pt k) = true
 | 0, h => by simp [Vi.near] at h
 | k + 1, h => by
   simp only [Vi.near] at h ⊢
   split at h
   · rename_i hc; rw [if_pos hc]; exact hc
   · rename_i hc; rw [if_neg hc]; exact near_ty h
theorem slot_cases {f : List PI} {pt : Int} (ws : List Int) : (∃ (m : Nat) (w : Int), ws[m]? = some w ∧ isTy f pt w = true ∧ fidx (intP (isTy f pt)) (wrows ws) = (m : Int)) ∨ (fidx (intP (isTy f pt)) (wrows ws) = -1 ∧ ∀ w ∈ ws, isTy f pt w = false) := by
 have hf : (wrows ws).findIdx? (intP (isTy f pt)) = ws.findIdx? (isTy f pt) := by
  rw [wrows, List.findIdx?_map]
  rfl
 unfold fidx
 rw [hf]
 cases h : ws.findIdx? (isTy f pt) with
 | none => exact .inr ⟨rfl, fun w hw => by simpa using List.findIdx?_eq_none_iff.1 h w hw⟩
 | some m =>
   obtain ⟨h1, h2, _⟩ := List.findIdx?_eq_some_iff_getElem.1 h
   exact .inl ⟨m, ws[m], List.getElem?_eq_getElem h1, h2, rfl⟩
theorem twin_eq {k : Int} {y z : PI} {t : PT} (hz : f[k.toNat]? = some z) (ht : b.types[y.type.toNat]? = some t) (h0 : 0 ≤ k) : twinBad b f k y = twinR b f k y := by
 have h0' : decide (k ≥ 0) = true := decide_eq_true h0
 simp only [twinBad, twinR, hz, ht, h0', Bool.true_and, inOrderP]
 by_cases hk : t.key < 0
 · rw [if_pos hk, decide_eq_false (show ¬ t.key ≥ 0 by omega)]; simp
 · rw [if_neg hk, decide_eq_true (show t.key ≥ 0 by omega)]
   cases hs : seq (keyOf t z.data) (keyOf t y.data)
   · cases sless (keyOf t z.data) (keyOf t y.data) <;> simp
   · rw [seq_less hs]; cases t.unique <;> simp
theorem root_only (h : baseOk b = true) {t : Int} (h0 : 0 ≤ t) (h1 : t < b.types.length) (hp : parentOf b.types t < 0) : t = 0 := by
 rw [valid_eq] at h
 simp only [refOk, Bool.and_eq_true] at h
 have := List.all_eq_true.1 h.1.2 t.toNat (List.mem_range.2 (by omega))
 obtain ⟨u, hu⟩ : ∃ u, b.types[t.toNat]? = some u := ⟨_, List.getElem?_eq_getElem (by omega)⟩
 simp only [refTypeAt, hu, refType, Bool.and_eq_true] at this
 simp only [parentOf, hu] at hp
 by_cases e : t.toNat = 0
 · omega
 · have h2 := this.2
   rw [if_neg e] at h2
   simp only [upBad, Bool.not_eq_true', Bool.or_eq_false_iff, decide_eq_false_iff_not] at h2
   omega
theorem path_nil : Path b f 0 [] := ⟨rfl, fun w h => (by simp at h), fun m h => (by simp at h), fun w h => (by simp at h), List.Pairwise.nil⟩
theorem pv_take {n m : Nat} {k : Int} (hn : n ≤ ws.length) (hm : m ≤ n) : pv (ws.take n ++ [k]) m = pv ws m := by
 cases m with
 | zero => rfl
 | succ m =>
   obtain ⟨w, hw⟩ : ∃ w, ws[m]? = some w := ⟨_, List.getElem?_eq_getElem (by omega)⟩
   rw [pv_at hw, pv_at]
   rw [List.getElem?_append_left (by simp; omega), List.getElem?_take_of_lt (by omega), hw]
theorem pv_end {n : Nat} {k : Int} (hn : n ≤ ws.length) : pv (ws.take n ++ [k]) (n + 1) = k := by
 rw [pv_at]
 rw [List.getElem?_append_right (by simp; omega), show n - (ws.take n).length = 0 by rw [List.length_take]; omega]
 rfl
theorem path_next {n : Nat} {y : PI} (hP : Path b f i ws) (hy : f[i]? = some y) (hn : n ≤ ws.length) (hpar : par b f i = pv ws n) (hty : ∀ w ∈ ws.take n, ty f w < y.type) : Path b f (i + 1) (ws.take n ++ [(i : Int)]) := by
 have hti : ty f (i : Int) = y.type := by simp [ty, hy]
 have hlen : (ws.take n ++ [(i : Int)]).length = n + 1 := by simp; omega
 refine ⟨?_, ?_, ?_, ?_, ?_⟩
 · rw [hlen, pv_end hn]; omega
 · intro w hw
   rcases List.mem_append.1 hw with hw | hw
   · have := hP.bound w (List.mem_of_mem_take hw); omega
   · simp at hw; omega
 · intro m hm
   rw [hlen] at hm
   by_cases e : m = n
   · subst e
     rw [pv_end hn, pv_take hn (Nat.le_refl _), Int.toNat_natCast, hpar]
   · rw [pv_take hn (by omega), pv_take hn (by omega)]
     exact hP.up m (by omega)
 · intro w hw
   simp only [Vi.near]
   rcases List.mem_append.1 hw with hw | hw
   · have h1 := hty w hw
     have h2 : isTy f (ty f w) (i : Int) = false := by
      simp only [isTy, Int.toNat_natCast, hy, beq_eq_false_iff_ne]; omega
     rw [if_neg (by rw [h2]; simp)]
     exact hP.near w (List.mem_of_mem_take hw)
   · simp at hw
     subst hw
     rw [if_pos]
     simp only [isTy, Int.toNat_natCast, hy, hti, beq_self_eq_true]
 · rw [List.pairwise_append]
   refine ⟨hP.inc.sublist (List.take_sublist _ _), List.pairwise_singleton _ _, fun w hw c hc => ?_⟩
   simp at hc
   subst hc
   rw [hti]
   exact hty w hw
theorem step_path {y : PI} (hv : baseOk b = true) (hy : f[i]? = some y) (hft : fitsI b y = true) (hP : Path b f i ws) :
 (vstep b f i ws y = none ∧ rightAt b f i = false) ∨ (∃ ws', vstep b f i ws y = some ws' ∧ rightAt b f i = true ∧ Path b f (i + 1) ws') := by
 obtain ⟨t, ht, h0, h1, _, _⟩ := fits_type hft
 obtain ⟨hU, h8⟩ := base_ups hv
 have hpl := parent_lt hU (Nat.le_refl _) h0 h1
 have hil := (List.getElem?_eq_some_iff.1 hy).1
 have hfuel : (pv ws ws.length + 1).toNat = i := by rw [hP.last]; omega
 have hfit : ¬ fitsI b y = false := by rw [hft]; simp
 have key : ∀ n : Nat, n ≤ ws.length → slotOf b f ws y.type = (n : Int) → par b f i = pv ws n → ¬ (parentOf b.types y.type ≥ 0 ∧ slotOf b f ws y.type = 0) → ¬ (par b f i < 0 ∧ y.type ≠ 0) → (∀ w ∈ ws.take n, ty f w < y.type) →
  (vstep b f i ws y = none ∧ rightAt b f i = false) ∨ (∃ ws', vstep b f i ws y = some ws' ∧ rightAt b f i = true ∧ Path b f (i + 1) ws') := by
  intro n hn hsl hpar hslot hnt hty
  have hnext := path_next hP hy hn hpar hty
  have hge := pv_ge hP hn
  have hvs : vstep b f i ws y = if twinBad b f ((ws ++ [-1]).getD n (-1)) y = true then none else some (ws.take n ++ [(i : Int)]) := by
   rw [vstep, if_neg hfit, if_neg hslot, hsl, Int.toNat_natCast]
  have hst : climb b f (pv ws n) i ((i : Int) - 1) = climb b f (pv ws n) (pv ws ws.length + 1).toNat (pv ws ws.length) := by rw [hfuel, hP.last]
  have hra : rightAt b f i = if climb b f (pv ws n) (pv ws ws.length + 1).toNat (pv ws ws.length) < pv ws n then false else if climb b f (pv ws n) (pv ws ws.length + 1).toNat (pv ws ws.length) = pv ws n then true else !twinR b f (climb b f (pv ws n) (pv ws ws.length + 1).toNat (pv ws ws.length)) y := by
   rw [rightAt, hy]
   simp only
   rw [if_neg hnt, hpar, hst]
  by_cases e : n = ws.length
  · have hc : climb b f (pv ws n) (pv ws ws.length + 1).toNat (pv ws ws.length) = pv ws n := by rw [← e]; exact climb_stop (fun h => absurd h.1 (by omega))
    have hg : (ws ++ [-1]).getD n (-1) = -1 := by rw [e]; simp [List.getD]
    have htw : twinBad b f (-1) y = false := by simp [twinBad]
    rw [hg, htw, if_neg (by simp)] at hvs
    rw [hc, if_neg (by omega), if_pos rfl] at hra
    exact .inr ⟨_, hvs, hra, hnext⟩
  · have hlt : n < ws.length := by omega
    have hg : (ws ++ [-1]).getD n (-1) = pv ws (n + 1) := by
     rw [List.getD, List.getElem?_append_left hlt, pv_get hlt]; rfl
    have hb := hP.bound _ (pv_mem hlt)
    have hgt := pv_lt hP (n := n) (n + 1) (by omega) (by omega)
    obtain ⟨z, hz⟩ : ∃ z, f[(pv ws (n + 1)).toNat]? = some z := ⟨_, List.getElem?_eq_getElem (by omega)⟩
    rw [climb_path hP _ hlt (Nat.le_refl _), if_neg (by omega), if_neg (by omega), ← twin_eq hz ht hb.1] at hra
    rw [hg] at hvs
    cases htw : twinBad b f (pv ws (n + 1)) y
    · rw [htw] at hvs hra
      exact .inr ⟨_, hvs, hra, hnext⟩
    · rw [htw] at hvs hra
      exact .inl ⟨hvs, hra⟩
 have hpi : par b f i = if parentOf b.types y.type ≥ 0 then near f (parentOf b.types y.type) i else -1 := by rw [par, hy]
 by_cases hp0 : parentOf b.types y.type ≥ 0
 · rw [if_pos hp0] at hpi
   have hso : slotOf b f ws y.type = 1 + fidx (intP (isTy f (parentOf b.types y.type))) (wrows ws) := by rw [slotOf, if_pos hp0]
   rcases slot_cases (f := f) (pt := parentOf b.types y.type) ws with ⟨m, w, hw, hty, hm⟩ | ⟨hm, hno⟩
   · have hwt := ty_of hty
     have hwm := List.mem_of_getElem? hw
     have hnw := hP.near w hwm
     have hml := (List.getElem?_eq_some_iff.1 hw).1
     rw [hwt] at hnw
     rw [hm] at hso
     have hb := hP.bound w hwm
     refine key (m + 1) (by omega) (by rw [hso]; omega) (by rw [hpi, hnw, pv_at hw]) (by rw [hso]; omega) (by rw [hpi, hnw]; omega) ?_
     intro v hv
     obtain ⟨j, hj⟩ := List.mem_iff_getElem?.1 hv
     have hjl := (List.getElem?_eq_some_iff.1 hj).1
     simp at hjl
     rw [List.getElem?_take_of_lt (by omega)] at hj
     by_cases e : j = m
     · subst e
       rw [hw] at hj; cases hj
       rw [hwt]; exact hpl.2
     · have := List.pairwise_iff_getElem.1 hP.inc j m (by omega) hml (by omega)
       rw [(List.getElem?_eq_some_iff.1 hj).2, (List.getElem?_eq_some_iff.1 hw).2, hwt] at this
       omega
   · rw [hm] at hso
     refine .inl ⟨?_, ?_⟩
     · rw [vstep, if_neg hfit, if_pos ⟨hp0, by rw [hso]; rfl⟩]
     · rw [rightAt, hy]
       simp only
       by_cases hpn : par b f i < 0
       · rw [if_pos ⟨hpn, by omega⟩]
       · rw [if_neg (fun h => hpn h.1), if_pos]
         have hni : par b f i ∉ ws := by
          intro hc
          have h3 := near_ty (f := f) (pt := parentOf b.types y.type) (k := i) (by rw [← hpi]; omega)
          rw [← hpi, hno _ hc] at h3
          cases h3
         have := climb_off hP (p := par b f i) (by omega) hni ws.length (Nat.le_refl _)
         rw [hfuel, hP.last] at this
         exact this
 · rw [if_neg hp0] at hpi
   have ht0 := root_only hv h0 h1 (by omega)
   have hso : slotOf b f ws y.type = 0 := by rw [slotOf, if_neg hp0]
   exact key 0 (by omega) (by rw [hso]; rfl) (by rw [hpi, pv_zero]) (fun h => hp0 h.1) (fun h => h.2 ht0) (by simp)
theorem from_eq (hv : baseOk b = true) : ∀ (m i : Nat) (ws : List Int), i + m = f.length → Path b f i ws → validFrom b f i ws (f.drop i) = ((f.drop i).all (fitsI b) && (List.range' i m).all (rightAt b f))
 | 0, i, ws, hm, _ => by
   rw [List.drop_of_length_le (by omega)]
   rfl
 | m + 1, i, ws, hm, hP => by
   obtain ⟨y, hy⟩ : ∃ y, f[i]? = some y := ⟨_, List.getElem?_eq_getElem (by omega)⟩
   rw [drop_at' hy]
   simp only [validFrom, List.all_cons, List.range'_succ]
   cases hft : fitsI b y
   · rw [vstep, if_pos hft]
     rfl
   · rcases step_path hv hy hft hP with ⟨h1, h2⟩ | ⟨ws', h1, h2, h3⟩
     · rw [h1, h2]; simp
     · rw [h1, h2]
       simp only [Bool.true_and]
       exact from_eq hv m (i + 1) ws' (by omega) h3
theorem valid_right (hv : baseOk b = true) : validP b f = rightP b f := by
 have h := from_eq (f := f) hv f.length 0 [] (by omega) path_nil
 rw [List.drop_zero] at h
 rw [validP, rightP, h, List.range_eq_range', Bool.and_assoc]
end Go.Vi
